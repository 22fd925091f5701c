import Derived.Test.YthlgoakkgmabaaaY0
import Derived.Test.YthlgoakkgmabaaaV
open Go Go.Proofs Go.X
namespace Go.Proofs.Ythlgoakkgmabaaa
set_option linter.unusedVariables false
set_option maxRecDepth 100000
/-- election/electionmake.Mod -/
noncomputable def d4 (x : Int) (n : Int) : Option Int :=
  bif (!decide (n = 0)) then
    bif (!decide (n = 0)) then
      some (w (Int.tmod (w ((w (Int.tmod x n)) + n)) n))
    else none
  else none
def sg4 : Sig := ⟨[(y2, .sh), (y2, .sh)], [(y2, .sh)]⟩
def plan4 : Plan := (.seq (.reg [] []) (.seq (.reg [] []) .nil))
theorem ev4 (xs : Vals (ptys sg4.ps)) : evF (P := Try.prog) tab [] sg4 Try.f4.results.toList (code Try.f4) plan4 xs = d4 xs.1 xs.2.1 := by kernel_rfl
theorem sim4 : Sim Try.prog 4 sg4 d4 := sim_ev mixd tabOK Try.func4 (code_of rfl) Try.call4 (Nat.le_of_ble_eq_true (by kernel_rfl)) (by kernel_rfl) plan4 _ fun xs y h => (ev4 xs).trans h
noncomputable def E4 : FnE Try.prog := ⟨4, sg4, d4, sim4⟩

/-- election/electionlaw33.Make -/
noncomputable def d15 (p0 : Int) (p1 : Int) (p2 : Int) (p3 : Int) (p4 : Int) (p5 : Int) : Option (Int × (Int × (Int × (List Int × Int)))) :=
  (d4 p1 3).bind fun r =>
  (d4 p2 p0).bind fun r_1 =>
  bif (decide ((w (1 + r)) = 3)) then
    (d4 p5 5).bind fun r_2 =>
    some ((w (1 + r)), r_1, 0, [], (w (2 + r_2)))
  else
    (d4 p3 (w (p0 - 1))).bind fun r_3 =>
    (d4 (w ((w (r_1 + 1)) + r_3)) p0).bind fun r_4 =>
    letJ (fun ((t12_4, t13_4) : (Int × (Int × (Int × (List Int × Int)))) × (Int × (Int × (Int × (List Int × Int))))) =>
        some t13_4) fun j__2 =>
    bif (decide ((w (1 + r)) = 2)) then
      (whileO (β := ((Int × (Int × (Int × (List Int × Int)))) × (Int × (Int × (Int × (List Int × Int)))))) (fun ((t0, t4, t12, t13, t14) : Int × Int × (Int × (Int × (Int × (List Int × Int)))) × (Int × (Int × (Int × (List Int × Int)))) × Int) =>
          bif (decide (t14 < t0)) then
            letJ (fun ((t0_2, t4_2, t12_2, t13_2, t14_2) : Int × Int × (Int × (Int × (Int × (List Int × Int)))) × (Int × (Int × (Int × (List Int × Int)))) × Int) =>
                some (Sum.inl (t0_2, t4_2, t12_2, t13_2, (w (t14_2 + 1))))) fun j__1 =>
            letJ (fun ((t0_1, t4_1, t12_1, t13_1, t14_1, t67) : Int × Int × (Int × (Int × (Int × (List Int × Int)))) × (Int × (Int × (Int × (List Int × Int)))) × Int × Bool) =>
                bif t67 then
                  bif (decide ((t13_1.2.2.2.1.length : Int) + (([t14_1] : List Int).length : Int) ≤ LIM)) then
                    j__1 (t0_1, t4_1, t12_1, (t13_1.1, t13_1.2.1, t13_1.2.2.1, (t13_1.2.2.2.1 ++ [t14_1]), t13_1.2.2.2.2), t14_1)
                  else none
                else
                  j__1 (t0_1, t4_1, t12_1, t13_1, t14_1)) fun j_ =>
            bif !(decide (t14 = t13.2.1)) then
              bif !(decide (t14 = t13.2.2.1)) then
                (d4 t4 128).bind fun r_5 =>
                bif (decide (0 ≤ (wu64 t14))) then
                  j_ (t0, t4, t12, t13, t14, (decide ((w ((BitVec.ofInt 64 (w (Int.fdiv r_5 (2 ^ (min (Int.toNat (wu64 t14)) 64)))) &&& BitVec.ofInt 64 1).toNat : Int)) = 1)))
                else none
              else
                j_ (t0, t4, t12, t13, t14, true)
            else
              j_ (t0, t4, t12, t13, t14, true)
          else
            some (Sum.inr (t12, t13))) (p0, p4, (0, 0, 0, [], 0), ((w (1 + r)), r_1, r_4, [], 0), 0)).bind fun ((t12_3, t13_3) : (Int × (Int × (Int × (List Int × Int)))) × (Int × (Int × (Int × (List Int × Int))))) =>
      j__2 (t12_3, t13_3)
    else
      j__2 ((0, 0, 0, [], 0), ((w (1 + r)), r_1, r_4, [], 0))
def sg15 : Sig := ⟨[(y2, .sh), (y2, .sh), (y2, .sh), (y2, .sh), (y2, .sh), (y2, .sh)], [(y37, .sh)]⟩
def plan15 : Plan := (.seq (.reg [] []) (.seq (.reg [] [{}, {}, {}, {}, {}, {}, { fl := 7 }]) (.seq (.seq (.reg [] []) (.cond (.seq (.reg [] []) (.seq (.reg [(13, [0, 1, 1, 1, 0])] []) .nil)) .nil)) (.seq (.reg [] []) (.join (.seq (.reg [] []) (.cond (.seq (.reg [] []) (.block (.loop [(0, .v y2 .sh), (4, .v y2 .sh), (12, .v (.ptr y37) (.own 0 .sh)), (13, .v (.ptr y37) (.own 0 (.pr .sh (.pr .sh (.pr .sh (.pr (.own 3 .sh) .sh)))))), (14, .v y2 .sh)] [(.brk 0, [(12, .v (.ptr y37) (.own 0 .sh)), (13, .v (.ptr y37) (.own 0 (.pr .sh (.pr .sh (.pr .sh (.pr (.own 3 .sh) .sh))))))])] (.seq (.seq (.reg [] []) (.cond .nil .nil)) (.join (.block (.join (.reg [] []) [(0, .v y2 .sh), (4, .v y2 .sh), (12, .v (.ptr y37) (.own 0 .sh)), (13, .v (.ptr y37) (.own 0 (.pr .sh (.pr .sh (.pr .sh (.pr (.own 3 .sh) .sh)))))), (14, .v y2 .sh), (67, .v y4 .sh)] (.cond (.reg [] []) .nil))) [(0, .v y2 .sh), (4, .v y2 .sh), (12, .v (.ptr y37) (.own 0 .sh)), (13, .v (.ptr y37) (.own 0 (.pr .sh (.pr .sh (.pr .sh (.pr (.own 3 .sh) .sh)))))), (14, .v y2 .sh)] (.reg [] [])))))) .nil)) [(12, .v (.ptr y37) (.own 0 .sh)), (13, .v (.ptr y37) (.own 0 (.pr .sh (.pr .sh (.pr .sh (.pr (.own 3 .sh) .sh))))))] (.seq (.reg [(13, [0, 1, 1, 1, 0])] []) .nil))))))
theorem ev15 (xs : Vals (ptys sg15.ps)) : evF (P := Try.prog) tab [.fn E4] sg15 Try.f15.results.toList (code Try.f15) plan15 xs = d15 xs.1 xs.2.1 xs.2.2.1 xs.2.2.2.1 xs.2.2.2.2.1 xs.2.2.2.2.2.1 := by kernel_rfl
theorem sim15 : Sim Try.prog 15 sg15 d15 := sim_ev mixd tabOK Try.func15 (code_of rfl) Try.call15 (Nat.le_of_ble_eq_true (by kernel_rfl)) (by kernel_rfl) plan15 _ fun xs y h => (ev15 xs).trans h
noncomputable def E15 : FnE Try.prog := ⟨15, sg15, d15, sim15⟩

/-- election/electionlaw33.All -/
noncomputable def d5 (n : Int) (l : List (List Int)) : Option (List (Int × (Int × (Int × (List Int × Int))))) :=
  (whileO (β := (List (Int × (Int × (Int × (List Int × Int)))))) (fun ((n_1, l_1, out, i) : Int × (List (List Int)) × (List (Int × (Int × (Int × (List Int × Int))))) × Int) =>
      letJ (fun ((n_2, l_2, out_1, i_1, t16) : Int × (List (List Int)) × (List (Int × (Int × (Int × (List Int × Int))))) × Int × Bool) =>
          bif t16 then
            (whileO (β := (Int × (List (List Int)) × (List (Int × (Int × (Int × (List Int × Int))))) × Int × (List Int))) (fun ((n_3, l_3, out_2, i_2, k, j__1) : Int × (List (List Int)) × (List (Int × (Int × (Int × (List Int × Int))))) × Int × (List Int) × Int) =>
                letJ (fun ((n_4, l_4, out_3, i_3, k_1, j__2, t29) : Int × (List (List Int)) × (List (Int × (Int × (Int × (List Int × Int))))) × Int × (List Int) × Int × Bool) =>
                    bif t29 then
                      bif (decide (0 ≤ i_3) && decide (i_3 < (l_4.length : Int))) then
                        bif (decide (0 ≤ j__2) && decide (j__2 < ((List.getD l_4 (Int.toNat i_3) []).length : Int))) then
                          bif (decide (0 ≤ j__2) && decide (j__2 < 5)) then
                            some (Sum.inl (n_4, l_4, out_3, i_3, (List.set k_1 (Int.toNat j__2) (List.getD (List.getD l_4 (Int.toNat i_3) []) (Int.toNat j__2) 0)), (w (j__2 + 1))))
                          else none
                        else none
                      else none
                    else
                      some (Sum.inr (n_4, l_4, out_3, i_3, k_1))) fun j__3 =>
                bif (decide (j__1 < 5)) then
                  bif (decide (0 ≤ i_2) && decide (i_2 < (l_3.length : Int))) then
                    j__3 (n_3, l_3, out_2, i_2, k, j__1, (decide (j__1 < ((List.getD l_3 (Int.toNat i_2) []).length : Int))))
                  else none
                else
                  j__3 (n_3, l_3, out_2, i_2, k, j__1, false)) (n_2, l_2, out_1, i_1, [0, 0, 0, 0, 0], 0)).bind fun ((n_5, l_5, out_4, i_4, k_2) : Int × (List (List Int)) × (List (Int × (Int × (Int × (List Int × Int))))) × Int × (List Int)) =>
            (d15 n_5 (List.getD k_2 0 0) (List.getD k_2 1 0) (List.getD k_2 2 0) (List.getD k_2 3 0) (List.getD k_2 4 0)).bind fun r =>
            bif (decide ((out_4.length : Int) + (([r] : List (Int × (Int × (Int × (List Int × Int))))).length : Int) ≤ LIM)) then
              some (Sum.inl (n_5, l_5, (out_4 ++ [r]), (w (i_4 + 1))))
            else none
          else
            some (Sum.inr out_1)) fun j_ =>
      bif (decide (i < (l_1.length : Int))) then
        j_ (n_1, l_1, out, i, (decide (i < 12)))
      else
        j_ (n_1, l_1, out, i, false)) (n, l, [], 0)).bind fun (out_5 : List (Int × (Int × (Int × (List Int × Int))))) =>
  some out_5
def sg5 : Sig := ⟨[(y2, .sh), (y22, .bw)], [(y24, (.own 37 .sh))]⟩
def plan5 : Plan := (.seq (.reg [] []) (.seq (.reg [] [{ fl := 2 }]) (.seq (.seq (.reg [] []) (.block (.loop [(0, .v y2 .sh), (1, .v y22 .bw), (5, .v y24 (.own 37 .sh)), (6, .v y2 .sh)] [(.brk 0, [(5, .v y24 (.own 37 .sh))])] (.seq (.join (.reg [] []) [(0, .v y2 .sh), (1, .v y22 .bw), (5, .v y24 (.own 37 .sh)), (6, .v y2 .sh), (16, .v y4 .sh)] (.cond .nil .nil)) (.seq (.block (.seq (.reg [] []) (.seq (.seq (.reg [] []) (.block (.loop [(0, .v y2 .sh), (1, .v y22 .bw), (5, .v y24 (.own 37 .sh)), (6, .v y2 .sh), (7, .v (.ptr y41) (.own 0 .sh)), (8, .v y2 .sh)] [(.brk 2, [(0, .v y2 .sh), (1, .v y22 .bw), (5, .v y24 (.own 37 .sh)), (6, .v y2 .sh), (7, .v (.ptr y41) (.own 0 .sh))])] (.seq (.join (.reg [] []) [(0, .v y2 .sh), (1, .v y22 .bw), (5, .v y24 (.own 37 .sh)), (6, .v y2 .sh), (7, .v (.ptr y41) (.own 0 .sh)), (8, .v y2 .sh), (29, .v y4 .sh)] (.cond .nil .nil)) (.seq (.block (.reg [] [])) (.reg [] [])))))) (.reg [] [])))) (.reg [] [])))))) (.seq (.reg [] []) .nil))))
theorem ev5 (xs : Vals (ptys sg5.ps)) : evF (P := Try.prog) tab [.fn E15] sg5 Try.f5.results.toList (code Try.f5) plan5 xs = d5 xs.1 xs.2.1 := by kernel_rfl
theorem sim5 : Sim Try.prog 5 sg5 d5 := sim_ev mixd tabOK Try.func5 (code_of rfl) Try.call5 (Nat.le_of_ble_eq_true (by kernel_rfl)) (by kernel_rfl) plan5 _ fun xs y h => (ev5 xs).trans h
noncomputable def E5 : FnE Try.prog := ⟨5, sg5, d5, sim5⟩

/-- election/electionref24.Has -/
noncomputable def d32 (l : List Int) (x : Int) : Option Bool :=
  (whileO (β := Unit ⊕ Bool) (fun ((l_1, x_1, i) : (List Int) × Int × Int) =>
      bif (decide (i < (l_1.length : Int))) then
        bif (decide (0 ≤ i) && decide (i < (l_1.length : Int))) then
          bif (decide ((List.getD l_1 (Int.toNat i) 0) = x_1)) then
            some (Sum.inr (Sum.inr true))
          else
            some (Sum.inl (l_1, x_1, (w (i + 1))))
        else none
      else
        some (Sum.inr (Sum.inl ()))) (l, x, 0)).bind fun
  | Sum.inl _ =>
    some false
  | Sum.inr t4 =>
    some t4
def sg32 : Sig := ⟨[(y26, .bw), (y2, .sh)], [(y4, .sh)]⟩
def plan32 : Plan := (.seq (.reg [] []) (.seq (.seq (.reg [] []) (.block (.loop [(0, .v y26 .bw), (1, .v y2 .sh), (5, .v y2 .sh)] [(.brk 0, []), (.ret, [(4, .v y4 .sh)])] (.seq (.seq (.reg [] []) (.cond .nil .nil)) (.seq (.block (.seq (.reg [] []) (.cond (.seq (.reg [] []) .nil) .nil))) (.reg [] [])))))) (.seq (.reg [] []) .nil)))
theorem ev32 (xs : Vals (ptys sg32.ps)) : evF (P := Try.prog) tab [] sg32 Try.f32.results.toList (code Try.f32) plan32 xs = d32 xs.1 xs.2.1 := by kernel_rfl
theorem sim32 : Sim Try.prog 32 sg32 d32 := sim_ev mixd tabOK Try.func32 (code_of rfl) Try.call32 (Nat.le_of_ble_eq_true (by kernel_rfl)) (by kernel_rfl) plan32 _ fun xs y h => (ev32 xs).trans h
noncomputable def E32 : FnE Try.prog := ⟨32, sg32, d32, sim32⟩

/-- election/electionref24.Ballot -/
noncomputable def d18 (n : Int) (p : List Int) : Option Bool :=
  (whileO (β := Unit ⊕ Bool) (fun ((n_1, p_1, i) : Int × (List Int) × Int) =>
      bif (decide (i < (p_1.length : Int))) then
        letJ (fun ((n_2, p_2, i_1, t34) : Int × (List Int) × Int × Bool) =>
            bif t34 then
              some (Sum.inr (Sum.inr false))
            else
              some (Sum.inl (n_2, p_2, (w (i_1 + 1))))) fun j_ =>
        bif (decide (0 ≤ i) && decide (i < (p_1.length : Int))) then
          bif !(decide ((List.getD p_1 (Int.toNat i) 0) < 0)) then
            bif (decide (0 ≤ i) && decide (i < (p_1.length : Int))) then
              bif !(decide (n_1 ≤ (List.getD p_1 (Int.toNat i) 0))) then
                bif (cutOK 0 i p_1.length) then
                  bif (decide (0 ≤ i) && decide (i < (p_1.length : Int))) then
                    (d32 (List.drop 0 (List.take (Int.toNat i) p_1)) (List.getD p_1 (Int.toNat i) 0)).bind fun r =>
                    j_ (n_1, p_1, i, r)
                  else none
                else none
              else
                j_ (n_1, p_1, i, true)
            else none
          else
            j_ (n_1, p_1, i, true)
        else none
      else
        some (Sum.inr (Sum.inl ()))) (n, p, 0)).bind fun
  | Sum.inl _ =>
    some true
  | Sum.inr t4 =>
    some t4
def sg18 : Sig := ⟨[(y2, .sh), (y26, .bw)], [(y4, .sh)]⟩
def plan18 : Plan := (.seq (.reg [] []) (.seq (.seq (.reg [] []) (.block (.loop [(0, .v y2 .sh), (1, .v y26 .bw), (5, .v y2 .sh)] [(.brk 0, []), (.ret, [(4, .v y4 .sh)])] (.seq (.seq (.reg [] []) (.cond .nil .nil)) (.seq (.block (.join (.reg [] []) [(0, .v y2 .sh), (1, .v y26 .bw), (5, .v y2 .sh), (34, .v y4 .sh)] (.cond (.seq (.reg [] []) .nil) .nil))) (.reg [] [])))))) (.seq (.reg [] []) .nil)))
theorem ev18 (xs : Vals (ptys sg18.ps)) : evF (P := Try.prog) tab [.fn E32] sg18 Try.f18.results.toList (code Try.f18) plan18 xs = d18 xs.1 xs.2.1 := by kernel_rfl
theorem sim18 : Sim Try.prog 18 sg18 d18 := sim_ev mixd tabOK Try.func18 (code_of rfl) Try.call18 (Nat.le_of_ble_eq_true (by kernel_rfl)) (by kernel_rfl) plan18 _ fun xs y h => (ev18 xs).trans h
noncomputable def E18 : FnE Try.prog := ⟨18, sg18, d18, sim18⟩

/-- election/electionref24.Permutation -/
noncomputable def d7 (n : Int) (l : List Int) : Option Bool :=
  bif (decide ((l.length : Int) = n)) then
    (d18 n l).bind fun r =>
    some r
  else
    some false
def sg7 : Sig := ⟨[(y2, .sh), (y26, .bw)], [(y4, .sh)]⟩
def plan7 : Plan := (.seq (.reg [] []) (.seq (.reg [] []) .nil))
theorem ev7 (xs : Vals (ptys sg7.ps)) : evF (P := Try.prog) tab [.fn E18] sg7 Try.f7.results.toList (code Try.f7) plan7 xs = d7 xs.1 xs.2.1 := by kernel_rfl
theorem sim7 : Sim Try.prog 7 sg7 d7 := sim_ev mixd tabOK Try.func7 (code_of rfl) Try.call7 (Nat.le_of_ble_eq_true (by kernel_rfl)) (by kernel_rfl) plan7 _ fun xs y h => (ev7 xs).trans h
noncomputable def E7 : FnE Try.prog := ⟨7, sg7, d7, sim7⟩

/-- election/electionref31.rising -/
noncomputable def d54 (l : List Int) : Option Bool :=
  (whileO (β := Unit ⊕ Bool) (fun ((l_1, i) : (List Int) × Int) =>
      bif (decide (i < (l_1.length : Int))) then
        bif (decide (0 ≤ (w (i - 1))) && decide ((w (i - 1)) < (l_1.length : Int))) then
          bif (decide (0 ≤ i) && decide (i < (l_1.length : Int))) then
            bif (decide ((List.getD l_1 (Int.toNat i) 0) ≤ (List.getD l_1 (Int.toNat (w (i - 1))) 0))) then
              some (Sum.inr (Sum.inr false))
            else
              some (Sum.inl (l_1, (w (i + 1))))
          else none
        else none
      else
        some (Sum.inr (Sum.inl ()))) (l, 1)).bind fun
  | Sum.inl _ =>
    some true
  | Sum.inr t2 =>
    some t2
def sg54 : Sig := ⟨[(y26, .bw)], [(y4, .sh)]⟩
def plan54 : Plan := (.seq (.reg [] []) (.seq (.seq (.reg [] []) (.block (.loop [(0, .v y26 .bw), (3, .v y2 .sh)] [(.brk 0, []), (.ret, [(2, .v y4 .sh)])] (.seq (.seq (.reg [] []) (.cond .nil .nil)) (.seq (.block (.seq (.reg [] []) (.cond (.seq (.reg [] []) .nil) .nil))) (.reg [] [])))))) (.seq (.reg [] []) .nil)))
theorem ev54 (xs : Vals (ptys sg54.ps)) : evF (P := Try.prog) tab [] sg54 Try.f54.results.toList (code Try.f54) plan54 xs = d54 xs.1 := by kernel_rfl
theorem sim54 : Sim Try.prog 54 sg54 d54 := sim_ev mixd tabOK Try.func54 (code_of rfl) Try.call54 (Nat.le_of_ble_eq_true (by kernel_rfl)) (by kernel_rfl) plan54 _ fun xs y h => (ev54 xs).trans h
noncomputable def E54 : FnE Try.prog := ⟨54, sg54, d54, sim54⟩

/-- election/electionref31.Valid -/
noncomputable def d33 (p0 : Int) (p1 : (Int × (Int × (Int × (List Int × Int))))) : Option Bool :=
  letJ (fun ((t0, t3, t32) : Int × (Int × (Int × (Int × (List Int × Int)))) × Bool) =>
      bif t32 then
        some false
      else
        bif (decide (t3.1 = 1)) then
          bif !(decide (t3.2.1 = t3.2.2.1)) then
            bif (decide ((t3.2.2.2.1.length : Int) = 0)) then
              some (decide (t3.2.2.2.2 = 0))
            else
              some false
          else
            some false
        else
          bif (decide (t3.1 = 2)) then
            bif !(decide (t3.2.1 = t3.2.2.1)) then
              (d18 t0 t3.2.2.2.1).bind fun r =>
              bif r then
                (d54 t3.2.2.2.1).bind fun r_1 =>
                bif r_1 then
                  (d32 t3.2.2.2.1 t3.2.1).bind fun r_2 =>
                  bif r_2 then
                    (d32 t3.2.2.2.1 t3.2.2.1).bind fun r_3 =>
                    bif r_3 then
                      some (decide (t3.2.2.2.2 = 0))
                    else
                      some false
                  else
                    some false
                else
                  some false
              else
                some false
            else
              some false
          else
            bif (decide (t3.1 = 3)) then
              bif (decide (t3.2.2.1 = 0)) then
                bif (decide ((t3.2.2.2.1.length : Int) = 0)) then
                  bif (decide (2 ≤ t3.2.2.2.2)) then
                    some (decide (t3.2.2.2.2 ≤ 6))
                  else
                    some false
                else
                  some false
              else
                some false
            else
              some false) fun j_ =>
  bif !(decide (p0 < 1)) then
    bif !(decide (7 < p0)) then
      bif !(decide (p1.2.1 < 0)) then
        bif !(decide (p0 ≤ p1.2.1)) then
          bif !(decide (p1.2.2.1 < 0)) then
            j_ (p0, p1, (decide (p0 ≤ p1.2.2.1)))
          else
            j_ (p0, p1, true)
        else
          j_ (p0, p1, true)
      else
        j_ (p0, p1, true)
    else
      j_ (p0, p1, true)
  else
    j_ (p0, p1, true)
def sg33 : Sig := ⟨[(y2, .sh), (y37, .bw)], [(y4, .sh)]⟩
def plan33 : Plan := (.seq (.reg [] []) (.seq (.join (.reg [] []) [(0, .v y2 .sh), (3, .v (.ptr y37) (.own 0 .bw)), (32, .v y4 .sh)] (.cond (.seq (.reg [] []) .nil) .nil)) (.seq (.seq (.reg [] []) (.block (.seq (.reg [] []) (.cond (.seq (.reg [] []) .nil) (.seq (.reg [] []) (.cond (.seq (.reg [] []) .nil) (.seq (.reg [] []) (.cond (.seq (.reg [] []) .nil) .nil)))))))) (.seq (.reg [] []) .nil))))
theorem ev33 (xs : Vals (ptys sg33.ps)) : evF (P := Try.prog) tab [.fn E18, .fn E54, .fn E32] sg33 Try.f33.results.toList (code Try.f33) plan33 xs = d33 xs.1 xs.2.1 := by kernel_rfl
theorem sim33 : Sim Try.prog 33 sg33 d33 := sim_ev mixd tabOK Try.func33 (code_of rfl) Try.call33 (Nat.le_of_ble_eq_true (by kernel_rfl)) (by kernel_rfl) plan33 _ fun xs y h => (ev33 xs).trans h
noncomputable def E33 : FnE Try.prog := ⟨33, sg33, d33, sim33⟩

/-- election/electionref31.IsTail -/
noncomputable def d34 (n : Int) (l : List Int) : Option Bool :=
  bif (decide (0 < (l.length : Int))) then
    (d18 n l).bind fun r =>
    some r
  else
    some false
def sg34 : Sig := ⟨[(y2, .sh), (y26, .bw)], [(y4, .sh)]⟩
def plan34 : Plan := (.seq (.reg [] []) (.seq (.reg [] []) .nil))
theorem ev34 (xs : Vals (ptys sg34.ps)) : evF (P := Try.prog) tab [.fn E18] sg34 Try.f34.results.toList (code Try.f34) plan34 xs = d34 xs.1 xs.2.1 := by kernel_rfl
theorem sim34 : Sim Try.prog 34 sg34 d34 := sim_ev mixd tabOK Try.func34 (code_of rfl) Try.call34 (Nat.le_of_ble_eq_true (by kernel_rfl)) (by kernel_rfl) plan34 _ fun xs y h => (ev34 xs).trans h
noncomputable def E34 : FnE Try.prog := ⟨34, sg34, d34, sim34⟩

/-- election/electionref24.Place -/
noncomputable def d35 (p : List Int) (x : Int) : Option Int :=
  (whileO (β := (List Int) ⊕ Int) (fun ((p_1, x_1, i) : (List Int) × Int × Int) =>
      bif (decide (i < (p_1.length : Int))) then
        bif (decide (0 ≤ i) && decide (i < (p_1.length : Int))) then
          bif (decide ((List.getD p_1 (Int.toNat i) 0) = x_1)) then
            some (Sum.inr (Sum.inr i))
          else
            some (Sum.inl (p_1, x_1, (w (i + 1))))
        else none
      else
        some (Sum.inr (Sum.inl p_1))) (p, x, 0)).bind fun
  | Sum.inl p_2 =>
    some (p_2.length : Int)
  | Sum.inr t4 =>
    some t4
def sg35 : Sig := ⟨[(y26, .bw), (y2, .sh)], [(y2, .sh)]⟩
def plan35 : Plan := (.seq (.reg [] []) (.seq (.seq (.reg [] []) (.block (.loop [(0, .v y26 .bw), (1, .v y2 .sh), (5, .v y2 .sh)] [(.brk 0, [(0, .v y26 .bw)]), (.ret, [(4, .v y2 .sh)])] (.seq (.seq (.reg [] []) (.cond .nil .nil)) (.seq (.block (.seq (.reg [] []) (.cond (.seq (.reg [] []) .nil) .nil))) (.reg [] [])))))) (.seq (.reg [] []) .nil)))
theorem ev35 (xs : Vals (ptys sg35.ps)) : evF (P := Try.prog) tab [] sg35 Try.f35.results.toList (code Try.f35) plan35 xs = d35 xs.1 xs.2.1 := by kernel_rfl
theorem sim35 : Sim Try.prog 35 sg35 d35 := sim_ev mixd tabOK Try.func35 (code_of rfl) Try.call35 (Nat.le_of_ble_eq_true (by kernel_rfl)) (by kernel_rfl) plan35 _ fun xs y h => (ev35 xs).trans h
noncomputable def E35 : FnE Try.prog := ⟨35, sg35, d35, sim35⟩

/-- election/electionref31.Contradicts -/
noncomputable def d19 (p0 : Int) (p1 : (Int × (Int × (Int × (List Int × Int))))) (p2 : List Int) : Option Bool :=
  letJ (fun ((t2, t4, t19) : (List Int) × (Int × (Int × (Int × (List Int × Int)))) × Bool) =>
      bif t19 then
        some false
      else
        bif (decide (t4.1 = 1)) then
          (d35 t2 t4.2.2.1).bind fun r_2 =>
          bif (decide (r_2 < (t2.length : Int))) then
            bif (cutOK r_2 (t2.length : Int) t2.length) then
              (d32 (List.drop (Int.toNat r_2) (List.take (Int.toNat (t2.length : Int)) t2)) t4.2.1).bind fun r_3 =>
              some (!r_3)
            else none
          else
            some false
        else
          bif (decide (t4.1 = 2)) then
            letJ (fun ((t2_1, t4_1, t8, t59) : (List Int) × (Int × (Int × (Int × (List Int × Int)))) × Int × Bool) =>
                bif t59 then
                  some false
                else
                  (whileO (β := Unit ⊕ Bool) (fun ((t2_2, t4_2, t8_1, t9) : (List Int) × (Int × (Int × (Int × (List Int × Int)))) × Int × Int) =>
                      bif (decide (t9 < (t4_2.2.2.2.1.length : Int))) then
                        bif (cutOK t8_1 (t2_2.length : Int) t2_2.length) then
                          bif (decide (0 ≤ t9) && decide (t9 < (t4_2.2.2.2.1.length : Int))) then
                            (d32 (List.drop (Int.toNat t8_1) (List.take (Int.toNat (t2_2.length : Int)) t2_2)) (List.getD t4_2.2.2.2.1 (Int.toNat t9) 0)).bind fun r_4 =>
                            bif !r_4 then
                              some (Sum.inr (Sum.inr false))
                            else
                              some (Sum.inl (t2_2, t4_2, t8_1, (w (t9 + 1))))
                          else none
                        else none
                      else
                        some (Sum.inr (Sum.inl ()))) (t2_1, t4_1, t8, 0)).bind fun
                  | Sum.inl _ =>
                    some true
                  | Sum.inr t6 =>
                    some t6) fun j__1 =>
            bif !(decide ((w ((t2.length : Int) - (t4.2.2.2.1.length : Int))) < 0)) then
              bif (decide (0 ≤ (w ((t2.length : Int) - (t4.2.2.2.1.length : Int)))) && decide ((w ((t2.length : Int) - (t4.2.2.2.1.length : Int))) < (t2.length : Int))) then
                j__1 (t2, t4, (w ((t2.length : Int) - (t4.2.2.2.1.length : Int))), !(decide ((List.getD t2 (Int.toNat (w ((t2.length : Int) - (t4.2.2.2.1.length : Int)))) 0) = t4.2.1)))
              else none
            else
              j__1 (t2, t4, (w ((t2.length : Int) - (t4.2.2.2.1.length : Int))), true)
          else
            some false) fun j_ =>
  (d33 p0 p1).bind fun r =>
  bif !(!r) then
    (d34 p0 p2).bind fun r_1 =>
    j_ (p2, p1, !r_1)
  else
    j_ (p2, p1, true)
def sg19 : Sig := ⟨[(y2, .sh), (y37, .bw), (y26, .bw)], [(y4, .sh)]⟩
def plan19 : Plan := (.seq (.reg [] []) (.seq (.join (.reg [] []) [(2, .v y26 .bw), (4, .v (.ptr y37) (.own 0 .bw)), (19, .v y4 .sh)] (.cond (.seq (.reg [] []) .nil) .nil)) (.seq (.seq (.reg [] []) (.block (.seq (.reg [] []) (.cond (.seq (.reg [] []) (.seq (.reg [] []) .nil)) (.seq (.reg [] []) (.cond (.seq (.reg [] []) (.seq (.join (.reg [] []) [(2, .v y26 .bw), (4, .v (.ptr y37) (.own 0 .bw)), (8, .v y2 .sh), (59, .v y4 .sh)] (.cond (.seq (.reg [] []) .nil) .nil)) (.seq (.seq (.reg [] []) (.block (.loop [(2, .v y26 .bw), (4, .v (.ptr y37) (.own 0 .bw)), (8, .v y2 .sh), (9, .v y2 .sh)] [(.brk 1, []), (.ret, [(6, .v y4 .sh)])] (.seq (.seq (.reg [] []) (.cond .nil .nil)) (.seq (.block (.seq (.reg [] []) (.cond (.seq (.reg [] []) .nil) .nil))) (.reg [] [])))))) (.seq (.reg [] []) .nil)))) .nil)))))) (.seq (.reg [] []) .nil))))
theorem ev19 (xs : Vals (ptys sg19.ps)) : evF (P := Try.prog) tab [.fn E33, .fn E34, .fn E35, .fn E32] sg19 Try.f19.results.toList (code Try.f19) plan19 xs = d19 xs.1 xs.2.1 xs.2.2.1 := by kernel_rfl
theorem sim19 : Sim Try.prog 19 sg19 d19 := sim_ev mixd tabOK Try.func19 (code_of rfl) Try.call19 (Nat.le_of_ble_eq_true (by kernel_rfl)) (by kernel_rfl) plan19 _ fun xs y h => (ev19 xs).trans h
noncomputable def E19 : FnE Try.prog := ⟨19, sg19, d19, sim19⟩

/-- election/electionref31.Contradicted -/
noncomputable def d8 (n : Int) (order : List Int) (l : List (Int × (Int × (Int × (List Int × Int))))) : Option Bool :=
  (whileO (β := Unit ⊕ Bool) (fun ((n_1, order_1, l_1, i) : Int × (List Int) × (List (Int × (Int × (Int × (List Int × Int))))) × Int) =>
      bif (decide (i < (l_1.length : Int))) then
        (whileO (β := (Int × (List Int) × (List (Int × (Int × (Int × (List Int × Int))))) × Int) ⊕ Bool) (fun ((n_2, order_2, l_2, i_1, k) : Int × (List Int) × (List (Int × (Int × (Int × (List Int × Int))))) × Int × Int) =>
            bif (decide (k < n_2)) then
              bif (decide (0 ≤ i_1) && decide (i_1 < (l_2.length : Int))) then
                bif (cutOK k (order_2.length : Int) order_2.length) then
                  (d19 n_2 (List.getD l_2 (Int.toNat i_1) (0, 0, 0, [], 0)) (List.drop (Int.toNat k) (List.take (Int.toNat (order_2.length : Int)) order_2))).bind fun r =>
                  bif r then
                    some (Sum.inr (Sum.inr true))
                  else
                    some (Sum.inl (n_2, order_2, l_2, i_1, (w (k + 1))))
                else none
              else none
            else
              some (Sum.inr (Sum.inl (n_2, order_2, l_2, i_1)))) (n_1, order_1, l_1, i, 0)).bind fun
        | Sum.inl (n_3, order_3, l_3, i_2) =>
          some (Sum.inl (n_3, order_3, l_3, (w (i_2 + 1))))
        | Sum.inr t6 =>
          some (Sum.inr (Sum.inr t6))
      else
        some (Sum.inr (Sum.inl ()))) (n, order, l, 0)).bind fun
  | Sum.inl _ =>
    some false
  | Sum.inr t6_1 =>
    some t6_1
def sg8 : Sig := ⟨[(y2, .sh), (y26, .bw), (y24, .bw)], [(y4, .sh)]⟩
def plan8 : Plan := (.seq (.reg [] []) (.seq (.seq (.reg [] []) (.block (.loop [(0, .v y2 .sh), (1, .v y26 .bw), (2, .v y24 .bw), (7, .v y2 .sh)] [(.brk 0, []), (.ret, [(6, .v y4 .sh)])] (.seq (.seq (.reg [] []) (.cond .nil .nil)) (.seq (.block (.seq (.reg [] []) (.block (.loop [(0, .v y2 .sh), (1, .v y26 .bw), (2, .v y24 .bw), (7, .v y2 .sh), (8, .v y2 .sh)] [(.brk 2, [(0, .v y2 .sh), (1, .v y26 .bw), (2, .v y24 .bw), (7, .v y2 .sh)]), (.ret, [(6, .v y4 .sh)])] (.seq (.seq (.reg [] []) (.cond .nil .nil)) (.seq (.block (.seq (.reg [] []) (.cond (.seq (.reg [] []) .nil) .nil))) (.reg [] []))))))) (.reg [] [])))))) (.seq (.reg [] []) .nil)))
theorem ev8 (xs : Vals (ptys sg8.ps)) : evF (P := Try.prog) tab [.fn E19] sg8 Try.f8.results.toList (code Try.f8) plan8 xs = d8 xs.1 xs.2.1 xs.2.2.1 := by kernel_rfl
theorem sim8 : Sim Try.prog 8 sg8 d8 := sim_ev mixd tabOK Try.func8 (code_of rfl) Try.call8 (Nat.le_of_ble_eq_true (by kernel_rfl)) (by kernel_rfl) plan8 _ fun xs y h => (ev8 xs).trans h
noncomputable def E8 : FnE Try.prog := ⟨8, sg8, d8, sim8⟩

/-- election/electionmake.Ballot -/
noncomputable def d43 (n : Int) (l : List Int) : Option (List Int) :=
  (whileO (β := (List Int)) (fun ((n_1, l_1, out, i) : Int × (List Int) × (List Int) × Int) =>
      letJ (fun ((n_2, l_2, out_1, i_1, t17) : Int × (List Int) × (List Int) × Int × Bool) =>
          bif t17 then
            letJ (fun ((n_3, l_3, out_2, i_2) : Int × (List Int) × (List Int) × Int) =>
                some (Sum.inl (n_3, l_3, out_2, (w (i_2 + 1))))) fun j__1 =>
            bif (decide (0 ≤ i_1) && decide (i_1 < (l_2.length : Int))) then
              (d4 (List.getD l_2 (Int.toNat i_1) 0) n_2).bind fun r =>
              (d32 out_1 r).bind fun r_1 =>
              bif !r_1 then
                bif (decide ((out_1.length : Int) + (([r] : List Int).length : Int) ≤ LIM)) then
                  j__1 (n_2, l_2, (out_1 ++ [r]), i_1)
                else none
              else
                j__1 (n_2, l_2, out_1, i_1)
            else none
          else
            some (Sum.inr out_1)) fun j_ =>
      bif (decide (i < (l_1.length : Int))) then
        j_ (n_1, l_1, out, i, (decide ((out.length : Int) < n_1)))
      else
        j_ (n_1, l_1, out, i, false)) (n, l, [], 0)).bind fun (out_3 : List Int) =>
  some out_3
def sg43 : Sig := ⟨[(y2, .sh), (y26, .bw)], [(y26, (.own 3 .sh))]⟩
def plan43 : Plan := (.seq (.reg [] []) (.seq (.reg [] [{ fl := 2 }]) (.seq (.seq (.reg [] []) (.block (.loop [(0, .v y2 .sh), (1, .v y26 .bw), (5, .v y26 (.own 3 .sh)), (6, .v y2 .sh)] [(.brk 0, [(5, .v y26 (.own 3 .sh))])] (.seq (.join (.reg [] []) [(0, .v y2 .sh), (1, .v y26 .bw), (5, .v y26 (.own 3 .sh)), (6, .v y2 .sh), (17, .v y4 .sh)] (.cond .nil .nil)) (.join (.block (.seq (.reg [] []) (.seq (.reg [] []) (.cond (.reg [] []) .nil)))) [(0, .v y2 .sh), (1, .v y26 .bw), (5, .v y26 (.own 3 .sh)), (6, .v y2 .sh)] (.reg [] [])))))) (.seq (.reg [] []) .nil))))
theorem ev43 (xs : Vals (ptys sg43.ps)) : evF (P := Try.prog) tab [.fn E4, .fn E32] sg43 Try.f43.results.toList (code Try.f43) plan43 xs = d43 xs.1 xs.2.1 := by kernel_rfl
theorem sim43 : Sim Try.prog 43 sg43 d43 := sim_ev mixd tabOK Try.func43 (code_of rfl) Try.call43 (Nat.le_of_ble_eq_true (by kernel_rfl)) (by kernel_rfl) plan43 _ fun xs y h => (ev43 xs).trans h
noncomputable def E43 : FnE Try.prog := ⟨43, sg43, d43, sim43⟩

/-- election/electionmake.Ballots -/
noncomputable def d23 (n : Int) (l : List (List Int)) (most : Int) : Option (List (List Int)) :=
  (whileO (β := (List (List Int))) (fun ((n_1, l_1, most_1, out, i) : Int × (List (List Int)) × Int × (List (List Int)) × Int) =>
      letJ (fun ((n_2, l_2, most_2, out_1, i_1, t17) : Int × (List (List Int)) × Int × (List (List Int)) × Int × Bool) =>
          bif t17 then
            bif (decide (0 ≤ i_1) && decide (i_1 < (l_2.length : Int))) then
              bif (decide (0 ≤ i_1) && decide (i_1 < (l_2.length : Int))) then
                bif (cutOK 0 (bif (decide (12 < ((List.getD l_2 (Int.toNat i_1) []).length : Int))) then 12 else ((List.getD l_2 (Int.toNat i_1) []).length : Int)) (List.getD l_2 (Int.toNat i_1) []).length) then
                  (d43 n_2 (List.drop 0 (List.take (Int.toNat (bif (decide (12 < ((List.getD l_2 (Int.toNat i_1) []).length : Int))) then 12 else ((List.getD l_2 (Int.toNat i_1) []).length : Int))) (List.getD l_2 (Int.toNat i_1) [])))).bind fun r =>
                  bif (decide ((out_1.length : Int) + (([r] : List (List Int)).length : Int) ≤ LIM)) then
                    some (Sum.inl (n_2, l_2, most_2, (out_1 ++ [r]), (w (i_1 + 1))))
                  else none
                else none
              else none
            else none
          else
            some (Sum.inr out_1)) fun j_ =>
      bif (decide (i < (l_1.length : Int))) then
        j_ (n_1, l_1, most_1, out, i, (decide (i < most_1)))
      else
        j_ (n_1, l_1, most_1, out, i, false)) (n, l, most, [], 0)).bind fun (out_2 : List (List Int)) =>
  some out_2
def sg23 : Sig := ⟨[(y2, .sh), (y22, .bw), (y2, .sh)], [(y22, (.own 26 .sh))]⟩
def plan23 : Plan := (.seq (.reg [] []) (.seq (.reg [] [{ fl := 2 }]) (.seq (.seq (.reg [] []) (.block (.loop [(0, .v y2 .sh), (1, .v y22 .bw), (2, .v y2 .sh), (7, .v y22 (.own 26 .sh)), (8, .v y2 .sh)] [(.brk 0, [(7, .v y22 (.own 26 .sh))])] (.seq (.join (.reg [] []) [(0, .v y2 .sh), (1, .v y22 .bw), (2, .v y2 .sh), (7, .v y22 (.own 26 .sh)), (8, .v y2 .sh), (17, .v y4 .sh)] (.cond .nil .nil)) (.seq (.block (.reg [] [{}, {}, {}, {}, {}, {}, {}, {}, {}, {}, {}, {}, {}, {}, { frz := [(33, [])] }])) (.reg [] [])))))) (.seq (.reg [] []) .nil))))
theorem ev23 (xs : Vals (ptys sg23.ps)) : evF (P := Try.prog) tab [.fn E43] sg23 Try.f23.results.toList (code Try.f23) plan23 xs = d23 xs.1 xs.2.1 xs.2.2.1 := by kernel_rfl
theorem sim23 : Sim Try.prog 23 sg23 d23 := sim_ev mixd tabOK Try.func23 (code_of rfl) Try.call23 (Nat.le_of_ble_eq_true (by kernel_rfl)) (by kernel_rfl) plan23 _ fun xs y h => (ev23 xs).trans h
noncomputable def E23 : FnE Try.prog := ⟨23, sg23, d23, sim23⟩

/-- election/electionref24.Less -/
noncomputable def d25 (a : List Int) (b : List Int) : Option Bool :=
  (whileO (β := ((List Int) × (List Int)) ⊕ Bool) (fun ((a_1, b_1, i) : (List Int) × (List Int) × Int) =>
      letJ (fun ((a_2, b_2, i_1, t15) : (List Int) × (List Int) × Int × Bool) =>
          bif t15 then
            bif (decide (0 ≤ i_1) && decide (i_1 < (a_2.length : Int))) then
              bif (decide (0 ≤ i_1) && decide (i_1 < (b_2.length : Int))) then
                bif !(decide ((List.getD a_2 (Int.toNat i_1) 0) = (List.getD b_2 (Int.toNat i_1) 0))) then
                  bif (decide (0 ≤ i_1) && decide (i_1 < (a_2.length : Int))) then
                    bif (decide (0 ≤ i_1) && decide (i_1 < (b_2.length : Int))) then
                      some (Sum.inr (Sum.inr (decide ((List.getD a_2 (Int.toNat i_1) 0) < (List.getD b_2 (Int.toNat i_1) 0)))))
                    else none
                  else none
                else
                  some (Sum.inl (a_2, b_2, (w (i_1 + 1))))
              else none
            else none
          else
            some (Sum.inr (Sum.inl (a_2, b_2)))) fun j_ =>
      bif (decide (i < (a_1.length : Int))) then
        j_ (a_1, b_1, i, (decide (i < (b_1.length : Int))))
      else
        j_ (a_1, b_1, i, false)) (a, b, 0)).bind fun
  | Sum.inl (a_3, b_3) =>
    some (decide ((a_3.length : Int) < (b_3.length : Int)))
  | Sum.inr t4 =>
    some t4
def sg25 : Sig := ⟨[(y26, .bw), (y26, .bw)], [(y4, .sh)]⟩
def plan25 : Plan := (.seq (.reg [] []) (.seq (.seq (.reg [] []) (.block (.loop [(0, .v y26 .bw), (1, .v y26 .bw), (5, .v y2 .sh)] [(.brk 0, [(0, .v y26 .bw), (1, .v y26 .bw)]), (.ret, [(4, .v y4 .sh)])] (.seq (.join (.reg [] []) [(0, .v y26 .bw), (1, .v y26 .bw), (5, .v y2 .sh), (15, .v y4 .sh)] (.cond .nil .nil)) (.seq (.block (.seq (.reg [] []) (.cond (.seq (.reg [] []) .nil) .nil))) (.reg [] [])))))) (.seq (.reg [] []) .nil)))
theorem ev25 (xs : Vals (ptys sg25.ps)) : evF (P := Try.prog) tab [] sg25 Try.f25.results.toList (code Try.f25) plan25 xs = d25 xs.1 xs.2.1 := by kernel_rfl
theorem sim25 : Sim Try.prog 25 sg25 d25 := sim_ev mixd tabOK Try.func25 (code_of rfl) Try.call25 (Nat.le_of_ble_eq_true (by kernel_rfl)) (by kernel_rfl) plan25 _ fun xs y h => (ev25 xs).trans h
noncomputable def E25 : FnE Try.prog := ⟨25, sg25, d25, sim25⟩

/-- election/electionref24.Eq -/
noncomputable def d13 (a : List Int) (b : List Int) : Option Bool :=
  (d25 a b).bind fun r =>
  bif !r then
    (d25 b a).bind fun r_1 =>
    some (!r_1)
  else
    some false
def sg13 : Sig := ⟨[(y26, .bw), (y26, .bw)], [(y4, .sh)]⟩
def plan13 : Plan := (.seq (.reg [] []) (.seq (.reg [] []) .nil))
theorem ev13 (xs : Vals (ptys sg13.ps)) : evF (P := Try.prog) tab [.fn E25] sg13 Try.f13.results.toList (code Try.f13) plan13 xs = d13 xs.1 xs.2.1 := by kernel_rfl
theorem sim13 : Sim Try.prog 13 sg13 d13 := sim_ev mixd tabOK Try.func13 (code_of rfl) Try.call13 (Nat.le_of_ble_eq_true (by kernel_rfl)) (by kernel_rfl) plan13 _ fun xs y h => (ev13 xs).trans h
noncomputable def E13 : FnE Try.prog := ⟨13, sg13, d13, sim13⟩

/-- election/electionref24.Add -/
noncomputable def d42 (gs : List (List Int × Int)) (p : List Int) (k : Int) : Option (List (List Int × Int)) :=
  (whileO (β := ((List Int) × Int × (List (List Int × Int)) × Bool)) (fun ((gs_1, p_1, k_1, out, done, i) : (List (List Int × Int)) × (List Int) × Int × (List (List Int × Int)) × Bool × Int) =>
      bif (decide (i < (gs_1.length : Int))) then
        letJ (fun ((gs_4, p_4, k_4, out_3, done_3, i_3) : (List (List Int × Int)) × (List Int) × Int × (List (List Int × Int)) × Bool × Int) =>
            some (Sum.inl (gs_4, p_4, k_4, out_3, done_3, (w (i_3 + 1))))) fun j__2 =>
        bif (decide (0 ≤ i) && decide (i < (gs_1.length : Int))) then
          letJ (fun ((gs_3, p_3, k_3, out_2, done_2, i_2, g_1) : (List (List Int × Int)) × (List Int) × Int × (List (List Int × Int)) × Bool × Int × (List Int × Int)) =>
              bif (decide ((out_2.length : Int) + (([g_1] : List (List Int × Int)).length : Int) ≤ LIM)) then
                j__2 (gs_3, p_3, k_3, (out_2 ++ [g_1]), done_2, i_2)
              else none) fun j__1 =>
          letJ (fun ((gs_2, p_2, k_2, out_1, done_1, i_1, g, t29) : (List (List Int × Int)) × (List Int) × Int × (List (List Int × Int)) × Bool × Int × (List Int × Int) × Bool) =>
              bif t29 then
                (d13 g.1 p_2).bind fun r_1 =>
                bif r_1 then
                  bif (decide ((out_1.length : Int) + (([(g.1, (w (g.2 + k_2)))] : List (List Int × Int)).length : Int) ≤ LIM)) then
                    j__2 (gs_2, p_2, k_2, (out_1 ++ [(g.1, (w (g.2 + k_2)))]), true, i_1)
                  else none
                else
                  bif (decide ((out_1.length : Int) + (([(p_2, k_2)] : List (List Int × Int)).length : Int) ≤ LIM)) then
                    j__1 (gs_2, p_2, k_2, (out_1 ++ [(p_2, k_2)]), true, i_1, g)
                  else none
              else
                j__1 (gs_2, p_2, k_2, out_1, done_1, i_1, g)) fun j_ =>
          bif !done then
            (d25 ((List.getD gs_1 (Int.toNat i) ([], 0)).1) p_1).bind fun r =>
            j_ (gs_1, p_1, k_1, out, done, i, (List.getD gs_1 (Int.toNat i) ([], 0)), !r)
          else
            j_ (gs_1, p_1, k_1, out, done, i, (List.getD gs_1 (Int.toNat i) ([], 0)), false)
        else none
      else
        some (Sum.inr (p_1, k_1, out, done))) (gs, p, k, [], false, 0)).bind fun ((p_5, k_5, out_4, done_4) : (List Int) × Int × (List (List Int × Int)) × Bool) =>
  letJ (fun (out_5 : List (List Int × Int)) =>
      some out_5) fun j__3 =>
  bif !done_4 then
    bif (decide ((out_4.length : Int) + (([(p_5, k_5)] : List (List Int × Int)).length : Int) ≤ LIM)) then
      j__3 (out_4 ++ [(p_5, k_5)])
    else none
  else
    j__3 out_4
def sg42 : Sig := ⟨[(y32, .sh), (y26, .sh), (y2, .sh)], [(y32, (.own 79 .sh))]⟩
def plan42 : Plan := (.seq (.reg [] []) (.seq (.reg [] [{ fl := 2 }]) (.seq (.reg [] []) (.seq (.seq (.reg [] []) (.block (.loop [(0, .v y32 .sh), (1, .v y26 .sh), (2, .v y2 .sh), (7, .v y32 (.own 79 .sh)), (8, .v y4 .sh), (9, .v y2 .sh)] [(.brk 0, [(1, .v y26 .sh), (2, .v y2 .sh), (7, .v y32 (.own 79 .sh)), (8, .v y4 .sh)])] (.seq (.seq (.reg [] []) (.cond .nil .nil)) (.join (.block (.seq (.reg [] []) (.join (.join (.reg [] []) [(0, .v y32 .sh), (1, .v y26 .sh), (2, .v y2 .sh), (7, .v y32 (.own 79 .sh)), (8, .v y4 .sh), (9, .v y2 .sh), (10, .v (.ptr y79) (.own 0 .sh)), (29, .v y4 .sh)] (.cond (.seq (.reg [] []) (.seq (.seq (.reg [] []) (.cond (.seq (.reg [] []) .nil) .nil)) (.reg [] []))) .nil)) [(0, .v y32 .sh), (1, .v y26 .sh), (2, .v y2 .sh), (7, .v y32 (.own 79 .sh)), (8, .v y4 .sh), (9, .v y2 .sh), (10, .v (.ptr y79) (.own 0 .sh))] (.reg [] [])))) [(0, .v y32 .sh), (1, .v y26 .sh), (2, .v y2 .sh), (7, .v y32 (.own 79 .sh)), (8, .v y4 .sh), (9, .v y2 .sh)] (.reg [] [])))))) (.join (.seq (.reg [] []) (.cond (.reg [] []) .nil)) [(7, .v y32 (.own 79 .sh))] (.seq (.reg [] []) .nil))))))
theorem ev42 (xs : Vals (ptys sg42.ps)) : evF (P := Try.prog) tab [.fn E25, .fn E13] sg42 Try.f42.results.toList (code Try.f42) plan42 xs = d42 xs.1 xs.2.1 xs.2.2.1 := by kernel_rfl
theorem sim42 : Sim Try.prog 42 sg42 d42 := sim_ev mixd tabOK Try.func42 (code_of rfl) Try.call42 (Nat.le_of_ble_eq_true (by kernel_rfl)) (by kernel_rfl) plan42 _ fun xs y h => (ev42 xs).trans h
noncomputable def E42 : FnE Try.prog := ⟨42, sg42, d42, sim42⟩

/-- election/electionref24.Make -/
noncomputable def d22 (n : Int) (ballots : List (List Int)) : Option ((List (List Int × Int)) × Int) :=
  letJ (fun ((n_1, ballots_1, t13) : Int × (List (List Int)) × Bool) =>
      bif t13 then
        some ([], 4)
      else
        bif (decide (100000 < (ballots_1.length : Int))) then
          some ([], 7)
        else
          (whileO (β := (List (List Int × Int)) ⊕ ((List (List Int × Int)) × Int)) (fun ((n_2, ballots_2, gs, i) : Int × (List (List Int)) × (List (List Int × Int)) × Int) =>
              bif (decide (i < (ballots_2.length : Int))) then
                bif (decide (0 ≤ i) && decide (i < (ballots_2.length : Int))) then
                  (d18 n_2 (List.getD ballots_2 (Int.toNat i) [])).bind fun r =>
                  bif !r then
                    some (Sum.inr (Sum.inr ([], 8)))
                  else
                    bif (decide (0 ≤ i) && decide (i < (ballots_2.length : Int))) then
                      bif (decide ((([] : List Int).length : Int) + ((List.getD ballots_2 (Int.toNat i) []).length : Int) ≤ LIM)) then
                        (d42 gs (List.getD ballots_2 (Int.toNat i) []) 1).bind fun r_1 =>
                        some (Sum.inl (n_2, ballots_2, r_1, (w (i + 1))))
                      else none
                    else none
                else none
              else
                some (Sum.inr (Sum.inl gs))) (n_1, ballots_1, [], 0)).bind fun
          | Sum.inl gs_1 =>
            some (gs_1, 0)
          | Sum.inr (t4, t5) =>
            some (t4, t5)) fun j_ =>
  bif !(decide (n < 1)) then
    j_ (n, ballots, (decide (7 < n)))
  else
    j_ (n, ballots, true)
def sg22 : Sig := ⟨[(y2, .sh), (y22, .bw)], [(y32, .sh), (y2, .sh)]⟩
def plan22 : Plan := (.post (.seq (.reg [] []) (.seq (.join (.reg [] []) [(0, .v y2 .sh), (1, .v y22 .bw), (13, .v y4 .sh)] (.cond (.seq (.reg [] []) .nil) .nil)) (.seq (.seq (.reg [] []) (.cond (.seq (.reg [] []) .nil) .nil)) (.seq (.reg [] [{ fl := 2 }]) (.seq (.seq (.reg [] []) (.block (.loop [(0, .v y2 .sh), (1, .v y22 .bw), (6, .v y32 (.own 79 .sh)), (7, .v y2 .sh)] [(.brk 0, [(6, .v y32 (.own 79 .sh))]), (.ret, [(4, .v y32 .sh), (5, .v y2 .sh)])] (.seq (.seq (.reg [] []) (.cond .nil .nil)) (.seq (.block (.seq (.seq (.reg [] []) (.cond (.seq (.reg [] []) .nil) .nil)) (.reg [(6, [])] [{}, {}, {}, {}, {}, {}, { frz := [(35, [])] }]))) (.reg [] [])))))) (.seq (.reg [] []) .nil)))))) [(4, [])])
theorem ev22 (xs : Vals (ptys sg22.ps)) : evF (P := Try.prog) tab [.fn E18, .fn E42] sg22 Try.f22.results.toList (code Try.f22) plan22 xs = d22 xs.1 xs.2.1 := by kernel_rfl
theorem sim22 : Sim Try.prog 22 sg22 d22 := sim_ev mixd tabOK Try.func22 (code_of rfl) Try.call22 (Nat.le_of_ble_eq_true (by kernel_rfl)) (by kernel_rfl) plan22 _ fun xs y h => (ev22 xs).trans h
noncomputable def E22 : FnE Try.prog := ⟨22, sg22, d22, sim22⟩

/-- election/electionmake.Pile -/
noncomputable def d10 (n : Int) (l : List (List Int)) (most : Int) : Option (List (List Int × Int)) :=
  (d23 n l most).bind fun r =>
  (d22 n r).bind fun r_1 =>
  some r_1.1
def sg10 : Sig := ⟨[(y2, .sh), (y22, .bw), (y2, .sh)], [(y32, .sh)]⟩
def plan10 : Plan := (.seq (.reg [] []) (.seq (.reg [] [{}, {}, {}, {}, {}, {}, { fl := 1 }]) (.seq (.reg [] []) .nil)))
theorem ev10 (xs : Vals (ptys sg10.ps)) : evF (P := Try.prog) tab [.fn E23, .fn E22] sg10 Try.f10.results.toList (code Try.f10) plan10 xs = d10 xs.1 xs.2.1 xs.2.2.1 := by kernel_rfl
theorem sim10 : Sim Try.prog 10 sg10 d10 := sim_ev mixd tabOK Try.func10 (code_of rfl) Try.call10 (Nat.le_of_ble_eq_true (by kernel_rfl)) (by kernel_rfl) plan10 _ fun xs y h => (ev10 xs).trans h
noncomputable def E10 : FnE Try.prog := ⟨10, sg10, d10, sim10⟩

/-- election/electionlaw31.Cut -/
noncomputable def d11 (l : List (List Int)) (n : Int) : Option (List (List Int)) :=
  (whileO (β := (List (List Int))) (fun ((l_1, n_1, out, i) : (List (List Int)) × Int × (List (List Int)) × Int) =>
      letJ (fun ((l_2, n_2, out_1, i_1, t15) : (List (List Int)) × Int × (List (List Int)) × Int × Bool) =>
          bif t15 then
            bif (decide (0 ≤ i_1) && decide (i_1 < (l_2.length : Int))) then
              bif (decide (0 ≤ i_1) && decide (i_1 < (l_2.length : Int))) then
                bif (cutOK 0 (bif (decide (8 < ((List.getD l_2 (Int.toNat i_1) []).length : Int))) then 8 else ((List.getD l_2 (Int.toNat i_1) []).length : Int)) (List.getD l_2 (Int.toNat i_1) []).length) then
                  bif (decide ((out_1.length : Int) + (([(List.drop 0 (List.take (Int.toNat (bif (decide (8 < ((List.getD l_2 (Int.toNat i_1) []).length : Int))) then 8 else ((List.getD l_2 (Int.toNat i_1) []).length : Int))) (List.getD l_2 (Int.toNat i_1) [])))] : List (List Int)).length : Int) ≤ LIM)) then
                    some (Sum.inl (l_2, n_2, (out_1 ++ [(List.drop 0 (List.take (Int.toNat (bif (decide (8 < ((List.getD l_2 (Int.toNat i_1) []).length : Int))) then 8 else ((List.getD l_2 (Int.toNat i_1) []).length : Int))) (List.getD l_2 (Int.toNat i_1) [])))]), (w (i_1 + 1))))
                  else none
                else none
              else none
            else none
          else
            some (Sum.inr out_1)) fun j_ =>
      bif (decide (i < (l_1.length : Int))) then
        j_ (l_1, n_1, out, i, (decide (i < n_1)))
      else
        j_ (l_1, n_1, out, i, false)) (l, n, [], 0)).bind fun (out_2 : List (List Int)) =>
  some out_2
def sg11 : Sig := ⟨[(y22, .sh), (y2, .sh)], [(y22, (.own 26 .sh))]⟩
def plan11 : Plan := (.seq (.reg [] []) (.seq (.reg [] [{ fl := 2 }]) (.seq (.seq (.reg [] []) (.block (.loop [(0, .v y22 .sh), (1, .v y2 .sh), (5, .v y22 (.own 26 .sh)), (6, .v y2 .sh)] [(.brk 0, [(5, .v y22 (.own 26 .sh))])] (.seq (.join (.reg [] []) [(0, .v y22 .sh), (1, .v y2 .sh), (5, .v y22 (.own 26 .sh)), (6, .v y2 .sh), (15, .v y4 .sh)] (.cond .nil .nil)) (.seq (.block (.reg [] [])) (.reg [] [])))))) (.seq (.reg [] []) .nil))))
theorem ev11 (xs : Vals (ptys sg11.ps)) : evF (P := Try.prog) tab [] sg11 Try.f11.results.toList (code Try.f11) plan11 xs = d11 xs.1 xs.2.1 := by kernel_rfl
theorem sim11 : Sim Try.prog 11 sg11 d11 := sim_ev mixd tabOK Try.func11 (code_of rfl) Try.call11 (Nat.le_of_ble_eq_true (by kernel_rfl)) (by kernel_rfl) plan11 _ fun xs y h => (ev11 xs).trans h
noncomputable def E11 : FnE Try.prog := ⟨11, sg11, d11, sim11⟩

/-- election/assertion.isAscending -/
noncomputable def d56 (n : Int) (l : List Int) : Option Bool :=
  (whileO (β := Unit ⊕ Bool) (fun ((n_1, l_1, t7, t8, t9) : Int × (List Int) × (List Int) × Int × Int) =>
      bif (decide (t9 < t8)) then
        bif (decide (0 ≤ t9) && decide (t9 < (t7.length : Int))) then
          letJ (fun ((n_2, l_2, t7_1, t8_1, t9_1, t33) : Int × (List Int) × (List Int) × Int × Int × Bool) =>
              bif t33 then
                some (Sum.inr (Sum.inr false))
              else
                some (Sum.inl (n_2, l_2, t7_1, t8_1, (w (t9_1 + 1))))) fun j_ =>
          bif !(decide ((List.getD t7 (Int.toNat t9) 0) < 0)) then
            bif !(decide (n_1 ≤ (List.getD t7 (Int.toNat t9) 0))) then
              bif (decide (0 < t9)) then
                bif (decide (0 ≤ (w (t9 - 1))) && decide ((w (t9 - 1)) < (l_1.length : Int))) then
                  j_ (n_1, l_1, t7, t8, t9, (decide ((List.getD t7 (Int.toNat t9) 0) ≤ (List.getD l_1 (Int.toNat (w (t9 - 1))) 0))))
                else none
              else
                j_ (n_1, l_1, t7, t8, t9, false)
            else
              j_ (n_1, l_1, t7, t8, t9, true)
          else
            j_ (n_1, l_1, t7, t8, t9, true)
        else none
      else
        some (Sum.inr (Sum.inl ()))) (n, l, l, (l.length : Int), 0)).bind fun
  | Sum.inl _ =>
    some true
  | Sum.inr t4 =>
    some t4
def sg56 : Sig := ⟨[(y2, .sh), (y26, .bw)], [(y4, .sh)]⟩
def plan56 : Plan := (.seq (.reg [] []) (.seq (.seq (.reg [] []) (.block (.loop [(0, .v y2 .sh), (1, .v y26 .bw), (7, .v y26 .bw), (8, .v y2 .sh), (9, .v y2 .sh)] [(.brk 0, []), (.ret, [(4, .v y4 .sh)])] (.seq (.reg [] []) (.seq (.cond .nil .nil) (.seq (.block (.seq (.reg [] []) (.join (.reg [] []) [(0, .v y2 .sh), (1, .v y26 .bw), (7, .v y26 .bw), (8, .v y2 .sh), (9, .v y2 .sh), (33, .v y4 .sh)] (.cond (.seq (.reg [] []) .nil) .nil)))) (.reg [] []))))))) (.seq (.reg [] []) .nil)))
theorem ev56 (xs : Vals (ptys sg56.ps)) : evF (P := Try.prog) tab [] sg56 Try.f56.results.toList (code Try.f56) plan56 xs = d56 xs.1 xs.2.1 := by kernel_rfl
theorem sim56 : Sim Try.prog 56 sg56 d56 := sim_ev mixd tabOK Try.func56 (code_of rfl) Try.call56 (Nat.le_of_ble_eq_true (by kernel_rfl)) (by kernel_rfl) plan56 _ fun xs y h => (ev56 xs).trans h
noncomputable def E56 : FnE Try.prog := ⟨56, sg56, d56, sim56⟩

/-- slices.Index[[]int,int] -/
noncomputable def d52 (s : List Int) (v : Int) : Option Int :=
  (whileO (β := Unit ⊕ Int) (fun ((s_1, v_1, t7, t8) : (List Int) × Int × Int × Int) =>
      bif (decide (t8 < t7)) then
        bif (decide (0 ≤ t8) && decide (t8 < (s_1.length : Int))) then
          bif (decide (v_1 = (List.getD s_1 (Int.toNat t8) 0))) then
            some (Sum.inr (Sum.inr t8))
          else
            some (Sum.inl (s_1, v_1, t7, (w (t8 + 1))))
        else none
      else
        some (Sum.inr (Sum.inl ()))) (s, v, (s.length : Int), 0)).bind fun
  | Sum.inl _ =>
    some (-1)
  | Sum.inr t4 =>
    some t4
def sg52 : Sig := ⟨[(y26, .bw), (y2, .sh)], [(y2, .sh)]⟩
def plan52 : Plan := (.seq (.reg [] []) (.seq (.seq (.reg [] []) (.block (.loop [(0, .v y26 .bw), (1, .v y2 .sh), (7, .v y2 .sh), (8, .v y2 .sh)] [(.brk 0, []), (.ret, [(4, .v y2 .sh)])] (.seq (.reg [] []) (.seq (.cond .nil .nil) (.seq (.block (.seq (.reg [] []) (.seq (.reg [] []) (.cond (.seq (.reg [] []) .nil) .nil)))) (.reg [] []))))))) (.seq (.reg [] []) .nil)))
theorem ev52 (xs : Vals (ptys sg52.ps)) : evF (P := Try.prog) tab [] sg52 Try.f52.results.toList (code Try.f52) plan52 xs = d52 xs.1 xs.2.1 := by kernel_rfl
theorem sim52 : Sim Try.prog 52 sg52 d52 := sim_ev mixd tabOK Try.func52 (code_of rfl) Try.call52 (Nat.le_of_ble_eq_true (by kernel_rfl)) (by kernel_rfl) plan52 _ fun xs y h => (ev52 xs).trans h
noncomputable def E52 : FnE Try.prog := ⟨52, sg52, d52, sim52⟩

/-- slices.Contains[[]int,int] -/
noncomputable def d30 (s : List Int) (v : Int) : Option Bool :=
  (d52 s v).bind fun r =>
  some (decide (0 ≤ r))
def sg30 : Sig := ⟨[(y26, .bw), (y2, .sh)], [(y4, .sh)]⟩
def plan30 : Plan := (.seq (.reg [] []) (.seq (.reg [] []) .nil))
theorem ev30 (xs : Vals (ptys sg30.ps)) : evF (P := Try.prog) tab [.fn E52] sg30 Try.f30.results.toList (code Try.f30) plan30 xs = d30 xs.1 xs.2.1 := by kernel_rfl
theorem sim30 : Sim Try.prog 30 sg30 d30 := sim_ev mixd tabOK Try.func30 (code_of rfl) Try.call30 (Nat.le_of_ble_eq_true (by kernel_rfl)) (by kernel_rfl) plan30 _ fun xs y h => (ev30 xs).trans h
noncomputable def E30 : FnE Try.prog := ⟨30, sg30, d30, sim30⟩

/-- election/assertion.Valid -/
noncomputable def d37 (p0 : Int) (p1 : (Int × (Int × (Int × (List Int × Int))))) : Option Bool :=
  letJ (fun ((t0, t3, t32) : Int × (Int × (Int × (Int × (List Int × Int)))) × Bool) =>
      bif t32 then
        some false
      else
        bif (decide (t3.1 = 1)) then
          bif !(decide (t3.2.1 = t3.2.2.1)) then
            bif (decide ((t3.2.2.2.1.length : Int) = 0)) then
              some (decide (t3.2.2.2.2 = 0))
            else
              some false
          else
            some false
        else
          bif (decide (t3.1 = 2)) then
            bif !(decide (t3.2.1 = t3.2.2.1)) then
              bif (decide (t3.2.2.2.2 = 0)) then
                (d56 t0 t3.2.2.2.1).bind fun r =>
                bif r then
                  (d30 t3.2.2.2.1 t3.2.1).bind fun r_1 =>
                  bif r_1 then
                    (d30 t3.2.2.2.1 t3.2.2.1).bind fun r_2 =>
                    some r_2
                  else
                    some false
                else
                  some false
              else
                some false
            else
              some false
          else
            bif (decide (t3.1 = 3)) then
              bif (decide (t3.2.2.1 = 0)) then
                bif (decide ((t3.2.2.2.1.length : Int) = 0)) then
                  bif (decide (2 ≤ t3.2.2.2.2)) then
                    some (decide (t3.2.2.2.2 ≤ 6))
                  else
                    some false
                else
                  some false
              else
                some false
            else
              some false) fun j_ =>
  bif !(decide (p0 < 1)) then
    bif !(decide (7 < p0)) then
      bif !(decide (p1.2.1 < 0)) then
        bif !(decide (p0 ≤ p1.2.1)) then
          bif !(decide (p1.2.2.1 < 0)) then
            j_ (p0, p1, (decide (p0 ≤ p1.2.2.1)))
          else
            j_ (p0, p1, true)
        else
          j_ (p0, p1, true)
      else
        j_ (p0, p1, true)
    else
      j_ (p0, p1, true)
  else
    j_ (p0, p1, true)
def sg37 : Sig := ⟨[(y2, .sh), (y37, .bw)], [(y4, .sh)]⟩
def plan37 : Plan := (.seq (.reg [] []) (.seq (.join (.reg [] []) [(0, .v y2 .sh), (3, .v (.ptr y37) (.own 0 .bw)), (32, .v y4 .sh)] (.cond (.seq (.reg [] []) .nil) .nil)) (.seq (.seq (.reg [] []) (.block (.seq (.reg [] []) (.cond (.seq (.reg [] []) .nil) (.seq (.reg [] []) (.cond (.seq (.reg [] []) .nil) (.seq (.reg [] []) (.cond (.seq (.reg [] []) .nil) .nil)))))))) (.seq (.reg [] []) .nil))))
theorem ev37 (xs : Vals (ptys sg37.ps)) : evF (P := Try.prog) tab [.fn E56, .fn E30] sg37 Try.f37.results.toList (code Try.f37) plan37 xs = d37 xs.1 xs.2.1 := by kernel_rfl
theorem sim37 : Sim Try.prog 37 sg37 d37 := sim_ev mixd tabOK Try.func37 (code_of rfl) Try.call37 (Nat.le_of_ble_eq_true (by kernel_rfl)) (by kernel_rfl) plan37 _ fun xs y h => (ev37 xs).trans h
noncomputable def E37 : FnE Try.prog := ⟨37, sg37, d37, sim37⟩

/-- election/pile.isBallot -/
noncomputable def d63 (n : Int) (prefs : List Int) : Option Bool :=
  (whileO (β := Unit ⊕ Bool) (fun ((n_1, seen, t8, t9, t10) : Int × (List Bool) × (List Int) × Int × Int) =>
      bif (decide (t10 < t9)) then
        bif (decide (0 ≤ t10) && decide (t10 < (t8.length : Int))) then
          letJ (fun ((n_2, seen_1, p, t8_1, t9_1, t10_1, t25) : Int × (List Bool) × Int × (List Int) × Int × Int × Bool) =>
              bif t25 then
                some (Sum.inr (Sum.inr false))
              else
                bif (decide (0 ≤ p) && decide (p < 7)) then
                  some (Sum.inl (n_2, (List.set seen_1 (Int.toNat p) true), t8_1, t9_1, (w (t10_1 + 1))))
                else none) fun j_ =>
          bif !(decide ((List.getD t8 (Int.toNat t10) 0) < 0)) then
            bif !(decide (n_1 ≤ (List.getD t8 (Int.toNat t10) 0))) then
              bif (decide (0 ≤ (List.getD t8 (Int.toNat t10) 0)) && decide ((List.getD t8 (Int.toNat t10) 0) < 7)) then
                j_ (n_1, seen, (List.getD t8 (Int.toNat t10) 0), t8, t9, t10, (List.getD seen (Int.toNat (List.getD t8 (Int.toNat t10) 0)) false))
              else none
            else
              j_ (n_1, seen, (List.getD t8 (Int.toNat t10) 0), t8, t9, t10, true)
          else
            j_ (n_1, seen, (List.getD t8 (Int.toNat t10) 0), t8, t9, t10, true)
        else none
      else
        some (Sum.inr (Sum.inl ()))) (n, [false, false, false, false, false, false, false], prefs, (prefs.length : Int), 0)).bind fun
  | Sum.inl _ =>
    some true
  | Sum.inr t4 =>
    some t4
def sg63 : Sig := ⟨[(y2, .sh), (y26, .bw)], [(y4, .sh)]⟩
def plan63 : Plan := (.seq (.reg [] []) (.seq (.reg [] []) (.seq (.seq (.reg [] []) (.block (.loop [(0, .v y2 .sh), (5, .v (.ptr y97) (.own 0 .sh)), (8, .v y26 .bw), (9, .v y2 .sh), (10, .v y2 .sh)] [(.brk 0, []), (.ret, [(4, .v y4 .sh)])] (.seq (.reg [] []) (.seq (.cond .nil .nil) (.seq (.block (.seq (.reg [] []) (.seq (.join (.reg [] []) [(0, .v y2 .sh), (5, .v (.ptr y97) (.own 0 .sh)), (7, .v y2 .sh), (8, .v y26 .bw), (9, .v y2 .sh), (10, .v y2 .sh), (25, .v y4 .sh)] (.cond (.seq (.reg [] []) .nil) .nil)) (.reg [] [])))) (.reg [] []))))))) (.seq (.reg [] []) .nil))))
theorem ev63 (xs : Vals (ptys sg63.ps)) : evF (P := Try.prog) tab [] sg63 Try.f63.results.toList (code Try.f63) plan63 xs = d63 xs.1 xs.2.1 := by kernel_rfl
theorem sim63 : Sim Try.prog 63 sg63 d63 := sim_ev mixd tabOK Try.func63 (code_of rfl) Try.call63 (Nat.le_of_ble_eq_true (by kernel_rfl)) (by kernel_rfl) plan63 _ fun xs y h => (ev63 xs).trans h
noncomputable def E63 : FnE Try.prog := ⟨63, sg63, d63, sim63⟩

/-- cmp.isNaN[int] -/
noncomputable def d53 (x : Int) : Option Bool :=
  some (!(decide (x = x)))
def sg53 : Sig := ⟨[(y2, .sh)], [(y4, .sh)]⟩
def plan53 : Plan := (.seq (.reg [] []) (.seq (.reg [] []) .nil))
theorem ev53 (xs : Vals (ptys sg53.ps)) : evF (P := Try.prog) tab [] sg53 Try.f53.results.toList (code Try.f53) plan53 xs = d53 xs.1 := by kernel_rfl
theorem sim53 : Sim Try.prog 53 sg53 d53 := sim_ev mixd tabOK Try.func53 (code_of rfl) Try.call53 (Nat.le_of_ble_eq_true (by kernel_rfl)) (by kernel_rfl) plan53 _ fun xs y h => (ev53 xs).trans h
noncomputable def E53 : FnE Try.prog := ⟨53, sg53, d53, sim53⟩

/-- cmp.Compare[int] -/
noncomputable def d31 (x : Int) (y : Int) : Option Int :=
  (d53 x).bind fun r =>
  (d53 y).bind fun r_1 =>
  bif r then
    bif r_1 then
      some 0
    else
      some (-1)
  else
    bif r_1 then
      some 1
    else
      bif (decide (x < y)) then
        some (-1)
      else
        bif (decide (y < x)) then
          some 1
        else
          some 0
def sg31 : Sig := ⟨[(y2, .sh), (y2, .sh)], [(y2, .sh)]⟩
def plan31 : Plan := (.seq (.reg [] []) (.seq (.reg [] []) (.seq (.reg [] []) (.seq (.seq (.reg [] []) (.cond (.seq (.seq (.reg [] []) (.cond (.seq (.reg [] []) .nil) .nil)) (.seq (.reg [] []) .nil)) .nil)) (.seq (.seq (.reg [] []) (.cond (.seq (.reg [] []) .nil) .nil)) (.seq (.seq (.reg [] []) (.cond (.seq (.reg [] []) .nil) .nil)) (.seq (.seq (.reg [] []) (.cond (.seq (.reg [] []) .nil) .nil)) (.seq (.reg [] []) .nil))))))))
theorem ev31 (xs : Vals (ptys sg31.ps)) : evF (P := Try.prog) tab [.fn E53] sg31 Try.f31.results.toList (code Try.f31) plan31 xs = d31 xs.1 xs.2.1 := by kernel_rfl
theorem sim31 : Sim Try.prog 31 sg31 d31 := sim_ev mixd tabOK Try.func31 (code_of rfl) Try.call31 (Nat.le_of_ble_eq_true (by kernel_rfl)) (by kernel_rfl) plan31 _ fun xs y h => (ev31 xs).trans h
noncomputable def E31 : FnE Try.prog := ⟨31, sg31, d31, sim31⟩

/-- slices.Compare[[]int,int] -/
noncomputable def d17 (s1 : List Int) (s2 : List Int) : Option Int :=
  (whileO (β := ((List Int) × (List Int)) ⊕ Int) (fun ((s1_1, s2_1, t9, t10, t11) : (List Int) × (List Int) × (List Int) × Int × Int) =>
      bif (decide (t11 < t10)) then
        bif (decide (0 ≤ t11) && decide (t11 < (t9.length : Int))) then
          bif (decide ((s2_1.length : Int) ≤ t11)) then
            some (Sum.inr (Sum.inr 1))
          else
            bif (decide (0 ≤ t11) && decide (t11 < (s2_1.length : Int))) then
              (d31 (List.getD t9 (Int.toNat t11) 0) (List.getD s2_1 (Int.toNat t11) 0)).bind fun r =>
              bif !(decide (r = 0)) then
                some (Sum.inr (Sum.inr r))
              else
                some (Sum.inl (s1_1, s2_1, t9, t10, (w (t11 + 1))))
            else none
        else none
      else
        some (Sum.inr (Sum.inl (s1_1, s2_1)))) (s1, s2, s1, (s1.length : Int), 0)).bind fun
  | Sum.inl (s1_2, s2_2) =>
    bif (decide ((s1_2.length : Int) < (s2_2.length : Int))) then
      some (-1)
    else
      some 0
  | Sum.inr t4 =>
    some t4
def sg17 : Sig := ⟨[(y26, .bw), (y26, .bw)], [(y2, .sh)]⟩
def plan17 : Plan := (.seq (.reg [] []) (.seq (.seq (.reg [] []) (.block (.loop [(0, .v y26 .bw), (1, .v y26 .bw), (9, .v y26 .bw), (10, .v y2 .sh), (11, .v y2 .sh)] [(.brk 0, [(0, .v y26 .bw), (1, .v y26 .bw)]), (.ret, [(4, .v y2 .sh)])] (.seq (.reg [] []) (.seq (.cond .nil .nil) (.seq (.block (.seq (.reg [] []) (.seq (.seq (.reg [] []) (.cond (.seq (.reg [] []) .nil) .nil)) (.seq (.reg [] []) (.seq (.reg [] []) (.seq (.reg [] []) (.cond (.seq (.reg [] []) .nil) .nil))))))) (.reg [] []))))))) (.seq (.seq (.reg [] []) (.cond (.seq (.reg [] []) .nil) .nil)) (.seq (.reg [] []) .nil))))
theorem ev17 (xs : Vals (ptys sg17.ps)) : evF (P := Try.prog) tab [.fn E31] sg17 Try.f17.results.toList (code Try.f17) plan17 xs = d17 xs.1 xs.2.1 := by kernel_rfl
theorem sim17 : Sim Try.prog 17 sg17 d17 := sim_ev mixd tabOK Try.func17 (code_of rfl) Try.call17 (Nat.le_of_ble_eq_true (by kernel_rfl)) (by kernel_rfl) plan17 _ fun xs y h => (ev17 xs).trans h
noncomputable def E17 : FnE Try.prog := ⟨17, sg17, d17, sim17⟩

/-- election/pile.isPile -/
noncomputable def d45 (n : Int) (gs : List (List Int × Int)) : Option Bool :=
  (whileO (β := Unit ⊕ Bool) (fun ((n_1, gs_1, total, t8, t9, t10) : Int × (List (List Int × Int)) × Int × (List (List Int × Int)) × Int × Int) =>
      bif (decide (t10 < t9)) then
        bif (decide (0 ≤ t10) && decide (t10 < (t8.length : Int))) then
          letJ (fun ((n_2, gs_2, total_1, i, g, t8_1, t9_1, t10_1, t31) : Int × (List (List Int × Int)) × Int × Int × (List Int × Int) × (List (List Int × Int)) × Int × Int × Bool) =>
              bif t31 then
                some (Sum.inr (Sum.inr false))
              else
                letJ (fun ((n_3, gs_3, total_2, g_1, t8_2, t9_2, t10_2, t45) : Int × (List (List Int × Int)) × Int × (List Int × Int) × (List (List Int × Int)) × Int × Int × Bool) =>
                    bif t45 then
                      some (Sum.inr (Sum.inr false))
                    else
                      some (Sum.inl (n_3, gs_3, (w (total_2 + g_1.2)), t8_2, t9_2, (w (t10_2 + 1))))) fun j__1 =>
                bif (decide (0 < i)) then
                  bif (decide (0 ≤ (w (i - 1))) && decide ((w (i - 1)) < (gs_2.length : Int))) then
                    (d17 ((List.getD gs_2 (Int.toNat (w (i - 1))) ([], 0)).1) g.1).bind fun r_1 =>
                    j__1 (n_2, gs_2, total_1, g, t8_1, t9_1, t10_1, (decide (0 ≤ r_1)))
                  else none
                else
                  j__1 (n_2, gs_2, total_1, g, t8_1, t9_1, t10_1, false)) fun j_ =>
          bif !(decide ((List.getD t8 (Int.toNat t10) ([], 0)).2 < 1)) then
            bif !(decide ((w (100000 - total)) < (List.getD t8 (Int.toNat t10) ([], 0)).2)) then
              (d63 n_1 ((List.getD t8 (Int.toNat t10) ([], 0)).1)).bind fun r =>
              j_ (n_1, gs_1, total, t10, (List.getD t8 (Int.toNat t10) ([], 0)), t8, t9, t10, !r)
            else
              j_ (n_1, gs_1, total, t10, (List.getD t8 (Int.toNat t10) ([], 0)), t8, t9, t10, true)
          else
            j_ (n_1, gs_1, total, t10, (List.getD t8 (Int.toNat t10) ([], 0)), t8, t9, t10, true)
        else none
      else
        some (Sum.inr (Sum.inl ()))) (n, gs, 0, gs, (gs.length : Int), 0)).bind fun
  | Sum.inl _ =>
    some true
  | Sum.inr t4 =>
    some t4
def sg45 : Sig := ⟨[(y2, .sh), (y32, .bw)], [(y4, .sh)]⟩
def plan45 : Plan := (.seq (.reg [] []) (.seq (.reg [] []) (.seq (.seq (.reg [] []) (.block (.loop [(0, .v y2 .sh), (1, .v y32 .bw), (5, .v y2 .sh), (8, .v y32 .bw), (9, .v y2 .sh), (10, .v y2 .sh)] [(.brk 0, []), (.ret, [(4, .v y4 .sh)])] (.seq (.reg [] []) (.seq (.cond .nil .nil) (.seq (.block (.seq (.reg [] []) (.seq (.join (.reg [] []) [(0, .v y2 .sh), (1, .v y32 .bw), (5, .v y2 .sh), (6, .v y2 .sh), (7, .v (.ptr y79) (.own 0 .bw)), (8, .v y32 .bw), (9, .v y2 .sh), (10, .v y2 .sh), (31, .v y4 .sh)] (.cond (.seq (.reg [] []) .nil) .nil)) (.seq (.join (.reg [] []) [(0, .v y2 .sh), (1, .v y32 .bw), (5, .v y2 .sh), (7, .v (.ptr y79) (.own 0 .bw)), (8, .v y32 .bw), (9, .v y2 .sh), (10, .v y2 .sh), (45, .v y4 .sh)] (.cond (.seq (.reg [] []) .nil) .nil)) (.reg [] []))))) (.reg [] []))))))) (.seq (.reg [] []) .nil))))
theorem ev45 (xs : Vals (ptys sg45.ps)) : evF (P := Try.prog) tab [.fn E63, .fn E17] sg45 Try.f45.results.toList (code Try.f45) plan45 xs = d45 xs.1 xs.2.1 := by kernel_rfl
theorem sim45 : Sim Try.prog 45 sg45 d45 := sim_ev mixd tabOK Try.func45 (code_of rfl) Try.call45 (Nat.le_of_ble_eq_true (by kernel_rfl)) (by kernel_rfl) plan45 _ fun xs y h => (ev45 xs).trans h
noncomputable def E45 : FnE Try.prog := ⟨45, sg45, d45, sim45⟩

/-- election/pile.Valid -/
noncomputable def d26 (n : Int) (gs : List (List Int × Int)) : Option Bool :=
  bif (decide (1 ≤ n)) then
    bif (decide (n ≤ 7)) then
      (d45 n gs).bind fun r =>
      some r
    else
      some false
  else
    some false
def sg26 : Sig := ⟨[(y2, .sh), (y32, .bw)], [(y4, .sh)]⟩
def plan26 : Plan := (.seq (.reg [] []) (.seq (.reg [] []) .nil))
theorem ev26 (xs : Vals (ptys sg26.ps)) : evF (P := Try.prog) tab [.fn E45] sg26 Try.f26.results.toList (code Try.f26) plan26 xs = d26 xs.1 xs.2.1 := by kernel_rfl
theorem sim26 : Sim Try.prog 26 sg26 d26 := sim_ev mixd tabOK Try.func26 (code_of rfl) Try.call26 (Nat.le_of_ble_eq_true (by kernel_rfl)) (by kernel_rfl) plan26 _ fun xs y h => (ev26 xs).trans h
noncomputable def E26 : FnE Try.prog := ⟨26, sg26, d26, sim26⟩

/-- election/assertion.firsts -/
noncomputable def d59 (gs : List (List Int × Int)) (c : Int) : Option Int :=
  (whileO (β := Int) (fun ((c_1, count, t8, t9, t10) : Int × Int × (List (List Int × Int)) × Int × Int) =>
      bif (decide (t10 < t9)) then
        letJ (fun ((c_3, count_2, t8_2, t9_2, t10_2) : Int × Int × (List (List Int × Int)) × Int × Int) =>
            some (Sum.inl (c_3, count_2, t8_2, t9_2, (w (t10_2 + 1))))) fun j__1 =>
        bif (decide (0 ≤ t10) && decide (t10 < (t8.length : Int))) then
          letJ (fun ((c_2, count_1, g, t8_1, t9_1, t10_1, t25) : Int × Int × (List Int × Int) × (List (List Int × Int)) × Int × Int × Bool) =>
              bif t25 then
                j__1 (c_2, (w (count_1 + g.2)), t8_1, t9_1, t10_1)
              else
                j__1 (c_2, count_1, t8_1, t9_1, t10_1)) fun j_ =>
          bif (decide (0 < (((List.getD t8 (Int.toNat t10) ([], 0)).1).length : Int))) then
            bif (decide (0 ≤ 0) && decide (0 < (((List.getD t8 (Int.toNat t10) ([], 0)).1).length : Int))) then
              j_ (c_1, count, (List.getD t8 (Int.toNat t10) ([], 0)), t8, t9, t10, (decide ((List.getD ((List.getD t8 (Int.toNat t10) ([], 0)).1) 0 0) = c_1)))
            else none
          else
            j_ (c_1, count, (List.getD t8 (Int.toNat t10) ([], 0)), t8, t9, t10, false)
        else none
      else
        some (Sum.inr count)) (c, 0, gs, (gs.length : Int), 0)).bind fun (count_3 : Int) =>
  some count_3
def sg59 : Sig := ⟨[(y32, .bw), (y2, .sh)], [(y2, .sh)]⟩
def plan59 : Plan := (.seq (.reg [] []) (.seq (.reg [] []) (.seq (.seq (.reg [] []) (.block (.loop [(1, .v y2 .sh), (5, .v y2 .sh), (8, .v y32 .bw), (9, .v y2 .sh), (10, .v y2 .sh)] [(.brk 0, [(5, .v y2 .sh)])] (.seq (.reg [] []) (.seq (.cond .nil .nil) (.join (.block (.seq (.reg [] []) (.join (.reg [] []) [(1, .v y2 .sh), (5, .v y2 .sh), (7, .v (.ptr y79) (.own 0 .bw)), (8, .v y32 .bw), (9, .v y2 .sh), (10, .v y2 .sh), (25, .v y4 .sh)] (.cond (.reg [] []) .nil)))) [(1, .v y2 .sh), (5, .v y2 .sh), (8, .v y32 .bw), (9, .v y2 .sh), (10, .v y2 .sh)] (.reg [] []))))))) (.seq (.reg [] []) .nil))))
theorem ev59 (xs : Vals (ptys sg59.ps)) : evF (P := Try.prog) tab [] sg59 Try.f59.results.toList (code Try.f59) plan59 xs = d59 xs.1 xs.2.1 := by kernel_rfl
theorem sim59 : Sim Try.prog 59 sg59 d59 := sim_ev mixd tabOK Try.func59 (code_of rfl) Try.call59 (Nat.le_of_ble_eq_true (by kernel_rfl)) (by kernel_rfl) plan59 _ fun xs y h => (ev59 xs).trans h
noncomputable def E59 : FnE Try.prog := ⟨59, sg59, d59, sim59⟩

/-- election/pile.isAny -/
noncomputable def d46 (gs : List (List Int × Int)) : Option Bool :=
  (d45 7 gs).bind fun r =>
  some r
def sg46 : Sig := ⟨[(y32, .bw)], [(y4, .sh)]⟩
def plan46 : Plan := (.seq (.reg [] []) (.seq (.reg [] []) .nil))
theorem ev46 (xs : Vals (ptys sg46.ps)) : evF (P := Try.prog) tab [.fn E45] sg46 Try.f46.results.toList (code Try.f46) plan46 xs = d46 xs.1 := by kernel_rfl
theorem sim46 : Sim Try.prog 46 sg46 d46 := sim_ev mixd tabOK Try.func46 (code_of rfl) Try.call46 (Nat.le_of_ble_eq_true (by kernel_rfl)) (by kernel_rfl) plan46 _ fun xs y h => (ev46 xs).trans h
noncomputable def E46 : FnE Try.prog := ⟨46, sg46, d46, sim46⟩

/-- election/pile.Prefers -/
noncomputable def d60 (gs : List (List Int × Int)) (a : Int) (b : Int) : Option Int :=
  letJ (fun ((gs_1, a_1, b_1, t19) : (List (List Int × Int)) × Int × Int × Bool) =>
      bif t19 then
        some 0
      else
        (whileO (β := Int) (fun ((a_2, b_2, n, t20, t21, t22) : Int × Int × Int × (List (List Int × Int)) × Int × Int) =>
            bif (decide (t22 < t21)) then
              letJ (fun ((a_4, b_4, n_2, t20_2, t21_2, t22_2) : Int × Int × Int × (List (List Int × Int)) × Int × Int) =>
                  some (Sum.inl (a_4, b_4, n_2, t20_2, t21_2, (w (t22_2 + 1))))) fun j__2 =>
              bif (decide (0 ≤ t22) && decide (t22 < (t20.length : Int))) then
                (d52 ((List.getD t20 (Int.toNat t22) ([], 0)).1) a_2).bind fun r_1 =>
                (d52 ((List.getD t20 (Int.toNat t22) ([], 0)).1) b_2).bind fun r_2 =>
                letJ (fun ((a_3, b_3, n_1, g, t20_1, t21_1, t22_1, t44) : Int × Int × Int × (List Int × Int) × (List (List Int × Int)) × Int × Int × Bool) =>
                    bif t44 then
                      j__2 (a_3, b_3, (w (n_1 + g.2)), t20_1, t21_1, t22_1)
                    else
                      j__2 (a_3, b_3, n_1, t20_1, t21_1, t22_1)) fun j__1 =>
                bif (decide (0 ≤ r_1)) then
                  bif !(decide (r_2 < 0)) then
                    j__1 (a_2, b_2, n, (List.getD t20 (Int.toNat t22) ([], 0)), t20, t21, t22, (decide (r_1 < r_2)))
                  else
                    j__1 (a_2, b_2, n, (List.getD t20 (Int.toNat t22) ([], 0)), t20, t21, t22, true)
                else
                  j__1 (a_2, b_2, n, (List.getD t20 (Int.toNat t22) ([], 0)), t20, t21, t22, false)
              else none
            else
              some (Sum.inr n)) (a_1, b_1, 0, gs_1, (gs_1.length : Int), 0)).bind fun (n_3 : Int) =>
        some n_3) fun j_ =>
  (d46 gs).bind fun r =>
  bif !(!r) then
    j_ (gs, a, b, (decide (a = b)))
  else
    j_ (gs, a, b, true)
def sg60 : Sig := ⟨[(y32, .bw), (y2, .sh), (y2, .sh)], [(y2, .sh)]⟩
def plan60 : Plan := (.seq (.reg [] []) (.seq (.join (.reg [] []) [(0, .v y32 .bw), (1, .v y2 .sh), (2, .v y2 .sh), (19, .v y4 .sh)] (.cond (.seq (.reg [] []) .nil) .nil)) (.seq (.reg [] []) (.seq (.seq (.reg [] []) (.block (.loop [(1, .v y2 .sh), (2, .v y2 .sh), (7, .v y2 .sh), (20, .v y32 .bw), (21, .v y2 .sh), (22, .v y2 .sh)] [(.brk 0, [(7, .v y2 .sh)])] (.seq (.reg [] []) (.seq (.cond .nil .nil) (.join (.block (.seq (.reg [] []) (.seq (.reg [] []) (.join (.reg [] []) [(1, .v y2 .sh), (2, .v y2 .sh), (7, .v y2 .sh), (9, .v (.ptr y79) (.own 0 .bw)), (20, .v y32 .bw), (21, .v y2 .sh), (22, .v y2 .sh), (44, .v y4 .sh)] (.cond (.reg [] []) .nil))))) [(1, .v y2 .sh), (2, .v y2 .sh), (7, .v y2 .sh), (20, .v y32 .bw), (21, .v y2 .sh), (22, .v y2 .sh)] (.reg [] []))))))) (.seq (.reg [] []) .nil)))))
theorem ev60 (xs : Vals (ptys sg60.ps)) : evF (P := Try.prog) tab [.fn E46, .fn E52] sg60 Try.f60.results.toList (code Try.f60) plan60 xs = d60 xs.1 xs.2.1 xs.2.2.1 := by kernel_rfl
theorem sim60 : Sim Try.prog 60 sg60 d60 := sim_ev mixd tabOK Try.func60 (code_of rfl) Try.call60 (Nat.le_of_ble_eq_true (by kernel_rfl)) (by kernel_rfl) plan60 _ fun xs y h => (ev60 xs).trans h
noncomputable def E60 : FnE Try.prog := ⟨60, sg60, d60, sim60⟩

/-- election/pile.remains -/
noncomputable def d49 (remain : List Bool) (i : Int) : Option Bool :=
  bif (decide (i < (remain.length : Int))) then
    bif (decide (0 ≤ i) && decide (i < (remain.length : Int))) then
      some (List.getD remain (Int.toNat i) false)
    else none
  else
    some false
def sg49 : Sig := ⟨[(y59, .bw), (y2, .sh)], [(y4, .sh)]⟩
def plan49 : Plan := (.seq (.reg [] []) (.seq (.reg [] []) .nil))
theorem ev49 (xs : Vals (ptys sg49.ps)) : evF (P := Try.prog) tab [] sg49 Try.f49.results.toList (code Try.f49) plan49 xs = d49 xs.1 xs.2.1 := by kernel_rfl
theorem sim49 : Sim Try.prog 49 sg49 d49 := sim_ev mixd tabOK Try.func49 (code_of rfl) Try.call49 (Nat.le_of_ble_eq_true (by kernel_rfl)) (by kernel_rfl) plan49 _ fun xs y h => (ev49 xs).trans h
noncomputable def E49 : FnE Try.prog := ⟨49, sg49, d49, sim49⟩

/-- election/pile.First$1 -/
noncomputable def d48 (p : Int) (p1 : List Bool) : Option Bool :=
  (d49 p1 p).bind fun r =>
  some r
def sg48 : Sig := ⟨[(y2, .bw), ((.ptr y59), .bw)], [(y4, .sh)]⟩
def plan48 : Plan := (.seq (.reg [] []) (.seq (.reg [] []) .nil))
theorem ev48 (xs : Vals (ptys sg48.ps)) : evF (P := Try.prog) tab [.fn E49] sg48 Try.f48.results.toList (code Try.f48) plan48 xs = d48 xs.1 xs.2.1 := by kernel_rfl
theorem sim48 : Sim Try.prog 48 sg48 d48 := sim_ev mixd tabOK Try.func48 (code_of rfl) Try.call48 (Nat.le_of_ble_eq_true (by kernel_rfl)) (by kernel_rfl) plan48 _ fun xs y h => (ev48 xs).trans h
noncomputable def E48 : FnE Try.prog := ⟨48, sg48, d48, sim48⟩

/-- slices.IndexFunc[[]int,int] -/
noncomputable def d47 (s : List Int) (f : (Int → Option Bool)) : Option Int :=
  (whileO (β := Unit ⊕ Int) (fun ((s_1, f_1, t7, t8) : (List Int) × (Int → Option Bool) × Int × Int) =>
      bif (decide (t8 < t7)) then
        bif (decide (0 ≤ t8) && decide (t8 < (s_1.length : Int))) then
          (f_1 (List.getD s_1 (Int.toNat t8) 0)).bind fun r =>
          bif r then
            some (Sum.inr (Sum.inr t8))
          else
            some (Sum.inl (s_1, f_1, t7, (w (t8 + 1))))
        else none
      else
        some (Sum.inr (Sum.inl ()))) (s, f, (s.length : Int), 0)).bind fun
  | Sum.inl _ =>
    some (-1)
  | Sum.inr t4 =>
    some t4
def sg47 : Sig := ⟨[(y26, .bw), (y82, .bw)], [(y2, .sh)]⟩
def plan47 : Plan := (.seq (.reg [] []) (.seq (.seq (.reg [] []) (.block (.loop [(0, .v y26 .bw), (1, .v y82 .bw), (7, .v y2 .sh), (8, .v y2 .sh)] [(.brk 0, []), (.ret, [(4, .v y2 .sh)])] (.seq (.reg [] []) (.seq (.cond .nil .nil) (.seq (.block (.seq (.reg [] []) (.seq (.reg [] []) (.cond (.seq (.reg [] []) .nil) .nil)))) (.reg [] []))))))) (.seq (.reg [] []) .nil)))
theorem ev47 (xs : Vals (ptys sg47.ps)) : evF (P := Try.prog) tab [] sg47 Try.f47.results.toList (code Try.f47) plan47 xs = d47 xs.1 xs.2.1 := by kernel_rfl
theorem sim47 : Sim Try.prog 47 sg47 d47 := sim_ev mixd tabOK Try.func47 (code_of rfl) Try.call47 (Nat.le_of_ble_eq_true (by kernel_rfl)) (by kernel_rfl) plan47 _ fun xs y h => (ev47 xs).trans h
noncomputable def E47 : FnE Try.prog := ⟨47, sg47, d47, sim47⟩

/-- election/pile.First -/
noncomputable def d27 (gs : List (List Int × Int)) (remain : List Bool) : Option ((List Int) × Int) :=
  letJ (fun ((gs_1, remain_1, exhausted, t16) : (List (List Int × Int)) × (List Bool) × Int × Bool) =>
      bif t16 then
        some ([], 0)
      else
        bif (decide ((remain_1.length : Int) = (remain_1.length : Int)) && (decide (0 ≤ (remain_1.length : Int)) && decide ((remain_1.length : Int) ≤ LIM))) then
          (whileO (β := ((List Int) × Int)) (fun ((remain_2, votes, exhausted_1, t20, t21, t22) : (List Bool) × (List Int) × Int × (List (List Int × Int)) × Int × Int) =>
              bif (decide (t22 < t21)) then
                letJ (fun ((remain_3, votes_1, exhausted_2, t20_1, t21_1, t22_1) : (List Bool) × (List Int) × Int × (List (List Int × Int)) × Int × Int) =>
                    some (Sum.inl (remain_3, votes_1, exhausted_2, t20_1, t21_1, (w (t22_1 + 1))))) fun j__1 =>
                bif (decide (0 ≤ t22) && decide (t22 < (t20.length : Int))) then
                  (d47 ((List.getD t20 (Int.toNat t22) ([], 0)).1) (fun a => d48 a remain_2)).bind fun r_1 =>
                  bif (decide (r_1 < 0)) then
                    j__1 (remain_2, votes, (w (exhausted_1 + ((List.getD t20 (Int.toNat t22) ([], 0)).2))), t20, t21, t22)
                  else
                    bif (decide (0 ≤ r_1) && decide (r_1 < (((List.getD t20 (Int.toNat t22) ([], 0)).1).length : Int))) then
                      bif (decide (0 ≤ (List.getD ((List.getD t20 (Int.toNat t22) ([], 0)).1) (Int.toNat r_1) 0)) && decide ((List.getD ((List.getD t20 (Int.toNat t22) ([], 0)).1) (Int.toNat r_1) 0) < (votes.length : Int))) then
                        bif (decide (0 ≤ (List.getD ((List.getD t20 (Int.toNat t22) ([], 0)).1) (Int.toNat r_1) 0)) && decide ((List.getD ((List.getD t20 (Int.toNat t22) ([], 0)).1) (Int.toNat r_1) 0) < (votes.length : Int))) then
                          j__1 (remain_2, (List.set votes (Int.toNat (List.getD ((List.getD t20 (Int.toNat t22) ([], 0)).1) (Int.toNat r_1) 0)) (w ((List.getD votes (Int.toNat (List.getD ((List.getD t20 (Int.toNat t22) ([], 0)).1) (Int.toNat r_1) 0)) 0) + ((List.getD t20 (Int.toNat t22) ([], 0)).2)))), exhausted_1, t20, t21, t22)
                        else none
                      else none
                    else none
                else none
              else
                some (Sum.inr (votes, exhausted_1))) (remain_1, (List.replicate (Int.toNat (remain_1.length : Int)) 0), exhausted, gs_1, (gs_1.length : Int), 0)).bind fun ((votes_2, exhausted_3) : (List Int) × Int) =>
          some (votes_2, exhausted_3)
        else none) fun j_ =>
  (d46 gs).bind fun r =>
  bif !(!r) then
    j_ (gs, remain, 0, (decide (7 < (remain.length : Int))))
  else
    j_ (gs, remain, 0, true)
def sg27 : Sig := ⟨[(y32, .bw), (y59, .bw)], [(y26, .sh), (y2, .sh)]⟩
def plan27 : Plan := (.post (.seq (.reg [] []) (.seq (.join (.reg [] []) [(0, .v y32 .bw), (3, .v (.ptr y59) (.own 0 .bw)), (5, .v y2 .sh), (16, .v y4 .sh)] (.cond (.seq (.reg [] []) .nil) .nil)) (.seq (.reg [] []) (.seq (.seq (.reg [] []) (.block (.loop [(3, .v (.ptr y59) (.own 0 .bw)), (4, .v y26 (.own 3 .sh)), (5, .v y2 .sh), (20, .v y32 .bw), (21, .v y2 .sh), (22, .v y2 .sh)] [(.brk 0, [(4, .v y26 (.own 3 .sh)), (5, .v y2 .sh)])] (.seq (.reg [] []) (.seq (.cond .nil .nil) (.join (.block (.seq (.reg [] []) (.seq (.reg [] []) (.seq (.reg [] []) (.cond (.reg [] []) (.reg [] [])))))) [(3, .v (.ptr y59) (.own 0 .bw)), (4, .v y26 (.own 3 .sh)), (5, .v y2 .sh), (20, .v y32 .bw), (21, .v y2 .sh), (22, .v y2 .sh)] (.reg [] []))))))) (.seq (.reg [] []) .nil))))) [(4, [])])
theorem ev27 (xs : Vals (ptys sg27.ps)) : evF (P := Try.prog) tab [.fn E46, .fn E47, .fn E48] sg27 Try.f27.results.toList (code Try.f27) plan27 xs = d27 xs.1 xs.2.1 := by kernel_rfl
theorem sim27 : Sim Try.prog 27 sg27 d27 := sim_ev mixd tabOK Try.func27 (code_of rfl) Try.call27 (Nat.le_of_ble_eq_true (by kernel_rfl)) (by kernel_rfl) plan27 _ fun xs y h => (ev27 xs).trans h
noncomputable def E27 : FnE Try.prog := ⟨27, sg27, d27, sim27⟩

/-- election/assertion.votes -/
noncomputable def d61 (n : Int) (gs : List (List Int × Int)) (remaining : List Int) : Option (List Int) :=
  bif (decide (n = n) && (decide (0 ≤ n) && decide (n ≤ LIM))) then
    (whileO (β := ((List (List Int × Int)) × (List Bool))) (fun ((gs_1, remain, t14, t15, t16) : (List (List Int × Int)) × (List Bool) × (List Int) × Int × Int) =>
        bif (decide (t16 < t15)) then
          bif (decide (0 ≤ t16) && decide (t16 < (t14.length : Int))) then
            bif (decide (0 ≤ (List.getD t14 (Int.toNat t16) 0)) && decide ((List.getD t14 (Int.toNat t16) 0) < (remain.length : Int))) then
              some (Sum.inl (gs_1, (List.set remain (Int.toNat (List.getD t14 (Int.toNat t16) 0)) true), t14, t15, (w (t16 + 1))))
            else none
          else none
        else
          some (Sum.inr (gs_1, remain))) (gs, (List.replicate (Int.toNat n) false), remaining, (remaining.length : Int), 0)).bind fun ((gs_2, remain_1) : (List (List Int × Int)) × (List Bool)) =>
    (d27 gs_2 remain_1).bind fun r =>
    some r.1
  else none
def sg61 : Sig := ⟨[(y2, .sh), (y32, .bw), (y26, .bw)], [(y26, .sh)]⟩
def plan61 : Plan := (.seq (.reg [] []) (.seq (.reg [] []) (.seq (.seq (.reg [] []) (.block (.loop [(1, .v y32 .bw), (7, .v y59 (.own 4 .sh)), (14, .v y26 .bw), (15, .v y2 .sh), (16, .v y2 .sh)] [(.brk 0, [(1, .v y32 .bw), (7, .v y59 (.own 4 .sh))])] (.seq (.reg [] []) (.seq (.cond .nil .nil) (.seq (.block (.seq (.reg [] []) (.reg [] []))) (.reg [] []))))))) (.seq (.reg [] [{}, {}, {}, { fl := 1 }]) (.seq (.reg [] []) .nil)))))
theorem ev61 (xs : Vals (ptys sg61.ps)) : evF (P := Try.prog) tab [.fn E27] sg61 Try.f61.results.toList (code Try.f61) plan61 xs = d61 xs.1 xs.2.1 xs.2.2.1 := by kernel_rfl
theorem sim61 : Sim Try.prog 61 sg61 d61 := sim_ev mixd tabOK Try.func61 (code_of rfl) Try.call61 (Nat.le_of_ble_eq_true (by kernel_rfl)) (by kernel_rfl) plan61 _ fun xs y h => (ev61 xs).trans h
noncomputable def E61 : FnE Try.prog := ⟨61, sg61, d61, sim61⟩

/-- election/pile.sum[election/api.Group] -/
noncomputable def d69 (l : List (List Int × Int)) (number : ((List Int × Int) → Option Int)) : Option Int :=
  (whileO (β := Int) (fun ((number_1, n, t8, t9, t10) : ((List Int × Int) → Option Int) × Int × (List (List Int × Int)) × Int × Int) =>
      bif (decide (t10 < t9)) then
        bif (decide (0 ≤ t10) && decide (t10 < (t8.length : Int))) then
          (number_1 (List.getD t8 (Int.toNat t10) ([], 0))).bind fun r =>
          some (Sum.inl (number_1, (w (n + r)), t8, t9, (w (t10 + 1))))
        else none
      else
        some (Sum.inr n)) (number, 0, l, (l.length : Int), 0)).bind fun (n_1 : Int) =>
  some n_1
def sg69 : Sig := ⟨[(y32, .bw), (y96, .bw)], [(y2, .sh)]⟩
def plan69 : Plan := (.seq (.reg [] []) (.seq (.reg [] []) (.seq (.seq (.reg [] []) (.block (.loop [(1, .v y96 .bw), (5, .v y2 .sh), (8, .v y32 .bw), (9, .v y2 .sh), (10, .v y2 .sh)] [(.brk 0, [(5, .v y2 .sh)])] (.seq (.reg [] []) (.seq (.cond .nil .nil) (.seq (.block (.seq (.reg [] []) (.reg [] []))) (.reg [] []))))))) (.seq (.reg [] []) .nil))))
theorem ev69 (xs : Vals (ptys sg69.ps)) : evF (P := Try.prog) tab [] sg69 Try.f69.results.toList (code Try.f69) plan69 xs = d69 xs.1 xs.2.1 := by kernel_rfl
theorem sim69 : Sim Try.prog 69 sg69 d69 := sim_ev mixd tabOK Try.func69 (code_of rfl) Try.call69 (Nat.le_of_ble_eq_true (by kernel_rfl)) (by kernel_rfl) plan69 _ fun xs y h => (ev69 xs).trans h
noncomputable def E69 : FnE Try.prog := ⟨69, sg69, d69, sim69⟩

/-- election/pile.Marked$1 -/
noncomputable def d70 (g : (List Int × Int)) : Option Int :=
  bif (decide ((g.1.length : Int) = 0)) then
    some 0
  else
    some g.2
def sg70 : Sig := ⟨[(y79, .bw)], [(y2, .sh)]⟩
def plan70 : Plan := (.seq (.reg [] []) (.seq (.seq (.reg [] []) (.cond (.seq (.reg [] []) .nil) .nil)) (.seq (.reg [] []) .nil)))
theorem ev70 (xs : Vals (ptys sg70.ps)) : evF (P := Try.prog) tab [] sg70 Try.f70.results.toList (code Try.f70) plan70 xs = d70 xs.1 := by kernel_rfl
theorem sim70 : Sim Try.prog 70 sg70 d70 := sim_ev mixd tabOK Try.func70 (code_of rfl) Try.call70 (Nat.le_of_ble_eq_true (by kernel_rfl)) (by kernel_rfl) plan70 _ fun xs y h => (ev70 xs).trans h
noncomputable def E70 : FnE Try.prog := ⟨70, sg70, d70, sim70⟩

/-- election/pile.Marked -/
noncomputable def d62 (gs : List (List Int × Int)) : Option Int :=
  (d46 gs).bind fun r =>
  bif !r then
    some 0
  else
    (d69 gs (fun a => d70 a)).bind fun r_1 =>
    some r_1
def sg62 : Sig := ⟨[(y32, .bw)], [(y2, .sh)]⟩
def plan62 : Plan := (.seq (.reg [] []) (.seq (.seq (.reg [] []) (.cond (.seq (.reg [] []) .nil) .nil)) (.seq (.reg [] []) .nil)))
theorem ev62 (xs : Vals (ptys sg62.ps)) : evF (P := Try.prog) tab [.fn E46, .fn E69, .fn E70] sg62 Try.f62.results.toList (code Try.f62) plan62 xs = d62 xs.1 := by kernel_rfl
theorem sim62 : Sim Try.prog 62 sg62 d62 := sim_ev mixd tabOK Try.func62 (code_of rfl) Try.call62 (Nat.le_of_ble_eq_true (by kernel_rfl)) (by kernel_rfl) plan62 _ fun xs y h => (ev62 xs).trans h
noncomputable def E62 : FnE Try.prog := ⟨62, sg62, d62, sim62⟩

/-- election/assertion.Tally -/
noncomputable def d44 (n : Int) (gs : List (List Int × Int)) (a : (Int × (Int × (Int × (List Int × Int))))) : Option (Int × Int) :=
  letJ (fun ((n_1, gs_1, a_1, t18) : Int × (List (List Int × Int)) × (Int × (Int × (Int × (List Int × Int)))) × Bool) =>
      bif t18 then
        some (0, 0)
      else
        bif (decide (a_1.1 = 1)) then
          (d59 gs_1 a_1.2.1).bind fun r_2 =>
          (d60 gs_1 a_1.2.2.1 a_1.2.1).bind fun r_3 =>
          some (r_2, r_3)
        else
          bif (decide (a_1.1 = 2)) then
            (d61 n_1 gs_1 a_1.2.2.2.1).bind fun r_4 =>
            bif (decide (0 ≤ a_1.2.1) && decide (a_1.2.1 < (r_4.length : Int))) then
              bif (decide (0 ≤ a_1.2.2.1) && decide (a_1.2.2.1 < (r_4.length : Int))) then
                some ((List.getD r_4 (Int.toNat a_1.2.1) 0), (List.getD r_4 (Int.toNat a_1.2.2.1) 0))
              else none
            else none
          else
            (d59 gs_1 a_1.2.1).bind fun r_5 =>
            (d62 gs_1).bind fun r_6 =>
            some ((w (a_1.2.2.2.2 * r_5)), r_6)) fun j_ =>
  (d37 n a).bind fun r =>
  bif !(!r) then
    (d26 n gs).bind fun r_1 =>
    j_ (n, gs, a, !r_1)
  else
    j_ (n, gs, a, true)
def sg44 : Sig := ⟨[(y2, .sh), (y32, .bw), (y37, .bw)], [(y2, .sh), (y2, .sh)]⟩
def plan44 : Plan := (.seq (.reg [] []) (.seq (.join (.reg [] []) [(0, .v y2 .sh), (1, .v y32 .bw), (5, .v (.ptr y37) (.own 0 .bw)), (18, .v y4 .sh)] (.cond (.seq (.reg [] []) .nil) .nil)) (.seq (.seq (.reg [] []) (.block (.seq (.reg [] []) (.cond (.seq (.reg [] []) .nil) (.seq (.reg [] []) (.cond (.seq (.reg [] []) (.seq (.reg [] []) .nil)) .nil)))))) (.seq (.reg [] []) .nil))))
theorem ev44 (xs : Vals (ptys sg44.ps)) : evF (P := Try.prog) tab [.fn E37, .fn E26, .fn E59, .fn E60, .fn E61, .fn E62] sg44 Try.f44.results.toList (code Try.f44) plan44 xs = d44 xs.1 xs.2.1 xs.2.2.1 := by kernel_rfl
theorem sim44 : Sim Try.prog 44 sg44 d44 := sim_ev mixd tabOK Try.func44 (code_of rfl) Try.call44 (Nat.le_of_ble_eq_true (by kernel_rfl)) (by kernel_rfl) plan44 _ fun xs y h => (ev44 xs).trans h
noncomputable def E44 : FnE Try.prog := ⟨44, sg44, d44, sim44⟩

/-- election/assertion.Margin -/
noncomputable def d24 (n : Int) (gs : List (List Int × Int)) (a : (Int × (Int × (Int × (List Int × Int))))) : Option Int :=
  (d44 n gs a).bind fun r =>
  some (w (r.1 - r.2))
def sg24 : Sig := ⟨[(y2, .sh), (y32, .bw), (y37, .bw)], [(y2, .sh)]⟩
def plan24 : Plan := (.seq (.reg [] []) (.seq (.reg [] [{}, {}, {}, {}, { fl := 1 }]) (.seq (.reg [] []) .nil)))
theorem ev24 (xs : Vals (ptys sg24.ps)) : evF (P := Try.prog) tab [.fn E44] sg24 Try.f24.results.toList (code Try.f24) plan24 xs = d24 xs.1 xs.2.1 xs.2.2.1 := by kernel_rfl
theorem sim24 : Sim Try.prog 24 sg24 d24 := sim_ev mixd tabOK Try.func24 (code_of rfl) Try.call24 (Nat.le_of_ble_eq_true (by kernel_rfl)) (by kernel_rfl) plan24 _ fun xs y h => (ev24 xs).trans h
noncomputable def E24 : FnE Try.prog := ⟨24, sg24, d24, sim24⟩

/-- election/assertion.Holds -/
noncomputable def d12 (n : Int) (gs : List (List Int × Int)) (a : (Int × (Int × (Int × (List Int × Int))))) : Option Bool :=
  (d24 n gs a).bind fun r =>
  some (decide (0 < r))
def sg12 : Sig := ⟨[(y2, .sh), (y32, .bw), (y37, .bw)], [(y4, .sh)]⟩
def plan12 : Plan := (.seq (.reg [] []) (.seq (.reg [] []) .nil))
theorem ev12 (xs : Vals (ptys sg12.ps)) : evF (P := Try.prog) tab [.fn E24] sg12 Try.f12.results.toList (code Try.f12) plan12 xs = d12 xs.1 xs.2.1 xs.2.2.1 := by kernel_rfl
theorem sim12 : Sim Try.prog 12 sg12 d12 := sim_ev mixd tabOK Try.func12 (code_of rfl) Try.call12 (Nat.le_of_ble_eq_true (by kernel_rfl)) (by kernel_rfl) plan12 _ fun xs y h => (ev12 xs).trans h
noncomputable def E12 : FnE Try.prog := ⟨12, sg12, d12, sim12⟩

/-- election/irv.Possible -/
noncomputable def d14 (p0 : Int) (p1 : List (List Int × Int)) : Option (List Int) :=
  (d26 p0 p1).bind fun r =>
  bif !r then
    some []
  else
    bif (decide (0 ≤ p0)) then
      bif (decide ((w (1 * 2 ^ (min (Int.toNat p0) 64))) = (w (1 * 2 ^ (min (Int.toNat p0) 64)))) && (decide (0 ≤ (w (1 * 2 ^ (min (Int.toNat p0) 64)))) && decide ((w (1 * 2 ^ (min (Int.toNat p0) 64))) ≤ LIM))) then
        bif (decide (0 ≤ p0)) then
          bif (decide (0 ≤ (w ((w (1 * 2 ^ (min (Int.toNat p0) 64))) - 1))) && decide ((w ((w (1 * 2 ^ (min (Int.toNat p0) 64))) - 1)) < ((List.replicate (Int.toNat (w (1 * 2 ^ (min (Int.toNat p0) 64)))) false).length : Int))) then
            bif (decide (0 ≤ p0)) then
              (whileO (β := (Int × (List Bool))) (fun ((t0, t1, t5, t6) : Int × (List (List Int × Int)) × (List Bool) × Int) =>
                  bif (decide (0 < t6)) then
                    letJ (fun ((t0_9, t1_9, t5_9, t6_9) : Int × (List (List Int × Int)) × (List Bool) × Int) =>
                        some (Sum.inl (t0_9, t1_9, t5_9, (w (t6_9 - 1))))) fun j__2 =>
                    bif (decide (0 ≤ t6) && decide (t6 < (t5.length : Int))) then
                      bif !(List.getD t5 (Int.toNat t6) false) then
                        j__2 (t0, t1, t5, t6)
                      else
                        bif (decide (t0 = t0) && (decide (0 ≤ t0) && decide (t0 ≤ LIM))) then
                          (whileO (β := (Int × (List (List Int × Int)) × (List Bool) × Int × (List Bool))) (fun ((t0_1, t1_1, t5_1, t6_1, t7, t43, t44) : Int × (List (List Int × Int)) × (List Bool) × Int × (List Bool) × Int × Int) =>
                              bif (decide (t44 < t43)) then
                                bif (decide (0 ≤ t44)) then
                                  bif (decide (0 ≤ t44) && decide (t44 < (t7.length : Int))) then
                                    some (Sum.inl (t0_1, t1_1, t5_1, t6_1, (List.set t7 (Int.toNat t44) (decide ((w ((BitVec.ofInt 64 (w (Int.fdiv t6_1 (2 ^ (min (Int.toNat t44) 64)))) &&& BitVec.ofInt 64 1).toNat : Int)) = 1))), t43, (w (t44 + 1))))
                                  else none
                                else none
                              else
                                some (Sum.inr (t0_1, t1_1, t5_1, t6_1, t7))) (t0, t1, t5, t6, (List.replicate (Int.toNat t0) false), ((List.replicate (Int.toNat t0) false).length : Int), 0)).bind fun ((t0_2, t1_2, t5_2, t6_2, t7_1) : Int × (List (List Int × Int)) × (List Bool) × Int × (List Bool)) =>
                          (d27 t1_2 t7_1).bind fun r_1 =>
                          (whileO (β := (Int × (List (List Int × Int)) × (List Bool) × Int)) (fun ((t0_3, t1_3, t5_3, t6_3, t7_2, t9, t63, t64) : Int × (List (List Int × Int)) × (List Bool) × Int × (List Bool) × (List Int) × Int × Int) =>
                              bif (decide (t64 < t63)) then
                                letJ (fun ((t0_7, t1_7, t5_7, t6_7, t7_6, t9_4, t63_4, t64_4) : Int × (List (List Int × Int)) × (List Bool) × Int × (List Bool) × (List Int) × Int × Int) =>
                                    some (Sum.inl (t0_7, t1_7, t5_7, t6_7, t7_6, t9_4, t63_4, (w (t64_4 + 1))))) fun j__1 =>
                                bif (decide (0 ≤ t64) && decide (t64 < (t7_2.length : Int))) then
                                  (whileO (β := (Int × (List (List Int × Int)) × (List Bool) × Int × (List Bool) × (List Int) × Int × Bool × Int × Int)) (fun ((t0_4, t1_4, t5_4, t6_4, t7_3, t9_1, t11, t12, t63_1, t64_1, t72, t73) : Int × (List (List Int × Int)) × (List Bool) × Int × (List Bool) × (List Int) × Int × Bool × Int × Int × Int × Int) =>
                                      bif (decide (t73 < t72)) then
                                        letJ (fun ((t0_5, t1_5, t5_5, t6_5, t7_4, t9_2, t11_1, t12_1, t63_2, t64_2, t72_1, t73_1) : Int × (List (List Int × Int)) × (List Bool) × Int × (List Bool) × (List Int) × Int × Bool × Int × Int × Int × Int) =>
                                            some (Sum.inl (t0_5, t1_5, t5_5, t6_5, t7_4, t9_2, t11_1, t12_1, t63_2, t64_2, t72_1, (w (t73_1 + 1))))) fun j_ =>
                                        bif t12 then
                                          bif (decide (0 ≤ t73) && decide (t73 < (t7_3.length : Int))) then
                                            bif !(!(List.getD t7_3 (Int.toNat t73) false)) then
                                              bif (decide (0 ≤ t11) && decide (t11 < (t9_1.length : Int))) then
                                                bif (decide (0 ≤ t73) && decide (t73 < (t9_1.length : Int))) then
                                                  j_ (t0_4, t1_4, t5_4, t6_4, t7_3, t9_1, t11, (decide ((List.getD t9_1 (Int.toNat t11) 0) ≤ (List.getD t9_1 (Int.toNat t73) 0))), t63_1, t64_1, t72, t73)
                                                else none
                                              else none
                                            else
                                              j_ (t0_4, t1_4, t5_4, t6_4, t7_3, t9_1, t11, true, t63_1, t64_1, t72, t73)
                                          else none
                                        else
                                          j_ (t0_4, t1_4, t5_4, t6_4, t7_3, t9_1, t11, false, t63_1, t64_1, t72, t73)
                                      else
                                        some (Sum.inr (t0_4, t1_4, t5_4, t6_4, t7_3, t9_1, t11, t12, t63_1, t64_1))) (t0_3, t1_3, t5_3, t6_3, t7_2, t9, t64, (List.getD t7_2 (Int.toNat t64) false), t63, t64, (t9.length : Int), 0)).bind fun ((t0_6, t1_6, t5_6, t6_6, t7_5, t9_3, t11_2, t12_2, t63_3, t64_3) : Int × (List (List Int × Int)) × (List Bool) × Int × (List Bool) × (List Int) × Int × Bool × Int × Int) =>
                                  bif t12_2 then
                                    bif (decide (0 ≤ t11_2)) then
                                      bif (decide (0 ≤ (w ((BitVec.ofInt 64 t6_6 &&& ~~~(BitVec.ofInt 64 (w (1 * 2 ^ (min (Int.toNat t11_2) 64))))).toNat : Int))) && decide ((w ((BitVec.ofInt 64 t6_6 &&& ~~~(BitVec.ofInt 64 (w (1 * 2 ^ (min (Int.toNat t11_2) 64))))).toNat : Int)) < (t5_6.length : Int))) then
                                        j__1 (t0_6, t1_6, (List.set t5_6 (Int.toNat (w ((BitVec.ofInt 64 t6_6 &&& ~~~(BitVec.ofInt 64 (w (1 * 2 ^ (min (Int.toNat t11_2) 64))))).toNat : Int))) true), t6_6, t7_5, t9_3, t63_3, t64_3)
                                      else none
                                    else none
                                  else
                                    j__1 (t0_6, t1_6, t5_6, t6_6, t7_5, t9_3, t63_3, t64_3)
                                else none
                              else
                                some (Sum.inr (t0_3, t1_3, t5_3, t6_3))) (t0_2, t1_2, t5_2, t6_2, t7_1, r_1.1, (r_1.1.length : Int), 0)).bind fun ((t0_8, t1_8, t5_8, t6_8) : Int × (List (List Int × Int)) × (List Bool) × Int) =>
                          j__2 (t0_8, t1_8, t5_8, t6_8)
                        else none
                    else none
                  else
                    some (Sum.inr (t0, t5))) (p0, p1, (List.set (List.replicate (Int.toNat (w (1 * 2 ^ (min (Int.toNat p0) 64)))) false) (Int.toNat (w ((w (1 * 2 ^ (min (Int.toNat p0) 64))) - 1))) true), (w ((w (1 * 2 ^ (min (Int.toNat p0) 64))) - 1)))).bind fun ((t0_10, t5_10) : Int × (List Bool)) =>
              (whileO (β := (List Int)) (fun ((t5_11, t14, t104, t105) : (List Bool) × (List Int) × Int × Int) =>
                  bif (decide (t105 < t104)) then
                    letJ (fun ((t5_12, t14_1, t104_1, t105_1) : (List Bool) × (List Int) × Int × Int) =>
                        some (Sum.inl (t5_12, t14_1, t104_1, (w (t105_1 + 1))))) fun j__3 =>
                    bif (decide (0 ≤ t105)) then
                      bif (decide (0 ≤ (w (1 * 2 ^ (min (Int.toNat t105) 64)))) && decide ((w (1 * 2 ^ (min (Int.toNat t105) 64))) < (t5_11.length : Int))) then
                        bif (List.getD t5_11 (Int.toNat (w (1 * 2 ^ (min (Int.toNat t105) 64)))) false) then
                          bif (decide ((t14.length : Int) + (([t105] : List Int).length : Int) ≤ LIM)) then
                            j__3 (t5_11, (t14 ++ [t105]), t104, t105)
                          else none
                        else
                          j__3 (t5_11, t14, t104, t105)
                      else none
                    else none
                  else
                    some (Sum.inr t14)) (t5_10, [], t0_10, 0)).bind fun (t14_2 : List Int) =>
              some t14_2
            else none
          else none
        else none
      else none
    else none
def sg14 : Sig := ⟨[(y2, .sh), (y32, .bw)], [(y26, .sh)]⟩
def plan14 : Plan := (.post (.seq (.reg [] []) (.seq (.seq (.reg [] []) (.cond (.seq (.reg [] []) .nil) .nil)) (.seq (.reg [] []) (.seq (.reg [] []) (.seq (.seq (.reg [] []) (.block (.loop [(0, .v y2 .sh), (1, .v y32 .bw), (5, .v y59 (.own 4 .sh)), (6, .v y2 .sh)] [(.brk 0, [(0, .v y2 .sh), (5, .v y59 (.own 4 .sh))])] (.seq (.seq (.reg [] []) (.cond .nil .nil)) (.join (.block (.seq (.seq (.reg [] []) (.cond .nil .nil)) (.seq (.reg [] []) (.seq (.seq (.reg [] []) (.block (.loop [(0, .v y2 .sh), (1, .v y32 .bw), (5, .v y59 (.own 4 .sh)), (6, .v y2 .sh), (7, .v y59 (.own 4 .sh)), (43, .v y2 .sh), (44, .v y2 .sh)] [(.brk 2, [(0, .v y2 .sh), (1, .v y32 .bw), (5, .v y59 (.own 4 .sh)), (6, .v y2 .sh), (7, .v y59 (.own 4 .sh))])] (.seq (.reg [] []) (.seq (.cond .nil .nil) (.seq (.block (.seq (.reg [] []) (.reg [] []))) (.reg [] []))))))) (.seq (.reg [] [{}, {}, {}, { fl := 1 }]) (.seq (.reg [] []) (.block (.loop [(0, .v y2 .sh), (1, .v y32 .bw), (5, .v y59 (.own 4 .sh)), (6, .v y2 .sh), (7, .v y59 (.own 4 .sh)), (9, .v y26 .sh), (63, .v y2 .sh), (64, .v y2 .sh)] [(.brk 4, [(0, .v y2 .sh), (1, .v y32 .bw), (5, .v y59 (.own 4 .sh)), (6, .v y2 .sh)])] (.seq (.reg [] []) (.seq (.cond .nil .nil) (.join (.block (.seq (.reg [] []) (.seq (.reg [] []) (.seq (.seq (.reg [] []) (.block (.loop [(0, .v y2 .sh), (1, .v y32 .bw), (5, .v y59 (.own 4 .sh)), (6, .v y2 .sh), (7, .v y59 (.own 4 .sh)), (9, .v y26 .sh), (11, .v y2 .sh), (12, .v y4 .sh), (63, .v y2 .sh), (64, .v y2 .sh), (72, .v y2 .sh), (73, .v y2 .sh)] [(.brk 6, [(0, .v y2 .sh), (1, .v y32 .bw), (5, .v y59 (.own 4 .sh)), (6, .v y2 .sh), (7, .v y59 (.own 4 .sh)), (9, .v y26 .sh), (11, .v y2 .sh), (12, .v y4 .sh), (63, .v y2 .sh), (64, .v y2 .sh)])] (.seq (.reg [] []) (.seq (.cond .nil .nil) (.join (.block (.seq (.reg [] []) (.reg [] []))) [(0, .v y2 .sh), (1, .v y32 .bw), (5, .v y59 (.own 4 .sh)), (6, .v y2 .sh), (7, .v y59 (.own 4 .sh)), (9, .v y26 .sh), (11, .v y2 .sh), (12, .v y4 .sh), (63, .v y2 .sh), (64, .v y2 .sh), (72, .v y2 .sh), (73, .v y2 .sh)] (.reg [] []))))))) (.seq (.reg [] []) (.cond (.reg [] []) .nil)))))) [(0, .v y2 .sh), (1, .v y32 .bw), (5, .v y59 (.own 4 .sh)), (6, .v y2 .sh), (7, .v y59 (.own 4 .sh)), (9, .v y26 .sh), (63, .v y2 .sh), (64, .v y2 .sh)] (.reg [] [])))))))))))) [(0, .v y2 .sh), (1, .v y32 .bw), (5, .v y59 (.own 4 .sh)), (6, .v y2 .sh)] (.reg [] [])))))) (.seq (.reg [] [{ fl := 2 }]) (.seq (.seq (.reg [] []) (.block (.loop [(5, .v y59 (.own 4 .sh)), (14, .v y26 (.own 3 .sh)), (104, .v y2 .sh), (105, .v y2 .sh)] [(.brk 8, [(14, .v y26 (.own 3 .sh))])] (.seq (.reg [] []) (.seq (.cond .nil .nil) (.join (.block (.seq (.reg [] []) (.seq (.reg [] []) (.cond (.reg [] []) .nil)))) [(5, .v y59 (.own 4 .sh)), (14, .v y26 (.own 3 .sh)), (104, .v y2 .sh), (105, .v y2 .sh)] (.reg [] []))))))) (.seq (.reg [] []) .nil)))))))) [(4, [])])
theorem ev14 (xs : Vals (ptys sg14.ps)) : evF (P := Try.prog) tab [.fn E26, .fn E27] sg14 Try.f14.results.toList (code Try.f14) plan14 xs = d14 xs.1 xs.2.1 := by kernel_rfl
theorem sim14 : Sim Try.prog 14 sg14 d14 := sim_ev mixd tabOK Try.func14 (code_of rfl) Try.call14 (Nat.le_of_ble_eq_true (by kernel_rfl)) (by kernel_rfl) plan14 _ fun xs y h => (ev14 xs).trans h
noncomputable def E14 : FnE Try.prog := ⟨14, sg14, d14, sim14⟩

/-- election/assertion.isTail -/
noncomputable def d64 (n : Int) (tail : List Int) : Option Bool :=
  (whileO (β := (List Int) ⊕ Bool) (fun ((n_1, tail_1, t7, t8, t9) : Int × (List Int) × (List Int) × Int × Int) =>
      bif (decide (t9 < t8)) then
        bif (decide (0 ≤ t9) && decide (t9 < (t7.length : Int))) then
          letJ (fun ((n_2, tail_2, t7_1, t8_1, t9_1, t27) : Int × (List Int) × (List Int) × Int × Int × Bool) =>
              bif t27 then
                some (Sum.inr (Sum.inr false))
              else
                some (Sum.inl (n_2, tail_2, t7_1, t8_1, (w (t9_1 + 1))))) fun j_ =>
          bif !(decide ((List.getD t7 (Int.toNat t9) 0) < 0)) then
            bif !(decide (n_1 ≤ (List.getD t7 (Int.toNat t9) 0))) then
              bif (cutOK 0 t9 tail_1.length) then
                (d30 (List.drop 0 (List.take (Int.toNat t9) tail_1)) (List.getD t7 (Int.toNat t9) 0)).bind fun r =>
                j_ (n_1, tail_1, t7, t8, t9, r)
              else none
            else
              j_ (n_1, tail_1, t7, t8, t9, true)
          else
            j_ (n_1, tail_1, t7, t8, t9, true)
        else none
      else
        some (Sum.inr (Sum.inl tail_1))) (n, tail, tail, (tail.length : Int), 0)).bind fun
  | Sum.inl tail_3 =>
    some (decide (0 < (tail_3.length : Int)))
  | Sum.inr t4 =>
    some t4
def sg64 : Sig := ⟨[(y2, .sh), (y26, .bw)], [(y4, .sh)]⟩
def plan64 : Plan := (.seq (.reg [] []) (.seq (.seq (.reg [] []) (.block (.loop [(0, .v y2 .sh), (1, .v y26 .bw), (7, .v y26 .bw), (8, .v y2 .sh), (9, .v y2 .sh)] [(.brk 0, [(1, .v y26 .bw)]), (.ret, [(4, .v y4 .sh)])] (.seq (.reg [] []) (.seq (.cond .nil .nil) (.seq (.block (.seq (.reg [] []) (.join (.reg [] []) [(0, .v y2 .sh), (1, .v y26 .bw), (7, .v y26 .bw), (8, .v y2 .sh), (9, .v y2 .sh), (27, .v y4 .sh)] (.cond (.seq (.reg [] []) .nil) .nil)))) (.reg [] []))))))) (.seq (.reg [] []) .nil)))
theorem ev64 (xs : Vals (ptys sg64.ps)) : evF (P := Try.prog) tab [.fn E30] sg64 Try.f64.results.toList (code Try.f64) plan64 xs = d64 xs.1 xs.2.1 := by kernel_rfl
theorem sim64 : Sim Try.prog 64 sg64 d64 := sim_ev mixd tabOK Try.func64 (code_of rfl) Try.call64 (Nat.le_of_ble_eq_true (by kernel_rfl)) (by kernel_rfl) plan64 _ fun xs y h => (ev64 xs).trans h
noncomputable def E64 : FnE Try.prog := ⟨64, sg64, d64, sim64⟩

/-- slices.Equal[[]int,int] -/
noncomputable def d65 (s1 : List Int) (s2 : List Int) : Option Bool :=
  bif !(decide ((s1.length : Int) = (s2.length : Int))) then
    some false
  else
    (whileO (β := Unit ⊕ Bool) (fun ((s1_1, s2_1, t12, t13) : (List Int) × (List Int) × Int × Int) =>
        bif (decide (t13 < t12)) then
          bif (decide (0 ≤ t13) && decide (t13 < (s1_1.length : Int))) then
            bif (decide (0 ≤ t13) && decide (t13 < (s2_1.length : Int))) then
              bif !(decide ((List.getD s1_1 (Int.toNat t13) 0) = (List.getD s2_1 (Int.toNat t13) 0))) then
                some (Sum.inr (Sum.inr false))
              else
                some (Sum.inl (s1_1, s2_1, t12, (w (t13 + 1))))
            else none
          else none
        else
          some (Sum.inr (Sum.inl ()))) (s1, s2, (s1.length : Int), 0)).bind fun
    | Sum.inl _ =>
      some true
    | Sum.inr t4 =>
      some t4
def sg65 : Sig := ⟨[(y26, .bw), (y26, .bw)], [(y4, .sh)]⟩
def plan65 : Plan := (.seq (.reg [] []) (.seq (.seq (.reg [] []) (.cond (.seq (.reg [] []) .nil) .nil)) (.seq (.seq (.reg [] []) (.block (.loop [(0, .v y26 .bw), (1, .v y26 .bw), (12, .v y2 .sh), (13, .v y2 .sh)] [(.brk 0, []), (.ret, [(4, .v y4 .sh)])] (.seq (.reg [] []) (.seq (.cond .nil .nil) (.seq (.block (.seq (.reg [] []) (.seq (.reg [] []) (.cond (.seq (.reg [] []) .nil) .nil)))) (.reg [] []))))))) (.seq (.reg [] []) .nil))))
theorem ev65 (xs : Vals (ptys sg65.ps)) : evF (P := Try.prog) tab [] sg65 Try.f65.results.toList (code Try.f65) plan65 xs = d65 xs.1 xs.2.1 := by kernel_rfl
theorem sim65 : Sim Try.prog 65 sg65 d65 := sim_ev mixd tabOK Try.func65 (code_of rfl) Try.call65 (Nat.le_of_ble_eq_true (by kernel_rfl)) (by kernel_rfl) plan65 _ fun xs y h => (ev65 xs).trans h
noncomputable def E65 : FnE Try.prog := ⟨65, sg65, d65, sim65⟩

/-- election/assertion.Contradicts -/
noncomputable def d51 (p0 : Int) (p1 : (Int × (Int × (Int × (List Int × Int))))) (p2 : List Int) : Option Bool :=
  letJ (fun ((t2, t4, t18) : (List Int) × (Int × (Int × (Int × (List Int × Int)))) × Bool) =>
      bif t18 then
        some false
      else
        bif (decide (t4.1 = 1)) then
          (d52 t2 t4.2.2.1).bind fun r_2 =>
          bif (decide (0 ≤ r_2)) then
            bif (cutOK r_2 (t2.length : Int) t2.length) then
              (d30 (List.drop (Int.toNat r_2) (List.take (Int.toNat (t2.length : Int)) t2)) t4.2.1).bind fun r_3 =>
              some (!r_3)
            else none
          else
            some false
        else
          bif (decide (t4.1 = 2)) then
            bif (decide (0 ≤ (w ((t2.length : Int) - (t4.2.2.2.1.length : Int))))) then
              bif (decide (0 ≤ (w ((t2.length : Int) - (t4.2.2.2.1.length : Int)))) && decide ((w ((t2.length : Int) - (t4.2.2.2.1.length : Int))) < (t2.length : Int))) then
                bif (decide ((List.getD t2 (Int.toNat (w ((t2.length : Int) - (t4.2.2.2.1.length : Int)))) 0) = t4.2.1)) then
                  bif (cutOK (w ((t2.length : Int) - (t4.2.2.2.1.length : Int))) (t2.length : Int) t2.length) then
                    (bif decide (((List.drop (Int.toNat (w ((t2.length : Int) - (t4.2.2.2.1.length : Int)))) (List.take (Int.toNat (t2.length : Int)) t2)).length : Int) ≤ LIM) then some () else none).bind fun u =>
                    (d65 (sortI (List.drop (Int.toNat (w ((t2.length : Int) - (t4.2.2.2.1.length : Int)))) (List.take (Int.toNat (t2.length : Int)) t2))) t4.2.2.2.1).bind fun r_4 =>
                    some r_4
                  else none
                else
                  some false
              else none
            else
              some false
          else
            some false) fun j_ =>
  (d37 p0 p1).bind fun r =>
  bif !(!r) then
    (d64 p0 p2).bind fun r_1 =>
    j_ (p2, p1, !r_1)
  else
    j_ (p2, p1, true)
def sg51 : Sig := ⟨[(y2, .sh), (y37, .bw), (y26, .bw)], [(y4, .sh)]⟩
def plan51 : Plan := (.seq (.reg [] []) (.seq (.join (.reg [] []) [(2, .v y26 .bw), (4, .v (.ptr y37) (.own 0 .bw)), (18, .v y4 .sh)] (.cond (.seq (.reg [] []) .nil) .nil)) (.seq (.seq (.reg [] []) (.block (.seq (.reg [] []) (.cond (.seq (.reg [] []) (.seq (.reg [] []) .nil)) (.seq (.reg [] []) (.cond (.seq (.reg [] []) (.seq (.reg [] []) .nil)) .nil)))))) (.seq (.reg [] []) .nil))))
theorem ev51 (xs : Vals (ptys sg51.ps)) : evF (P := Try.prog) tab [.fn E37, .fn E64, .fn E52, .fn E30, .sq sqE, .fn E65] sg51 Try.f51.results.toList (code Try.f51) plan51 xs = d51 xs.1 xs.2.1 xs.2.2.1 := by kernel_rfl
theorem sim51 : Sim Try.prog 51 sg51 d51 := sim_ev mixd tabOK Try.func51 (code_of rfl) Try.call51 (Nat.le_of_ble_eq_true (by kernel_rfl)) (by kernel_rfl) plan51 _ fun xs y h => (ev51 xs).trans h
noncomputable def E51 : FnE Try.prog := ⟨51, sg51, d51, sim51⟩

/-- election/suffice.contradicted$1 -/
noncomputable def d50 (a : (Int × (Int × (Int × (List Int × Int))))) (p1 : Int) (p2 : List Int) : Option Bool :=
  (d51 p1 a p2).bind fun r =>
  some r
def sg50 : Sig := ⟨[(y37, .bw), ((.ptr y2), .bw), ((.ptr y26), .bw)], [(y4, .sh)]⟩
def plan50 : Plan := (.seq (.reg [] []) (.seq (.reg [] []) .nil))
theorem ev50 (xs : Vals (ptys sg50.ps)) : evF (P := Try.prog) tab [.fn E51] sg50 Try.f50.results.toList (code Try.f50) plan50 xs = d50 xs.1 xs.2.1 xs.2.2.1 := by kernel_rfl
theorem sim50 : Sim Try.prog 50 sg50 d50 := sim_ev mixd tabOK Try.func50 (code_of rfl) Try.call50 (Nat.le_of_ble_eq_true (by kernel_rfl)) (by kernel_rfl) plan50 _ fun xs y h => (ev50 xs).trans h
noncomputable def E50 : FnE Try.prog := ⟨50, sg50, d50, sim50⟩

/-- slices.IndexFunc[[]election/api.Assertion,election/api.Assertion] -/
noncomputable def d57 (s : List (Int × (Int × (Int × (List Int × Int))))) (f : ((Int × (Int × (Int × (List Int × Int)))) → Option Bool)) : Option Int :=
  (whileO (β := Unit ⊕ Int) (fun ((s_1, f_1, t7, t8) : (List (Int × (Int × (Int × (List Int × Int))))) × ((Int × (Int × (Int × (List Int × Int)))) → Option Bool) × Int × Int) =>
      bif (decide (t8 < t7)) then
        bif (decide (0 ≤ t8) && decide (t8 < (s_1.length : Int))) then
          (f_1 (List.getD s_1 (Int.toNat t8) (0, 0, 0, [], 0))).bind fun r =>
          bif r then
            some (Sum.inr (Sum.inr t8))
          else
            some (Sum.inl (s_1, f_1, t7, (w (t8 + 1))))
        else none
      else
        some (Sum.inr (Sum.inl ()))) (s, f, (s.length : Int), 0)).bind fun
  | Sum.inl _ =>
    some (-1)
  | Sum.inr t4 =>
    some t4
def sg57 : Sig := ⟨[(y24, .bw), (y71, .bw)], [(y2, .sh)]⟩
def plan57 : Plan := (.seq (.reg [] []) (.seq (.seq (.reg [] []) (.block (.loop [(0, .v y24 .bw), (1, .v y71 .bw), (7, .v y2 .sh), (8, .v y2 .sh)] [(.brk 0, []), (.ret, [(4, .v y2 .sh)])] (.seq (.reg [] []) (.seq (.cond .nil .nil) (.seq (.block (.seq (.reg [] []) (.seq (.reg [] []) (.cond (.seq (.reg [] []) .nil) .nil)))) (.reg [] []))))))) (.seq (.reg [] []) .nil)))
theorem ev57 (xs : Vals (ptys sg57.ps)) : evF (P := Try.prog) tab [] sg57 Try.f57.results.toList (code Try.f57) plan57 xs = d57 xs.1 xs.2.1 := by kernel_rfl
theorem sim57 : Sim Try.prog 57 sg57 d57 := sim_ev mixd tabOK Try.func57 (code_of rfl) Try.call57 (Nat.le_of_ble_eq_true (by kernel_rfl)) (by kernel_rfl) plan57 _ fun xs y h => (ev57 xs).trans h
noncomputable def E57 : FnE Try.prog := ⟨57, sg57, d57, sim57⟩

/-- slices.ContainsFunc[[]election/api.Assertion,election/api.Assertion] -/
noncomputable def d38 (s : List (Int × (Int × (Int × (List Int × Int))))) (f : ((Int × (Int × (Int × (List Int × Int)))) → Option Bool)) : Option Bool :=
  (d57 s f).bind fun r =>
  some (decide (0 ≤ r))
def sg38 : Sig := ⟨[(y24, .bw), (y71, .bw)], [(y4, .sh)]⟩
def plan38 : Plan := (.seq (.reg [] []) (.seq (.reg [] []) .nil))
theorem ev38 (xs : Vals (ptys sg38.ps)) : evF (P := Try.prog) tab [.fn E57] sg38 Try.f38.results.toList (code Try.f38) plan38 xs = d38 xs.1 xs.2.1 := by kernel_rfl
theorem sim38 : Sim Try.prog 38 sg38 d38 := sim_ev mixd tabOK Try.func38 (code_of rfl) Try.call38 (Nat.le_of_ble_eq_true (by kernel_rfl)) (by kernel_rfl) plan38 _ fun xs y h => (ev38 xs).trans h
noncomputable def E38 : FnE Try.prog := ⟨38, sg38, d38, sim38⟩

/-- election/suffice.contradicted -/
noncomputable def d29 (n : Int) (l : List (Int × (Int × (Int × (List Int × Int))))) (tail : List Int) : Option Bool :=
  (d38 l (fun a => d50 a n tail)).bind fun r =>
  some r
def sg29 : Sig := ⟨[(y2, .sh), (y24, .bw), (y26, .bw)], [(y4, .sh)]⟩
def plan29 : Plan := (.seq (.reg [] []) (.seq (.reg [] []) .nil))
theorem ev29 (xs : Vals (ptys sg29.ps)) : evF (P := Try.prog) tab [.fn E38, .fn E50] sg29 Try.f29.results.toList (code Try.f29) plan29 xs = d29 xs.1 xs.2.1 xs.2.2.1 := by kernel_rfl
theorem sim29 : Sim Try.prog 29 sg29 d29 := sim_ev mixd tabOK Try.func29 (code_of rfl) Try.call29 (Nat.le_of_ble_eq_true (by kernel_rfl)) (by kernel_rfl) plan29 _ fun xs y h => (ev29 xs).trans h
noncomputable def E29 : FnE Try.prog := ⟨29, sg29, d29, sim29⟩

/-- election/pile.isPermutation -/
noncomputable def d68 (l : List Int) (n : Int) : Option Bool :=
  bif (decide ((l.length : Int) = n)) then
    (d63 n l).bind fun r =>
    some r
  else
    some false
def sg68 : Sig := ⟨[(y26, .bw), (y2, .sh)], [(y4, .sh)]⟩
def plan68 : Plan := (.seq (.reg [] []) (.seq (.reg [] []) .nil))
theorem ev68 (xs : Vals (ptys sg68.ps)) : evF (P := Try.prog) tab [.fn E63] sg68 Try.f68.results.toList (code Try.f68) plan68 xs = d68 xs.1 xs.2.1 := by kernel_rfl
theorem sim68 : Sim Try.prog 68 sg68 d68 := sim_ev mixd tabOK Try.func68 (code_of rfl) Try.call68 (Nat.le_of_ble_eq_true (by kernel_rfl)) (by kernel_rfl) plan68 _ fun xs y h => (ev68 xs).trans h
noncomputable def E68 : FnE Try.prog := ⟨68, sg68, d68, sim68⟩

/-- election/pile.Fit -/
noncomputable def d55 (p0 : Int) (p1 : (List Int × (List (List Int) × (Int × (Int × (Int × (Int × (Int × (Int × Int))))))))) (p2 : List (List Int × Int)) (p3 : List Int) : Option Int :=
  letJ (fun ((t0, t2, t3, t5, t9, t10) : Int × (List (List Int × Int)) × (List Int) × (List Int × (List (List Int) × (Int × (Int × (Int × (Int × (Int × (Int × Int)))))))) × Int × Bool) =>
      letJ (fun ((t0_1, t2_1, t3_1, t5_1, t9_1, t10_1, t27) : Int × (List (List Int × Int)) × (List Int) × (List Int × (List (List Int) × (Int × (Int × (Int × (Int × (Int × (Int × Int)))))))) × Int × Bool × Bool) =>
          bif t27 then
            some 5
          else
            letJ (fun ((t2_5, t3_5, t9_5, t40_3) : (List (List Int × Int)) × (List Int) × Int × Bool) =>
                bif t40_3 then
                  some 4
                else
                  (d45 t9_5 t2_5).bind fun r =>
                  bif !r then
                    some 8
                  else
                    (d68 t3_5 t9_5).bind fun r_1 =>
                    bif !r_1 then
                      some 13
                    else
                      some 0) fun j__5 =>
            letJ (fun ((t0_2, t2_2, t3_2, t5_2, t9_2, t10_2, t40) : Int × (List (List Int × Int)) × (List Int) × (List Int × (List (List Int) × (Int × (Int × (Int × (Int × (Int × (Int × Int)))))))) × Int × Bool × Bool) =>
                bif t40 then
                  j__5 (t2_2, t3_2, t9_2, t40)
                else
                  letJ (fun ((t0_3, t2_3, t3_3, t5_3, t9_3, t10_3, t40_1) : Int × (List (List Int × Int)) × (List Int) × (List Int × (List (List Int) × (Int × (Int × (Int × (Int × (Int × (Int × Int)))))))) × Int × Bool × Bool) =>
                      bif t40_1 then
                        j__5 (t2_3, t3_3, t9_3, t40_1)
                      else
                        letJ (fun ((t2_4, t3_4, t5_4, t9_4, t10_4, t40_2) : (List (List Int × Int)) × (List Int) × (List Int × (List (List Int) × (Int × (Int × (Int × (Int × (Int × (Int × Int)))))))) × Int × Bool × Bool) =>
                            bif t40_2 then
                              j__5 (t2_4, t3_4, t9_4, t40_2)
                            else
                              bif !t10_4 then
                                j__5 (t2_4, t3_4, t9_4, !t10_4)
                              else
                                bif !(decide (t5_4.2.2.2.2.2.2.1 < 1)) then
                                  j__5 (t2_4, t3_4, t9_4, (decide (3 < t5_4.2.2.2.2.2.2.1)))
                                else
                                  j__5 (t2_4, t3_4, t9_4, true)) fun j__4 =>
                        bif (decide (t0_3 = 1)) then
                          j__4 (t2_3, t3_3, t5_3, t9_3, t10_3, !(decide (t5_3.2.2.2.1 = 1)))
                        else
                          j__4 (t2_3, t3_3, t5_3, t9_3, t10_3, false)) fun j__3 =>
                  bif !(decide (t5_2.2.2.2.1 < 1)) then
                    j__3 (t0_2, t2_2, t3_2, t5_2, t9_2, t10_2, (decide (5 < t5_2.2.2.2.1)))
                  else
                    j__3 (t0_2, t2_2, t3_2, t5_2, t9_2, t10_2, true)) fun j__2 =>
            bif !(decide (t9_1 < 1)) then
              j__2 (t0_1, t2_1, t3_1, t5_1, t9_1, t10_1, (decide (7 < t9_1)))
            else
              j__2 (t0_1, t2_1, t3_1, t5_1, t9_1, t10_1, true)) fun j__1 =>
      bif !(decide (t0 < 1)) then
        bif !(decide (3 < t0)) then
          j__1 (t0, t2, t3, t5, t9, t10, !(decide (t5.2.2.1 = t0)))
        else
          j__1 (t0, t2, t3, t5, t9, t10, true)
      else
        j__1 (t0, t2, t3, t5, t9, t10, true)) fun j_ =>
  bif (decide (p0 = 2)) then
    bif (decide (1 ≤ p1.2.2.2.2.2.1)) then
      j_ (p0, p2, p3, p1, (p1.2.1.length : Int), (decide (p1.2.2.2.2.2.1 ≤ 6)))
    else
      j_ (p0, p2, p3, p1, (p1.2.1.length : Int), false)
  else
    j_ (p0, p2, p3, p1, (p1.2.1.length : Int), (decide (p1.2.2.2.2.2.1 = 0)))
def sg55 : Sig := ⟨[(y2, .sh), (y50, .bw), (y32, .bw), (y26, .bw)], [(y2, .sh)]⟩
def plan55 : Plan := (.seq (.reg [] []) (.seq (.reg [] []) (.seq (.reg [] []) (.join (.seq (.reg [] []) (.cond (.reg [] []) .nil)) [(0, .v y2 .sh), (2, .v y32 .bw), (3, .v y26 .bw), (5, .v (.ptr y50) (.own 0 .bw)), (9, .v y2 .sh), (10, .v y4 .sh)] (.seq (.block (.join (.reg [] []) [(0, .v y2 .sh), (2, .v y32 .bw), (3, .v y26 .bw), (5, .v (.ptr y50) (.own 0 .bw)), (9, .v y2 .sh), (10, .v y4 .sh), (27, .v y4 .sh)] (.cond (.seq (.reg [] []) .nil) (.join (.join (.reg [] []) [(0, .v y2 .sh), (2, .v y32 .bw), (3, .v y26 .bw), (5, .v (.ptr y50) (.own 0 .bw)), (9, .v y2 .sh), (10, .v y4 .sh), (40, .v y4 .sh)] (.cond .nil (.join (.reg [] []) [(0, .v y2 .sh), (2, .v y32 .bw), (3, .v y26 .bw), (5, .v (.ptr y50) (.own 0 .bw)), (9, .v y2 .sh), (10, .v y4 .sh), (40, .v y4 .sh)] (.cond .nil (.join (.reg [] []) [(2, .v y32 .bw), (3, .v y26 .bw), (5, .v (.ptr y50) (.own 0 .bw)), (9, .v y2 .sh), (10, .v y4 .sh), (40, .v y4 .sh)] (.cond .nil (.seq (.reg [] []) (.cond .nil (.reg [] []))))))))) [(2, .v y32 .bw), (3, .v y26 .bw), (9, .v y2 .sh), (40, .v y4 .sh)] (.cond (.seq (.reg [] []) .nil) (.seq (.reg [] []) (.cond (.seq (.reg [] []) .nil) (.seq (.reg [] []) (.cond (.seq (.reg [] []) .nil) .nil))))))))) (.seq (.reg [] []) .nil))))))
theorem ev55 (xs : Vals (ptys sg55.ps)) : evF (P := Try.prog) tab [.fn E45, .fn E68] sg55 Try.f55.results.toList (code Try.f55) plan55 xs = d55 xs.1 xs.2.1 xs.2.2.1 xs.2.2.2.1 := by kernel_rfl
theorem sim55 : Sim Try.prog 55 sg55 d55 := sim_ev mixd tabOK Try.func55 (code_of rfl) Try.call55 (Nat.le_of_ble_eq_true (by kernel_rfl)) (by kernel_rfl) plan55 _ fun xs y h => (ev55 xs).trans h
noncomputable def E55 : FnE Try.prog := ⟨55, sg55, d55, sim55⟩

/-- election/suffice.fits -/
noncomputable def d36 (c : (List Int × (List (List Int) × (Int × (Int × (Int × (Int × (Int × (Int × Int))))))))) : Option Bool :=
  (whileO (β := ((List Int × (List (List Int) × (Int × (Int × (Int × (Int × (Int × (Int × Int)))))))) × (List Int))) (fun ((c_1, lots, t8, t9) : (List Int × (List (List Int) × (Int × (Int × (Int × (Int × (Int × (Int × Int)))))))) × (List Int) × Int × Int) =>
      bif (decide (t9 < t8)) then
        bif (decide ((lots.length : Int) + (([t9] : List Int).length : Int) ≤ LIM)) then
          some (Sum.inl (c_1, (lots ++ [t9]), t8, (w (t9 + 1))))
        else none
      else
        some (Sum.inr (c_1, lots))) (c, [], (bif (decide (7 < (c.2.1.length : Int))) then 7 else (c.2.1.length : Int)), 0)).bind fun ((c_2, lots_1) : (List Int × (List (List Int) × (Int × (Int × (Int × (Int × (Int × (Int × Int)))))))) × (List Int)) =>
  (d55 c_2.2.2.1 c_2 [] lots_1).bind fun r =>
  some (decide (r = 0))
def sg36 : Sig := ⟨[(y50, .bw)], [(y4, .sh)]⟩
def plan36 : Plan := (.seq (.reg [] []) (.seq (.reg [] [{ fl := 2 }]) (.seq (.seq (.reg [] []) (.block (.loop [(1, .v (.ptr y50) (.own 0 .bw)), (3, .v y26 (.own 3 .sh)), (8, .v y2 .sh), (9, .v y2 .sh)] [(.brk 0, [(1, .v (.ptr y50) (.own 0 .bw)), (3, .v y26 (.own 3 .sh))])] (.seq (.reg [] []) (.seq (.cond .nil .nil) (.seq (.block (.seq (.reg [] []) (.reg [] []))) (.reg [] []))))))) (.seq (.reg [] []) .nil))))
theorem ev36 (xs : Vals (ptys sg36.ps)) : evF (P := Try.prog) tab [.fn E55] sg36 Try.f36.results.toList (code Try.f36) plan36 xs = d36 xs.1 := by kernel_rfl
theorem sim36 : Sim Try.prog 36 sg36 d36 := sim_ev mixd tabOK Try.func36 (code_of rfl) Try.call36 (Nat.le_of_ble_eq_true (by kernel_rfl)) (by kernel_rfl) plan36 _ fun xs y h => (ev36 xs).trans h
noncomputable def E36 : FnE Try.prog := ⟨36, sg36, d36, sim36⟩

/-- cmp.Or[int] -/
noncomputable def d58 (vals : List Int) : Option Int :=
  (whileO (β := Int ⊕ Int) (fun ((zero, t6, t7, t8) : Int × (List Int) × Int × Int) =>
      bif (decide (t8 < t7)) then
        bif (decide (0 ≤ t8) && decide (t8 < (t6.length : Int))) then
          bif !(decide ((List.getD t6 (Int.toNat t8) 0) = zero)) then
            some (Sum.inr (Sum.inr (List.getD t6 (Int.toNat t8) 0)))
          else
            some (Sum.inl (zero, t6, t7, (w (t8 + 1))))
        else none
      else
        some (Sum.inr (Sum.inl zero))) (0, vals, (vals.length : Int), 0)).bind fun
  | Sum.inl zero_1 =>
    some zero_1
  | Sum.inr t2 =>
    some t2
def sg58 : Sig := ⟨[(y26, .bw)], [(y2, .sh)]⟩
def plan58 : Plan := (.seq (.reg [] []) (.seq (.reg [] []) (.seq (.seq (.reg [] []) (.block (.loop [(3, .v y2 .sh), (6, .v y26 .bw), (7, .v y2 .sh), (8, .v y2 .sh)] [(.brk 0, [(3, .v y2 .sh)]), (.ret, [(2, .v y2 .sh)])] (.seq (.reg [] []) (.seq (.cond .nil .nil) (.seq (.block (.seq (.reg [] []) (.seq (.reg [] []) (.cond (.seq (.reg [] []) .nil) .nil)))) (.reg [] []))))))) (.seq (.reg [] []) .nil))))
theorem ev58 (xs : Vals (ptys sg58.ps)) : evF (P := Try.prog) tab [] sg58 Try.f58.results.toList (code Try.f58) plan58 xs = d58 xs.1 := by kernel_rfl
theorem sim58 : Sim Try.prog 58 sg58 d58 := sim_ev mixd tabOK Try.func58 (code_of rfl) Try.call58 (Nat.le_of_ble_eq_true (by kernel_rfl)) (by kernel_rfl) plan58 _ fun xs y h => (ev58 xs).trans h
noncomputable def E58 : FnE Try.prog := ⟨58, sg58, d58, sim58⟩

/-- election/assertion.Compare -/
noncomputable def d40 (a : (Int × (Int × (Int × (List Int × Int))))) (b : (Int × (Int × (Int × (List Int × Int))))) : Option Int :=
  (d31 a.1 b.1).bind fun r =>
  (d31 a.2.1 b.2.1).bind fun r_1 =>
  (d31 a.2.2.1 b.2.2.1).bind fun r_2 =>
  (d31 (a.2.2.2.1.length : Int) (b.2.2.2.1.length : Int)).bind fun r_3 =>
  (d17 a.2.2.2.1 b.2.2.2.1).bind fun r_4 =>
  (d31 a.2.2.2.2 b.2.2.2.2).bind fun r_5 =>
  (d58 [r, r_1, r_2, r_3, r_4, r_5]).bind fun r_6 =>
  some r_6
def sg40 : Sig := ⟨[(y37, .bw), (y37, .bw)], [(y2, .sh)]⟩
def plan40 : Plan := (.seq (.reg [] []) (.seq (.reg [] []) .nil))
theorem ev40 (xs : Vals (ptys sg40.ps)) : evF (P := Try.prog) tab [.fn E31, .fn E17, .fn E58] sg40 Try.f40.results.toList (code Try.f40) plan40 xs = d40 xs.1 xs.2.1 := by kernel_rfl
theorem sim40 : Sim Try.prog 40 sg40 d40 := sim_ev mixd tabOK Try.func40 (code_of rfl) Try.call40 (Nat.le_of_ble_eq_true (by kernel_rfl)) (by kernel_rfl) plan40 _ fun xs y h => (ev40 xs).trans h
noncomputable def E40 : FnE Try.prog := ⟨40, sg40, d40, sim40⟩

/-- election/suffice.Check$1 -/
noncomputable def d39 (a : (Int × (Int × (Int × (List Int × Int))))) (p1 : (Int × (Int × (Int × (List Int × Int))))) : Option Bool :=
  (d40 a p1).bind fun r =>
  some (decide (r = 0))
def sg39 : Sig := ⟨[(y37, .bw), ((.ptr y37), .bw)], [(y4, .sh)]⟩
def plan39 : Plan := (.seq (.reg [] []) (.seq (.reg [] []) .nil))
theorem ev39 (xs : Vals (ptys sg39.ps)) : evF (P := Try.prog) tab [.fn E40] sg39 Try.f39.results.toList (code Try.f39) plan39 xs = d39 xs.1 xs.2.1 := by kernel_rfl
theorem sim39 : Sim Try.prog 39 sg39 d39 := sim_ev mixd tabOK Try.func39 (code_of rfl) Try.call39 (Nat.le_of_ble_eq_true (by kernel_rfl)) (by kernel_rfl) plan39 _ fun xs y h => (ev39 xs).trans h
noncomputable def E39 : FnE Try.prog := ⟨39, sg39, d39, sim39⟩

/-- election/electionmake.Names -/
noncomputable def d41 (n : Int) : Option (List (List Int)) :=
  (whileO (β := (List (List Int))) (fun ((n_1, out, i) : Int × (List (List Int)) × Int) =>
      bif (decide (i < n_1)) then
        bif (decide ((out.length : Int) + (([[(wu8 (w (97 + i)))]] : List (List Int)).length : Int) ≤ LIM)) then
          some (Sum.inl (n_1, (out ++ [[(wu8 (w (97 + i)))]]), (w (i + 1))))
        else none
      else
        some (Sum.inr out)) (n, [], 0)).bind fun (out_1 : List (List Int)) =>
  some out_1
def sg41 : Sig := ⟨[(y2, .sh)], [(y49, (.own 9 .sh))]⟩
def plan41 : Plan := (.seq (.reg [] []) (.seq (.reg [] [{ fl := 2 }]) (.seq (.seq (.reg [] []) (.block (.loop [(0, .v y2 .sh), (3, .v y49 (.own 9 .sh)), (4, .v y2 .sh)] [(.brk 0, [(3, .v y49 (.own 9 .sh))])] (.seq (.seq (.reg [] []) (.cond .nil .nil)) (.seq (.block (.reg [] [])) (.reg [] [])))))) (.seq (.reg [] []) .nil))))
theorem ev41 (xs : Vals (ptys sg41.ps)) : evF (P := Try.prog) tab [] sg41 Try.f41.results.toList (code Try.f41) plan41 xs = d41 xs.1 := by kernel_rfl
theorem sim41 : Sim Try.prog 41 sg41 d41 := sim_ev mixd tabOK Try.func41 (code_of rfl) Try.call41 (Nat.le_of_ble_eq_true (by kernel_rfl)) (by kernel_rfl) plan41 _ fun xs y h => (ev41 xs).trans h
noncomputable def E41 : FnE Try.prog := ⟨41, sg41, d41, sim41⟩

/-- election/electionmake.Contest -/
noncomputable def d21 (method : Int) (n : Int) (seats : Int) (digits : Int) (ties : Int) : Option (List Int × (List (List Int) × (Int × (Int × (Int × (Int × (Int × (Int × Int)))))))) :=
  (d41 n).bind fun r =>
  (d4 method 3).bind fun r_1 =>
  (d4 seats 5).bind fun r_2 =>
  (d4 ties 3).bind fun r_3 =>
  letJ (fun ((t10, c) : (List Int × (List (List Int) × (Int × (Int × (Int × (Int × (Int × (Int × Int)))))))) × (List Int × (List (List Int) × (Int × (Int × (Int × (Int × (Int × (Int × Int))))))))) =>
      letJ (fun ((t10_1, c_1) : (List Int × (List (List Int) × (Int × (Int × (Int × (Int × (Int × (Int × Int)))))))) × (List Int × (List (List Int) × (Int × (Int × (Int × (Int × (Int × (Int × Int))))))))) =>
          some c_1) fun j__1 =>
      bif (decide (c.2.2.1 = 1)) then
        j__1 (t10, (c.1, c.2.1, c.2.2.1, 1, c.2.2.2.2))
      else
        j__1 (t10, c)) fun j_ =>
  bif (decide ((w (1 + r_1)) = 2)) then
    (d4 digits 6).bind fun r_4 =>
    j_ (([], [], 0, 0, 0, 0, 0, 0, 0), ([99], r, (w (1 + r_1)), (w (1 + r_2)), 0, (w (1 + r_4)), (w (1 + r_3)), 0, 0))
  else
    j_ (([], [], 0, 0, 0, 0, 0, 0, 0), ([99], r, (w (1 + r_1)), (w (1 + r_2)), 0, 0, (w (1 + r_3)), 0, 0))
def sg21 : Sig := ⟨[(y2, .sh), (y2, .sh), (y2, .sh), (y2, .sh), (y2, .sh)], [(y50, .sh)]⟩
def plan21 : Plan := (.seq (.reg [] []) (.seq (.reg [] [{}, {}, {}, {}, {}, {}, {}, {}, {}, {}, {}, { frz := [(13, [])] }]) (.join (.seq (.reg [] []) (.cond (.reg [] []) .nil)) [(10, .v (.ptr y50) (.own 0 .sh)), (11, .v (.ptr y50) (.own 0 (.pr .sh (.pr .sh (.pr .sh (.pr .sh (.pr .sh (.pr .sh (.pr .sh .sh)))))))))] (.join (.seq (.reg [] []) (.cond (.reg [] []) .nil)) [(10, .v (.ptr y50) (.own 0 .sh)), (11, .v (.ptr y50) (.own 0 (.pr .sh (.pr .sh (.pr .sh (.pr .sh (.pr .sh (.pr .sh (.pr .sh .sh)))))))))] (.seq (.reg [] []) .nil)))))
theorem ev21 (xs : Vals (ptys sg21.ps)) : evF (P := Try.prog) tab [.fn E41, .fn E4] sg21 Try.f21.results.toList (code Try.f21) plan21 xs = d21 xs.1 xs.2.1 xs.2.2.1 xs.2.2.2.1 xs.2.2.2.2.1 := by kernel_rfl
theorem sim21 : Sim Try.prog 21 sg21 d21 := sim_ev mixd tabOK Try.func21 (code_of rfl) Try.call21 (Nat.le_of_ble_eq_true (by kernel_rfl)) (by kernel_rfl) plan21 _ fun xs y h => (ev21 xs).trans h
noncomputable def E21 : FnE Try.prog := ⟨21, sg21, d21, sim21⟩

end Go.Proofs.Ythlgoakkgmabaaa