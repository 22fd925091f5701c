import Derived.Test.YthemaffjohmhnaaY0
open Go Go.Proofs Go.X
namespace Go.Proofs.Ythemaffjohmhnaa
set_option linter.unusedVariables false
set_option maxRecDepth 100000
/-- election/electionmake.Mod -/
noncomputable def d18 (x : Int) (n : Int) : Option Int :=
  bif (!decide (n = 0)) then
    bif (!decide (n = 0)) then
      some (w (Int.tmod (w ((w (Int.tmod x n)) + n)) n))
    else none
  else none
def sg18 : Sig := ⟨[(y2, .sh), (y2, .sh)], [(y2, .sh)]⟩
def plan18 : Plan := (.seq (.reg [] []) (.seq (.reg [] []) .nil))
theorem ev18 (xs : Vals (ptys sg18.ps)) : evF (P := Try.prog) tab [] sg18 Try.f18.results.toList (code Try.f18) plan18 xs = d18 xs.1 xs.2.1 := by kernel_rfl
theorem sim18 : Sim Try.prog 18 sg18 d18 := sim_ev mixd tabOK Try.func18 (code_of rfl) Try.call18 (Nat.le_of_ble_eq_true (by kernel_rfl)) (by kernel_rfl) plan18 _ fun xs y h => (ev18 xs).trans h
noncomputable def E18 : FnE Try.prog := ⟨18, sg18, d18, sim18⟩

/-- election/electionlaw33.Make -/
noncomputable def d22 (p0 : Int) (p1 : Int) (p2 : Int) (p3 : Int) (p4 : Int) (p5 : Int) : Option (Int × (Int × (Int × (List Int × Int)))) :=
  (d18 p1 3).bind fun r =>
  (d18 p2 p0).bind fun r_1 =>
  bif (decide ((w (1 + r)) = 3)) then
    (d18 p5 5).bind fun r_2 =>
    some ((w (1 + r)), r_1, 0, [], (w (2 + r_2)))
  else
    (d18 p3 (w (p0 - 1))).bind fun r_3 =>
    (d18 (w ((w (r_1 + 1)) + r_3)) p0).bind fun r_4 =>
    letJ (fun ((t12_4, t13_4) : (Int × (Int × (Int × (List Int × Int)))) × (Int × (Int × (Int × (List Int × Int))))) =>
        some t13_4) fun j__2 =>
    bif (decide ((w (1 + r)) = 2)) then
      (whileO (β := ((Int × (Int × (Int × (List Int × Int)))) × (Int × (Int × (Int × (List Int × Int)))))) (fun ((t0, t4, t12, t13, t14) : Int × Int × (Int × (Int × (Int × (List Int × Int)))) × (Int × (Int × (Int × (List Int × Int)))) × Int) =>
          bif (decide (t14 < t0)) then
            letJ (fun ((t0_2, t4_2, t12_2, t13_2, t14_2) : Int × Int × (Int × (Int × (Int × (List Int × Int)))) × (Int × (Int × (Int × (List Int × Int)))) × Int) =>
                some (Sum.inl (t0_2, t4_2, t12_2, t13_2, (w (t14_2 + 1))))) fun j__1 =>
            letJ (fun ((t0_1, t4_1, t12_1, t13_1, t14_1, t67) : Int × Int × (Int × (Int × (Int × (List Int × Int)))) × (Int × (Int × (Int × (List Int × Int)))) × Int × Bool) =>
                bif t67 then
                  bif (decide ((t13_1.2.2.2.1.length : Int) + (([t14_1] : List Int).length : Int) ≤ LIM)) then
                    j__1 (t0_1, t4_1, t12_1, (t13_1.1, t13_1.2.1, t13_1.2.2.1, (t13_1.2.2.2.1 ++ [t14_1]), t13_1.2.2.2.2), t14_1)
                  else none
                else
                  j__1 (t0_1, t4_1, t12_1, t13_1, t14_1)) fun j_ =>
            bif !(decide (t14 = t13.2.1)) then
              bif !(decide (t14 = t13.2.2.1)) then
                (d18 t4 128).bind fun r_5 =>
                bif (decide (0 ≤ (wu64 t14))) then
                  j_ (t0, t4, t12, t13, t14, (decide ((w ((BitVec.ofInt 64 (w (Int.fdiv r_5 (2 ^ (min (Int.toNat (wu64 t14)) 64)))) &&& BitVec.ofInt 64 1).toNat : Int)) = 1)))
                else none
              else
                j_ (t0, t4, t12, t13, t14, true)
            else
              j_ (t0, t4, t12, t13, t14, true)
          else
            some (Sum.inr (t12, t13))) (p0, p4, (0, 0, 0, [], 0), ((w (1 + r)), r_1, r_4, [], 0), 0)).bind fun ((t12_3, t13_3) : (Int × (Int × (Int × (List Int × Int)))) × (Int × (Int × (Int × (List Int × Int))))) =>
      j__2 (t12_3, t13_3)
    else
      j__2 ((0, 0, 0, [], 0), ((w (1 + r)), r_1, r_4, [], 0))
def sg22 : Sig := ⟨[(y2, .sh), (y2, .sh), (y2, .sh), (y2, .sh), (y2, .sh), (y2, .sh)], [(y24, .sh)]⟩
def plan22 : Plan := (.seq (.reg [] []) (.seq (.reg [] [{}, {}, {}, {}, {}, {}, { fl := 7 }]) (.seq (.seq (.reg [] []) (.cond (.seq (.reg [] []) (.seq (.reg [(13, [0, 1, 1, 1, 0])] []) .nil)) .nil)) (.seq (.reg [] []) (.join (.seq (.reg [] []) (.cond (.seq (.reg [] []) (.block (.loop [(0, .v y2 .sh), (4, .v y2 .sh), (12, .v (.ptr y24) (.own 0 .sh)), (13, .v (.ptr y24) (.own 0 (.pr .sh (.pr .sh (.pr .sh (.pr (.own 3 .sh) .sh)))))), (14, .v y2 .sh)] [(.brk 0, [(12, .v (.ptr y24) (.own 0 .sh)), (13, .v (.ptr y24) (.own 0 (.pr .sh (.pr .sh (.pr .sh (.pr (.own 3 .sh) .sh))))))])] (.seq (.seq (.reg [] []) (.cond .nil .nil)) (.join (.block (.join (.reg [] []) [(0, .v y2 .sh), (4, .v y2 .sh), (12, .v (.ptr y24) (.own 0 .sh)), (13, .v (.ptr y24) (.own 0 (.pr .sh (.pr .sh (.pr .sh (.pr (.own 3 .sh) .sh)))))), (14, .v y2 .sh), (67, .v y4 .sh)] (.cond (.reg [] []) .nil))) [(0, .v y2 .sh), (4, .v y2 .sh), (12, .v (.ptr y24) (.own 0 .sh)), (13, .v (.ptr y24) (.own 0 (.pr .sh (.pr .sh (.pr .sh (.pr (.own 3 .sh) .sh)))))), (14, .v y2 .sh)] (.reg [] [])))))) .nil)) [(12, .v (.ptr y24) (.own 0 .sh)), (13, .v (.ptr y24) (.own 0 (.pr .sh (.pr .sh (.pr .sh (.pr (.own 3 .sh) .sh))))))] (.seq (.reg [(13, [0, 1, 1, 1, 0])] []) .nil))))))
theorem ev22 (xs : Vals (ptys sg22.ps)) : evF (P := Try.prog) tab [.fn E18] sg22 Try.f22.results.toList (code Try.f22) plan22 xs = d22 xs.1 xs.2.1 xs.2.2.1 xs.2.2.2.1 xs.2.2.2.2.1 xs.2.2.2.2.2.1 := by kernel_rfl
theorem sim22 : Sim Try.prog 22 sg22 d22 := sim_ev mixd tabOK Try.func22 (code_of rfl) Try.call22 (Nat.le_of_ble_eq_true (by kernel_rfl)) (by kernel_rfl) plan22 _ fun xs y h => (ev22 xs).trans h
noncomputable def E22 : FnE Try.prog := ⟨22, sg22, d22, sim22⟩

/-- election/electionmake.Ints -/
noncomputable def d43 (l : List Int) (n : Int) : Option (List Int) :=
  bif (cutOK 0 (bif (decide (n < (l.length : Int))) then n else (l.length : Int)) l.length) then
    some (List.drop 0 (List.take (Int.toNat (bif (decide (n < (l.length : Int))) then n else (l.length : Int))) l))
  else none
def sg43 : Sig := ⟨[(y23, .sh), (y2, .sh)], [(y23, .sh)]⟩
def plan43 : Plan := (.seq (.reg [] []) (.seq (.reg [] []) .nil))
theorem ev43 (xs : Vals (ptys sg43.ps)) : evF (P := Try.prog) tab [] sg43 Try.f43.results.toList (code Try.f43) plan43 xs = d43 xs.1 xs.2.1 := by kernel_rfl
theorem sim43 : Sim Try.prog 43 sg43 d43 := sim_ev mixd tabOK Try.func43 (code_of rfl) Try.call43 (Nat.le_of_ble_eq_true (by kernel_rfl)) (by kernel_rfl) plan43 _ fun xs y h => (ev43 xs).trans h
noncomputable def E43 : FnE Try.prog := ⟨43, sg43, d43, sim43⟩

/-- election/electionref24.Has -/
noncomputable def d32 (l : List Int) (x : Int) : Option Bool :=
  (whileO (β := Unit ⊕ Bool) (fun ((l_1, x_1, i) : (List Int) × Int × Int) =>
      bif (decide (i < (l_1.length : Int))) then
        bif (decide (0 ≤ i) && decide (i < (l_1.length : Int))) then
          bif (decide ((List.getD l_1 (Int.toNat i) 0) = x_1)) then
            some (Sum.inr (Sum.inr true))
          else
            some (Sum.inl (l_1, x_1, (w (i + 1))))
        else none
      else
        some (Sum.inr (Sum.inl ()))) (l, x, 0)).bind fun
  | Sum.inl _ =>
    some false
  | Sum.inr t4 =>
    some t4
def sg32 : Sig := ⟨[(y23, .bw), (y2, .sh)], [(y4, .sh)]⟩
def plan32 : Plan := (.seq (.reg [] []) (.seq (.seq (.reg [] []) (.block (.loop [(0, .v y23 .bw), (1, .v y2 .sh), (5, .v y2 .sh)] [(.brk 0, []), (.ret, [(4, .v y4 .sh)])] (.seq (.seq (.reg [] []) (.cond .nil .nil)) (.seq (.block (.seq (.reg [] []) (.cond (.seq (.reg [] []) .nil) .nil))) (.reg [] [])))))) (.seq (.reg [] []) .nil)))
theorem ev32 (xs : Vals (ptys sg32.ps)) : evF (P := Try.prog) tab [] sg32 Try.f32.results.toList (code Try.f32) plan32 xs = d32 xs.1 xs.2.1 := by kernel_rfl
theorem sim32 : Sim Try.prog 32 sg32 d32 := sim_ev mixd tabOK Try.func32 (code_of rfl) Try.call32 (Nat.le_of_ble_eq_true (by kernel_rfl)) (by kernel_rfl) plan32 _ fun xs y h => (ev32 xs).trans h
noncomputable def E32 : FnE Try.prog := ⟨32, sg32, d32, sim32⟩

/-- election/electionmake.Ballot -/
noncomputable def d29 (n : Int) (l : List Int) : Option (List Int) :=
  (whileO (β := (List Int)) (fun ((n_1, l_1, out, i) : Int × (List Int) × (List Int) × Int) =>
      letJ (fun ((n_2, l_2, out_1, i_1, t17) : Int × (List Int) × (List Int) × Int × Bool) =>
          bif t17 then
            letJ (fun ((n_3, l_3, out_2, i_2) : Int × (List Int) × (List Int) × Int) =>
                some (Sum.inl (n_3, l_3, out_2, (w (i_2 + 1))))) fun j__1 =>
            bif (decide (0 ≤ i_1) && decide (i_1 < (l_2.length : Int))) then
              (d18 (List.getD l_2 (Int.toNat i_1) 0) n_2).bind fun r =>
              (d32 out_1 r).bind fun r_1 =>
              bif !r_1 then
                bif (decide ((out_1.length : Int) + (([r] : List Int).length : Int) ≤ LIM)) then
                  j__1 (n_2, l_2, (out_1 ++ [r]), i_1)
                else none
              else
                j__1 (n_2, l_2, out_1, i_1)
            else none
          else
            some (Sum.inr out_1)) fun j_ =>
      bif (decide (i < (l_1.length : Int))) then
        j_ (n_1, l_1, out, i, (decide ((out.length : Int) < n_1)))
      else
        j_ (n_1, l_1, out, i, false)) (n, l, [], 0)).bind fun (out_3 : List Int) =>
  some out_3
def sg29 : Sig := ⟨[(y2, .sh), (y23, .bw)], [(y23, (.own 3 .sh))]⟩
def plan29 : Plan := (.seq (.reg [] []) (.seq (.reg [] [{ fl := 2 }]) (.seq (.seq (.reg [] []) (.block (.loop [(0, .v y2 .sh), (1, .v y23 .bw), (5, .v y23 (.own 3 .sh)), (6, .v y2 .sh)] [(.brk 0, [(5, .v y23 (.own 3 .sh))])] (.seq (.join (.reg [] []) [(0, .v y2 .sh), (1, .v y23 .bw), (5, .v y23 (.own 3 .sh)), (6, .v y2 .sh), (17, .v y4 .sh)] (.cond .nil .nil)) (.join (.block (.seq (.reg [] []) (.seq (.reg [] []) (.cond (.reg [] []) .nil)))) [(0, .v y2 .sh), (1, .v y23 .bw), (5, .v y23 (.own 3 .sh)), (6, .v y2 .sh)] (.reg [] [])))))) (.seq (.reg [] []) .nil))))
theorem ev29 (xs : Vals (ptys sg29.ps)) : evF (P := Try.prog) tab [.fn E18, .fn E32] sg29 Try.f29.results.toList (code Try.f29) plan29 xs = d29 xs.1 xs.2.1 := by kernel_rfl
theorem sim29 : Sim Try.prog 29 sg29 d29 := sim_ev mixd tabOK Try.func29 (code_of rfl) Try.call29 (Nat.le_of_ble_eq_true (by kernel_rfl)) (by kernel_rfl) plan29 _ fun xs y h => (ev29 xs).trans h
noncomputable def E29 : FnE Try.prog := ⟨29, sg29, d29, sim29⟩

/-- election/assertion.isAscending -/
noncomputable def d77 (n : Int) (l : List Int) : Option Bool :=
  (whileO (β := Unit ⊕ Bool) (fun ((n_1, l_1, t7, t8, t9) : Int × (List Int) × (List Int) × Int × Int) =>
      bif (decide (t9 < t8)) then
        bif (decide (0 ≤ t9) && decide (t9 < (t7.length : Int))) then
          letJ (fun ((n_2, l_2, t7_1, t8_1, t9_1, t33) : Int × (List Int) × (List Int) × Int × Int × Bool) =>
              bif t33 then
                some (Sum.inr (Sum.inr false))
              else
                some (Sum.inl (n_2, l_2, t7_1, t8_1, (w (t9_1 + 1))))) fun j_ =>
          bif !(decide ((List.getD t7 (Int.toNat t9) 0) < 0)) then
            bif !(decide (n_1 ≤ (List.getD t7 (Int.toNat t9) 0))) then
              bif (decide (0 < t9)) then
                bif (decide (0 ≤ (w (t9 - 1))) && decide ((w (t9 - 1)) < (l_1.length : Int))) then
                  j_ (n_1, l_1, t7, t8, t9, (decide ((List.getD t7 (Int.toNat t9) 0) ≤ (List.getD l_1 (Int.toNat (w (t9 - 1))) 0))))
                else none
              else
                j_ (n_1, l_1, t7, t8, t9, false)
            else
              j_ (n_1, l_1, t7, t8, t9, true)
          else
            j_ (n_1, l_1, t7, t8, t9, true)
        else none
      else
        some (Sum.inr (Sum.inl ()))) (n, l, l, (l.length : Int), 0)).bind fun
  | Sum.inl _ =>
    some true
  | Sum.inr t4 =>
    some t4
def sg77 : Sig := ⟨[(y2, .sh), (y23, .bw)], [(y4, .sh)]⟩
def plan77 : Plan := (.seq (.reg [] []) (.seq (.seq (.reg [] []) (.block (.loop [(0, .v y2 .sh), (1, .v y23 .bw), (7, .v y23 .bw), (8, .v y2 .sh), (9, .v y2 .sh)] [(.brk 0, []), (.ret, [(4, .v y4 .sh)])] (.seq (.reg [] []) (.seq (.cond .nil .nil) (.seq (.block (.seq (.reg [] []) (.join (.reg [] []) [(0, .v y2 .sh), (1, .v y23 .bw), (7, .v y23 .bw), (8, .v y2 .sh), (9, .v y2 .sh), (33, .v y4 .sh)] (.cond (.seq (.reg [] []) .nil) .nil)))) (.reg [] []))))))) (.seq (.reg [] []) .nil)))
theorem ev77 (xs : Vals (ptys sg77.ps)) : evF (P := Try.prog) tab [] sg77 Try.f77.results.toList (code Try.f77) plan77 xs = d77 xs.1 xs.2.1 := by kernel_rfl
theorem sim77 : Sim Try.prog 77 sg77 d77 := sim_ev mixd tabOK Try.func77 (code_of rfl) Try.call77 (Nat.le_of_ble_eq_true (by kernel_rfl)) (by kernel_rfl) plan77 _ fun xs y h => (ev77 xs).trans h
noncomputable def E77 : FnE Try.prog := ⟨77, sg77, d77, sim77⟩

/-- slices.Index[[]int,int] -/
noncomputable def d82 (s : List Int) (v : Int) : Option Int :=
  (whileO (β := Unit ⊕ Int) (fun ((s_1, v_1, t7, t8) : (List Int) × Int × Int × Int) =>
      bif (decide (t8 < t7)) then
        bif (decide (0 ≤ t8) && decide (t8 < (s_1.length : Int))) then
          bif (decide (v_1 = (List.getD s_1 (Int.toNat t8) 0))) then
            some (Sum.inr (Sum.inr t8))
          else
            some (Sum.inl (s_1, v_1, t7, (w (t8 + 1))))
        else none
      else
        some (Sum.inr (Sum.inl ()))) (s, v, (s.length : Int), 0)).bind fun
  | Sum.inl _ =>
    some (-1)
  | Sum.inr t4 =>
    some t4
def sg82 : Sig := ⟨[(y23, .bw), (y2, .sh)], [(y2, .sh)]⟩
def plan82 : Plan := (.seq (.reg [] []) (.seq (.seq (.reg [] []) (.block (.loop [(0, .v y23 .bw), (1, .v y2 .sh), (7, .v y2 .sh), (8, .v y2 .sh)] [(.brk 0, []), (.ret, [(4, .v y2 .sh)])] (.seq (.reg [] []) (.seq (.cond .nil .nil) (.seq (.block (.seq (.reg [] []) (.seq (.reg [] []) (.cond (.seq (.reg [] []) .nil) .nil)))) (.reg [] []))))))) (.seq (.reg [] []) .nil)))
theorem ev82 (xs : Vals (ptys sg82.ps)) : evF (P := Try.prog) tab [] sg82 Try.f82.results.toList (code Try.f82) plan82 xs = d82 xs.1 xs.2.1 := by kernel_rfl
theorem sim82 : Sim Try.prog 82 sg82 d82 := sim_ev mixd tabOK Try.func82 (code_of rfl) Try.call82 (Nat.le_of_ble_eq_true (by kernel_rfl)) (by kernel_rfl) plan82 _ fun xs y h => (ev82 xs).trans h
noncomputable def E82 : FnE Try.prog := ⟨82, sg82, d82, sim82⟩

/-- slices.Contains[[]int,int] -/
noncomputable def d78 (s : List Int) (v : Int) : Option Bool :=
  (d82 s v).bind fun r =>
  some (decide (0 ≤ r))
def sg78 : Sig := ⟨[(y23, .bw), (y2, .sh)], [(y4, .sh)]⟩
def plan78 : Plan := (.seq (.reg [] []) (.seq (.reg [] []) .nil))
theorem ev78 (xs : Vals (ptys sg78.ps)) : evF (P := Try.prog) tab [.fn E82] sg78 Try.f78.results.toList (code Try.f78) plan78 xs = d78 xs.1 xs.2.1 := by kernel_rfl
theorem sim78 : Sim Try.prog 78 sg78 d78 := sim_ev mixd tabOK Try.func78 (code_of rfl) Try.call78 (Nat.le_of_ble_eq_true (by kernel_rfl)) (by kernel_rfl) plan78 _ fun xs y h => (ev78 xs).trans h
noncomputable def E78 : FnE Try.prog := ⟨78, sg78, d78, sim78⟩

/-- election/assertion.Valid -/
noncomputable def d25 (p0 : Int) (p1 : (Int × (Int × (Int × (List Int × Int))))) : Option Bool :=
  letJ (fun ((t0, t3, t32) : Int × (Int × (Int × (Int × (List Int × Int)))) × Bool) =>
      bif t32 then
        some false
      else
        bif (decide (t3.1 = 1)) then
          bif !(decide (t3.2.1 = t3.2.2.1)) then
            bif (decide ((t3.2.2.2.1.length : Int) = 0)) then
              some (decide (t3.2.2.2.2 = 0))
            else
              some false
          else
            some false
        else
          bif (decide (t3.1 = 2)) then
            bif !(decide (t3.2.1 = t3.2.2.1)) then
              bif (decide (t3.2.2.2.2 = 0)) then
                (d77 t0 t3.2.2.2.1).bind fun r =>
                bif r then
                  (d78 t3.2.2.2.1 t3.2.1).bind fun r_1 =>
                  bif r_1 then
                    (d78 t3.2.2.2.1 t3.2.2.1).bind fun r_2 =>
                    some r_2
                  else
                    some false
                else
                  some false
              else
                some false
            else
              some false
          else
            bif (decide (t3.1 = 3)) then
              bif (decide (t3.2.2.1 = 0)) then
                bif (decide ((t3.2.2.2.1.length : Int) = 0)) then
                  bif (decide (2 ≤ t3.2.2.2.2)) then
                    some (decide (t3.2.2.2.2 ≤ 6))
                  else
                    some false
                else
                  some false
              else
                some false
            else
              some false) fun j_ =>
  bif !(decide (p0 < 1)) then
    bif !(decide (7 < p0)) then
      bif !(decide (p1.2.1 < 0)) then
        bif !(decide (p0 ≤ p1.2.1)) then
          bif !(decide (p1.2.2.1 < 0)) then
            j_ (p0, p1, (decide (p0 ≤ p1.2.2.1)))
          else
            j_ (p0, p1, true)
        else
          j_ (p0, p1, true)
      else
        j_ (p0, p1, true)
    else
      j_ (p0, p1, true)
  else
    j_ (p0, p1, true)
def sg25 : Sig := ⟨[(y2, .sh), (y24, .bw)], [(y4, .sh)]⟩
def plan25 : Plan := (.seq (.reg [] []) (.seq (.join (.reg [] []) [(0, .v y2 .sh), (3, .v (.ptr y24) (.own 0 .bw)), (32, .v y4 .sh)] (.cond (.seq (.reg [] []) .nil) .nil)) (.seq (.seq (.reg [] []) (.block (.seq (.reg [] []) (.cond (.seq (.reg [] []) .nil) (.seq (.reg [] []) (.cond (.seq (.reg [] []) .nil) (.seq (.reg [] []) (.cond (.seq (.reg [] []) .nil) .nil)))))))) (.seq (.reg [] []) .nil))))
theorem ev25 (xs : Vals (ptys sg25.ps)) : evF (P := Try.prog) tab [.fn E77, .fn E78] sg25 Try.f25.results.toList (code Try.f25) plan25 xs = d25 xs.1 xs.2.1 := by kernel_rfl
theorem sim25 : Sim Try.prog 25 sg25 d25 := sim_ev mixd tabOK Try.func25 (code_of rfl) Try.call25 (Nat.le_of_ble_eq_true (by kernel_rfl)) (by kernel_rfl) plan25 _ fun xs y h => (ev25 xs).trans h
noncomputable def E25 : FnE Try.prog := ⟨25, sg25, d25, sim25⟩

/-- election/assorter.isValid -/
noncomputable def d97 (a : (Int × (Int × (Int × (List Int × Int))))) : Option Bool :=
  (d25 7 a).bind fun r =>
  some r
def sg97 : Sig := ⟨[(y24, .bw)], [(y4, .sh)]⟩
def plan97 : Plan := (.seq (.reg [] []) (.seq (.reg [] []) .nil))
theorem ev97 (xs : Vals (ptys sg97.ps)) : evF (P := Try.prog) tab [.fn E25] sg97 Try.f97.results.toList (code Try.f97) plan97 xs = d97 xs.1 := by kernel_rfl
theorem sim97 : Sim Try.prog 97 sg97 d97 := sim_ev mixd tabOK Try.func97 (code_of rfl) Try.call97 (Nat.le_of_ble_eq_true (by kernel_rfl)) (by kernel_rfl) plan97 _ fun xs y h => (ev97 xs).trans h
noncomputable def E97 : FnE Try.prog := ⟨97, sg97, d97, sim97⟩

/-- election/assorter.kindOf -/
noncomputable def d95 (a : (Int × (Int × (Int × (List Int × Int))))) : Option ((Int × Int) ⊕ ((Int × (Int × List Int)) ⊕ ((Int × Int) ⊕ Unit))) :=
  (d97 a).bind fun r =>
  bif !r then
    some (Sum.inr (Sum.inr (Sum.inr ())))
  else
    bif (decide (a.1 = 1)) then
      some (Sum.inl (a.2.1, a.2.2.1))
    else
      bif (decide (a.1 = 2)) then
        some (Sum.inr (Sum.inl (a.2.1, a.2.2.1, a.2.2.2.1)))
      else
        some (Sum.inr (Sum.inr (Sum.inl (a.2.1, a.2.2.2.2))))
def sg95 : Sig := ⟨[(y24, .sh)], [(y119, .sh)]⟩
def plan95 : Plan := (.seq (.reg [] []) (.seq (.block (.seq (.reg [] []) (.cond (.seq (.reg [] []) .nil) (.seq (.reg [] []) (.cond (.seq (.reg [] []) .nil) (.seq (.reg [] []) (.cond (.seq (.reg [] []) .nil) .nil))))))) (.seq (.reg [] []) .nil)))
theorem ev95 (xs : Vals (ptys sg95.ps)) : evF (P := Try.prog) tab [.fn E97] sg95 Try.f95.results.toList (code Try.f95) plan95 xs = d95 xs.1 := by kernel_rfl
theorem sim95 : Sim Try.prog 95 sg95 d95 := sim_ev mixd tabOK Try.func95 (code_of rfl) Try.call95 (Nat.le_of_ble_eq_true (by kernel_rfl)) (by kernel_rfl) plan95 _ fun xs y h => (ev95 xs).trans h
noncomputable def E95 : FnE Try.prog := ⟨95, sg95, d95, sim95⟩

/-- election/assorter.ballot -/
noncomputable def d96 (prefs : List Int) : Option (List Int) :=
  (whileO (β := (List Int) ⊕ (List Int)) (fun ((prefs_1, seen, t6, t7, t8) : (List Int) × (List Bool) × (List Int) × Int × Int) =>
      bif (decide (t8 < t7)) then
        bif (decide (0 ≤ t8) && decide (t8 < (t6.length : Int))) then
          letJ (fun ((prefs_2, seen_1, c, t6_1, t7_1, t8_1, t22) : (List Int) × (List Bool) × Int × (List Int) × Int × Int × Bool) =>
              bif t22 then
                some (Sum.inr (Sum.inr []))
              else
                bif (decide (0 ≤ c) && decide (c < 7)) then
                  some (Sum.inl (prefs_2, (List.set seen_1 (Int.toNat c) true), t6_1, t7_1, (w (t8_1 + 1))))
                else none) fun j_ =>
          bif !(decide ((List.getD t6 (Int.toNat t8) 0) < 0)) then
            bif !(decide (7 ≤ (List.getD t6 (Int.toNat t8) 0))) then
              bif (decide (0 ≤ (List.getD t6 (Int.toNat t8) 0)) && decide ((List.getD t6 (Int.toNat t8) 0) < 7)) then
                j_ (prefs_1, seen, (List.getD t6 (Int.toNat t8) 0), t6, t7, t8, (List.getD seen (Int.toNat (List.getD t6 (Int.toNat t8) 0)) false))
              else none
            else
              j_ (prefs_1, seen, (List.getD t6 (Int.toNat t8) 0), t6, t7, t8, true)
          else
            j_ (prefs_1, seen, (List.getD t6 (Int.toNat t8) 0), t6, t7, t8, true)
        else none
      else
        some (Sum.inr (Sum.inl prefs_1))) (prefs, [false, false, false, false, false, false, false], prefs, (prefs.length : Int), 0)).bind fun
  | Sum.inl prefs_3 =>
    some prefs_3
  | Sum.inr t2 =>
    some t2
def sg96 : Sig := ⟨[(y23, .sh)], [(y23, .sh)]⟩
def plan96 : Plan := (.seq (.reg [] []) (.seq (.reg [] []) (.seq (.seq (.reg [] []) (.block (.loop [(0, .v y23 .sh), (3, .v (.ptr y145) (.own 0 .sh)), (6, .v y23 .sh), (7, .v y2 .sh), (8, .v y2 .sh)] [(.brk 0, [(0, .v y23 .sh)]), (.ret, [(2, .v y23 .sh)])] (.seq (.reg [] []) (.seq (.cond .nil .nil) (.seq (.block (.seq (.reg [] []) (.seq (.join (.reg [] []) [(0, .v y23 .sh), (3, .v (.ptr y145) (.own 0 .sh)), (5, .v y2 .sh), (6, .v y23 .sh), (7, .v y2 .sh), (8, .v y2 .sh), (22, .v y4 .sh)] (.cond (.seq (.reg [] []) .nil) .nil)) (.reg [] [])))) (.reg [] []))))))) (.seq (.reg [] []) .nil))))
theorem ev96 (xs : Vals (ptys sg96.ps)) : evF (P := Try.prog) tab [] sg96 Try.f96.results.toList (code Try.f96) plan96 xs = d96 xs.1 := by kernel_rfl
theorem sim96 : Sim Try.prog 96 sg96 d96 := sim_ev mixd tabOK Try.func96 (code_of rfl) Try.call96 (Nat.le_of_ble_eq_true (by kernel_rfl)) (by kernel_rfl) plan96 _ fun xs y h => (ev96 xs).trans h
noncomputable def E96 : FnE Try.prog := ⟨96, sg96, d96, sim96⟩

/-- (election/assorter.beats).value -/
noncomputable def d165 (k : (Int × Int)) (prefs : List Int) : Option Int :=
  (d82 prefs k.1).bind fun r =>
  (d82 prefs k.2).bind fun r_1 =>
  bif (decide (r = 0)) then
    some 2
  else
    letJ (fun (t18 : Bool) =>
        bif t18 then
          some 0
        else
          some 1) fun j_ =>
    bif (decide (0 ≤ r_1)) then
      bif !(decide (r < 0)) then
        j_ (decide (r_1 < r))
      else
        j_ true
    else
      j_ false
def sg165 : Sig := ⟨[(y140, .sh), (y23, .bw)], [(y2, .sh)]⟩
def plan165 : Plan := (.seq (.reg [] []) (.seq (.reg [] []) (.seq (.block (.seq (.reg [] []) (.cond (.seq (.reg [] []) .nil) (.join (.reg [] []) [(18, .v y4 .sh)] (.cond (.seq (.reg [] []) .nil) .nil))))) (.seq (.reg [] []) .nil))))
theorem ev165 (xs : Vals (ptys sg165.ps)) : evF (P := Try.prog) tab [.fn E82] sg165 Try.f165.results.toList (code Try.f165) plan165 xs = d165 xs.1 xs.2.1 := by kernel_rfl
theorem sim165 : Sim Try.prog 165 sg165 d165 := sim_ev mixd tabOK Try.func165 (code_of rfl) Try.call165 (Nat.le_of_ble_eq_true (by kernel_rfl)) (by kernel_rfl) plan165 _ fun xs y h => (ev165 xs).trans h
noncomputable def E165 : FnE Try.prog := ⟨165, sg165, d165, sim165⟩

/-- (election/assorter.next).value$1 -/
noncomputable def d168 (c : Int) (p1 : (Int × (Int × List Int))) : Option Bool :=
  (d78 p1.2.2 c).bind fun r =>
  some r
def sg168 : Sig := ⟨[(y2, .bw), ((.ptr y142), .bw)], [(y4, .sh)]⟩
def plan168 : Plan := (.seq (.reg [] []) (.seq (.reg [] []) .nil))
theorem ev168 (xs : Vals (ptys sg168.ps)) : evF (P := Try.prog) tab [.fn E78] sg168 Try.f168.results.toList (code Try.f168) plan168 xs = d168 xs.1 xs.2.1 := by kernel_rfl
theorem sim168 : Sim Try.prog 168 sg168 d168 := sim_ev mixd tabOK Try.func168 (code_of rfl) Try.call168 (Nat.le_of_ble_eq_true (by kernel_rfl)) (by kernel_rfl) plan168 _ fun xs y h => (ev168 xs).trans h
noncomputable def E168 : FnE Try.prog := ⟨168, sg168, d168, sim168⟩

/-- slices.IndexFunc[[]int,int] -/
noncomputable def d120 (s : List Int) (f : (Int → Option Bool)) : Option Int :=
  (whileO (β := Unit ⊕ Int) (fun ((s_1, f_1, t7, t8) : (List Int) × (Int → Option Bool) × Int × Int) =>
      bif (decide (t8 < t7)) then
        bif (decide (0 ≤ t8) && decide (t8 < (s_1.length : Int))) then
          (f_1 (List.getD s_1 (Int.toNat t8) 0)).bind fun r =>
          bif r then
            some (Sum.inr (Sum.inr t8))
          else
            some (Sum.inl (s_1, f_1, t7, (w (t8 + 1))))
        else none
      else
        some (Sum.inr (Sum.inl ()))) (s, f, (s.length : Int), 0)).bind fun
  | Sum.inl _ =>
    some (-1)
  | Sum.inr t4 =>
    some t4
def sg120 : Sig := ⟨[(y23, .bw), (y138, .bw)], [(y2, .sh)]⟩
def plan120 : Plan := (.seq (.reg [] []) (.seq (.seq (.reg [] []) (.block (.loop [(0, .v y23 .bw), (1, .v y138 .bw), (7, .v y2 .sh), (8, .v y2 .sh)] [(.brk 0, []), (.ret, [(4, .v y2 .sh)])] (.seq (.reg [] []) (.seq (.cond .nil .nil) (.seq (.block (.seq (.reg [] []) (.seq (.reg [] []) (.cond (.seq (.reg [] []) .nil) .nil)))) (.reg [] []))))))) (.seq (.reg [] []) .nil)))
theorem ev120 (xs : Vals (ptys sg120.ps)) : evF (P := Try.prog) tab [] sg120 Try.f120.results.toList (code Try.f120) plan120 xs = d120 xs.1 xs.2.1 := by kernel_rfl
theorem sim120 : Sim Try.prog 120 sg120 d120 := sim_ev mixd tabOK Try.func120 (code_of rfl) Try.call120 (Nat.le_of_ble_eq_true (by kernel_rfl)) (by kernel_rfl) plan120 _ fun xs y h => (ev120 xs).trans h
noncomputable def E120 : FnE Try.prog := ⟨120, sg120, d120, sim120⟩

/-- (election/assorter.next).value -/
noncomputable def d167 (k : (Int × (Int × List Int))) (prefs : List Int) : Option Int :=
  (d120 prefs (fun a => d168 a k)).bind fun r =>
  letJ (fun ((prefs_1, k_1, at_, t9) : (List Int) × (Int × (Int × List Int)) × Int × Bool) =>
      bif t9 then
        some 2
      else
        letJ (fun (t21 : Bool) =>
            bif t21 then
              some 0
            else
              some 1) fun j__1 =>
        bif (decide (0 ≤ at_)) then
          bif (decide (0 ≤ at_) && decide (at_ < (prefs_1.length : Int))) then
            j__1 (decide ((List.getD prefs_1 (Int.toNat at_) 0) = k_1.2.1))
          else none
        else
          j__1 false) fun j_ =>
  bif (decide (0 ≤ r)) then
    bif (decide (0 ≤ r) && decide (r < (prefs.length : Int))) then
      j_ (prefs, k, r, (decide ((List.getD prefs (Int.toNat r) 0) = k.1)))
    else none
  else
    j_ (prefs, k, r, false)
def sg167 : Sig := ⟨[(y142, .sh), (y23, .bw)], [(y2, .sh)]⟩
def plan167 : Plan := (.seq (.reg [] []) (.seq (.reg [] []) (.seq (.block (.join (.reg [] []) [(1, .v y23 .bw), (2, .v (.ptr y142) (.own 0 .sh)), (5, .v y2 .sh), (9, .v y4 .sh)] (.cond (.seq (.reg [] []) .nil) (.join (.reg [] []) [(21, .v y4 .sh)] (.cond (.seq (.reg [] []) .nil) .nil))))) (.seq (.reg [] []) .nil))))
theorem ev167 (xs : Vals (ptys sg167.ps)) : evF (P := Try.prog) tab [.fn E120, .fn E168] sg167 Try.f167.results.toList (code Try.f167) plan167 xs = d167 xs.1 xs.2.1 := by kernel_rfl
theorem sim167 : Sim Try.prog 167 sg167 d167 := sim_ev mixd tabOK Try.func167 (code_of rfl) Try.call167 (Nat.le_of_ble_eq_true (by kernel_rfl)) (by kernel_rfl) plan167 _ fun xs y h => (ev167 xs).trans h
noncomputable def E167 : FnE Try.prog := ⟨167, sg167, d167, sim167⟩

/-- (election/assorter.quota).value -/
noncomputable def d170 (k : (Int × Int)) (prefs : List Int) : Option Int :=
  bif (decide ((prefs.length : Int) = 0)) then
    some 1
  else
    bif (decide (0 ≤ 0) && decide (0 < (prefs.length : Int))) then
      bif (decide ((List.getD prefs 0 0) = k.1)) then
        some k.2
      else
        some 0
    else none
def sg170 : Sig := ⟨[(y140, .sh), (y23, .bw)], [(y2, .sh)]⟩
def plan170 : Plan := (.seq (.reg [] []) (.seq (.block (.seq (.reg [] []) (.cond (.seq (.reg [] []) .nil) (.seq (.reg [] []) (.cond (.seq (.reg [] []) .nil) .nil))))) (.seq (.reg [] []) .nil)))
theorem ev170 (xs : Vals (ptys sg170.ps)) : evF (P := Try.prog) tab [] sg170 Try.f170.results.toList (code Try.f170) plan170 xs = d170 xs.1 xs.2.1 := by kernel_rfl
theorem sim170 : Sim Try.prog 170 sg170 d170 := sim_ev mixd tabOK Try.func170 (code_of rfl) Try.call170 (Nat.le_of_ble_eq_true (by kernel_rfl)) (by kernel_rfl) plan170 _ fun xs y h => (ev170 xs).trans h
noncomputable def E170 : FnE Try.prog := ⟨170, sg170, d170, sim170⟩

def sgm_value : Sig := ⟨(y119, .sh) :: [(y23, .bw)], [(y2, .sh)]⟩
noncomputable def dm_value : Arr (ptys sgm_value.ps) (Option (Ret sgm_value.res)) := (altD 140 y140 (.alt 142 y142 (.alt 144 y140 .nilI)) (ptys [(y23, .bw)]) d165 (altD 142 y142 (.alt 144 y140 .nilI) (ptys [(y23, .bw)]) d167 (altD 144 y140 .nilI (ptys [(y23, .bw)]) d170 (noneA (ptys ((.nilI, .sh) :: [(y23, .bw)])) _))))
noncomputable def nm_value : String := mname Try.prog 140 165
theorem msim_value : MSim Try.prog nm_value sgm_value dm_value := (msim_alt (by kernel_rfl) rfl rfl sim165 (msim_alt (by kernel_rfl) rfl rfl sim167 (msim_alt (by kernel_rfl) rfl rfl sim170 msim_nil)))
noncomputable def M_value : MeE Try.prog := ⟨nm_value, y119, ⟨fun v w => meth_ahead (f := 165) (by kernel_rfl) v w, ⟨fun v w => meth_ahead (f := 167) (by kernel_rfl) v w, ⟨fun v w => meth_ahead (f := 170) (by kernel_rfl) v w, trivial⟩⟩⟩, sgm_value, dm_value, msim_value⟩

/-- election/assorter.Value -/
noncomputable def d45 (a : (Int × (Int × (Int × (List Int × Int))))) (prefs : List Int) : Option Int :=
  (d95 a).bind fun r =>
  bif (isNilI y119 r) then
    some 0
  else
    (d96 prefs).bind fun r_1 =>
    (bif isNilI y119 r then none else some ()).bind fun u =>
    (dm_value r r_1).bind fun r_2 =>
    some r_2
def sg45 : Sig := ⟨[(y24, .sh), (y23, .sh)], [(y2, .sh)]⟩
def plan45 : Plan := (.seq (.reg [] []) (.seq (.reg [] []) (.seq (.seq (.reg [] []) (.cond (.seq (.reg [] []) .nil) .nil)) (.seq (.reg [] []) .nil))))
theorem ev45 (xs : Vals (ptys sg45.ps)) : evF (P := Try.prog) tab [.fn E95, .fn E96, .me M_value] sg45 Try.f45.results.toList (code Try.f45) plan45 xs = d45 xs.1 xs.2.1 := by kernel_rfl
theorem sim45 : Sim Try.prog 45 sg45 d45 := sim_ev mixd tabOK Try.func45 (code_of rfl) Try.call45 (Nat.le_of_ble_eq_true (by kernel_rfl)) (by kernel_rfl) plan45 _ fun xs y h => (ev45 xs).trans h
noncomputable def E45 : FnE Try.prog := ⟨45, sg45, d45, sim45⟩

/-- (election/assorter.beats).upper -/
noncomputable def d164 (k : (Int × Int)) : Option Int :=
  some 2
def sg164 : Sig := ⟨[(y140, .sh)], [(y2, .sh)]⟩
def plan164 : Plan := (.seq (.reg [] []) (.seq (.reg [] []) .nil))
theorem ev164 (xs : Vals (ptys sg164.ps)) : evF (P := Try.prog) tab [] sg164 Try.f164.results.toList (code Try.f164) plan164 xs = d164 xs.1 := by kernel_rfl
theorem sim164 : Sim Try.prog 164 sg164 d164 := sim_ev mixd tabOK Try.func164 (code_of rfl) Try.call164 (Nat.le_of_ble_eq_true (by kernel_rfl)) (by kernel_rfl) plan164 _ fun xs y h => (ev164 xs).trans h
noncomputable def E164 : FnE Try.prog := ⟨164, sg164, d164, sim164⟩

/-- (election/assorter.next).upper -/
noncomputable def d166 (k : (Int × (Int × List Int))) : Option Int :=
  some 2
def sg166 : Sig := ⟨[(y142, .sh)], [(y2, .sh)]⟩
def plan166 : Plan := (.seq (.reg [] []) (.seq (.reg [] []) .nil))
theorem ev166 (xs : Vals (ptys sg166.ps)) : evF (P := Try.prog) tab [] sg166 Try.f166.results.toList (code Try.f166) plan166 xs = d166 xs.1 := by kernel_rfl
theorem sim166 : Sim Try.prog 166 sg166 d166 := sim_ev mixd tabOK Try.func166 (code_of rfl) Try.call166 (Nat.le_of_ble_eq_true (by kernel_rfl)) (by kernel_rfl) plan166 _ fun xs y h => (ev166 xs).trans h
noncomputable def E166 : FnE Try.prog := ⟨166, sg166, d166, sim166⟩

/-- (election/assorter.quota).upper -/
noncomputable def d169 (k : (Int × Int)) : Option Int :=
  some k.2
def sg169 : Sig := ⟨[(y140, .sh)], [(y2, .sh)]⟩
def plan169 : Plan := (.seq (.reg [] []) (.seq (.reg [] []) .nil))
theorem ev169 (xs : Vals (ptys sg169.ps)) : evF (P := Try.prog) tab [] sg169 Try.f169.results.toList (code Try.f169) plan169 xs = d169 xs.1 := by kernel_rfl
theorem sim169 : Sim Try.prog 169 sg169 d169 := sim_ev mixd tabOK Try.func169 (code_of rfl) Try.call169 (Nat.le_of_ble_eq_true (by kernel_rfl)) (by kernel_rfl) plan169 _ fun xs y h => (ev169 xs).trans h
noncomputable def E169 : FnE Try.prog := ⟨169, sg169, d169, sim169⟩

def sgm_upper : Sig := ⟨(y119, .sh) :: [], [(y2, .sh)]⟩
noncomputable def dm_upper : Arr (ptys sgm_upper.ps) (Option (Ret sgm_upper.res)) := (altD 140 y140 (.alt 142 y142 (.alt 144 y140 .nilI)) (ptys []) d164 (altD 142 y142 (.alt 144 y140 .nilI) (ptys []) d166 (altD 144 y140 .nilI (ptys []) d169 (noneA (ptys ((.nilI, .sh) :: [])) _))))
noncomputable def nm_upper : String := mname Try.prog 140 164
theorem msim_upper : MSim Try.prog nm_upper sgm_upper dm_upper := (msim_alt (by kernel_rfl) rfl rfl sim164 (msim_alt (by kernel_rfl) rfl rfl sim166 (msim_alt (by kernel_rfl) rfl rfl sim169 msim_nil)))
noncomputable def M_upper : MeE Try.prog := ⟨nm_upper, y119, ⟨fun v w => meth_ahead (f := 164) (by kernel_rfl) v w, ⟨fun v w => meth_ahead (f := 166) (by kernel_rfl) v w, ⟨fun v w => meth_ahead (f := 169) (by kernel_rfl) v w, trivial⟩⟩⟩, sgm_upper, dm_upper, msim_upper⟩

/-- election/assorter.Upper -/
noncomputable def d46 (a : (Int × (Int × (Int × (List Int × Int))))) : Option Int :=
  (d95 a).bind fun r =>
  bif (isNilI y119 r) then
    some 0
  else
    (dm_upper r).bind fun r_1 =>
    some r_1
def sg46 : Sig := ⟨[(y24, .sh)], [(y2, .sh)]⟩
def plan46 : Plan := (.seq (.reg [] []) (.seq (.reg [] []) (.seq (.seq (.reg [] []) (.cond (.seq (.reg [] []) .nil) .nil)) (.seq (.reg [] []) .nil))))
theorem ev46 (xs : Vals (ptys sg46.ps)) : evF (P := Try.prog) tab [.fn E95, .me M_upper] sg46 Try.f46.results.toList (code Try.f46) plan46 xs = d46 xs.1 := by kernel_rfl
theorem sim46 : Sim Try.prog 46 sg46 d46 := sim_ev mixd tabOK Try.func46 (code_of rfl) Try.call46 (Nat.le_of_ble_eq_true (by kernel_rfl)) (by kernel_rfl) plan46 _ fun xs y h => (ev46 xs).trans h
noncomputable def E46 : FnE Try.prog := ⟨46, sg46, d46, sim46⟩

/-- election/electionlaw36.Awake -/
noncomputable def d44 : Option Bool :=
  (d45 (1, 0, 1, [], 0) [0, 1]).bind fun r =>
  bif (decide (r = 2)) then
    (d45 (1, 0, 1, [], 0) [2, 0, 1]).bind fun r_1 =>
    bif (decide (r_1 = 1)) then
      (d45 (1, 0, 1, [], 0) [1]).bind fun r_2 =>
      bif (decide (r_2 = 0)) then
        (d45 (1, 0, 1, [], 0) []).bind fun r_3 =>
        bif (decide (r_3 = 1)) then
          (d46 (1, 0, 1, [], 0)).bind fun r_4 =>
          some (decide (r_4 = 2))
        else
          some false
      else
        some false
    else
      some false
  else
    some false
def sg44 : Sig := ⟨[], [(y4, .sh)]⟩
def plan44 : Plan := (.seq (.reg [] []) (.seq (.reg [] []) (.seq (.reg [] [{}, {}, { frz := [(4, [])] }, {}, {}, {}, {}, { frz := [(9, [])] }, {}, {}, {}, {}, {}, { frz := [(15, [])] }]) .nil)))
theorem ev44 (xs : Vals (ptys sg44.ps)) : evF (P := Try.prog) tab [.fn E45, .fn E46] sg44 Try.f44.results.toList (code Try.f44) plan44 xs = d44  := by kernel_rfl
theorem sim44 : Sim Try.prog 44 sg44 d44 := sim_ev mixd tabOK Try.func44 (code_of rfl) Try.call44 (Nat.le_of_ble_eq_true (by kernel_rfl)) (by kernel_rfl) plan44 _ fun xs y h => (ev44 xs).trans h
noncomputable def E44 : FnE Try.prog := ⟨44, sg44, d44, sim44⟩

/-- election/electionlaw36.AssorterOpposite -/
noncomputable def d9 (n : Int) (who : Int) (whom : Int) (among : Int) (prefs : List Int) : Option Bool :=
  (d18 n 6).bind fun r =>
  (d22 (w (2 + r)) 1 who whom among 0).bind fun r_1 =>
  (d43 prefs 9).bind fun r_2 =>
  (d29 (w (2 + r)) r_2).bind fun r_3 =>
  (d44).bind fun r_4 =>
  bif r_4 then
    (d45 r_1 r_3).bind fun r_5 =>
    (d45 (r_1.1, r_1.2.2.1, r_1.2.1, r_1.2.2.2) r_3).bind fun r_6 =>
    some (decide ((w (r_5 + r_6)) = 2))
  else
    some false
def sg9 : Sig := ⟨[(y2, .sh), (y2, .sh), (y2, .sh), (y2, .sh), (y23, .sh)], [(y4, .sh)]⟩
def plan9 : Plan := (.seq (.reg [] []) (.seq (.reg [] []) (.seq (.reg [] []) (.seq (.reg [] []) (.seq (.reg [] []) (.seq (.reg [] []) (.seq (.reg [(13, [])] []) .nil)))))))
theorem ev9 (xs : Vals (ptys sg9.ps)) : evF (P := Try.prog) tab [.fn E18, .fn E22, .fn E43, .fn E29, .fn E44, .fn E45] sg9 Try.f9.results.toList (code Try.f9) plan9 xs = d9 xs.1 xs.2.1 xs.2.2.1 xs.2.2.2.1 xs.2.2.2.2.1 := by kernel_rfl
theorem sim9 : Sim Try.prog 9 sg9 d9 := sim_ev mixd tabOK Try.func9 (code_of rfl) Try.call9 (Nat.le_of_ble_eq_true (by kernel_rfl)) (by kernel_rfl) plan9 _ fun xs y h => (ev9 xs).trans h
noncomputable def E9 : FnE Try.prog := ⟨9, sg9, d9, sim9⟩

/-- election/electionlaw33.Spoil -/
noncomputable def d21 (a : (Int × (Int × (Int × (List Int × Int))))) (where_ : Int) (what : Int) : Option (Int × (Int × (Int × (List Int × Int)))) :=
  bif (decide ((([] : List Int).length : Int) + (a.2.2.2.1.length : Int) ≤ LIM)) then
    letJ (fun ((a_1, t6) : (Int × (Int × (Int × (List Int × Int)))) × (Int × (Int × (Int × (List Int × Int))))) =>
        some a_1) fun j_ =>
    (d18 where_ 8).bind fun r =>
    bif (decide (r = 0)) then
      (d18 what 6).bind fun r_1 =>
      j_ (((w (r_1 - 1)), a.2.1, a.2.2.1, a.2.2.2.1, a.2.2.2.2), (0, 0, 0, [], 0))
    else
      bif (decide (r = 1)) then
        (d18 what 10).bind fun r_2 =>
        j_ ((a.1, (w (r_2 - 1)), a.2.2.1, a.2.2.2.1, a.2.2.2.2), (0, 0, 0, [], 0))
      else
        bif (decide (r = 2)) then
          (d18 what 10).bind fun r_3 =>
          j_ ((a.1, a.2.1, (w (r_3 - 1)), a.2.2.2.1, a.2.2.2.2), (0, 0, 0, [], 0))
        else
          bif (decide (r = 3)) then
            (d18 what 9).bind fun r_4 =>
            j_ ((a.1, a.2.1, a.2.2.1, a.2.2.2.1, (w (r_4 - 1))), (0, 0, 0, [], 0))
          else
            bif (decide (r = 4)) then
              (d18 what 9).bind fun r_5 =>
              bif (decide ((a.2.2.2.1.length : Int) + (([(w (r_5 - 1))] : List Int).length : Int) ≤ LIM)) then
                j_ ((a.1, a.2.1, a.2.2.1, (a.2.2.2.1 ++ [(w (r_5 - 1))]), a.2.2.2.2), (0, 0, 0, [], 0))
              else none
            else
              bif (decide (r = 5)) then
                j_ ((a.1, a.2.1, a.2.2.1, [], a.2.2.2.2), (0, 0, 0, [], 0))
              else
                j_ ((a.1, a.2.1, a.2.2.1, a.2.2.2.1, a.2.2.2.2), (0, 0, 0, [], 0))
  else none
def sg21 : Sig := ⟨[(y24, .sh), (y2, .sh), (y2, .sh)], [(y24, .sh)]⟩
def plan21 : Plan := (.seq (.reg [] []) (.seq (.reg [] []) (.join (.post (.seq (.reg [] []) (.block (.seq (.reg [] []) (.cond (.reg [] []) (.seq (.reg [] []) (.cond (.reg [] []) (.seq (.reg [] []) (.cond (.reg [] []) (.seq (.reg [] []) (.cond (.reg [] []) (.seq (.reg [] []) (.cond (.reg [] []) (.seq (.reg [] []) (.cond (.reg [] []) .nil)))))))))))))) [(3, [0, 1, 1, 1, 0])]) [(3, .v (.ptr y24) (.own 0 (.pr .sh (.pr .sh (.pr .sh (.pr .sh .sh)))))), (6, .v (.ptr y24) (.own 0 .sh))] (.seq (.reg [] []) .nil))))
theorem ev21 (xs : Vals (ptys sg21.ps)) : evF (P := Try.prog) tab [.fn E18] sg21 Try.f21.results.toList (code Try.f21) plan21 xs = d21 xs.1 xs.2.1 xs.2.2.1 := by kernel_rfl
theorem sim21 : Sim Try.prog 21 sg21 d21 := sim_ev mixd tabOK Try.func21 (code_of rfl) Try.call21 (Nat.le_of_ble_eq_true (by kernel_rfl)) (by kernel_rfl) plan21 _ fun xs y h => (ev21 xs).trans h
noncomputable def E21 : FnE Try.prog := ⟨21, sg21, d21, sim21⟩

/-- election/electionref24.Ballot -/
noncomputable def d79 (n : Int) (p : List Int) : Option Bool :=
  (whileO (β := Unit ⊕ Bool) (fun ((n_1, p_1, i) : Int × (List Int) × Int) =>
      bif (decide (i < (p_1.length : Int))) then
        letJ (fun ((n_2, p_2, i_1, t34) : Int × (List Int) × Int × Bool) =>
            bif t34 then
              some (Sum.inr (Sum.inr false))
            else
              some (Sum.inl (n_2, p_2, (w (i_1 + 1))))) fun j_ =>
        bif (decide (0 ≤ i) && decide (i < (p_1.length : Int))) then
          bif !(decide ((List.getD p_1 (Int.toNat i) 0) < 0)) then
            bif (decide (0 ≤ i) && decide (i < (p_1.length : Int))) then
              bif !(decide (n_1 ≤ (List.getD p_1 (Int.toNat i) 0))) then
                bif (cutOK 0 i p_1.length) then
                  bif (decide (0 ≤ i) && decide (i < (p_1.length : Int))) then
                    (d32 (List.drop 0 (List.take (Int.toNat i) p_1)) (List.getD p_1 (Int.toNat i) 0)).bind fun r =>
                    j_ (n_1, p_1, i, r)
                  else none
                else none
              else
                j_ (n_1, p_1, i, true)
            else none
          else
            j_ (n_1, p_1, i, true)
        else none
      else
        some (Sum.inr (Sum.inl ()))) (n, p, 0)).bind fun
  | Sum.inl _ =>
    some true
  | Sum.inr t4 =>
    some t4
def sg79 : Sig := ⟨[(y2, .sh), (y23, .bw)], [(y4, .sh)]⟩
def plan79 : Plan := (.seq (.reg [] []) (.seq (.seq (.reg [] []) (.block (.loop [(0, .v y2 .sh), (1, .v y23 .bw), (5, .v y2 .sh)] [(.brk 0, []), (.ret, [(4, .v y4 .sh)])] (.seq (.seq (.reg [] []) (.cond .nil .nil)) (.seq (.block (.join (.reg [] []) [(0, .v y2 .sh), (1, .v y23 .bw), (5, .v y2 .sh), (34, .v y4 .sh)] (.cond (.seq (.reg [] []) .nil) .nil))) (.reg [] [])))))) (.seq (.reg [] []) .nil)))
theorem ev79 (xs : Vals (ptys sg79.ps)) : evF (P := Try.prog) tab [.fn E32] sg79 Try.f79.results.toList (code Try.f79) plan79 xs = d79 xs.1 xs.2.1 := by kernel_rfl
theorem sim79 : Sim Try.prog 79 sg79 d79 := sim_ev mixd tabOK Try.func79 (code_of rfl) Try.call79 (Nat.le_of_ble_eq_true (by kernel_rfl)) (by kernel_rfl) plan79 _ fun xs y h => (ev79 xs).trans h
noncomputable def E79 : FnE Try.prog := ⟨79, sg79, d79, sim79⟩

/-- election/electionref31.rising -/
noncomputable def d80 (l : List Int) : Option Bool :=
  (whileO (β := Unit ⊕ Bool) (fun ((l_1, i) : (List Int) × Int) =>
      bif (decide (i < (l_1.length : Int))) then
        bif (decide (0 ≤ (w (i - 1))) && decide ((w (i - 1)) < (l_1.length : Int))) then
          bif (decide (0 ≤ i) && decide (i < (l_1.length : Int))) then
            bif (decide ((List.getD l_1 (Int.toNat i) 0) ≤ (List.getD l_1 (Int.toNat (w (i - 1))) 0))) then
              some (Sum.inr (Sum.inr false))
            else
              some (Sum.inl (l_1, (w (i + 1))))
          else none
        else none
      else
        some (Sum.inr (Sum.inl ()))) (l, 1)).bind fun
  | Sum.inl _ =>
    some true
  | Sum.inr t2 =>
    some t2
def sg80 : Sig := ⟨[(y23, .bw)], [(y4, .sh)]⟩
def plan80 : Plan := (.seq (.reg [] []) (.seq (.seq (.reg [] []) (.block (.loop [(0, .v y23 .bw), (3, .v y2 .sh)] [(.brk 0, []), (.ret, [(2, .v y4 .sh)])] (.seq (.seq (.reg [] []) (.cond .nil .nil)) (.seq (.block (.seq (.reg [] []) (.cond (.seq (.reg [] []) .nil) .nil))) (.reg [] [])))))) (.seq (.reg [] []) .nil)))
theorem ev80 (xs : Vals (ptys sg80.ps)) : evF (P := Try.prog) tab [] sg80 Try.f80.results.toList (code Try.f80) plan80 xs = d80 xs.1 := by kernel_rfl
theorem sim80 : Sim Try.prog 80 sg80 d80 := sim_ev mixd tabOK Try.func80 (code_of rfl) Try.call80 (Nat.le_of_ble_eq_true (by kernel_rfl)) (by kernel_rfl) plan80 _ fun xs y h => (ev80 xs).trans h
noncomputable def E80 : FnE Try.prog := ⟨80, sg80, d80, sim80⟩

/-- election/electionref31.Valid -/
noncomputable def d26 (p0 : Int) (p1 : (Int × (Int × (Int × (List Int × Int))))) : Option Bool :=
  letJ (fun ((t0, t3, t32) : Int × (Int × (Int × (Int × (List Int × Int)))) × Bool) =>
      bif t32 then
        some false
      else
        bif (decide (t3.1 = 1)) then
          bif !(decide (t3.2.1 = t3.2.2.1)) then
            bif (decide ((t3.2.2.2.1.length : Int) = 0)) then
              some (decide (t3.2.2.2.2 = 0))
            else
              some false
          else
            some false
        else
          bif (decide (t3.1 = 2)) then
            bif !(decide (t3.2.1 = t3.2.2.1)) then
              (d79 t0 t3.2.2.2.1).bind fun r =>
              bif r then
                (d80 t3.2.2.2.1).bind fun r_1 =>
                bif r_1 then
                  (d32 t3.2.2.2.1 t3.2.1).bind fun r_2 =>
                  bif r_2 then
                    (d32 t3.2.2.2.1 t3.2.2.1).bind fun r_3 =>
                    bif r_3 then
                      some (decide (t3.2.2.2.2 = 0))
                    else
                      some false
                  else
                    some false
                else
                  some false
              else
                some false
            else
              some false
          else
            bif (decide (t3.1 = 3)) then
              bif (decide (t3.2.2.1 = 0)) then
                bif (decide ((t3.2.2.2.1.length : Int) = 0)) then
                  bif (decide (2 ≤ t3.2.2.2.2)) then
                    some (decide (t3.2.2.2.2 ≤ 6))
                  else
                    some false
                else
                  some false
              else
                some false
            else
              some false) fun j_ =>
  bif !(decide (p0 < 1)) then
    bif !(decide (7 < p0)) then
      bif !(decide (p1.2.1 < 0)) then
        bif !(decide (p0 ≤ p1.2.1)) then
          bif !(decide (p1.2.2.1 < 0)) then
            j_ (p0, p1, (decide (p0 ≤ p1.2.2.1)))
          else
            j_ (p0, p1, true)
        else
          j_ (p0, p1, true)
      else
        j_ (p0, p1, true)
    else
      j_ (p0, p1, true)
  else
    j_ (p0, p1, true)
def sg26 : Sig := ⟨[(y2, .sh), (y24, .bw)], [(y4, .sh)]⟩
def plan26 : Plan := (.seq (.reg [] []) (.seq (.join (.reg [] []) [(0, .v y2 .sh), (3, .v (.ptr y24) (.own 0 .bw)), (32, .v y4 .sh)] (.cond (.seq (.reg [] []) .nil) .nil)) (.seq (.seq (.reg [] []) (.block (.seq (.reg [] []) (.cond (.seq (.reg [] []) .nil) (.seq (.reg [] []) (.cond (.seq (.reg [] []) .nil) (.seq (.reg [] []) (.cond (.seq (.reg [] []) .nil) .nil)))))))) (.seq (.reg [] []) .nil))))
theorem ev26 (xs : Vals (ptys sg26.ps)) : evF (P := Try.prog) tab [.fn E79, .fn E80, .fn E32] sg26 Try.f26.results.toList (code Try.f26) plan26 xs = d26 xs.1 xs.2.1 := by kernel_rfl
theorem sim26 : Sim Try.prog 26 sg26 d26 := sim_ev mixd tabOK Try.func26 (code_of rfl) Try.call26 (Nat.le_of_ble_eq_true (by kernel_rfl)) (by kernel_rfl) plan26 _ fun xs y h => (ev26 xs).trans h
noncomputable def E26 : FnE Try.prog := ⟨26, sg26, d26, sim26⟩

/-- election/electionref36.Upper -/
noncomputable def d47 (a : (Int × (Int × (Int × (List Int × Int))))) : Option Int :=
  (d26 7 a).bind fun r =>
  bif !r then
    some 0
  else
    bif (decide (a.1 = 3)) then
      some a.2.2.2.2
    else
      some 2
def sg47 : Sig := ⟨[(y24, .bw)], [(y2, .sh)]⟩
def plan47 : Plan := (.seq (.reg [] []) (.seq (.seq (.reg [] []) (.cond (.seq (.reg [] []) .nil) .nil)) (.seq (.seq (.reg [] []) (.cond (.seq (.reg [] []) .nil) .nil)) (.seq (.reg [] []) .nil))))
theorem ev47 (xs : Vals (ptys sg47.ps)) : evF (P := Try.prog) tab [.fn E26] sg47 Try.f47.results.toList (code Try.f47) plan47 xs = d47 xs.1 := by kernel_rfl
theorem sim47 : Sim Try.prog 47 sg47 d47 := sim_ev mixd tabOK Try.func47 (code_of rfl) Try.call47 (Nat.le_of_ble_eq_true (by kernel_rfl)) (by kernel_rfl) plan47 _ fun xs y h => (ev47 xs).trans h
noncomputable def E47 : FnE Try.prog := ⟨47, sg47, d47, sim47⟩

/-- election/electionref24.Place -/
noncomputable def d87 (p : List Int) (x : Int) : Option Int :=
  (whileO (β := (List Int) ⊕ Int) (fun ((p_1, x_1, i) : (List Int) × Int × Int) =>
      bif (decide (i < (p_1.length : Int))) then
        bif (decide (0 ≤ i) && decide (i < (p_1.length : Int))) then
          bif (decide ((List.getD p_1 (Int.toNat i) 0) = x_1)) then
            some (Sum.inr (Sum.inr i))
          else
            some (Sum.inl (p_1, x_1, (w (i + 1))))
        else none
      else
        some (Sum.inr (Sum.inl p_1))) (p, x, 0)).bind fun
  | Sum.inl p_2 =>
    some (p_2.length : Int)
  | Sum.inr t4 =>
    some t4
def sg87 : Sig := ⟨[(y23, .bw), (y2, .sh)], [(y2, .sh)]⟩
def plan87 : Plan := (.seq (.reg [] []) (.seq (.seq (.reg [] []) (.block (.loop [(0, .v y23 .bw), (1, .v y2 .sh), (5, .v y2 .sh)] [(.brk 0, [(0, .v y23 .bw)]), (.ret, [(4, .v y2 .sh)])] (.seq (.seq (.reg [] []) (.cond .nil .nil)) (.seq (.block (.seq (.reg [] []) (.cond (.seq (.reg [] []) .nil) .nil))) (.reg [] [])))))) (.seq (.reg [] []) .nil)))
theorem ev87 (xs : Vals (ptys sg87.ps)) : evF (P := Try.prog) tab [] sg87 Try.f87.results.toList (code Try.f87) plan87 xs = d87 xs.1 xs.2.1 := by kernel_rfl
theorem sim87 : Sim Try.prog 87 sg87 d87 := sim_ev mixd tabOK Try.func87 (code_of rfl) Try.call87 (Nat.le_of_ble_eq_true (by kernel_rfl)) (by kernel_rfl) plan87 _ fun xs y h => (ev87 xs).trans h
noncomputable def E87 : FnE Try.prog := ⟨87, sg87, d87, sim87⟩

/-- election/electionref36.Value -/
noncomputable def d48 (p0 : (Int × (Int × (Int × (List Int × Int))))) (p1 : List Int) : Option Int :=
  (d26 7 p0).bind fun r =>
  bif !r then
    some 0
  else
    letJ (fun ((t1, t2) : (List Int) × (Int × (Int × (Int × (List Int × Int))))) =>
        bif (decide (t2.1 = 1)) then
          letJ (fun ((t1_1, t2_1, t27) : (List Int) × (Int × (Int × (Int × (List Int × Int)))) × Bool) =>
              bif t27 then
                some 2
              else
                (d87 t1_1 t2_1.2.2.1).bind fun r_2 =>
                (d87 t1_1 t2_1.2.1).bind fun r_3 =>
                bif (decide (r_2 < r_3)) then
                  some 0
                else
                  some 1) fun j__1 =>
          bif (decide (0 < (t1.length : Int))) then
            bif (decide (0 ≤ 0) && decide (0 < (t1.length : Int))) then
              j__1 (t1, t2, (decide ((List.getD t1 0 0) = t2.2.1)))
            else none
          else
            j__1 (t1, t2, false)
        else
          bif (decide (t2.1 = 2)) then
            (whileO (β := ((Int × (Int × (Int × (List Int × Int)))) × Int)) (fun ((t1_2, t2_2, t5, t6) : (List Int) × (Int × (Int × (Int × (List Int × Int)))) × Int × Int) =>
                bif (decide (0 ≤ t6)) then
                  letJ (fun ((t1_3, t2_3, t5_1, t6_1) : (List Int) × (Int × (Int × (Int × (List Int × Int)))) × Int × Int) =>
                      some (Sum.inl (t1_3, t2_3, t5_1, (w (t6_1 - 1))))) fun j__2 =>
                  bif (decide (0 ≤ t6) && decide (t6 < (t1_2.length : Int))) then
                    (d32 t2_2.2.2.2.1 (List.getD t1_2 (Int.toNat t6) 0)).bind fun r_4 =>
                    bif r_4 then
                      bif (decide (0 ≤ t6) && decide (t6 < (t1_2.length : Int))) then
                        j__2 (t1_2, t2_2, (List.getD t1_2 (Int.toNat t6) 0), t6)
                      else none
                    else
                      j__2 (t1_2, t2_2, t5, t6)
                  else none
                else
                  some (Sum.inr (t2_2, t5))) (t1, t2, (-1), (w ((t1.length : Int) - 1)))).bind fun ((t2_4, t5_2) : (Int × (Int × (Int × (List Int × Int)))) × Int) =>
            bif (decide (t5_2 = t2_4.2.1)) then
              some 2
            else
              bif (decide (t5_2 = t2_4.2.2.1)) then
                some 0
              else
                some 1
          else
            bif (decide ((t1.length : Int) = 0)) then
              some 1
            else
              bif (decide (0 ≤ 0) && decide (0 < (t1.length : Int))) then
                bif (decide ((List.getD t1 0 0) = t2.2.1)) then
                  some t2.2.2.2.2
                else
                  some 0
              else none) fun j_ =>
    (d79 7 p1).bind fun r_1 =>
    bif !r_1 then
      j_ ([], p0)
    else
      j_ (p1, p0)
def sg48 : Sig := ⟨[(y24, .bw), (y23, .bw)], [(y2, .sh)]⟩
def plan48 : Plan := (.seq (.reg [] []) (.seq (.seq (.reg [] []) (.cond (.seq (.reg [] []) .nil) .nil)) (.join (.seq (.reg [] []) (.cond (.reg [] []) .nil)) [(1, .v y23 .bw), (2, .v (.ptr y24) (.own 0 .bw))] (.seq (.reg [] []) (.seq (.seq (.reg [] []) (.block (.seq (.reg [] []) (.cond (.seq (.join (.reg [] []) [(1, .v y23 .bw), (2, .v (.ptr y24) (.own 0 .bw)), (27, .v y4 .sh)] (.cond (.seq (.reg [] []) .nil) .nil)) (.seq (.seq (.reg [] []) (.cond (.seq (.reg [] []) .nil) .nil)) (.seq (.reg [] []) .nil))) (.seq (.reg [] []) (.cond (.seq (.seq (.reg [] []) (.block (.loop [(1, .v y23 .bw), (2, .v (.ptr y24) (.own 0 .bw)), (5, .v y2 .sh), (6, .v y2 .sh)] [(.brk 1, [(2, .v (.ptr y24) (.own 0 .bw)), (5, .v y2 .sh)])] (.seq (.seq (.reg [] []) (.cond .nil .nil)) (.join (.block (.seq (.reg [] []) (.cond (.reg [] []) .nil))) [(1, .v y23 .bw), (2, .v (.ptr y24) (.own 0 .bw)), (5, .v y2 .sh), (6, .v y2 .sh)] (.reg [] [])))))) (.seq (.seq (.reg [] []) (.cond (.seq (.reg [] []) .nil) .nil)) (.seq (.seq (.reg [] []) (.cond (.seq (.reg [] []) .nil) .nil)) (.seq (.reg [] []) .nil)))) .nil)))))) (.seq (.seq (.reg [] []) (.cond (.seq (.reg [] []) .nil) .nil)) (.seq (.seq (.reg [] []) (.cond (.seq (.reg [] []) .nil) .nil)) (.seq (.reg [] []) .nil))))))))
theorem ev48 (xs : Vals (ptys sg48.ps)) : evF (P := Try.prog) tab [.fn E26, .fn E79, .fn E87, .fn E32] sg48 Try.f48.results.toList (code Try.f48) plan48 xs = d48 xs.1 xs.2.1 := by kernel_rfl
theorem sim48 : Sim Try.prog 48 sg48 d48 := sim_ev mixd tabOK Try.func48 (code_of rfl) Try.call48 (Nat.le_of_ble_eq_true (by kernel_rfl)) (by kernel_rfl) plan48 _ fun xs y h => (ev48 xs).trans h
noncomputable def E48 : FnE Try.prog := ⟨48, sg48, d48, sim48⟩

/-- election/assorter.Item -/
noncomputable def d49 (a : (Int × (Int × (Int × (List Int × Int))))) (x : ((Int × (Int × Int)) × (Bool × List Int))) : Option Int :=
  letJ (fun ((a_1, x_1, t10) : (Int × (Int × (Int × (List Int × Int)))) × ((Int × (Int × Int)) × (Bool × List Int)) × Bool) =>
      bif t10 then
        some 1
      else
        (d45 a_1 x_1.2.2).bind fun r_1 =>
        some r_1) fun j_ =>
  (d97 a).bind fun r =>
  bif r then
    j_ (a, x, x.2.1)
  else
    j_ (a, x, false)
def sg49 : Sig := ⟨[(y24, .sh), (y65, .sh)], [(y2, .sh)]⟩
def plan49 : Plan := (.seq (.reg [] []) (.seq (.join (.reg [] []) [(2, .v (.ptr y24) (.own 0 .sh)), (3, .v (.ptr y65) (.own 0 .sh)), (10, .v y4 .sh)] (.cond (.seq (.reg [] []) .nil) .nil)) (.seq (.reg [] []) .nil)))
theorem ev49 (xs : Vals (ptys sg49.ps)) : evF (P := Try.prog) tab [.fn E97, .fn E45] sg49 Try.f49.results.toList (code Try.f49) plan49 xs = d49 xs.1 xs.2.1 := by kernel_rfl
theorem sim49 : Sim Try.prog 49 sg49 d49 := sim_ev mixd tabOK Try.func49 (code_of rfl) Try.call49 (Nat.le_of_ble_eq_true (by kernel_rfl)) (by kernel_rfl) plan49 _ fun xs y h => (ev49 xs).trans h
noncomputable def E49 : FnE Try.prog := ⟨49, sg49, d49, sim49⟩

/-- election/electionref36.Item -/
noncomputable def d50 (a : (Int × (Int × (Int × (List Int × Int))))) (x : ((Int × (Int × Int)) × (Bool × List Int))) : Option Int :=
  letJ (fun ((a_1, x_1, t11) : (Int × (Int × (Int × (List Int × Int)))) × ((Int × (Int × Int)) × (Bool × List Int)) × Bool) =>
      bif t11 then
        some 1
      else
        (d48 a_1 x_1.2.2).bind fun r_1 =>
        some r_1) fun j_ =>
  bif x.2.1 then
    (d47 a).bind fun r =>
    j_ (a, x, (decide (0 < r)))
  else
    j_ (a, x, false)
def sg50 : Sig := ⟨[(y24, .bw), (y65, .bw)], [(y2, .sh)]⟩
def plan50 : Plan := (.seq (.reg [] []) (.seq (.join (.reg [] []) [(2, .v (.ptr y24) (.own 0 .bw)), (3, .v (.ptr y65) (.own 0 .bw)), (11, .v y4 .sh)] (.cond (.seq (.reg [] []) .nil) .nil)) (.seq (.reg [] []) .nil)))
theorem ev50 (xs : Vals (ptys sg50.ps)) : evF (P := Try.prog) tab [.fn E47, .fn E48] sg50 Try.f50.results.toList (code Try.f50) plan50 xs = d50 xs.1 xs.2.1 := by kernel_rfl
theorem sim50 : Sim Try.prog 50 sg50 d50 := sim_ev mixd tabOK Try.func50 (code_of rfl) Try.call50 (Nat.le_of_ble_eq_true (by kernel_rfl)) (by kernel_rfl) plan50 _ fun xs y h => (ev50 xs).trans h
noncomputable def E50 : FnE Try.prog := ⟨50, sg50, d50, sim50⟩

/-- election/assorter.Paper -/
noncomputable def d51 (a : (Int × (Int × (Int × (List Int × Int))))) (p : (Bool × List Int)) : Option Int :=
  bif p.1 then
    some 0
  else
    (d45 a p.2).bind fun r =>
    some r
def sg51 : Sig := ⟨[(y24, .sh), (y67, .sh)], [(y2, .sh)]⟩
def plan51 : Plan := (.seq (.reg [] []) (.seq (.seq (.reg [] []) (.cond (.seq (.reg [] []) .nil) .nil)) (.seq (.reg [] []) .nil)))
theorem ev51 (xs : Vals (ptys sg51.ps)) : evF (P := Try.prog) tab [.fn E45] sg51 Try.f51.results.toList (code Try.f51) plan51 xs = d51 xs.1 xs.2.1 := by kernel_rfl
theorem sim51 : Sim Try.prog 51 sg51 d51 := sim_ev mixd tabOK Try.func51 (code_of rfl) Try.call51 (Nat.le_of_ble_eq_true (by kernel_rfl)) (by kernel_rfl) plan51 _ fun xs y h => (ev51 xs).trans h
noncomputable def E51 : FnE Try.prog := ⟨51, sg51, d51, sim51⟩

/-- election/electionref36.Paper -/
noncomputable def d52 (a : (Int × (Int × (Int × (List Int × Int))))) (p : (Bool × List Int)) : Option Int :=
  bif p.1 then
    some 0
  else
    (d48 a p.2).bind fun r =>
    some r
def sg52 : Sig := ⟨[(y24, .bw), (y67, .bw)], [(y2, .sh)]⟩
def plan52 : Plan := (.seq (.reg [] []) (.seq (.seq (.reg [] []) (.cond (.seq (.reg [] []) .nil) .nil)) (.seq (.reg [] []) .nil)))
theorem ev52 (xs : Vals (ptys sg52.ps)) : evF (P := Try.prog) tab [.fn E48] sg52 Try.f52.results.toList (code Try.f52) plan52 xs = d52 xs.1 xs.2.1 := by kernel_rfl
theorem sim52 : Sim Try.prog 52 sg52 d52 := sim_ev mixd tabOK Try.func52 (code_of rfl) Try.call52 (Nat.le_of_ble_eq_true (by kernel_rfl)) (by kernel_rfl) plan52 _ fun xs y h => (ev52 xs).trans h
noncomputable def E52 : FnE Try.prog := ⟨52, sg52, d52, sim52⟩

/-- election/assorter.Over -/
noncomputable def d53 (a : (Int × (Int × (Int × (List Int × Int))))) (x : ((Int × (Int × Int)) × (Bool × List Int))) (p : (Bool × List Int)) : Option Int :=
  (d49 a x).bind fun r =>
  (d51 a p).bind fun r_1 =>
  some (w (r - r_1))
def sg53 : Sig := ⟨[(y24, .sh), (y65, .sh), (y67, .sh)], [(y2, .sh)]⟩
def plan53 : Plan := (.seq (.reg [] []) (.seq (.reg [] []) .nil))
theorem ev53 (xs : Vals (ptys sg53.ps)) : evF (P := Try.prog) tab [.fn E49, .fn E51] sg53 Try.f53.results.toList (code Try.f53) plan53 xs = d53 xs.1 xs.2.1 xs.2.2.1 := by kernel_rfl
theorem sim53 : Sim Try.prog 53 sg53 d53 := sim_ev mixd tabOK Try.func53 (code_of rfl) Try.call53 (Nat.le_of_ble_eq_true (by kernel_rfl)) (by kernel_rfl) plan53 _ fun xs y h => (ev53 xs).trans h
noncomputable def E53 : FnE Try.prog := ⟨53, sg53, d53, sim53⟩

/-- election/electionlaw36.AssorterTells -/
noncomputable def d10 (p0 : (Int × (Int × (Int × (List Int × Int))))) (p1 : ((Int × (Int × Int)) × (Bool × List Int))) (p2 : (Bool × List Int)) (p3 : Bool) (p4 : Int) (p5 : Int) (p6 : Int) (p7 : Int) (p8 : Int) (p9 : Int) (p10 : Int) (p11 : Int) : Option Bool :=
  letJ (fun ((t3, t4, t5, t6, t7, t8, t9, t10, t11, t12, t13, t14, t40) : Bool × Int × Int × Int × Int × Int × Int × Int × Int × (Int × (Int × (Int × (List Int × Int)))) × ((Int × (Int × Int)) × (Bool × List Int)) × (Bool × List Int) × Bool) =>
      bif t40 then
        (d44).bind fun r =>
        some r
      else
        letJ (fun ((t12_1, t13_1, t14_1) : (Int × (Int × (Int × (List Int × Int)))) × ((Int × (Int × Int)) × (Bool × List Int)) × (Bool × List Int)) =>
            (d44).bind fun r_6 =>
            bif r_6 then
              (d46 t12_1).bind fun r_7 =>
              (d47 t12_1).bind fun r_8 =>
              bif (decide (r_7 = r_8)) then
                (d45 t12_1 t13_1.2.2).bind fun r_9 =>
                (d48 t12_1 t13_1.2.2).bind fun r_10 =>
                bif (decide (r_9 = r_10)) then
                  (d49 t12_1 t13_1).bind fun r_11 =>
                  (d50 t12_1 t13_1).bind fun r_12 =>
                  bif (decide (r_11 = r_12)) then
                    (d51 t12_1 t14_1).bind fun r_13 =>
                    (d52 t12_1 t14_1).bind fun r_14 =>
                    bif (decide (r_13 = r_14)) then
                      (d53 t12_1 t13_1 t14_1).bind fun r_15 =>
                      (d50 t12_1 t13_1).bind fun r_16 =>
                      (d52 t12_1 t14_1).bind fun r_17 =>
                      some (decide (r_15 = (w (r_16 - r_17))))
                    else
                      some false
                  else
                    some false
                else
                  some false
              else
                some false
            else
              some false) fun j__1 =>
        bif !t3 then
          (d18 t4 6).bind fun r_1 =>
          (d22 (w (2 + r_1)) t5 t6 t7 t8 t9).bind fun r_2 =>
          (d21 r_2 t10 t11).bind fun r_3 =>
          (d29 (w (2 + r_1)) t13.2.2).bind fun r_4 =>
          (d29 (w (2 + r_1)) t14.2).bind fun r_5 =>
          j__1 (r_3, (t13.1, t13.2.1, r_4), (t14.1, r_5))
        else
          j__1 (t12, t13, t14)) fun j_ =>
  bif !(decide (9 < (p0.2.2.2.1.length : Int))) then
    bif !(decide (9 < (p1.2.2.length : Int))) then
      j_ (p3, p4, p5, p6, p7, p8, p9, p10, p11, p0, p1, p2, (decide (9 < (p2.2.length : Int))))
    else
      j_ (p3, p4, p5, p6, p7, p8, p9, p10, p11, p0, p1, p2, true)
  else
    j_ (p3, p4, p5, p6, p7, p8, p9, p10, p11, p0, p1, p2, true)
def sg10 : Sig := ⟨[(y24, .sh), (y65, .sh), (y67, .sh), (y4, .sh), (y2, .sh), (y2, .sh), (y2, .sh), (y2, .sh), (y2, .sh), (y2, .sh), (y2, .sh), (y2, .sh)], [(y4, .sh)]⟩
def plan10 : Plan := (.seq (.reg [] []) (.seq (.join (.reg [] []) [(3, .v y4 .sh), (4, .v y2 .sh), (5, .v y2 .sh), (6, .v y2 .sh), (7, .v y2 .sh), (8, .v y2 .sh), (9, .v y2 .sh), (10, .v y2 .sh), (11, .v y2 .sh), (12, .v (.ptr y24) (.own 0 .sh)), (13, .v (.ptr y65) (.own 0 .sh)), (14, .v (.ptr y67) (.own 0 .sh)), (40, .v y4 .sh)] (.cond (.seq (.reg [] []) .nil) .nil)) (.join (.post (.seq (.reg [] []) (.cond (.seq (.reg [] []) (.seq (.reg [] []) (.reg [] []))) .nil)) [(13, [0, 1, 1]), (14, [0, 1])]) [(12, .v (.ptr y24) (.own 0 .sh)), (13, .v (.ptr y65) (.own 0 (.pr .sh (.pr .sh .sh)))), (14, .v (.ptr y67) (.own 0 (.pr .sh .sh)))] (.seq (.reg [] []) .nil))))
theorem ev10 (xs : Vals (ptys sg10.ps)) : evF (P := Try.prog) tab [.fn E44, .fn E18, .fn E22, .fn E21, .fn E29, .fn E46, .fn E47, .fn E45, .fn E48, .fn E49, .fn E50, .fn E51, .fn E52, .fn E53] sg10 Try.f10.results.toList (code Try.f10) plan10 xs = d10 xs.1 xs.2.1 xs.2.2.1 xs.2.2.2.1 xs.2.2.2.2.1 xs.2.2.2.2.2.1 xs.2.2.2.2.2.2.1 xs.2.2.2.2.2.2.2.1 xs.2.2.2.2.2.2.2.2.1 xs.2.2.2.2.2.2.2.2.2.1 xs.2.2.2.2.2.2.2.2.2.2.1 xs.2.2.2.2.2.2.2.2.2.2.2.1 := by kernel_rfl
theorem sim10 : Sim Try.prog 10 sg10 d10 := sim_ev mixd tabOK Try.func10 (code_of rfl) Try.call10 (Nat.le_of_ble_eq_true (by kernel_rfl)) (by kernel_rfl) plan10 _ fun xs y h => (ev10 xs).trans h
noncomputable def E10 : FnE Try.prog := ⟨10, sg10, d10, sim10⟩

/-- election/electionmake.Ballots -/
noncomputable def d65 (n : Int) (l : List (List Int)) (most : Int) : Option (List (List Int)) :=
  (whileO (β := (List (List Int))) (fun ((n_1, l_1, most_1, out, i) : Int × (List (List Int)) × Int × (List (List Int)) × Int) =>
      letJ (fun ((n_2, l_2, most_2, out_1, i_1, t17) : Int × (List (List Int)) × Int × (List (List Int)) × Int × Bool) =>
          bif t17 then
            bif (decide (0 ≤ i_1) && decide (i_1 < (l_2.length : Int))) then
              bif (decide (0 ≤ i_1) && decide (i_1 < (l_2.length : Int))) then
                bif (cutOK 0 (bif (decide (12 < ((List.getD l_2 (Int.toNat i_1) []).length : Int))) then 12 else ((List.getD l_2 (Int.toNat i_1) []).length : Int)) (List.getD l_2 (Int.toNat i_1) []).length) then
                  (d29 n_2 (List.drop 0 (List.take (Int.toNat (bif (decide (12 < ((List.getD l_2 (Int.toNat i_1) []).length : Int))) then 12 else ((List.getD l_2 (Int.toNat i_1) []).length : Int))) (List.getD l_2 (Int.toNat i_1) [])))).bind fun r =>
                  bif (decide ((out_1.length : Int) + (([r] : List (List Int)).length : Int) ≤ LIM)) then
                    some (Sum.inl (n_2, l_2, most_2, (out_1 ++ [r]), (w (i_1 + 1))))
                  else none
                else none
              else none
            else none
          else
            some (Sum.inr out_1)) fun j_ =>
      bif (decide (i < (l_1.length : Int))) then
        j_ (n_1, l_1, most_1, out, i, (decide (i < most_1)))
      else
        j_ (n_1, l_1, most_1, out, i, false)) (n, l, most, [], 0)).bind fun (out_2 : List (List Int)) =>
  some out_2
def sg65 : Sig := ⟨[(y2, .sh), (y26, .bw), (y2, .sh)], [(y26, (.own 23 .sh))]⟩
def plan65 : Plan := (.seq (.reg [] []) (.seq (.reg [] [{ fl := 2 }]) (.seq (.seq (.reg [] []) (.block (.loop [(0, .v y2 .sh), (1, .v y26 .bw), (2, .v y2 .sh), (7, .v y26 (.own 23 .sh)), (8, .v y2 .sh)] [(.brk 0, [(7, .v y26 (.own 23 .sh))])] (.seq (.join (.reg [] []) [(0, .v y2 .sh), (1, .v y26 .bw), (2, .v y2 .sh), (7, .v y26 (.own 23 .sh)), (8, .v y2 .sh), (17, .v y4 .sh)] (.cond .nil .nil)) (.seq (.block (.reg [] [{}, {}, {}, {}, {}, {}, {}, {}, {}, {}, {}, {}, {}, {}, { frz := [(33, [])] }])) (.reg [] [])))))) (.seq (.reg [] []) .nil))))
theorem ev65 (xs : Vals (ptys sg65.ps)) : evF (P := Try.prog) tab [.fn E29] sg65 Try.f65.results.toList (code Try.f65) plan65 xs = d65 xs.1 xs.2.1 xs.2.2.1 := by kernel_rfl
theorem sim65 : Sim Try.prog 65 sg65 d65 := sim_ev mixd tabOK Try.func65 (code_of rfl) Try.call65 (Nat.le_of_ble_eq_true (by kernel_rfl)) (by kernel_rfl) plan65 _ fun xs y h => (ev65 xs).trans h
noncomputable def E65 : FnE Try.prog := ⟨65, sg65, d65, sim65⟩

/-- election/electionlaw36.Items -/
noncomputable def d54 (n : Int) (l : List (List Int)) (phantoms : List Bool) (most : Int) : Option (List ((Int × (Int × Int)) × (Bool × List Int))) :=
  (d65 n l most).bind fun r =>
  (whileO (β := (List ((Int × (Int × Int)) × (Bool × List Int)))) (fun ((phantoms_1, out, b, i) : (List Bool) × (List ((Int × (Int × Int)) × (Bool × List Int))) × (List (List Int)) × Int) =>
      bif (decide (i < (b.length : Int))) then
        letJ (fun ((phantoms_3, out_2, b_2, i_2) : (List Bool) × (List ((Int × (Int × Int)) × (Bool × List Int))) × (List (List Int)) × Int) =>
            some (Sum.inl (phantoms_3, out_2, b_2, (w (i_2 + 1))))) fun j__1 =>
        letJ (fun ((phantoms_2, out_1, b_1, i_1, t31) : (List Bool) × (List ((Int × (Int × Int)) × (Bool × List Int))) × (List (List Int)) × Int × Bool) =>
            bif t31 then
              bif (decide ((out_1.length : Int) + (([((0, 0, 0), true, [])] : List ((Int × (Int × Int)) × (Bool × List Int))).length : Int) ≤ LIM)) then
                j__1 (phantoms_2, (out_1 ++ [((0, 0, 0), true, [])]), b_1, i_1)
              else none
            else
              bif (decide (0 ≤ i_1) && decide (i_1 < (b_1.length : Int))) then
                bif (decide ((out_1.length : Int) + (([((1, (w (1 + (w (Int.tdiv i_1 16)))), (w (Int.tmod i_1 16))), false, (List.getD b_1 (Int.toNat i_1) []))] : List ((Int × (Int × Int)) × (Bool × List Int))).length : Int) ≤ LIM)) then
                  j__1 (phantoms_2, (out_1 ++ [((1, (w (1 + (w (Int.tdiv i_1 16)))), (w (Int.tmod i_1 16))), false, (List.getD b_1 (Int.toNat i_1) []))]), b_1, i_1)
                else none
              else none) fun j_ =>
        bif (decide (i < (phantoms_1.length : Int))) then
          bif (decide (0 ≤ i) && decide (i < (phantoms_1.length : Int))) then
            j_ (phantoms_1, out, b, i, (List.getD phantoms_1 (Int.toNat i) false))
          else none
        else
          j_ (phantoms_1, out, b, i, false)
      else
        some (Sum.inr out)) (phantoms, [], r, 0)).bind fun (out_3 : List ((Int × (Int × Int)) × (Bool × List Int))) =>
  some out_3
def sg54 : Sig := ⟨[(y2, .sh), (y26, .bw), (y75, .bw), (y2, .sh)], [(y74, (.own 66 .sh))]⟩
def plan54 : Plan := (.seq (.reg [] []) (.seq (.reg [] [{ fl := 2 }]) (.seq (.reg [] []) (.seq (.seq (.reg [] []) (.block (.loop [(2, .v y75 .bw), (9, .v y74 (.own 66 .sh)), (10, .v y26 (.own 23 .sh)), (11, .v y2 .sh)] [(.brk 0, [(9, .v y74 (.own 66 .sh))])] (.seq (.seq (.reg [] []) (.cond .nil .nil)) (.join (.block (.seq (.join (.reg [] []) [(2, .v y75 .bw), (9, .v y74 (.own 66 .sh)), (10, .v y26 (.own 23 .sh)), (11, .v y2 .sh), (31, .v y4 .sh)] (.cond (.seq (.reg [] []) .nil) .nil)) (.reg [] []))) [(2, .v y75 .bw), (9, .v y74 (.own 66 .sh)), (10, .v y26 (.own 23 .sh)), (11, .v y2 .sh)] (.reg [] [])))))) (.seq (.reg [] []) .nil)))))
theorem ev54 (xs : Vals (ptys sg54.ps)) : evF (P := Try.prog) tab [.fn E65] sg54 Try.f54.results.toList (code Try.f54) plan54 xs = d54 xs.1 xs.2.1 xs.2.2.1 xs.2.2.2.1 := by kernel_rfl
theorem sim54 : Sim Try.prog 54 sg54 d54 := sim_ev mixd tabOK Try.func54 (code_of rfl) Try.call54 (Nat.le_of_ble_eq_true (by kernel_rfl)) (by kernel_rfl) plan54 _ fun xs y h => (ev54 xs).trans h
noncomputable def E54 : FnE Try.prog := ⟨54, sg54, d54, sim54⟩

/-- election/assorter.Tally -/
noncomputable def d55 (a : (Int × (Int × (Int × (List Int × Int))))) (items : List ((Int × (Int × Int)) × (Bool × List Int))) : Option (Int × (Int × Int)) :=
  letJ (fun ((items_1, a_1, t4, t15) : (List ((Int × (Int × Int)) × (Bool × List Int))) × (Int × (Int × (Int × (List Int × Int)))) × (Int × (Int × Int)) × Bool) =>
      bif t15 then
        some (0, 0, 0)
      else
        (d46 a_1).bind fun r_1 =>
        (whileO (β := ((Int × (Int × Int)) × (Int × (Int × Int)))) (fun ((a_2, t4_1, t, t25, t26, t27) : (Int × (Int × (Int × (List Int × Int)))) × (Int × (Int × Int)) × (Int × (Int × Int)) × (List ((Int × (Int × Int)) × (Bool × List Int))) × Int × Int) =>
            bif (decide (t27 < t26)) then
              bif (decide (0 ≤ t27) && decide (t27 < (t25.length : Int))) then
                (d49 a_2 (List.getD t25 (Int.toNat t27) ((0, 0, 0), false, []))).bind fun r_2 =>
                some (Sum.inl (a_2, t4_1, (t.1, (w (t.2.1 + r_2)), t.2.2), t25, t26, (w (t27 + 1))))
              else none
            else
              some (Sum.inr (t4_1, t))) (a_1, t4, ((items_1.length : Int), (w (0 - (items_1.length : Int))), r_1), items_1, (items_1.length : Int), 0)).bind fun ((t4_2, t_1) : (Int × (Int × Int)) × (Int × (Int × Int))) =>
        some t_1) fun j_ =>
  (d97 a).bind fun r =>
  bif !(!r) then
    j_ (items, a, (0, 0, 0), (decide (1024 < (items.length : Int))))
  else
    j_ (items, a, (0, 0, 0), true)
def sg55 : Sig := ⟨[(y24, .sh), (y74, .sh)], [(y63, .sh)]⟩
def plan55 : Plan := (.seq (.reg [] []) (.seq (.join (.reg [] []) [(1, .v y74 .sh), (2, .v (.ptr y24) (.own 0 .sh)), (4, .v (.ptr y63) (.own 0 .sh)), (15, .v y4 .sh)] (.cond (.seq (.reg [] []) .nil) .nil)) (.seq (.reg [] []) (.seq (.seq (.reg [] []) (.block (.loop [(2, .v (.ptr y24) (.own 0 .sh)), (4, .v (.ptr y63) (.own 0 .sh)), (5, .v (.ptr y63) (.own 0 .sh)), (25, .v y74 .sh), (26, .v y2 .sh), (27, .v y2 .sh)] [(.brk 0, [(4, .v (.ptr y63) (.own 0 .sh)), (5, .v (.ptr y63) (.own 0 .sh))])] (.seq (.reg [] []) (.seq (.cond .nil .nil) (.seq (.block (.seq (.reg [] []) (.reg [] []))) (.reg [] []))))))) (.seq (.reg [] []) .nil)))))
theorem ev55 (xs : Vals (ptys sg55.ps)) : evF (P := Try.prog) tab [.fn E97, .fn E46, .fn E49] sg55 Try.f55.results.toList (code Try.f55) plan55 xs = d55 xs.1 xs.2.1 := by kernel_rfl
theorem sim55 : Sim Try.prog 55 sg55 d55 := sim_ev mixd tabOK Try.func55 (code_of rfl) Try.call55 (Nat.le_of_ble_eq_true (by kernel_rfl)) (by kernel_rfl) plan55 _ fun xs y h => (ev55 xs).trans h
noncomputable def E55 : FnE Try.prog := ⟨55, sg55, d55, sim55⟩

/-- election/electionref36.Tally -/
noncomputable def d56 (a : (Int × (Int × (Int × (List Int × Int))))) (items : List ((Int × (Int × Int)) × (Bool × List Int))) : Option (Int × (Int × Int)) :=
  letJ (fun ((items_1, a_1, t4, t14) : (List ((Int × (Int × Int)) × (Bool × List Int))) × (Int × (Int × (Int × (List Int × Int)))) × (Int × (Int × Int)) × Bool) =>
      bif t14 then
        some (0, 0, 0)
      else
        (d47 a_1).bind fun r_1 =>
        (whileO (β := ((Int × (Int × Int)) × (Int × (Int × Int)))) (fun ((items_2, a_2, t4_1, t, i) : (List ((Int × (Int × Int)) × (Bool × List Int))) × (Int × (Int × (Int × (List Int × Int)))) × (Int × (Int × Int)) × (Int × (Int × Int)) × Int) =>
            bif (decide (i < (items_2.length : Int))) then
              bif (decide (0 ≤ i) && decide (i < (items_2.length : Int))) then
                (d50 a_2 (List.getD items_2 (Int.toNat i) ((0, 0, 0), false, []))).bind fun r_2 =>
                some (Sum.inl (items_2, a_2, t4_1, (t.1, (w (t.2.1 + r_2)), t.2.2), (w (i + 1))))
              else none
            else
              some (Sum.inr (t4_1, t))) (items_1, a_1, t4, ((items_1.length : Int), (w (0 - (items_1.length : Int))), r_1), 0)).bind fun ((t4_2, t_1) : (Int × (Int × Int)) × (Int × (Int × Int))) =>
        some t_1) fun j_ =>
  bif !(decide (1024 < (items.length : Int))) then
    (d47 a).bind fun r =>
    j_ (items, a, (0, 0, 0), (decide (r = 0)))
  else
    j_ (items, a, (0, 0, 0), true)
def sg56 : Sig := ⟨[(y24, .bw), (y74, .bw)], [(y63, .sh)]⟩
def plan56 : Plan := (.seq (.reg [] []) (.seq (.join (.reg [] []) [(1, .v y74 .bw), (2, .v (.ptr y24) (.own 0 .bw)), (4, .v (.ptr y63) (.own 0 .sh)), (14, .v y4 .sh)] (.cond (.seq (.reg [] []) .nil) .nil)) (.seq (.reg [] []) (.seq (.seq (.reg [] []) (.block (.loop [(1, .v y74 .bw), (2, .v (.ptr y24) (.own 0 .bw)), (4, .v (.ptr y63) (.own 0 .sh)), (5, .v (.ptr y63) (.own 0 .sh)), (6, .v y2 .sh)] [(.brk 0, [(4, .v (.ptr y63) (.own 0 .sh)), (5, .v (.ptr y63) (.own 0 .sh))])] (.seq (.seq (.reg [] []) (.cond .nil .nil)) (.seq (.block (.reg [] [])) (.reg [] [])))))) (.seq (.reg [] []) .nil)))))
theorem ev56 (xs : Vals (ptys sg56.ps)) : evF (P := Try.prog) tab [.fn E47, .fn E50] sg56 Try.f56.results.toList (code Try.f56) plan56 xs = d56 xs.1 xs.2.1 := by kernel_rfl
theorem sim56 : Sim Try.prog 56 sg56 d56 := sim_ev mixd tabOK Try.func56 (code_of rfl) Try.call56 (Nat.le_of_ble_eq_true (by kernel_rfl)) (by kernel_rfl) plan56 _ fun xs y h => (ev56 xs).trans h
noncomputable def E56 : FnE Try.prog := ⟨56, sg56, d56, sim56⟩

/-- election/electionlaw36.AssorterTally -/
noncomputable def d11 (p0 : (Int × (Int × (Int × (List Int × Int))))) (p1 : List ((Int × (Int × Int)) × (Bool × List Int))) (p2 : Bool) (p3 : Int) (p4 : List (List Int)) (p5 : List Bool) (p6 : Int) (p7 : Int) (p8 : Int) (p9 : Int) (p10 : Int) (p11 : Int) : Option Bool :=
  letJ (fun ((t1, t2, t3, t4, t5, t6, t7, t8, t9, t10, t11, t12, t34) : (List ((Int × (Int × Int)) × (Bool × List Int))) × Bool × Int × (List (List Int)) × (List Bool) × Int × Int × Int × Int × Int × Int × (Int × (Int × (Int × (List Int × Int)))) × Bool) =>
      bif t34 then
        (d44).bind fun r =>
        some r
      else
        (whileO (β := ((List ((Int × (Int × Int)) × (Bool × List Int))) × Bool × Int × (List (List Int)) × (List Bool) × Int × Int × Int × Int × Int × Int × (Int × (Int × (Int × (List Int × Int))))) ⊕ Bool) (fun ((t1_1, t2_1, t3_1, t4_1, t5_1, t6_1, t7_1, t8_1, t9_1, t10_1, t11_1, t12_1, t25) : (List ((Int × (Int × Int)) × (Bool × List Int))) × Bool × Int × (List (List Int)) × (List Bool) × Int × Int × Int × Int × Int × Int × (Int × (Int × (Int × (List Int × Int)))) × Int) =>
            bif (decide (t25 < (t1_1.length : Int))) then
              bif (decide (0 ≤ t25) && decide (t25 < (t1_1.length : Int))) then
                bif (decide (9 < ((((List.getD t1_1 (Int.toNat t25) ((0, 0, 0), false, [])).2).2).length : Int))) then
                  (d44).bind fun r_1 =>
                  some (Sum.inr (Sum.inr r_1))
                else
                  some (Sum.inl (t1_1, t2_1, t3_1, t4_1, t5_1, t6_1, t7_1, t8_1, t9_1, t10_1, t11_1, t12_1, (w (t25 + 1))))
              else none
            else
              some (Sum.inr (Sum.inl (t1_1, t2_1, t3_1, t4_1, t5_1, t6_1, t7_1, t8_1, t9_1, t10_1, t11_1, t12_1)))) (t1, t2, t3, t4, t5, t6, t7, t8, t9, t10, t11, t12, 0)).bind fun
        | Sum.inl (t1_2, t2_2, t3_2, t4_2, t5_2, t6_2, t7_2, t8_2, t9_2, t10_2, t11_2, t12_2) =>
          letJ (fun ((t1_3, t12_3) : (List ((Int × (Int × Int)) × (Bool × List Int))) × (Int × (Int × (Int × (List Int × Int))))) =>
              (d44).bind fun r_6 =>
              bif r_6 then
                (d55 t12_3 t1_3).bind fun r_7 =>
                (d56 t12_3 t1_3).bind fun r_8 =>
                some (decide (r_7.1 = r_8.1) && (decide (r_7.2.1 = r_8.2.1) && decide (r_7.2.2 = r_8.2.2)))
              else
                some false) fun j__1 =>
          bif !t2_2 then
            (d18 t3_2 6).bind fun r_2 =>
            (d22 (w (2 + r_2)) t6_2 t7_2 t8_2 t9_2 t10_2).bind fun r_3 =>
            (d54 (w (2 + r_2)) t4_2 t5_2 30).bind fun r_4 =>
            bif (decide (t11_2 = 7)) then
              (d18 t7_2 2).bind fun r_5 =>
              bif (decide (0 ≤ (w ((w (1024 - (r_4.length : Int))) + r_5))) && decide ((r_4.length : Int) + (w ((w (1024 - (r_4.length : Int))) + r_5)) ≤ LIM)) then
                j__1 ((r_4 ++ (List.replicate (Int.toNat (w ((w (1024 - (r_4.length : Int))) + r_5))) ((0, 0, 0), false, []))), r_3)
              else none
            else
              j__1 (r_4, r_3)
          else
            j__1 (t1_2, t12_2)
        | Sum.inr t24 =>
          some t24) fun j_ =>
  bif !(decide (9 < (p0.2.2.2.1.length : Int))) then
    j_ (p1, p2, p3, p4, p5, p6, p7, p8, p9, p10, p11, p0, (decide (30 < (p1.length : Int))))
  else
    j_ (p1, p2, p3, p4, p5, p6, p7, p8, p9, p10, p11, p0, true)
def sg11 : Sig := ⟨[(y24, .sh), (y74, .sh), (y4, .sh), (y2, .sh), (y26, .bw), (y75, .bw), (y2, .sh), (y2, .sh), (y2, .sh), (y2, .sh), (y2, .sh), (y2, .sh)], [(y4, .sh)]⟩
def plan11 : Plan := (.seq (.reg [] []) (.seq (.join (.reg [] []) [(1, .v y74 .sh), (2, .v y4 .sh), (3, .v y2 .sh), (4, .v y26 .bw), (5, .v y75 .bw), (6, .v y2 .sh), (7, .v y2 .sh), (8, .v y2 .sh), (9, .v y2 .sh), (10, .v y2 .sh), (11, .v y2 .sh), (12, .v (.ptr y24) (.own 0 .sh)), (34, .v y4 .sh)] (.cond (.seq (.reg [] []) .nil) .nil)) (.seq (.seq (.reg [] []) (.block (.loop [(1, .v y74 .sh), (2, .v y4 .sh), (3, .v y2 .sh), (4, .v y26 .bw), (5, .v y75 .bw), (6, .v y2 .sh), (7, .v y2 .sh), (8, .v y2 .sh), (9, .v y2 .sh), (10, .v y2 .sh), (11, .v y2 .sh), (12, .v (.ptr y24) (.own 0 .sh)), (25, .v y2 .sh)] [(.brk 0, [(1, .v y74 .sh), (2, .v y4 .sh), (3, .v y2 .sh), (4, .v y26 .bw), (5, .v y75 .bw), (6, .v y2 .sh), (7, .v y2 .sh), (8, .v y2 .sh), (9, .v y2 .sh), (10, .v y2 .sh), (11, .v y2 .sh), (12, .v (.ptr y24) (.own 0 .sh))]), (.ret, [(24, .v y4 .sh)])] (.seq (.seq (.reg [] []) (.cond .nil .nil)) (.seq (.block (.seq (.reg [] []) (.cond (.seq (.reg [] []) .nil) .nil))) (.reg [] [])))))) (.join (.post (.seq (.reg [] []) (.cond (.seq (.reg [] []) (.seq (.reg [] []) (.seq (.reg [] []) (.seq (.reg [] []) (.cond (.reg [] []) .nil))))) .nil)) [(1, [])]) [(1, .v y74 .sh), (12, .v (.ptr y24) (.own 0 .sh))] (.seq (.reg [] []) .nil)))))
theorem ev11 (xs : Vals (ptys sg11.ps)) : evF (P := Try.prog) tab [.fn E44, .fn E18, .fn E22, .fn E54, .fn E55, .fn E56] sg11 Try.f11.results.toList (code Try.f11) plan11 xs = d11 xs.1 xs.2.1 xs.2.2.1 xs.2.2.2.1 xs.2.2.2.2.1 xs.2.2.2.2.2.1 xs.2.2.2.2.2.2.1 xs.2.2.2.2.2.2.2.1 xs.2.2.2.2.2.2.2.2.1 xs.2.2.2.2.2.2.2.2.2.1 xs.2.2.2.2.2.2.2.2.2.2.1 xs.2.2.2.2.2.2.2.2.2.2.2.1 := by kernel_rfl
theorem sim11 : Sim Try.prog 11 sg11 d11 := sim_ev mixd tabOK Try.func11 (code_of rfl) Try.call11 (Nat.le_of_ble_eq_true (by kernel_rfl)) (by kernel_rfl) plan11 _ fun xs y h => (ev11 xs).trans h
noncomputable def E11 : FnE Try.prog := ⟨11, sg11, d11, sim11⟩

/-- election/electionlaw36.Papers -/
noncomputable def d57 (n : Int) (items : List ((Int × (Int × Int)) × (Bool × List Int))) (changed : List (List Int)) (missing : List Bool) : Option (List (Bool × List Int)) :=
  (whileO (β := (List (Bool × List Int))) (fun ((n_1, items_1, changed_1, missing_1, out, i) : Int × (List ((Int × (Int × Int)) × (Bool × List Int))) × (List (List Int)) × (List Bool) × (List (Bool × List Int)) × Int) =>
      bif (decide (i < (items_1.length : Int))) then
        bif (decide (0 ≤ i) && decide (i < (items_1.length : Int))) then
          letJ (fun ((n_3, items_3, changed_3, missing_3, out_2, i_2, p_1) : Int × (List ((Int × (Int × Int)) × (Bool × List Int))) × (List (List Int)) × (List Bool) × (List (Bool × List Int)) × Int × (Bool × List Int)) =>
              letJ (fun ((n_5, items_5, changed_5, missing_5, out_4, i_4, p_3) : Int × (List ((Int × (Int × Int)) × (Bool × List Int))) × (List (List Int)) × (List Bool) × (List (Bool × List Int)) × Int × (Bool × List Int)) =>
                  bif (decide ((out_4.length : Int) + (([p_3] : List (Bool × List Int)).length : Int) ≤ LIM)) then
                    some (Sum.inl (n_5, items_5, changed_5, missing_5, (out_4 ++ [p_3]), (w (i_4 + 1))))
                  else none) fun j__3 =>
              letJ (fun ((n_4, items_4, changed_4, missing_4, out_3, i_3, p_2, t54) : Int × (List ((Int × (Int × Int)) × (Bool × List Int))) × (List (List Int)) × (List Bool) × (List (Bool × List Int)) × Int × (Bool × List Int) × Bool) =>
                  bif t54 then
                    j__3 (n_4, items_4, changed_4, missing_4, out_3, i_3, (true, []))
                  else
                    j__3 (n_4, items_4, changed_4, missing_4, out_3, i_3, p_2)) fun j__2 =>
              bif (decide (i_2 < (missing_3.length : Int))) then
                bif (decide (0 ≤ i_2) && decide (i_2 < (missing_3.length : Int))) then
                  j__2 (n_3, items_3, changed_3, missing_3, out_2, i_2, p_1, (List.getD missing_3 (Int.toNat i_2) false))
                else none
              else
                j__2 (n_3, items_3, changed_3, missing_3, out_2, i_2, p_1, false)) fun j__1 =>
          letJ (fun ((n_2, items_2, changed_2, missing_2, out_1, i_1, p, t35) : Int × (List ((Int × (Int × Int)) × (Bool × List Int))) × (List (List Int)) × (List Bool) × (List (Bool × List Int)) × Int × (Bool × List Int) × Bool) =>
              bif t35 then
                bif (decide (0 ≤ i_1) && decide (i_1 < (changed_2.length : Int))) then
                  bif (cutOK 1 ((List.getD changed_2 (Int.toNat i_1) []).length : Int) (List.getD changed_2 (Int.toNat i_1) []).length) then
                    (d43 (List.drop 1 (List.take (Int.toNat ((List.getD changed_2 (Int.toNat i_1) []).length : Int)) (List.getD changed_2 (Int.toNat i_1) []))) 8).bind fun r =>
                    (d29 n_2 r).bind fun r_1 =>
                    j__1 (n_2, items_2, changed_2, missing_2, out_1, i_1, (p.1, r_1))
                  else none
                else none
              else
                j__1 (n_2, items_2, changed_2, missing_2, out_1, i_1, p)) fun j_ =>
          bif (decide (i < (changed_1.length : Int))) then
            bif (decide (0 ≤ i) && decide (i < (changed_1.length : Int))) then
              j_ (n_1, items_1, changed_1, missing_1, out, i, (false, ((List.getD items_1 (Int.toNat i) ((0, 0, 0), false, [])).2).2), (decide (0 < ((List.getD changed_1 (Int.toNat i) []).length : Int))))
            else none
          else
            j_ (n_1, items_1, changed_1, missing_1, out, i, (false, ((List.getD items_1 (Int.toNat i) ((0, 0, 0), false, [])).2).2), false)
        else none
      else
        some (Sum.inr out)) (n, items, changed, missing, [], 0)).bind fun (out_5 : List (Bool × List Int)) =>
  some out_5
def sg57 : Sig := ⟨[(y2, .sh), (y74, .sh), (y26, .sh), (y75, .bw)], [(y81, (.own 68 .sh))]⟩
def plan57 : Plan := (.seq (.reg [] []) (.seq (.reg [] [{ fl := 2 }]) (.seq (.seq (.reg [] []) (.block (.loop [(0, .v y2 .sh), (1, .v y74 .sh), (2, .v y26 .sh), (3, .v y75 .bw), (9, .v y81 (.own 68 .sh)), (10, .v y2 .sh)] [(.brk 0, [(9, .v y81 (.own 68 .sh))])] (.seq (.seq (.reg [] []) (.cond .nil .nil)) (.seq (.block (.seq (.reg [] []) (.join (.post (.join (.reg [] []) [(0, .v y2 .sh), (1, .v y74 .sh), (2, .v y26 .sh), (3, .v y75 .bw), (9, .v y81 (.own 68 .sh)), (10, .v y2 .sh), (11, .v (.ptr y67) (.own 0 (.pr .sh .sh))), (35, .v y4 .sh)] (.cond (.reg [] []) .nil)) [(11, [0, 1])]) [(0, .v y2 .sh), (1, .v y74 .sh), (2, .v y26 .sh), (3, .v y75 .bw), (9, .v y81 (.own 68 .sh)), (10, .v y2 .sh), (11, .v (.ptr y67) (.own 0 (.pr .sh .sh)))] (.join (.join (.reg [] []) [(0, .v y2 .sh), (1, .v y74 .sh), (2, .v y26 .sh), (3, .v y75 .bw), (9, .v y81 (.own 68 .sh)), (10, .v y2 .sh), (11, .v (.ptr y67) (.own 0 (.pr .sh .sh))), (54, .v y4 .sh)] (.cond (.reg [] []) .nil)) [(0, .v y2 .sh), (1, .v y74 .sh), (2, .v y26 .sh), (3, .v y75 .bw), (9, .v y81 (.own 68 .sh)), (10, .v y2 .sh), (11, .v (.ptr y67) (.own 0 (.pr .sh .sh)))] (.reg [] []))))) (.reg [] [])))))) (.seq (.reg [] []) .nil))))
theorem ev57 (xs : Vals (ptys sg57.ps)) : evF (P := Try.prog) tab [.fn E43, .fn E29] sg57 Try.f57.results.toList (code Try.f57) plan57 xs = d57 xs.1 xs.2.1 xs.2.2.1 xs.2.2.2.1 := by kernel_rfl
theorem sim57 : Sim Try.prog 57 sg57 d57 := sim_ev mixd tabOK Try.func57 (code_of rfl) Try.call57 (Nat.le_of_ble_eq_true (by kernel_rfl)) (by kernel_rfl) plan57 _ fun xs y h => (ev57 xs).trans h
noncomputable def E57 : FnE Try.prog := ⟨57, sg57, d57, sim57⟩

/-- election/electionlaw36.AssorterOver -/
noncomputable def d12 (p0 : Int) (p1 : List (List Int)) (p2 : List (List Int)) (p3 : List Bool) (p4 : List Bool) (p5 : Int) (p6 : Int) (p7 : Int) (p8 : Int) (p9 : Int) : Option Bool :=
  (d18 p0 6).bind fun r =>
  (d22 (w (2 + r)) p5 p6 p7 p8 p9).bind fun r_1 =>
  (d54 (w (2 + r)) p1 p3 30).bind fun r_2 =>
  (d57 (w (2 + r)) r_2 p2 p4).bind fun r_3 =>
  (whileO (β := ((Int × (Int × (Int × (List Int × Int)))) × (List ((Int × (Int × Int)) × (Bool × List Int))) × Int × Int) ⊕ Bool) (fun ((t21, t22, t23, t24, t25, t26) : (Int × (Int × (Int × (List Int × Int)))) × (List ((Int × (Int × Int)) × (Bool × List Int))) × (List (Bool × List Int)) × Int × Int × Int) =>
      bif (decide (t26 < (t22.length : Int))) then
        bif (decide (0 ≤ t26) && decide (t26 < (t22.length : Int))) then
          bif (decide (0 ≤ t26) && decide (t26 < (t23.length : Int))) then
            (d53 t21 (List.getD t22 (Int.toNat t26) ((0, 0, 0), false, [])) (List.getD t23 (Int.toNat t26) (false, []))).bind fun r_4 =>
            letJ (fun ((t21_1, t22_1, t23_1, t24_1, t25_1, t26_1, t27, t73) : (Int × (Int × (Int × (List Int × Int)))) × (List ((Int × (Int × Int)) × (Bool × List Int))) × (List (Bool × List Int)) × Int × Int × Int × Int × Bool) =>
                bif t73 then
                  some (Sum.inr (Sum.inr false))
                else
                  bif (decide (0 ≤ t26_1) && decide (t26_1 < (t23_1.length : Int))) then
                    (d51 t21_1 (List.getD t23_1 (Int.toNat t26_1) (false, []))).bind fun r_7 =>
                    some (Sum.inl (t21_1, t22_1, t23_1, (w (t24_1 + t27)), (w (t25_1 + r_7)), (w (t26_1 + 1))))
                  else none) fun j_ =>
            (d46 t21).bind fun r_5 =>
            bif !(decide (r_4 < (w (0 - r_5)))) then
              (d46 t21).bind fun r_6 =>
              j_ (t21, t22, t23, t24, t25, t26, r_4, (decide (r_6 < r_4)))
            else
              j_ (t21, t22, t23, t24, t25, t26, r_4, true)
          else none
        else none
      else
        some (Sum.inr (Sum.inl (t21, t22, t24, t25)))) (r_1, r_2, r_3, 0, 0, 0)).bind fun
  | Sum.inl (t21_2, t22_2, t24_2, t25_2) =>
    (d44).bind fun r_8 =>
    bif r_8 then
      (d46 t21_2).bind fun r_9 =>
      bif (decide (2 ≤ r_9)) then
        (d55 t21_2 t22_2).bind fun r_10 =>
        some ((decide (r_10.2.1 ≤ t24_2)) == (decide (t25_2 ≤ (t22_2.length : Int))))
      else
        some false
    else
      some false
  | Sum.inr t20 =>
    some t20
def sg12 : Sig := ⟨[(y2, .sh), (y26, .bw), (y26, .sh), (y75, .bw), (y75, .bw), (y2, .sh), (y2, .sh), (y2, .sh), (y2, .sh), (y2, .sh)], [(y4, .sh)]⟩
def plan12 : Plan := (.seq (.reg [] []) (.seq (.reg [] []) (.seq (.reg [] []) (.seq (.reg [] []) (.seq (.reg [(22, [])] []) (.seq (.reg [] []) (.seq (.seq (.reg [] []) (.block (.loop [(21, .v (.ptr y24) (.own 0 .sh)), (22, .v y74 .sh), (23, .v y81 (.own 68 .sh)), (24, .v y2 .sh), (25, .v y2 .sh), (26, .v y2 .sh)] [(.brk 0, [(21, .v (.ptr y24) (.own 0 .sh)), (22, .v y74 .sh), (24, .v y2 .sh), (25, .v y2 .sh)]), (.ret, [(20, .v y4 .sh)])] (.seq (.seq (.reg [] []) (.cond .nil .nil)) (.seq (.block (.seq (.reg [] []) (.seq (.join (.reg [] []) [(21, .v (.ptr y24) (.own 0 .sh)), (22, .v y74 .sh), (23, .v y81 (.own 68 .sh)), (24, .v y2 .sh), (25, .v y2 .sh), (26, .v y2 .sh), (27, .v y2 .sh), (73, .v y4 .sh)] (.cond (.seq (.reg [] []) .nil) .nil)) (.seq (.reg [] []) (.reg [] []))))) (.reg [] [])))))) (.seq (.reg [] []) .nil))))))))
theorem ev12 (xs : Vals (ptys sg12.ps)) : evF (P := Try.prog) tab [.fn E18, .fn E22, .fn E54, .fn E57, .fn E53, .fn E46, .fn E51, .fn E44, .fn E55] sg12 Try.f12.results.toList (code Try.f12) plan12 xs = d12 xs.1 xs.2.1 xs.2.2.1 xs.2.2.2.1 xs.2.2.2.2.1 xs.2.2.2.2.2.1 xs.2.2.2.2.2.2.1 xs.2.2.2.2.2.2.2.1 xs.2.2.2.2.2.2.2.2.1 xs.2.2.2.2.2.2.2.2.2.1 := by kernel_rfl
theorem sim12 : Sim Try.prog 12 sg12 d12 := sim_ev mixd tabOK Try.func12 (code_of rfl) Try.call12 (Nat.le_of_ble_eq_true (by kernel_rfl)) (by kernel_rfl) plan12 _ fun xs y h => (ev12 xs).trans h
noncomputable def E12 : FnE Try.prog := ⟨12, sg12, d12, sim12⟩

/-- election/electionref24.Less -/
noncomputable def d93 (a : List Int) (b : List Int) : Option Bool :=
  (whileO (β := ((List Int) × (List Int)) ⊕ Bool) (fun ((a_1, b_1, i) : (List Int) × (List Int) × Int) =>
      letJ (fun ((a_2, b_2, i_1, t15) : (List Int) × (List Int) × Int × Bool) =>
          bif t15 then
            bif (decide (0 ≤ i_1) && decide (i_1 < (a_2.length : Int))) then
              bif (decide (0 ≤ i_1) && decide (i_1 < (b_2.length : Int))) then
                bif !(decide ((List.getD a_2 (Int.toNat i_1) 0) = (List.getD b_2 (Int.toNat i_1) 0))) then
                  bif (decide (0 ≤ i_1) && decide (i_1 < (a_2.length : Int))) then
                    bif (decide (0 ≤ i_1) && decide (i_1 < (b_2.length : Int))) then
                      some (Sum.inr (Sum.inr (decide ((List.getD a_2 (Int.toNat i_1) 0) < (List.getD b_2 (Int.toNat i_1) 0)))))
                    else none
                  else none
                else
                  some (Sum.inl (a_2, b_2, (w (i_1 + 1))))
              else none
            else none
          else
            some (Sum.inr (Sum.inl (a_2, b_2)))) fun j_ =>
      bif (decide (i < (a_1.length : Int))) then
        j_ (a_1, b_1, i, (decide (i < (b_1.length : Int))))
      else
        j_ (a_1, b_1, i, false)) (a, b, 0)).bind fun
  | Sum.inl (a_3, b_3) =>
    some (decide ((a_3.length : Int) < (b_3.length : Int)))
  | Sum.inr t4 =>
    some t4
def sg93 : Sig := ⟨[(y23, .bw), (y23, .bw)], [(y4, .sh)]⟩
def plan93 : Plan := (.seq (.reg [] []) (.seq (.seq (.reg [] []) (.block (.loop [(0, .v y23 .bw), (1, .v y23 .bw), (5, .v y2 .sh)] [(.brk 0, [(0, .v y23 .bw), (1, .v y23 .bw)]), (.ret, [(4, .v y4 .sh)])] (.seq (.join (.reg [] []) [(0, .v y23 .bw), (1, .v y23 .bw), (5, .v y2 .sh), (15, .v y4 .sh)] (.cond .nil .nil)) (.seq (.block (.seq (.reg [] []) (.cond (.seq (.reg [] []) .nil) .nil))) (.reg [] [])))))) (.seq (.reg [] []) .nil)))
theorem ev93 (xs : Vals (ptys sg93.ps)) : evF (P := Try.prog) tab [] sg93 Try.f93.results.toList (code Try.f93) plan93 xs = d93 xs.1 xs.2.1 := by kernel_rfl
theorem sim93 : Sim Try.prog 93 sg93 d93 := sim_ev mixd tabOK Try.func93 (code_of rfl) Try.call93 (Nat.le_of_ble_eq_true (by kernel_rfl)) (by kernel_rfl) plan93 _ fun xs y h => (ev93 xs).trans h
noncomputable def E93 : FnE Try.prog := ⟨93, sg93, d93, sim93⟩

/-- election/electionref24.Eq -/
noncomputable def d37 (a : List Int) (b : List Int) : Option Bool :=
  (d93 a b).bind fun r =>
  bif !r then
    (d93 b a).bind fun r_1 =>
    some (!r_1)
  else
    some false
def sg37 : Sig := ⟨[(y23, .bw), (y23, .bw)], [(y4, .sh)]⟩
def plan37 : Plan := (.seq (.reg [] []) (.seq (.reg [] []) .nil))
theorem ev37 (xs : Vals (ptys sg37.ps)) : evF (P := Try.prog) tab [.fn E93] sg37 Try.f37.results.toList (code Try.f37) plan37 xs = d37 xs.1 xs.2.1 := by kernel_rfl
theorem sim37 : Sim Try.prog 37 sg37 d37 := sim_ev mixd tabOK Try.func37 (code_of rfl) Try.call37 (Nat.le_of_ble_eq_true (by kernel_rfl)) (by kernel_rfl) plan37 _ fun xs y h => (ev37 xs).trans h
noncomputable def E37 : FnE Try.prog := ⟨37, sg37, d37, sim37⟩

/-- election/electionref24.Add -/
noncomputable def d63 (gs : List (List Int × Int)) (p : List Int) (k : Int) : Option (List (List Int × Int)) :=
  (whileO (β := ((List Int) × Int × (List (List Int × Int)) × Bool)) (fun ((gs_1, p_1, k_1, out, done, i) : (List (List Int × Int)) × (List Int) × Int × (List (List Int × Int)) × Bool × Int) =>
      bif (decide (i < (gs_1.length : Int))) then
        letJ (fun ((gs_4, p_4, k_4, out_3, done_3, i_3) : (List (List Int × Int)) × (List Int) × Int × (List (List Int × Int)) × Bool × Int) =>
            some (Sum.inl (gs_4, p_4, k_4, out_3, done_3, (w (i_3 + 1))))) fun j__2 =>
        bif (decide (0 ≤ i) && decide (i < (gs_1.length : Int))) then
          letJ (fun ((gs_3, p_3, k_3, out_2, done_2, i_2, g_1) : (List (List Int × Int)) × (List Int) × Int × (List (List Int × Int)) × Bool × Int × (List Int × Int)) =>
              bif (decide ((out_2.length : Int) + (([g_1] : List (List Int × Int)).length : Int) ≤ LIM)) then
                j__2 (gs_3, p_3, k_3, (out_2 ++ [g_1]), done_2, i_2)
              else none) fun j__1 =>
          letJ (fun ((gs_2, p_2, k_2, out_1, done_1, i_1, g, t29) : (List (List Int × Int)) × (List Int) × Int × (List (List Int × Int)) × Bool × Int × (List Int × Int) × Bool) =>
              bif t29 then
                (d37 g.1 p_2).bind fun r_1 =>
                bif r_1 then
                  bif (decide ((out_1.length : Int) + (([(g.1, (w (g.2 + k_2)))] : List (List Int × Int)).length : Int) ≤ LIM)) then
                    j__2 (gs_2, p_2, k_2, (out_1 ++ [(g.1, (w (g.2 + k_2)))]), true, i_1)
                  else none
                else
                  bif (decide ((out_1.length : Int) + (([(p_2, k_2)] : List (List Int × Int)).length : Int) ≤ LIM)) then
                    j__1 (gs_2, p_2, k_2, (out_1 ++ [(p_2, k_2)]), true, i_1, g)
                  else none
              else
                j__1 (gs_2, p_2, k_2, out_1, done_1, i_1, g)) fun j_ =>
          bif !done then
            (d93 ((List.getD gs_1 (Int.toNat i) ([], 0)).1) p_1).bind fun r =>
            j_ (gs_1, p_1, k_1, out, done, i, (List.getD gs_1 (Int.toNat i) ([], 0)), !r)
          else
            j_ (gs_1, p_1, k_1, out, done, i, (List.getD gs_1 (Int.toNat i) ([], 0)), false)
        else none
      else
        some (Sum.inr (p_1, k_1, out, done))) (gs, p, k, [], false, 0)).bind fun ((p_5, k_5, out_4, done_4) : (List Int) × Int × (List (List Int × Int)) × Bool) =>
  letJ (fun (out_5 : List (List Int × Int)) =>
      some out_5) fun j__3 =>
  bif !done_4 then
    bif (decide ((out_4.length : Int) + (([(p_5, k_5)] : List (List Int × Int)).length : Int) ≤ LIM)) then
      j__3 (out_4 ++ [(p_5, k_5)])
    else none
  else
    j__3 out_4
def sg63 : Sig := ⟨[(y22, .sh), (y23, .sh), (y2, .sh)], [(y22, (.own 93 .sh))]⟩
def plan63 : Plan := (.seq (.reg [] []) (.seq (.reg [] [{ fl := 2 }]) (.seq (.reg [] []) (.seq (.seq (.reg [] []) (.block (.loop [(0, .v y22 .sh), (1, .v y23 .sh), (2, .v y2 .sh), (7, .v y22 (.own 93 .sh)), (8, .v y4 .sh), (9, .v y2 .sh)] [(.brk 0, [(1, .v y23 .sh), (2, .v y2 .sh), (7, .v y22 (.own 93 .sh)), (8, .v y4 .sh)])] (.seq (.seq (.reg [] []) (.cond .nil .nil)) (.join (.block (.seq (.reg [] []) (.join (.join (.reg [] []) [(0, .v y22 .sh), (1, .v y23 .sh), (2, .v y2 .sh), (7, .v y22 (.own 93 .sh)), (8, .v y4 .sh), (9, .v y2 .sh), (10, .v (.ptr y93) (.own 0 .sh)), (29, .v y4 .sh)] (.cond (.seq (.reg [] []) (.seq (.seq (.reg [] []) (.cond (.seq (.reg [] []) .nil) .nil)) (.reg [] []))) .nil)) [(0, .v y22 .sh), (1, .v y23 .sh), (2, .v y2 .sh), (7, .v y22 (.own 93 .sh)), (8, .v y4 .sh), (9, .v y2 .sh), (10, .v (.ptr y93) (.own 0 .sh))] (.reg [] [])))) [(0, .v y22 .sh), (1, .v y23 .sh), (2, .v y2 .sh), (7, .v y22 (.own 93 .sh)), (8, .v y4 .sh), (9, .v y2 .sh)] (.reg [] [])))))) (.join (.seq (.reg [] []) (.cond (.reg [] []) .nil)) [(7, .v y22 (.own 93 .sh))] (.seq (.reg [] []) .nil))))))
theorem ev63 (xs : Vals (ptys sg63.ps)) : evF (P := Try.prog) tab [.fn E93, .fn E37] sg63 Try.f63.results.toList (code Try.f63) plan63 xs = d63 xs.1 xs.2.1 xs.2.2.1 := by kernel_rfl
theorem sim63 : Sim Try.prog 63 sg63 d63 := sim_ev mixd tabOK Try.func63 (code_of rfl) Try.call63 (Nat.le_of_ble_eq_true (by kernel_rfl)) (by kernel_rfl) plan63 _ fun xs y h => (ev63 xs).trans h
noncomputable def E63 : FnE Try.prog := ⟨63, sg63, d63, sim63⟩

/-- election/pile.isBallot -/
noncomputable def d123 (n : Int) (prefs : List Int) : Option Bool :=
  (whileO (β := Unit ⊕ Bool) (fun ((n_1, seen, t8, t9, t10) : Int × (List Bool) × (List Int) × Int × Int) =>
      bif (decide (t10 < t9)) then
        bif (decide (0 ≤ t10) && decide (t10 < (t8.length : Int))) then
          letJ (fun ((n_2, seen_1, p, t8_1, t9_1, t10_1, t25) : Int × (List Bool) × Int × (List Int) × Int × Int × Bool) =>
              bif t25 then
                some (Sum.inr (Sum.inr false))
              else
                bif (decide (0 ≤ p) && decide (p < 7)) then
                  some (Sum.inl (n_2, (List.set seen_1 (Int.toNat p) true), t8_1, t9_1, (w (t10_1 + 1))))
                else none) fun j_ =>
          bif !(decide ((List.getD t8 (Int.toNat t10) 0) < 0)) then
            bif !(decide (n_1 ≤ (List.getD t8 (Int.toNat t10) 0))) then
              bif (decide (0 ≤ (List.getD t8 (Int.toNat t10) 0)) && decide ((List.getD t8 (Int.toNat t10) 0) < 7)) then
                j_ (n_1, seen, (List.getD t8 (Int.toNat t10) 0), t8, t9, t10, (List.getD seen (Int.toNat (List.getD t8 (Int.toNat t10) 0)) false))
              else none
            else
              j_ (n_1, seen, (List.getD t8 (Int.toNat t10) 0), t8, t9, t10, true)
          else
            j_ (n_1, seen, (List.getD t8 (Int.toNat t10) 0), t8, t9, t10, true)
        else none
      else
        some (Sum.inr (Sum.inl ()))) (n, [false, false, false, false, false, false, false], prefs, (prefs.length : Int), 0)).bind fun
  | Sum.inl _ =>
    some true
  | Sum.inr t4 =>
    some t4
def sg123 : Sig := ⟨[(y2, .sh), (y23, .bw)], [(y4, .sh)]⟩
def plan123 : Plan := (.seq (.reg [] []) (.seq (.reg [] []) (.seq (.seq (.reg [] []) (.block (.loop [(0, .v y2 .sh), (5, .v (.ptr y145) (.own 0 .sh)), (8, .v y23 .bw), (9, .v y2 .sh), (10, .v y2 .sh)] [(.brk 0, []), (.ret, [(4, .v y4 .sh)])] (.seq (.reg [] []) (.seq (.cond .nil .nil) (.seq (.block (.seq (.reg [] []) (.seq (.join (.reg [] []) [(0, .v y2 .sh), (5, .v (.ptr y145) (.own 0 .sh)), (7, .v y2 .sh), (8, .v y23 .bw), (9, .v y2 .sh), (10, .v y2 .sh), (25, .v y4 .sh)] (.cond (.seq (.reg [] []) .nil) .nil)) (.reg [] [])))) (.reg [] []))))))) (.seq (.reg [] []) .nil))))
theorem ev123 (xs : Vals (ptys sg123.ps)) : evF (P := Try.prog) tab [] sg123 Try.f123.results.toList (code Try.f123) plan123 xs = d123 xs.1 xs.2.1 := by kernel_rfl
theorem sim123 : Sim Try.prog 123 sg123 d123 := sim_ev mixd tabOK Try.func123 (code_of rfl) Try.call123 (Nat.le_of_ble_eq_true (by kernel_rfl)) (by kernel_rfl) plan123 _ fun xs y h => (ev123 xs).trans h
noncomputable def E123 : FnE Try.prog := ⟨123, sg123, d123, sim123⟩

/-- cmp.isNaN[int] -/
noncomputable def d113 (x : Int) : Option Bool :=
  some (!(decide (x = x)))
def sg113 : Sig := ⟨[(y2, .sh)], [(y4, .sh)]⟩
def plan113 : Plan := (.seq (.reg [] []) (.seq (.reg [] []) .nil))
theorem ev113 (xs : Vals (ptys sg113.ps)) : evF (P := Try.prog) tab [] sg113 Try.f113.results.toList (code Try.f113) plan113 xs = d113 xs.1 := by kernel_rfl
theorem sim113 : Sim Try.prog 113 sg113 d113 := sim_ev mixd tabOK Try.func113 (code_of rfl) Try.call113 (Nat.le_of_ble_eq_true (by kernel_rfl)) (by kernel_rfl) plan113 _ fun xs y h => (ev113 xs).trans h
noncomputable def E113 : FnE Try.prog := ⟨113, sg113, d113, sim113⟩

/-- cmp.Compare[int] -/
noncomputable def d90 (x : Int) (y : Int) : Option Int :=
  (d113 x).bind fun r =>
  (d113 y).bind fun r_1 =>
  bif r then
    bif r_1 then
      some 0
    else
      some (-1)
  else
    bif r_1 then
      some 1
    else
      bif (decide (x < y)) then
        some (-1)
      else
        bif (decide (y < x)) then
          some 1
        else
          some 0
def sg90 : Sig := ⟨[(y2, .sh), (y2, .sh)], [(y2, .sh)]⟩
def plan90 : Plan := (.seq (.reg [] []) (.seq (.reg [] []) (.seq (.reg [] []) (.seq (.seq (.reg [] []) (.cond (.seq (.seq (.reg [] []) (.cond (.seq (.reg [] []) .nil) .nil)) (.seq (.reg [] []) .nil)) .nil)) (.seq (.seq (.reg [] []) (.cond (.seq (.reg [] []) .nil) .nil)) (.seq (.seq (.reg [] []) (.cond (.seq (.reg [] []) .nil) .nil)) (.seq (.seq (.reg [] []) (.cond (.seq (.reg [] []) .nil) .nil)) (.seq (.reg [] []) .nil))))))))
theorem ev90 (xs : Vals (ptys sg90.ps)) : evF (P := Try.prog) tab [.fn E113] sg90 Try.f90.results.toList (code Try.f90) plan90 xs = d90 xs.1 xs.2.1 := by kernel_rfl
theorem sim90 : Sim Try.prog 90 sg90 d90 := sim_ev mixd tabOK Try.func90 (code_of rfl) Try.call90 (Nat.le_of_ble_eq_true (by kernel_rfl)) (by kernel_rfl) plan90 _ fun xs y h => (ev90 xs).trans h
noncomputable def E90 : FnE Try.prog := ⟨90, sg90, d90, sim90⟩

/-- slices.Compare[[]int,int] -/
noncomputable def d91 (s1 : List Int) (s2 : List Int) : Option Int :=
  (whileO (β := ((List Int) × (List Int)) ⊕ Int) (fun ((s1_1, s2_1, t9, t10, t11) : (List Int) × (List Int) × (List Int) × Int × Int) =>
      bif (decide (t11 < t10)) then
        bif (decide (0 ≤ t11) && decide (t11 < (t9.length : Int))) then
          bif (decide ((s2_1.length : Int) ≤ t11)) then
            some (Sum.inr (Sum.inr 1))
          else
            bif (decide (0 ≤ t11) && decide (t11 < (s2_1.length : Int))) then
              (d90 (List.getD t9 (Int.toNat t11) 0) (List.getD s2_1 (Int.toNat t11) 0)).bind fun r =>
              bif !(decide (r = 0)) then
                some (Sum.inr (Sum.inr r))
              else
                some (Sum.inl (s1_1, s2_1, t9, t10, (w (t11 + 1))))
            else none
        else none
      else
        some (Sum.inr (Sum.inl (s1_1, s2_1)))) (s1, s2, s1, (s1.length : Int), 0)).bind fun
  | Sum.inl (s1_2, s2_2) =>
    bif (decide ((s1_2.length : Int) < (s2_2.length : Int))) then
      some (-1)
    else
      some 0
  | Sum.inr t4 =>
    some t4
def sg91 : Sig := ⟨[(y23, .bw), (y23, .bw)], [(y2, .sh)]⟩
def plan91 : Plan := (.seq (.reg [] []) (.seq (.seq (.reg [] []) (.block (.loop [(0, .v y23 .bw), (1, .v y23 .bw), (9, .v y23 .bw), (10, .v y2 .sh), (11, .v y2 .sh)] [(.brk 0, [(0, .v y23 .bw), (1, .v y23 .bw)]), (.ret, [(4, .v y2 .sh)])] (.seq (.reg [] []) (.seq (.cond .nil .nil) (.seq (.block (.seq (.reg [] []) (.seq (.seq (.reg [] []) (.cond (.seq (.reg [] []) .nil) .nil)) (.seq (.reg [] []) (.seq (.reg [] []) (.seq (.reg [] []) (.cond (.seq (.reg [] []) .nil) .nil))))))) (.reg [] []))))))) (.seq (.seq (.reg [] []) (.cond (.seq (.reg [] []) .nil) .nil)) (.seq (.reg [] []) .nil))))
theorem ev91 (xs : Vals (ptys sg91.ps)) : evF (P := Try.prog) tab [.fn E90] sg91 Try.f91.results.toList (code Try.f91) plan91 xs = d91 xs.1 xs.2.1 := by kernel_rfl
theorem sim91 : Sim Try.prog 91 sg91 d91 := sim_ev mixd tabOK Try.func91 (code_of rfl) Try.call91 (Nat.le_of_ble_eq_true (by kernel_rfl)) (by kernel_rfl) plan91 _ fun xs y h => (ev91 xs).trans h
noncomputable def E91 : FnE Try.prog := ⟨91, sg91, d91, sim91⟩

/-- election/pile.isPile -/
noncomputable def d102 (n : Int) (gs : List (List Int × Int)) : Option Bool :=
  (whileO (β := Unit ⊕ Bool) (fun ((n_1, gs_1, total, t8, t9, t10) : Int × (List (List Int × Int)) × Int × (List (List Int × Int)) × Int × Int) =>
      bif (decide (t10 < t9)) then
        bif (decide (0 ≤ t10) && decide (t10 < (t8.length : Int))) then
          letJ (fun ((n_2, gs_2, total_1, i, g, t8_1, t9_1, t10_1, t31) : Int × (List (List Int × Int)) × Int × Int × (List Int × Int) × (List (List Int × Int)) × Int × Int × Bool) =>
              bif t31 then
                some (Sum.inr (Sum.inr false))
              else
                letJ (fun ((n_3, gs_3, total_2, g_1, t8_2, t9_2, t10_2, t45) : Int × (List (List Int × Int)) × Int × (List Int × Int) × (List (List Int × Int)) × Int × Int × Bool) =>
                    bif t45 then
                      some (Sum.inr (Sum.inr false))
                    else
                      some (Sum.inl (n_3, gs_3, (w (total_2 + g_1.2)), t8_2, t9_2, (w (t10_2 + 1))))) fun j__1 =>
                bif (decide (0 < i)) then
                  bif (decide (0 ≤ (w (i - 1))) && decide ((w (i - 1)) < (gs_2.length : Int))) then
                    (d91 ((List.getD gs_2 (Int.toNat (w (i - 1))) ([], 0)).1) g.1).bind fun r_1 =>
                    j__1 (n_2, gs_2, total_1, g, t8_1, t9_1, t10_1, (decide (0 ≤ r_1)))
                  else none
                else
                  j__1 (n_2, gs_2, total_1, g, t8_1, t9_1, t10_1, false)) fun j_ =>
          bif !(decide ((List.getD t8 (Int.toNat t10) ([], 0)).2 < 1)) then
            bif !(decide ((w (100000 - total)) < (List.getD t8 (Int.toNat t10) ([], 0)).2)) then
              (d123 n_1 ((List.getD t8 (Int.toNat t10) ([], 0)).1)).bind fun r =>
              j_ (n_1, gs_1, total, t10, (List.getD t8 (Int.toNat t10) ([], 0)), t8, t9, t10, !r)
            else
              j_ (n_1, gs_1, total, t10, (List.getD t8 (Int.toNat t10) ([], 0)), t8, t9, t10, true)
          else
            j_ (n_1, gs_1, total, t10, (List.getD t8 (Int.toNat t10) ([], 0)), t8, t9, t10, true)
        else none
      else
        some (Sum.inr (Sum.inl ()))) (n, gs, 0, gs, (gs.length : Int), 0)).bind fun
  | Sum.inl _ =>
    some true
  | Sum.inr t4 =>
    some t4
def sg102 : Sig := ⟨[(y2, .sh), (y22, .bw)], [(y4, .sh)]⟩
def plan102 : Plan := (.seq (.reg [] []) (.seq (.reg [] []) (.seq (.seq (.reg [] []) (.block (.loop [(0, .v y2 .sh), (1, .v y22 .bw), (5, .v y2 .sh), (8, .v y22 .bw), (9, .v y2 .sh), (10, .v y2 .sh)] [(.brk 0, []), (.ret, [(4, .v y4 .sh)])] (.seq (.reg [] []) (.seq (.cond .nil .nil) (.seq (.block (.seq (.reg [] []) (.seq (.join (.reg [] []) [(0, .v y2 .sh), (1, .v y22 .bw), (5, .v y2 .sh), (6, .v y2 .sh), (7, .v (.ptr y93) (.own 0 .bw)), (8, .v y22 .bw), (9, .v y2 .sh), (10, .v y2 .sh), (31, .v y4 .sh)] (.cond (.seq (.reg [] []) .nil) .nil)) (.seq (.join (.reg [] []) [(0, .v y2 .sh), (1, .v y22 .bw), (5, .v y2 .sh), (7, .v (.ptr y93) (.own 0 .bw)), (8, .v y22 .bw), (9, .v y2 .sh), (10, .v y2 .sh), (45, .v y4 .sh)] (.cond (.seq (.reg [] []) .nil) .nil)) (.reg [] []))))) (.reg [] []))))))) (.seq (.reg [] []) .nil))))
theorem ev102 (xs : Vals (ptys sg102.ps)) : evF (P := Try.prog) tab [.fn E123, .fn E91] sg102 Try.f102.results.toList (code Try.f102) plan102 xs = d102 xs.1 xs.2.1 := by kernel_rfl
theorem sim102 : Sim Try.prog 102 sg102 d102 := sim_ev mixd tabOK Try.func102 (code_of rfl) Try.call102 (Nat.le_of_ble_eq_true (by kernel_rfl)) (by kernel_rfl) plan102 _ fun xs y h => (ev102 xs).trans h
noncomputable def E102 : FnE Try.prog := ⟨102, sg102, d102, sim102⟩

/-- election/pile.Valid -/
noncomputable def d66 (n : Int) (gs : List (List Int × Int)) : Option Bool :=
  bif (decide (1 ≤ n)) then
    bif (decide (n ≤ 7)) then
      (d102 n gs).bind fun r =>
      some r
    else
      some false
  else
    some false
def sg66 : Sig := ⟨[(y2, .sh), (y22, .bw)], [(y4, .sh)]⟩
def plan66 : Plan := (.seq (.reg [] []) (.seq (.reg [] []) .nil))
theorem ev66 (xs : Vals (ptys sg66.ps)) : evF (P := Try.prog) tab [.fn E102] sg66 Try.f66.results.toList (code Try.f66) plan66 xs = d66 xs.1 xs.2.1 := by kernel_rfl
theorem sim66 : Sim Try.prog 66 sg66 d66 := sim_ev mixd tabOK Try.func66 (code_of rfl) Try.call66 (Nat.le_of_ble_eq_true (by kernel_rfl)) (by kernel_rfl) plan66 _ fun xs y h => (ev66 xs).trans h
noncomputable def E66 : FnE Try.prog := ⟨66, sg66, d66, sim66⟩

/-- election/assertion.firsts -/
noncomputable def d67 (gs : List (List Int × Int)) (c : Int) : Option Int :=
  (whileO (β := Int) (fun ((c_1, count, t8, t9, t10) : Int × Int × (List (List Int × Int)) × Int × Int) =>
      bif (decide (t10 < t9)) then
        letJ (fun ((c_3, count_2, t8_2, t9_2, t10_2) : Int × Int × (List (List Int × Int)) × Int × Int) =>
            some (Sum.inl (c_3, count_2, t8_2, t9_2, (w (t10_2 + 1))))) fun j__1 =>
        bif (decide (0 ≤ t10) && decide (t10 < (t8.length : Int))) then
          letJ (fun ((c_2, count_1, g, t8_1, t9_1, t10_1, t25) : Int × Int × (List Int × Int) × (List (List Int × Int)) × Int × Int × Bool) =>
              bif t25 then
                j__1 (c_2, (w (count_1 + g.2)), t8_1, t9_1, t10_1)
              else
                j__1 (c_2, count_1, t8_1, t9_1, t10_1)) fun j_ =>
          bif (decide (0 < (((List.getD t8 (Int.toNat t10) ([], 0)).1).length : Int))) then
            bif (decide (0 ≤ 0) && decide (0 < (((List.getD t8 (Int.toNat t10) ([], 0)).1).length : Int))) then
              j_ (c_1, count, (List.getD t8 (Int.toNat t10) ([], 0)), t8, t9, t10, (decide ((List.getD ((List.getD t8 (Int.toNat t10) ([], 0)).1) 0 0) = c_1)))
            else none
          else
            j_ (c_1, count, (List.getD t8 (Int.toNat t10) ([], 0)), t8, t9, t10, false)
        else none
      else
        some (Sum.inr count)) (c, 0, gs, (gs.length : Int), 0)).bind fun (count_3 : Int) =>
  some count_3
def sg67 : Sig := ⟨[(y22, .bw), (y2, .sh)], [(y2, .sh)]⟩
def plan67 : Plan := (.seq (.reg [] []) (.seq (.reg [] []) (.seq (.seq (.reg [] []) (.block (.loop [(1, .v y2 .sh), (5, .v y2 .sh), (8, .v y22 .bw), (9, .v y2 .sh), (10, .v y2 .sh)] [(.brk 0, [(5, .v y2 .sh)])] (.seq (.reg [] []) (.seq (.cond .nil .nil) (.join (.block (.seq (.reg [] []) (.join (.reg [] []) [(1, .v y2 .sh), (5, .v y2 .sh), (7, .v (.ptr y93) (.own 0 .bw)), (8, .v y22 .bw), (9, .v y2 .sh), (10, .v y2 .sh), (25, .v y4 .sh)] (.cond (.reg [] []) .nil)))) [(1, .v y2 .sh), (5, .v y2 .sh), (8, .v y22 .bw), (9, .v y2 .sh), (10, .v y2 .sh)] (.reg [] []))))))) (.seq (.reg [] []) .nil))))
theorem ev67 (xs : Vals (ptys sg67.ps)) : evF (P := Try.prog) tab [] sg67 Try.f67.results.toList (code Try.f67) plan67 xs = d67 xs.1 xs.2.1 := by kernel_rfl
theorem sim67 : Sim Try.prog 67 sg67 d67 := sim_ev mixd tabOK Try.func67 (code_of rfl) Try.call67 (Nat.le_of_ble_eq_true (by kernel_rfl)) (by kernel_rfl) plan67 _ fun xs y h => (ev67 xs).trans h
noncomputable def E67 : FnE Try.prog := ⟨67, sg67, d67, sim67⟩

/-- election/pile.isAny -/
noncomputable def d103 (gs : List (List Int × Int)) : Option Bool :=
  (d102 7 gs).bind fun r =>
  some r
def sg103 : Sig := ⟨[(y22, .bw)], [(y4, .sh)]⟩
def plan103 : Plan := (.seq (.reg [] []) (.seq (.reg [] []) .nil))
theorem ev103 (xs : Vals (ptys sg103.ps)) : evF (P := Try.prog) tab [.fn E102] sg103 Try.f103.results.toList (code Try.f103) plan103 xs = d103 xs.1 := by kernel_rfl
theorem sim103 : Sim Try.prog 103 sg103 d103 := sim_ev mixd tabOK Try.func103 (code_of rfl) Try.call103 (Nat.le_of_ble_eq_true (by kernel_rfl)) (by kernel_rfl) plan103 _ fun xs y h => (ev103 xs).trans h
noncomputable def E103 : FnE Try.prog := ⟨103, sg103, d103, sim103⟩

/-- election/pile.Prefers -/
noncomputable def d68 (gs : List (List Int × Int)) (a : Int) (b : Int) : Option Int :=
  letJ (fun ((gs_1, a_1, b_1, t19) : (List (List Int × Int)) × Int × Int × Bool) =>
      bif t19 then
        some 0
      else
        (whileO (β := Int) (fun ((a_2, b_2, n, t20, t21, t22) : Int × Int × Int × (List (List Int × Int)) × Int × Int) =>
            bif (decide (t22 < t21)) then
              letJ (fun ((a_4, b_4, n_2, t20_2, t21_2, t22_2) : Int × Int × Int × (List (List Int × Int)) × Int × Int) =>
                  some (Sum.inl (a_4, b_4, n_2, t20_2, t21_2, (w (t22_2 + 1))))) fun j__2 =>
              bif (decide (0 ≤ t22) && decide (t22 < (t20.length : Int))) then
                (d82 ((List.getD t20 (Int.toNat t22) ([], 0)).1) a_2).bind fun r_1 =>
                (d82 ((List.getD t20 (Int.toNat t22) ([], 0)).1) b_2).bind fun r_2 =>
                letJ (fun ((a_3, b_3, n_1, g, t20_1, t21_1, t22_1, t44) : Int × Int × Int × (List Int × Int) × (List (List Int × Int)) × Int × Int × Bool) =>
                    bif t44 then
                      j__2 (a_3, b_3, (w (n_1 + g.2)), t20_1, t21_1, t22_1)
                    else
                      j__2 (a_3, b_3, n_1, t20_1, t21_1, t22_1)) fun j__1 =>
                bif (decide (0 ≤ r_1)) then
                  bif !(decide (r_2 < 0)) then
                    j__1 (a_2, b_2, n, (List.getD t20 (Int.toNat t22) ([], 0)), t20, t21, t22, (decide (r_1 < r_2)))
                  else
                    j__1 (a_2, b_2, n, (List.getD t20 (Int.toNat t22) ([], 0)), t20, t21, t22, true)
                else
                  j__1 (a_2, b_2, n, (List.getD t20 (Int.toNat t22) ([], 0)), t20, t21, t22, false)
              else none
            else
              some (Sum.inr n)) (a_1, b_1, 0, gs_1, (gs_1.length : Int), 0)).bind fun (n_3 : Int) =>
        some n_3) fun j_ =>
  (d103 gs).bind fun r =>
  bif !(!r) then
    j_ (gs, a, b, (decide (a = b)))
  else
    j_ (gs, a, b, true)
def sg68 : Sig := ⟨[(y22, .bw), (y2, .sh), (y2, .sh)], [(y2, .sh)]⟩
def plan68 : Plan := (.seq (.reg [] []) (.seq (.join (.reg [] []) [(0, .v y22 .bw), (1, .v y2 .sh), (2, .v y2 .sh), (19, .v y4 .sh)] (.cond (.seq (.reg [] []) .nil) .nil)) (.seq (.reg [] []) (.seq (.seq (.reg [] []) (.block (.loop [(1, .v y2 .sh), (2, .v y2 .sh), (7, .v y2 .sh), (20, .v y22 .bw), (21, .v y2 .sh), (22, .v y2 .sh)] [(.brk 0, [(7, .v y2 .sh)])] (.seq (.reg [] []) (.seq (.cond .nil .nil) (.join (.block (.seq (.reg [] []) (.seq (.reg [] []) (.join (.reg [] []) [(1, .v y2 .sh), (2, .v y2 .sh), (7, .v y2 .sh), (9, .v (.ptr y93) (.own 0 .bw)), (20, .v y22 .bw), (21, .v y2 .sh), (22, .v y2 .sh), (44, .v y4 .sh)] (.cond (.reg [] []) .nil))))) [(1, .v y2 .sh), (2, .v y2 .sh), (7, .v y2 .sh), (20, .v y22 .bw), (21, .v y2 .sh), (22, .v y2 .sh)] (.reg [] []))))))) (.seq (.reg [] []) .nil)))))
theorem ev68 (xs : Vals (ptys sg68.ps)) : evF (P := Try.prog) tab [.fn E103, .fn E82] sg68 Try.f68.results.toList (code Try.f68) plan68 xs = d68 xs.1 xs.2.1 xs.2.2.1 := by kernel_rfl
theorem sim68 : Sim Try.prog 68 sg68 d68 := sim_ev mixd tabOK Try.func68 (code_of rfl) Try.call68 (Nat.le_of_ble_eq_true (by kernel_rfl)) (by kernel_rfl) plan68 _ fun xs y h => (ev68 xs).trans h
noncomputable def E68 : FnE Try.prog := ⟨68, sg68, d68, sim68⟩

/-- election/pile.remains -/
noncomputable def d122 (remain : List Bool) (i : Int) : Option Bool :=
  bif (decide (i < (remain.length : Int))) then
    bif (decide (0 ≤ i) && decide (i < (remain.length : Int))) then
      some (List.getD remain (Int.toNat i) false)
    else none
  else
    some false
def sg122 : Sig := ⟨[(y75, .bw), (y2, .sh)], [(y4, .sh)]⟩
def plan122 : Plan := (.seq (.reg [] []) (.seq (.reg [] []) .nil))
theorem ev122 (xs : Vals (ptys sg122.ps)) : evF (P := Try.prog) tab [] sg122 Try.f122.results.toList (code Try.f122) plan122 xs = d122 xs.1 xs.2.1 := by kernel_rfl
theorem sim122 : Sim Try.prog 122 sg122 d122 := sim_ev mixd tabOK Try.func122 (code_of rfl) Try.call122 (Nat.le_of_ble_eq_true (by kernel_rfl)) (by kernel_rfl) plan122 _ fun xs y h => (ev122 xs).trans h
noncomputable def E122 : FnE Try.prog := ⟨122, sg122, d122, sim122⟩

/-- election/pile.First$1 -/
noncomputable def d121 (p : Int) (p1 : List Bool) : Option Bool :=
  (d122 p1 p).bind fun r =>
  some r
def sg121 : Sig := ⟨[(y2, .bw), ((.ptr y75), .bw)], [(y4, .sh)]⟩
def plan121 : Plan := (.seq (.reg [] []) (.seq (.reg [] []) .nil))
theorem ev121 (xs : Vals (ptys sg121.ps)) : evF (P := Try.prog) tab [.fn E122] sg121 Try.f121.results.toList (code Try.f121) plan121 xs = d121 xs.1 xs.2.1 := by kernel_rfl
theorem sim121 : Sim Try.prog 121 sg121 d121 := sim_ev mixd tabOK Try.func121 (code_of rfl) Try.call121 (Nat.le_of_ble_eq_true (by kernel_rfl)) (by kernel_rfl) plan121 _ fun xs y h => (ev121 xs).trans h
noncomputable def E121 : FnE Try.prog := ⟨121, sg121, d121, sim121⟩

/-- election/pile.First -/
noncomputable def d101 (gs : List (List Int × Int)) (remain : List Bool) : Option ((List Int) × Int) :=
  letJ (fun ((gs_1, remain_1, exhausted, t16) : (List (List Int × Int)) × (List Bool) × Int × Bool) =>
      bif t16 then
        some ([], 0)
      else
        bif (decide ((remain_1.length : Int) = (remain_1.length : Int)) && (decide (0 ≤ (remain_1.length : Int)) && decide ((remain_1.length : Int) ≤ LIM))) then
          (whileO (β := ((List Int) × Int)) (fun ((remain_2, votes, exhausted_1, t20, t21, t22) : (List Bool) × (List Int) × Int × (List (List Int × Int)) × Int × Int) =>
              bif (decide (t22 < t21)) then
                letJ (fun ((remain_3, votes_1, exhausted_2, t20_1, t21_1, t22_1) : (List Bool) × (List Int) × Int × (List (List Int × Int)) × Int × Int) =>
                    some (Sum.inl (remain_3, votes_1, exhausted_2, t20_1, t21_1, (w (t22_1 + 1))))) fun j__1 =>
                bif (decide (0 ≤ t22) && decide (t22 < (t20.length : Int))) then
                  (d120 ((List.getD t20 (Int.toNat t22) ([], 0)).1) (fun a => d121 a remain_2)).bind fun r_1 =>
                  bif (decide (r_1 < 0)) then
                    j__1 (remain_2, votes, (w (exhausted_1 + ((List.getD t20 (Int.toNat t22) ([], 0)).2))), t20, t21, t22)
                  else
                    bif (decide (0 ≤ r_1) && decide (r_1 < (((List.getD t20 (Int.toNat t22) ([], 0)).1).length : Int))) then
                      bif (decide (0 ≤ (List.getD ((List.getD t20 (Int.toNat t22) ([], 0)).1) (Int.toNat r_1) 0)) && decide ((List.getD ((List.getD t20 (Int.toNat t22) ([], 0)).1) (Int.toNat r_1) 0) < (votes.length : Int))) then
                        bif (decide (0 ≤ (List.getD ((List.getD t20 (Int.toNat t22) ([], 0)).1) (Int.toNat r_1) 0)) && decide ((List.getD ((List.getD t20 (Int.toNat t22) ([], 0)).1) (Int.toNat r_1) 0) < (votes.length : Int))) then
                          j__1 (remain_2, (List.set votes (Int.toNat (List.getD ((List.getD t20 (Int.toNat t22) ([], 0)).1) (Int.toNat r_1) 0)) (w ((List.getD votes (Int.toNat (List.getD ((List.getD t20 (Int.toNat t22) ([], 0)).1) (Int.toNat r_1) 0)) 0) + ((List.getD t20 (Int.toNat t22) ([], 0)).2)))), exhausted_1, t20, t21, t22)
                        else none
                      else none
                    else none
                else none
              else
                some (Sum.inr (votes, exhausted_1))) (remain_1, (List.replicate (Int.toNat (remain_1.length : Int)) 0), exhausted, gs_1, (gs_1.length : Int), 0)).bind fun ((votes_2, exhausted_3) : (List Int) × Int) =>
          some (votes_2, exhausted_3)
        else none) fun j_ =>
  (d103 gs).bind fun r =>
  bif !(!r) then
    j_ (gs, remain, 0, (decide (7 < (remain.length : Int))))
  else
    j_ (gs, remain, 0, true)
def sg101 : Sig := ⟨[(y22, .bw), (y75, .bw)], [(y23, .sh), (y2, .sh)]⟩
def plan101 : Plan := (.post (.seq (.reg [] []) (.seq (.join (.reg [] []) [(0, .v y22 .bw), (3, .v (.ptr y75) (.own 0 .bw)), (5, .v y2 .sh), (16, .v y4 .sh)] (.cond (.seq (.reg [] []) .nil) .nil)) (.seq (.reg [] []) (.seq (.seq (.reg [] []) (.block (.loop [(3, .v (.ptr y75) (.own 0 .bw)), (4, .v y23 (.own 3 .sh)), (5, .v y2 .sh), (20, .v y22 .bw), (21, .v y2 .sh), (22, .v y2 .sh)] [(.brk 0, [(4, .v y23 (.own 3 .sh)), (5, .v y2 .sh)])] (.seq (.reg [] []) (.seq (.cond .nil .nil) (.join (.block (.seq (.reg [] []) (.seq (.reg [] []) (.seq (.reg [] []) (.cond (.reg [] []) (.reg [] [])))))) [(3, .v (.ptr y75) (.own 0 .bw)), (4, .v y23 (.own 3 .sh)), (5, .v y2 .sh), (20, .v y22 .bw), (21, .v y2 .sh), (22, .v y2 .sh)] (.reg [] []))))))) (.seq (.reg [] []) .nil))))) [(4, [])])
theorem ev101 (xs : Vals (ptys sg101.ps)) : evF (P := Try.prog) tab [.fn E103, .fn E120, .fn E121] sg101 Try.f101.results.toList (code Try.f101) plan101 xs = d101 xs.1 xs.2.1 := by kernel_rfl
theorem sim101 : Sim Try.prog 101 sg101 d101 := sim_ev mixd tabOK Try.func101 (code_of rfl) Try.call101 (Nat.le_of_ble_eq_true (by kernel_rfl)) (by kernel_rfl) plan101 _ fun xs y h => (ev101 xs).trans h
noncomputable def E101 : FnE Try.prog := ⟨101, sg101, d101, sim101⟩

/-- election/assertion.votes -/
noncomputable def d69 (n : Int) (gs : List (List Int × Int)) (remaining : List Int) : Option (List Int) :=
  bif (decide (n = n) && (decide (0 ≤ n) && decide (n ≤ LIM))) then
    (whileO (β := ((List (List Int × Int)) × (List Bool))) (fun ((gs_1, remain, t14, t15, t16) : (List (List Int × Int)) × (List Bool) × (List Int) × Int × Int) =>
        bif (decide (t16 < t15)) then
          bif (decide (0 ≤ t16) && decide (t16 < (t14.length : Int))) then
            bif (decide (0 ≤ (List.getD t14 (Int.toNat t16) 0)) && decide ((List.getD t14 (Int.toNat t16) 0) < (remain.length : Int))) then
              some (Sum.inl (gs_1, (List.set remain (Int.toNat (List.getD t14 (Int.toNat t16) 0)) true), t14, t15, (w (t16 + 1))))
            else none
          else none
        else
          some (Sum.inr (gs_1, remain))) (gs, (List.replicate (Int.toNat n) false), remaining, (remaining.length : Int), 0)).bind fun ((gs_2, remain_1) : (List (List Int × Int)) × (List Bool)) =>
    (d101 gs_2 remain_1).bind fun r =>
    some r.1
  else none
def sg69 : Sig := ⟨[(y2, .sh), (y22, .bw), (y23, .bw)], [(y23, .sh)]⟩
def plan69 : Plan := (.seq (.reg [] []) (.seq (.reg [] []) (.seq (.seq (.reg [] []) (.block (.loop [(1, .v y22 .bw), (7, .v y75 (.own 4 .sh)), (14, .v y23 .bw), (15, .v y2 .sh), (16, .v y2 .sh)] [(.brk 0, [(1, .v y22 .bw), (7, .v y75 (.own 4 .sh))])] (.seq (.reg [] []) (.seq (.cond .nil .nil) (.seq (.block (.seq (.reg [] []) (.reg [] []))) (.reg [] []))))))) (.seq (.reg [] [{}, {}, {}, { fl := 1 }]) (.seq (.reg [] []) .nil)))))
theorem ev69 (xs : Vals (ptys sg69.ps)) : evF (P := Try.prog) tab [.fn E101] sg69 Try.f69.results.toList (code Try.f69) plan69 xs = d69 xs.1 xs.2.1 xs.2.2.1 := by kernel_rfl
theorem sim69 : Sim Try.prog 69 sg69 d69 := sim_ev mixd tabOK Try.func69 (code_of rfl) Try.call69 (Nat.le_of_ble_eq_true (by kernel_rfl)) (by kernel_rfl) plan69 _ fun xs y h => (ev69 xs).trans h
noncomputable def E69 : FnE Try.prog := ⟨69, sg69, d69, sim69⟩

/-- election/pile.sum[election/api.Group] -/
noncomputable def d104 (l : List (List Int × Int)) (number : ((List Int × Int) → Option Int)) : Option Int :=
  (whileO (β := Int) (fun ((number_1, n, t8, t9, t10) : ((List Int × Int) → Option Int) × Int × (List (List Int × Int)) × Int × Int) =>
      bif (decide (t10 < t9)) then
        bif (decide (0 ≤ t10) && decide (t10 < (t8.length : Int))) then
          (number_1 (List.getD t8 (Int.toNat t10) ([], 0))).bind fun r =>
          some (Sum.inl (number_1, (w (n + r)), t8, t9, (w (t10 + 1))))
        else none
      else
        some (Sum.inr n)) (number, 0, l, (l.length : Int), 0)).bind fun (n_1 : Int) =>
  some n_1
def sg104 : Sig := ⟨[(y22, .bw), (y135, .bw)], [(y2, .sh)]⟩
def plan104 : Plan := (.seq (.reg [] []) (.seq (.reg [] []) (.seq (.seq (.reg [] []) (.block (.loop [(1, .v y135 .bw), (5, .v y2 .sh), (8, .v y22 .bw), (9, .v y2 .sh), (10, .v y2 .sh)] [(.brk 0, [(5, .v y2 .sh)])] (.seq (.reg [] []) (.seq (.cond .nil .nil) (.seq (.block (.seq (.reg [] []) (.reg [] []))) (.reg [] []))))))) (.seq (.reg [] []) .nil))))
theorem ev104 (xs : Vals (ptys sg104.ps)) : evF (P := Try.prog) tab [] sg104 Try.f104.results.toList (code Try.f104) plan104 xs = d104 xs.1 xs.2.1 := by kernel_rfl
theorem sim104 : Sim Try.prog 104 sg104 d104 := sim_ev mixd tabOK Try.func104 (code_of rfl) Try.call104 (Nat.le_of_ble_eq_true (by kernel_rfl)) (by kernel_rfl) plan104 _ fun xs y h => (ev104 xs).trans h
noncomputable def E104 : FnE Try.prog := ⟨104, sg104, d104, sim104⟩

/-- election/pile.Marked$1 -/
noncomputable def d105 (g : (List Int × Int)) : Option Int :=
  bif (decide ((g.1.length : Int) = 0)) then
    some 0
  else
    some g.2
def sg105 : Sig := ⟨[(y93, .bw)], [(y2, .sh)]⟩
def plan105 : Plan := (.seq (.reg [] []) (.seq (.seq (.reg [] []) (.cond (.seq (.reg [] []) .nil) .nil)) (.seq (.reg [] []) .nil)))
theorem ev105 (xs : Vals (ptys sg105.ps)) : evF (P := Try.prog) tab [] sg105 Try.f105.results.toList (code Try.f105) plan105 xs = d105 xs.1 := by kernel_rfl
theorem sim105 : Sim Try.prog 105 sg105 d105 := sim_ev mixd tabOK Try.func105 (code_of rfl) Try.call105 (Nat.le_of_ble_eq_true (by kernel_rfl)) (by kernel_rfl) plan105 _ fun xs y h => (ev105 xs).trans h
noncomputable def E105 : FnE Try.prog := ⟨105, sg105, d105, sim105⟩

/-- election/pile.Marked -/
noncomputable def d70 (gs : List (List Int × Int)) : Option Int :=
  (d103 gs).bind fun r =>
  bif !r then
    some 0
  else
    (d104 gs (fun a => d105 a)).bind fun r_1 =>
    some r_1
def sg70 : Sig := ⟨[(y22, .bw)], [(y2, .sh)]⟩
def plan70 : Plan := (.seq (.reg [] []) (.seq (.seq (.reg [] []) (.cond (.seq (.reg [] []) .nil) .nil)) (.seq (.reg [] []) .nil)))
theorem ev70 (xs : Vals (ptys sg70.ps)) : evF (P := Try.prog) tab [.fn E103, .fn E104, .fn E105] sg70 Try.f70.results.toList (code Try.f70) plan70 xs = d70 xs.1 := by kernel_rfl
theorem sim70 : Sim Try.prog 70 sg70 d70 := sim_ev mixd tabOK Try.func70 (code_of rfl) Try.call70 (Nat.le_of_ble_eq_true (by kernel_rfl)) (by kernel_rfl) plan70 _ fun xs y h => (ev70 xs).trans h
noncomputable def E70 : FnE Try.prog := ⟨70, sg70, d70, sim70⟩

/-- election/assertion.Tally -/
noncomputable def d23 (n : Int) (gs : List (List Int × Int)) (a : (Int × (Int × (Int × (List Int × Int))))) : Option (Int × Int) :=
  letJ (fun ((n_1, gs_1, a_1, t18) : Int × (List (List Int × Int)) × (Int × (Int × (Int × (List Int × Int)))) × Bool) =>
      bif t18 then
        some (0, 0)
      else
        bif (decide (a_1.1 = 1)) then
          (d67 gs_1 a_1.2.1).bind fun r_2 =>
          (d68 gs_1 a_1.2.2.1 a_1.2.1).bind fun r_3 =>
          some (r_2, r_3)
        else
          bif (decide (a_1.1 = 2)) then
            (d69 n_1 gs_1 a_1.2.2.2.1).bind fun r_4 =>
            bif (decide (0 ≤ a_1.2.1) && decide (a_1.2.1 < (r_4.length : Int))) then
              bif (decide (0 ≤ a_1.2.2.1) && decide (a_1.2.2.1 < (r_4.length : Int))) then
                some ((List.getD r_4 (Int.toNat a_1.2.1) 0), (List.getD r_4 (Int.toNat a_1.2.2.1) 0))
              else none
            else none
          else
            (d67 gs_1 a_1.2.1).bind fun r_5 =>
            (d70 gs_1).bind fun r_6 =>
            some ((w (a_1.2.2.2.2 * r_5)), r_6)) fun j_ =>
  (d25 n a).bind fun r =>
  bif !(!r) then
    (d66 n gs).bind fun r_1 =>
    j_ (n, gs, a, !r_1)
  else
    j_ (n, gs, a, true)
def sg23 : Sig := ⟨[(y2, .sh), (y22, .bw), (y24, .bw)], [(y2, .sh), (y2, .sh)]⟩
def plan23 : Plan := (.seq (.reg [] []) (.seq (.join (.reg [] []) [(0, .v y2 .sh), (1, .v y22 .bw), (5, .v (.ptr y24) (.own 0 .bw)), (18, .v y4 .sh)] (.cond (.seq (.reg [] []) .nil) .nil)) (.seq (.seq (.reg [] []) (.block (.seq (.reg [] []) (.cond (.seq (.reg [] []) .nil) (.seq (.reg [] []) (.cond (.seq (.reg [] []) (.seq (.reg [] []) .nil)) .nil)))))) (.seq (.reg [] []) .nil))))
theorem ev23 (xs : Vals (ptys sg23.ps)) : evF (P := Try.prog) tab [.fn E25, .fn E66, .fn E67, .fn E68, .fn E69, .fn E70] sg23 Try.f23.results.toList (code Try.f23) plan23 xs = d23 xs.1 xs.2.1 xs.2.2.1 := by kernel_rfl
theorem sim23 : Sim Try.prog 23 sg23 d23 := sim_ev mixd tabOK Try.func23 (code_of rfl) Try.call23 (Nat.le_of_ble_eq_true (by kernel_rfl)) (by kernel_rfl) plan23 _ fun xs y h => (ev23 xs).trans h
noncomputable def E23 : FnE Try.prog := ⟨23, sg23, d23, sim23⟩

/-- election/assertion.Margin -/
noncomputable def d27 (n : Int) (gs : List (List Int × Int)) (a : (Int × (Int × (Int × (List Int × Int))))) : Option Int :=
  (d23 n gs a).bind fun r =>
  some (w (r.1 - r.2))
def sg27 : Sig := ⟨[(y2, .sh), (y22, .bw), (y24, .bw)], [(y2, .sh)]⟩
def plan27 : Plan := (.seq (.reg [] []) (.seq (.reg [] [{}, {}, {}, {}, { fl := 1 }]) (.seq (.reg [] []) .nil)))
theorem ev27 (xs : Vals (ptys sg27.ps)) : evF (P := Try.prog) tab [.fn E23] sg27 Try.f27.results.toList (code Try.f27) plan27 xs = d27 xs.1 xs.2.1 xs.2.2.1 := by kernel_rfl
theorem sim27 : Sim Try.prog 27 sg27 d27 := sim_ev mixd tabOK Try.func27 (code_of rfl) Try.call27 (Nat.le_of_ble_eq_true (by kernel_rfl)) (by kernel_rfl) plan27 _ fun xs y h => (ev27 xs).trans h
noncomputable def E27 : FnE Try.prog := ⟨27, sg27, d27, sim27⟩

/-- election/assertion.Holds -/
noncomputable def d28 (n : Int) (gs : List (List Int × Int)) (a : (Int × (Int × (Int × (List Int × Int))))) : Option Bool :=
  (d27 n gs a).bind fun r =>
  some (decide (0 < r))
def sg28 : Sig := ⟨[(y2, .sh), (y22, .bw), (y24, .bw)], [(y4, .sh)]⟩
def plan28 : Plan := (.seq (.reg [] []) (.seq (.reg [] []) .nil))
theorem ev28 (xs : Vals (ptys sg28.ps)) : evF (P := Try.prog) tab [.fn E27] sg28 Try.f28.results.toList (code Try.f28) plan28 xs = d28 xs.1 xs.2.1 xs.2.2.1 := by kernel_rfl
theorem sim28 : Sim Try.prog 28 sg28 d28 := sim_ev mixd tabOK Try.func28 (code_of rfl) Try.call28 (Nat.le_of_ble_eq_true (by kernel_rfl)) (by kernel_rfl) plan28 _ fun xs y h => (ev28 xs).trans h
noncomputable def E28 : FnE Try.prog := ⟨28, sg28, d28, sim28⟩

/-- election/electionlaw36.AssorterFound -/
noncomputable def d14 (p0 : Int) (p1 : List (List Int)) (p2 : List (List Int)) (p3 : List Bool) (p4 : List Bool) (p5 : Int) (p6 : Int) (p7 : Int) (p8 : Int) (p9 : Int) : Option Bool :=
  (d18 p0 6).bind fun r =>
  (d22 (w (2 + r)) p5 p6 p7 p8 p9).bind fun r_1 =>
  (d54 (w (2 + r)) p1 p3 30).bind fun r_2 =>
  (d57 (w (2 + r)) r_2 p2 p4).bind fun r_3 =>
  (whileO (β := (Int × (Int × (Int × (Int × (List Int × Int)))) × (List ((Int × (Int × Int)) × (Bool × List Int))) × Int × (List (List Int × Int)))) (fun ((t0, t21, t22, t23, t24, t25, t26) : Int × (Int × (Int × (Int × (List Int × Int)))) × (List ((Int × (Int × Int)) × (Bool × List Int))) × (List (Bool × List Int)) × Int × (List (List Int × Int)) × Int) =>
      bif (decide (t26 < (t23.length : Int))) then
        letJ (fun ((t0_1, t21_1, t22_1, t23_1, t24_1, t25_1, t26_1) : Int × (Int × (Int × (Int × (List Int × Int)))) × (List ((Int × (Int × Int)) × (Bool × List Int))) × (List (Bool × List Int)) × Int × (List (List Int × Int)) × Int) =>
            some (Sum.inl (t0_1, t21_1, t22_1, t23_1, t24_1, t25_1, (w (t26_1 + 1))))) fun j_ =>
        bif (decide (0 ≤ t26) && decide (t26 < (t23.length : Int))) then
          (d51 t21 (List.getD t23 (Int.toNat t26) (false, []))).bind fun r_4 =>
          bif (decide (0 ≤ t26) && decide (t26 < (t23.length : Int))) then
            bif !((List.getD t23 (Int.toNat t26) (false, [])).1) then
              bif (decide (0 ≤ t26) && decide (t26 < (t23.length : Int))) then
                (d63 t25 ((List.getD t23 (Int.toNat t26) (false, [])).2) 1).bind fun r_5 =>
                j_ (t0, t21, t22, t23, (w (t24 + r_4)), r_5, t26)
              else none
            else
              j_ (t0, t21, t22, t23, (w (t24 + r_4)), t25, t26)
          else none
        else none
      else
        some (Sum.inr (t0, t21, t22, t24, t25))) ((w (2 + r)), r_1, r_2, r_3, 0, [], 0)).bind fun ((t0_2, t21_2, t22_2, t24_2, t25_2) : Int × (Int × (Int × (Int × (List Int × Int)))) × (List ((Int × (Int × Int)) × (Bool × List Int))) × Int × (List (List Int × Int))) =>
  (d44).bind fun r_6 =>
  bif r_6 then
    bif !(decide (t24_2 ≤ (t22_2.length : Int))) then
      (d28 t0_2 t25_2 t21_2).bind fun r_7 =>
      some r_7
    else
      some true
  else
    some false
def sg14 : Sig := ⟨[(y2, .sh), (y26, .bw), (y26, .sh), (y75, .bw), (y75, .bw), (y2, .sh), (y2, .sh), (y2, .sh), (y2, .sh), (y2, .sh)], [(y4, .sh)]⟩
def plan14 : Plan := (.seq (.reg [] []) (.seq (.reg [] []) (.seq (.reg [] []) (.seq (.reg [] []) (.seq (.reg [(22, [])] []) (.seq (.reg [] []) (.seq (.reg [] [{ fl := 2 }]) (.seq (.seq (.reg [] []) (.block (.loop [(0, .v y2 .sh), (21, .v (.ptr y24) (.own 0 .sh)), (22, .v y74 .sh), (23, .v y81 (.own 68 .sh)), (24, .v y2 .sh), (25, .v y22 (.own 93 .sh)), (26, .v y2 .sh)] [(.brk 0, [(0, .v y2 .sh), (21, .v (.ptr y24) (.own 0 .sh)), (22, .v y74 .sh), (24, .v y2 .sh), (25, .v y22 (.own 93 .sh))])] (.seq (.seq (.reg [] []) (.cond .nil .nil)) (.join (.block (.seq (.reg [] []) (.seq (.reg [] []) (.cond (.reg [(25, [])] []) .nil)))) [(0, .v y2 .sh), (21, .v (.ptr y24) (.own 0 .sh)), (22, .v y74 .sh), (23, .v y81 (.own 68 .sh)), (24, .v y2 .sh), (25, .v y22 (.own 93 .sh)), (26, .v y2 .sh)] (.reg [] [])))))) (.seq (.reg [] []) .nil)))))))))
theorem ev14 (xs : Vals (ptys sg14.ps)) : evF (P := Try.prog) tab [.fn E18, .fn E22, .fn E54, .fn E57, .fn E51, .fn E63, .fn E44, .fn E28] sg14 Try.f14.results.toList (code Try.f14) plan14 xs = d14 xs.1 xs.2.1 xs.2.2.1 xs.2.2.2.1 xs.2.2.2.2.1 xs.2.2.2.2.2.1 xs.2.2.2.2.2.2.1 xs.2.2.2.2.2.2.2.1 xs.2.2.2.2.2.2.2.2.1 xs.2.2.2.2.2.2.2.2.2.1 := by kernel_rfl
theorem sim14 : Sim Try.prog 14 sg14 d14 := sim_ev mixd tabOK Try.func14 (code_of rfl) Try.call14 (Nat.le_of_ble_eq_true (by kernel_rfl)) (by kernel_rfl) plan14 _ fun xs y h => (ev14 xs).trans h
noncomputable def E14 : FnE Try.prog := ⟨14, sg14, d14, sim14⟩

/-- election/electionref24.Make -/
noncomputable def d64 (n : Int) (ballots : List (List Int)) : Option ((List (List Int × Int)) × Int) :=
  letJ (fun ((n_1, ballots_1, t13) : Int × (List (List Int)) × Bool) =>
      bif t13 then
        some ([], 4)
      else
        bif (decide (100000 < (ballots_1.length : Int))) then
          some ([], 7)
        else
          (whileO (β := (List (List Int × Int)) ⊕ ((List (List Int × Int)) × Int)) (fun ((n_2, ballots_2, gs, i) : Int × (List (List Int)) × (List (List Int × Int)) × Int) =>
              bif (decide (i < (ballots_2.length : Int))) then
                bif (decide (0 ≤ i) && decide (i < (ballots_2.length : Int))) then
                  (d79 n_2 (List.getD ballots_2 (Int.toNat i) [])).bind fun r =>
                  bif !r then
                    some (Sum.inr (Sum.inr ([], 8)))
                  else
                    bif (decide (0 ≤ i) && decide (i < (ballots_2.length : Int))) then
                      bif (decide ((([] : List Int).length : Int) + ((List.getD ballots_2 (Int.toNat i) []).length : Int) ≤ LIM)) then
                        (d63 gs (List.getD ballots_2 (Int.toNat i) []) 1).bind fun r_1 =>
                        some (Sum.inl (n_2, ballots_2, r_1, (w (i + 1))))
                      else none
                    else none
                else none
              else
                some (Sum.inr (Sum.inl gs))) (n_1, ballots_1, [], 0)).bind fun
          | Sum.inl gs_1 =>
            some (gs_1, 0)
          | Sum.inr (t4, t5) =>
            some (t4, t5)) fun j_ =>
  bif !(decide (n < 1)) then
    j_ (n, ballots, (decide (7 < n)))
  else
    j_ (n, ballots, true)
def sg64 : Sig := ⟨[(y2, .sh), (y26, .bw)], [(y22, .sh), (y2, .sh)]⟩
def plan64 : Plan := (.post (.seq (.reg [] []) (.seq (.join (.reg [] []) [(0, .v y2 .sh), (1, .v y26 .bw), (13, .v y4 .sh)] (.cond (.seq (.reg [] []) .nil) .nil)) (.seq (.seq (.reg [] []) (.cond (.seq (.reg [] []) .nil) .nil)) (.seq (.reg [] [{ fl := 2 }]) (.seq (.seq (.reg [] []) (.block (.loop [(0, .v y2 .sh), (1, .v y26 .bw), (6, .v y22 (.own 93 .sh)), (7, .v y2 .sh)] [(.brk 0, [(6, .v y22 (.own 93 .sh))]), (.ret, [(4, .v y22 .sh), (5, .v y2 .sh)])] (.seq (.seq (.reg [] []) (.cond .nil .nil)) (.seq (.block (.seq (.seq (.reg [] []) (.cond (.seq (.reg [] []) .nil) .nil)) (.reg [(6, [])] [{}, {}, {}, {}, {}, {}, { frz := [(35, [])] }]))) (.reg [] [])))))) (.seq (.reg [] []) .nil)))))) [(4, [])])
theorem ev64 (xs : Vals (ptys sg64.ps)) : evF (P := Try.prog) tab [.fn E79, .fn E63] sg64 Try.f64.results.toList (code Try.f64) plan64 xs = d64 xs.1 xs.2.1 := by kernel_rfl
theorem sim64 : Sim Try.prog 64 sg64 d64 := sim_ev mixd tabOK Try.func64 (code_of rfl) Try.call64 (Nat.le_of_ble_eq_true (by kernel_rfl)) (by kernel_rfl) plan64 _ fun xs y h => (ev64 xs).trans h
noncomputable def E64 : FnE Try.prog := ⟨64, sg64, d64, sim64⟩

/-- election/electionmake.Pile -/
noncomputable def d19 (n : Int) (l : List (List Int)) (most : Int) : Option (List (List Int × Int)) :=
  (d65 n l most).bind fun r =>
  (d64 n r).bind fun r_1 =>
  some r_1.1
def sg19 : Sig := ⟨[(y2, .sh), (y26, .bw), (y2, .sh)], [(y22, .sh)]⟩
def plan19 : Plan := (.seq (.reg [] []) (.seq (.reg [] [{}, {}, {}, {}, {}, {}, { fl := 1 }]) (.seq (.reg [] []) .nil)))
theorem ev19 (xs : Vals (ptys sg19.ps)) : evF (P := Try.prog) tab [.fn E65, .fn E64] sg19 Try.f19.results.toList (code Try.f19) plan19 xs = d19 xs.1 xs.2.1 xs.2.2.1 := by kernel_rfl
theorem sim19 : Sim Try.prog 19 sg19 d19 := sim_ev mixd tabOK Try.func19 (code_of rfl) Try.call19 (Nat.le_of_ble_eq_true (by kernel_rfl)) (by kernel_rfl) plan19 _ fun xs y h => (ev19 xs).trans h
noncomputable def E19 : FnE Try.prog := ⟨19, sg19, d19, sim19⟩

/-- election/electionlaw36.AssorterMean -/
noncomputable def d15 (p0 : Int) (p1 : List (List Int)) (p2 : Int) (p3 : Int) (p4 : Int) (p5 : Int) (p6 : Int) : Option Bool :=
  (d18 p0 6).bind fun r =>
  (d22 (w (2 + r)) p2 p3 p4 p5 p6).bind fun r_1 =>
  (d54 (w (2 + r)) p1 [] 40).bind fun r_2 =>
  (d19 (w (2 + r)) p1 40).bind fun r_3 =>
  (d55 r_1 r_2).bind fun r_4 =>
  (d27 (w (2 + r)) r_3 r_1).bind fun r_5 =>
  letJ (fun ((t15, t18, t19, t71) : (Int × (Int × (Int × (List Int × Int)))) × (Int × (Int × Int)) × Int × Bool) =>
      bif t71 then
        some false
      else
        (d44).bind fun r_8 =>
        bif r_8 then
          bif !(decide (t15.1 = 3)) then
            some (decide (t18.2.1 = t19))
          else
            some true
        else
          some false) fun j_ =>
  bif !(!(decide (r_4.1 = (r_2.length : Int)))) then
    (d47 r_1).bind fun r_6 =>
    bif !(!(decide (r_4.2.2 = r_6))) then
      bif !(!((decide (0 < r_4.2.1)) == (decide (0 < r_5)))) then
        (d28 (w (2 + r)) r_3 r_1).bind fun r_7 =>
        j_ (r_1, r_4, r_5, !((decide (0 < r_5)) == r_7))
      else
        j_ (r_1, r_4, r_5, true)
    else
      j_ (r_1, r_4, r_5, true)
  else
    j_ (r_1, r_4, r_5, true)
def sg15 : Sig := ⟨[(y2, .sh), (y26, .bw), (y2, .sh), (y2, .sh), (y2, .sh), (y2, .sh), (y2, .sh)], [(y4, .sh)]⟩
def plan15 : Plan := (.seq (.reg [] []) (.seq (.reg [] []) (.seq (.reg [] []) (.seq (.reg [] []) (.seq (.reg [] []) (.seq (.reg [(16, [])] []) (.seq (.reg [] []) (.seq (.join (.reg [] []) [(15, .v (.ptr y24) (.own 0 .sh)), (18, .v (.ptr y63) (.own 0 .sh)), (19, .v y2 .sh), (71, .v y4 .sh)] (.cond (.seq (.reg [] []) .nil) .nil)) (.seq (.reg [] []) .nil)))))))))
theorem ev15 (xs : Vals (ptys sg15.ps)) : evF (P := Try.prog) tab [.fn E18, .fn E22, .fn E54, .fn E19, .fn E55, .fn E27, .fn E47, .fn E28, .fn E44] sg15 Try.f15.results.toList (code Try.f15) plan15 xs = d15 xs.1 xs.2.1 xs.2.2.1 xs.2.2.2.1 xs.2.2.2.2.1 xs.2.2.2.2.2.1 xs.2.2.2.2.2.2.1 := by kernel_rfl
theorem sim15 : Sim Try.prog 15 sg15 d15 := sim_ev mixd tabOK Try.func15 (code_of rfl) Try.call15 (Nat.le_of_ble_eq_true (by kernel_rfl)) (by kernel_rfl) plan15 _ fun xs y h => (ev15 xs).trans h
noncomputable def E15 : FnE Try.prog := ⟨15, sg15, d15, sim15⟩

end Go.Proofs.Ythemaffjohmhnaa