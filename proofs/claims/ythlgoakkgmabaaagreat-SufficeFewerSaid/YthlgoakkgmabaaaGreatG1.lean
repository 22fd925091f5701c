import Derived.Test.YthlgoakkgmabaaaGreatY0
import Derived.Test.YthlgoakkgmabaaaGreatV
open Go Go.Proofs Go.X
namespace Go.Proofs.YthlgoakkgmabaaaGreat
set_option linter.unusedVariables false
set_option maxRecDepth 100000
/-- election/electionlaw35.short -/
noncomputable def d5 (l : List (Int × (Int × (Int × (List Int × Int))))) : Option Bool :=
  (whileO (β := (List (Int × (Int × (Int × (List Int × Int))))) ⊕ Bool) (fun ((l_1, i) : (List (Int × (Int × (Int × (List Int × Int))))) × Int) =>
      bif (decide (i < (l_1.length : Int))) then
        bif (decide (0 ≤ i) && decide (i < (l_1.length : Int))) then
          bif (decide (9 < ((((((List.getD l_1 (Int.toNat i) (0, 0, 0, [], 0)).2).2).2).1).length : Int))) then
            some (Sum.inr (Sum.inr false))
          else
            some (Sum.inl (l_1, (w (i + 1))))
        else none
      else
        some (Sum.inr (Sum.inl l_1))) (l, 0)).bind fun
  | Sum.inl l_2 =>
    some (decide ((l_2.length : Int) ≤ 30))
  | Sum.inr t2 =>
    some t2
def sg5 : Sig := ⟨[(y26, .bw)], [(y4, .sh)]⟩
def plan5 : Plan := (.seq (.reg [] []) (.seq (.seq (.reg [] []) (.block (.loop [(0, .v y26 .bw), (3, .v y2 .sh)] [(.brk 0, [(0, .v y26 .bw)]), (.ret, [(2, .v y4 .sh)])] (.seq (.seq (.reg [] []) (.cond .nil .nil)) (.seq (.block (.seq (.reg [] []) (.cond (.seq (.reg [] []) .nil) .nil))) (.reg [] [])))))) (.seq (.reg [] []) .nil)))
theorem ev5 (xs : Vals (ptys sg5.ps)) : evF (P := Tryz.prog) tab [] sg5 Tryz.f5.results.toList (code Tryz.f5) plan5 xs = d5 xs.1 := by kernel_rfl
theorem sim5 : Sim Tryz.prog 5 sg5 d5 := sim_ev mixd tabOK Tryz.func5 (code_of rfl) Tryz.call5 (Nat.le_of_ble_eq_true (by kernel_rfl)) (by kernel_rfl) plan5 _ fun xs y h => (ev5 xs).trans h
noncomputable def E5 : FnE Tryz.prog := ⟨5, sg5, d5, sim5⟩

/-- election/electionmake.Mod -/
noncomputable def d7 (x : Int) (n : Int) : Option Int :=
  bif (!decide (n = 0)) then
    bif (!decide (n = 0)) then
      some (w (Int.tmod (w ((w (Int.tmod x n)) + n)) n))
    else none
  else none
def sg7 : Sig := ⟨[(y2, .sh), (y2, .sh)], [(y2, .sh)]⟩
def plan7 : Plan := (.seq (.reg [] []) (.seq (.reg [] []) .nil))
theorem ev7 (xs : Vals (ptys sg7.ps)) : evF (P := Tryz.prog) tab [] sg7 Tryz.f7.results.toList (code Tryz.f7) plan7 xs = d7 xs.1 xs.2.1 := by kernel_rfl
theorem sim7 : Sim Tryz.prog 7 sg7 d7 := sim_ev mixd tabOK Tryz.func7 (code_of rfl) Tryz.call7 (Nat.le_of_ble_eq_true (by kernel_rfl)) (by kernel_rfl) plan7 _ fun xs y h => (ev7 xs).trans h
noncomputable def E7 : FnE Tryz.prog := ⟨7, sg7, d7, sim7⟩

/-- election/electionmake.Names -/
noncomputable def d19 (n : Int) : Option (List (List Int)) :=
  (whileO (β := (List (List Int))) (fun ((n_1, out, i) : Int × (List (List Int)) × Int) =>
      bif (decide (i < n_1)) then
        bif (decide ((out.length : Int) + (([[(wu8 (w (97 + i)))]] : List (List Int)).length : Int) ≤ LIM)) then
          some (Sum.inl (n_1, (out ++ [[(wu8 (w (97 + i)))]]), (w (i + 1))))
        else none
      else
        some (Sum.inr out)) (n, [], 0)).bind fun (out_1 : List (List Int)) =>
  some out_1
def sg19 : Sig := ⟨[(y2, .sh)], [(y22, (.own 9 .sh))]⟩
def plan19 : Plan := (.seq (.reg [] []) (.seq (.reg [] [{ fl := 2 }]) (.seq (.seq (.reg [] []) (.block (.loop [(0, .v y2 .sh), (3, .v y22 (.own 9 .sh)), (4, .v y2 .sh)] [(.brk 0, [(3, .v y22 (.own 9 .sh))])] (.seq (.seq (.reg [] []) (.cond .nil .nil)) (.seq (.block (.reg [] [])) (.reg [] [])))))) (.seq (.reg [] []) .nil))))
theorem ev19 (xs : Vals (ptys sg19.ps)) : evF (P := Tryz.prog) tab [] sg19 Tryz.f19.results.toList (code Tryz.f19) plan19 xs = d19 xs.1 := by kernel_rfl
theorem sim19 : Sim Tryz.prog 19 sg19 d19 := sim_ev mixd tabOK Tryz.func19 (code_of rfl) Tryz.call19 (Nat.le_of_ble_eq_true (by kernel_rfl)) (by kernel_rfl) plan19 _ fun xs y h => (ev19 xs).trans h
noncomputable def E19 : FnE Tryz.prog := ⟨19, sg19, d19, sim19⟩

/-- election/electionmake.Contest -/
noncomputable def d8 (method : Int) (n : Int) (seats : Int) (digits : Int) (ties : Int) : Option (List Int × (List (List Int) × (Int × (Int × (Int × (Int × (Int × (Int × Int)))))))) :=
  (d19 n).bind fun r =>
  (d7 method 3).bind fun r_1 =>
  (d7 seats 5).bind fun r_2 =>
  (d7 ties 3).bind fun r_3 =>
  letJ (fun ((t10, c) : (List Int × (List (List Int) × (Int × (Int × (Int × (Int × (Int × (Int × Int)))))))) × (List Int × (List (List Int) × (Int × (Int × (Int × (Int × (Int × (Int × Int))))))))) =>
      letJ (fun ((t10_1, c_1) : (List Int × (List (List Int) × (Int × (Int × (Int × (Int × (Int × (Int × Int)))))))) × (List Int × (List (List Int) × (Int × (Int × (Int × (Int × (Int × (Int × Int))))))))) =>
          some c_1) fun j__1 =>
      bif (decide (c.2.2.1 = 1)) then
        j__1 (t10, (c.1, c.2.1, c.2.2.1, 1, c.2.2.2.2))
      else
        j__1 (t10, c)) fun j_ =>
  bif (decide ((w (1 + r_1)) = 2)) then
    (d7 digits 6).bind fun r_4 =>
    j_ (([], [], 0, 0, 0, 0, 0, 0, 0), ([99], r, (w (1 + r_1)), (w (1 + r_2)), 0, (w (1 + r_4)), (w (1 + r_3)), 0, 0))
  else
    j_ (([], [], 0, 0, 0, 0, 0, 0, 0), ([99], r, (w (1 + r_1)), (w (1 + r_2)), 0, 0, (w (1 + r_3)), 0, 0))
def sg8 : Sig := ⟨[(y2, .sh), (y2, .sh), (y2, .sh), (y2, .sh), (y2, .sh)], [(y23, .sh)]⟩
def plan8 : Plan := (.seq (.reg [] []) (.seq (.reg [] [{}, {}, {}, {}, {}, {}, {}, {}, {}, {}, {}, { frz := [(13, [])] }]) (.join (.seq (.reg [] []) (.cond (.reg [] []) .nil)) [(10, .v (.ptr y23) (.own 0 .sh)), (11, .v (.ptr y23) (.own 0 (.pr .sh (.pr .sh (.pr .sh (.pr .sh (.pr .sh (.pr .sh (.pr .sh .sh)))))))))] (.join (.seq (.reg [] []) (.cond (.reg [] []) .nil)) [(10, .v (.ptr y23) (.own 0 .sh)), (11, .v (.ptr y23) (.own 0 (.pr .sh (.pr .sh (.pr .sh (.pr .sh (.pr .sh (.pr .sh (.pr .sh .sh)))))))))] (.seq (.reg [] []) .nil)))))
theorem ev8 (xs : Vals (ptys sg8.ps)) : evF (P := Tryz.prog) tab [.fn E19, .fn E7] sg8 Tryz.f8.results.toList (code Tryz.f8) plan8 xs = d8 xs.1 xs.2.1 xs.2.2.1 xs.2.2.2.1 xs.2.2.2.2.1 := by kernel_rfl
theorem sim8 : Sim Tryz.prog 8 sg8 d8 := sim_ev mixd tabOK Tryz.func8 (code_of rfl) Tryz.call8 (Nat.le_of_ble_eq_true (by kernel_rfl)) (by kernel_rfl) plan8 _ fun xs y h => (ev8 xs).trans h
noncomputable def E8 : FnE Tryz.prog := ⟨8, sg8, d8, sim8⟩

/-- election/electionref24.Has -/
noncomputable def d20 (l : List Int) (x : Int) : Option Bool :=
  (whileO (β := Unit ⊕ Bool) (fun ((l_1, x_1, i) : (List Int) × Int × Int) =>
      bif (decide (i < (l_1.length : Int))) then
        bif (decide (0 ≤ i) && decide (i < (l_1.length : Int))) then
          bif (decide ((List.getD l_1 (Int.toNat i) 0) = x_1)) then
            some (Sum.inr (Sum.inr true))
          else
            some (Sum.inl (l_1, x_1, (w (i + 1))))
        else none
      else
        some (Sum.inr (Sum.inl ()))) (l, x, 0)).bind fun
  | Sum.inl _ =>
    some false
  | Sum.inr t4 =>
    some t4
def sg20 : Sig := ⟨[(y25, .bw), (y2, .sh)], [(y4, .sh)]⟩
def plan20 : Plan := (.seq (.reg [] []) (.seq (.seq (.reg [] []) (.block (.loop [(0, .v y25 .bw), (1, .v y2 .sh), (5, .v y2 .sh)] [(.brk 0, []), (.ret, [(4, .v y4 .sh)])] (.seq (.seq (.reg [] []) (.cond .nil .nil)) (.seq (.block (.seq (.reg [] []) (.cond (.seq (.reg [] []) .nil) .nil))) (.reg [] [])))))) (.seq (.reg [] []) .nil)))
theorem ev20 (xs : Vals (ptys sg20.ps)) : evF (P := Tryz.prog) tab [] sg20 Tryz.f20.results.toList (code Tryz.f20) plan20 xs = d20 xs.1 xs.2.1 := by kernel_rfl
theorem sim20 : Sim Tryz.prog 20 sg20 d20 := sim_ev mixd tabOK Tryz.func20 (code_of rfl) Tryz.call20 (Nat.le_of_ble_eq_true (by kernel_rfl)) (by kernel_rfl) plan20 _ fun xs y h => (ev20 xs).trans h
noncomputable def E20 : FnE Tryz.prog := ⟨20, sg20, d20, sim20⟩

/-- election/electionmake.Ballot -/
noncomputable def d9 (n : Int) (l : List Int) : Option (List Int) :=
  (whileO (β := (List Int)) (fun ((n_1, l_1, out, i) : Int × (List Int) × (List Int) × Int) =>
      letJ (fun ((n_2, l_2, out_1, i_1, t17) : Int × (List Int) × (List Int) × Int × Bool) =>
          bif t17 then
            letJ (fun ((n_3, l_3, out_2, i_2) : Int × (List Int) × (List Int) × Int) =>
                some (Sum.inl (n_3, l_3, out_2, (w (i_2 + 1))))) fun j__1 =>
            bif (decide (0 ≤ i_1) && decide (i_1 < (l_2.length : Int))) then
              (d7 (List.getD l_2 (Int.toNat i_1) 0) n_2).bind fun r =>
              (d20 out_1 r).bind fun r_1 =>
              bif !r_1 then
                bif (decide ((out_1.length : Int) + (([r] : List Int).length : Int) ≤ LIM)) then
                  j__1 (n_2, l_2, (out_1 ++ [r]), i_1)
                else none
              else
                j__1 (n_2, l_2, out_1, i_1)
            else none
          else
            some (Sum.inr out_1)) fun j_ =>
      bif (decide (i < (l_1.length : Int))) then
        j_ (n_1, l_1, out, i, (decide ((out.length : Int) < n_1)))
      else
        j_ (n_1, l_1, out, i, false)) (n, l, [], 0)).bind fun (out_3 : List Int) =>
  some out_3
def sg9 : Sig := ⟨[(y2, .sh), (y25, .bw)], [(y25, (.own 3 .sh))]⟩
def plan9 : Plan := (.seq (.reg [] []) (.seq (.reg [] [{ fl := 2 }]) (.seq (.seq (.reg [] []) (.block (.loop [(0, .v y2 .sh), (1, .v y25 .bw), (5, .v y25 (.own 3 .sh)), (6, .v y2 .sh)] [(.brk 0, [(5, .v y25 (.own 3 .sh))])] (.seq (.join (.reg [] []) [(0, .v y2 .sh), (1, .v y25 .bw), (5, .v y25 (.own 3 .sh)), (6, .v y2 .sh), (17, .v y4 .sh)] (.cond .nil .nil)) (.join (.block (.seq (.reg [] []) (.seq (.reg [] []) (.cond (.reg [] []) .nil)))) [(0, .v y2 .sh), (1, .v y25 .bw), (5, .v y25 (.own 3 .sh)), (6, .v y2 .sh)] (.reg [] [])))))) (.seq (.reg [] []) .nil))))
theorem ev9 (xs : Vals (ptys sg9.ps)) : evF (P := Tryz.prog) tab [.fn E7, .fn E20] sg9 Tryz.f9.results.toList (code Tryz.f9) plan9 xs = d9 xs.1 xs.2.1 := by kernel_rfl
theorem sim9 : Sim Tryz.prog 9 sg9 d9 := sim_ev mixd tabOK Tryz.func9 (code_of rfl) Tryz.call9 (Nat.le_of_ble_eq_true (by kernel_rfl)) (by kernel_rfl) plan9 _ fun xs y h => (ev9 xs).trans h
noncomputable def E9 : FnE Tryz.prog := ⟨9, sg9, d9, sim9⟩

/-- election/electionref31.identity -/
noncomputable def d36 (n : Int) : Option (List Int) :=
  (whileO (β := (List Int)) (fun ((n_1, out, i) : Int × (List Int) × Int) =>
      bif (decide (i < n_1)) then
        bif (decide ((out.length : Int) + (([i] : List Int).length : Int) ≤ LIM)) then
          some (Sum.inl (n_1, (out ++ [i]), (w (i + 1))))
        else none
      else
        some (Sum.inr out)) (n, [], 0)).bind fun (out_1 : List Int) =>
  some out_1
def sg36 : Sig := ⟨[(y2, .sh)], [(y25, (.own 3 .sh))]⟩
def plan36 : Plan := (.seq (.reg [] []) (.seq (.reg [] [{ fl := 2 }]) (.seq (.seq (.reg [] []) (.block (.loop [(0, .v y2 .sh), (3, .v y25 (.own 3 .sh)), (4, .v y2 .sh)] [(.brk 0, [(3, .v y25 (.own 3 .sh))])] (.seq (.seq (.reg [] []) (.cond .nil .nil)) (.seq (.block (.reg [] [])) (.reg [] [])))))) (.seq (.reg [] []) .nil))))
theorem ev36 (xs : Vals (ptys sg36.ps)) : evF (P := Tryz.prog) tab [] sg36 Tryz.f36.results.toList (code Tryz.f36) plan36 xs = d36 xs.1 := by kernel_rfl
theorem sim36 : Sim Tryz.prog 36 sg36 d36 := sim_ev mixd tabOK Tryz.func36 (code_of rfl) Tryz.call36 (Nat.le_of_ble_eq_true (by kernel_rfl)) (by kernel_rfl) plan36 _ fun xs y h => (ev36 xs).trans h
noncomputable def E36 : FnE Tryz.prog := ⟨36, sg36, d36, sim36⟩

/-- election/electionref24.Ballot -/
noncomputable def d37 (n : Int) (p : List Int) : Option Bool :=
  (whileO (β := Unit ⊕ Bool) (fun ((n_1, p_1, i) : Int × (List Int) × Int) =>
      bif (decide (i < (p_1.length : Int))) then
        letJ (fun ((n_2, p_2, i_1, t34) : Int × (List Int) × Int × Bool) =>
            bif t34 then
              some (Sum.inr (Sum.inr false))
            else
              some (Sum.inl (n_2, p_2, (w (i_1 + 1))))) fun j_ =>
        bif (decide (0 ≤ i) && decide (i < (p_1.length : Int))) then
          bif !(decide ((List.getD p_1 (Int.toNat i) 0) < 0)) then
            bif (decide (0 ≤ i) && decide (i < (p_1.length : Int))) then
              bif !(decide (n_1 ≤ (List.getD p_1 (Int.toNat i) 0))) then
                bif (cutOK 0 i p_1.length) then
                  bif (decide (0 ≤ i) && decide (i < (p_1.length : Int))) then
                    (d20 (List.drop 0 (List.take (Int.toNat i) p_1)) (List.getD p_1 (Int.toNat i) 0)).bind fun r =>
                    j_ (n_1, p_1, i, r)
                  else none
                else none
              else
                j_ (n_1, p_1, i, true)
            else none
          else
            j_ (n_1, p_1, i, true)
        else none
      else
        some (Sum.inr (Sum.inl ()))) (n, p, 0)).bind fun
  | Sum.inl _ =>
    some true
  | Sum.inr t4 =>
    some t4
def sg37 : Sig := ⟨[(y2, .sh), (y25, .bw)], [(y4, .sh)]⟩
def plan37 : Plan := (.seq (.reg [] []) (.seq (.seq (.reg [] []) (.block (.loop [(0, .v y2 .sh), (1, .v y25 .bw), (5, .v y2 .sh)] [(.brk 0, []), (.ret, [(4, .v y4 .sh)])] (.seq (.seq (.reg [] []) (.cond .nil .nil)) (.seq (.block (.join (.reg [] []) [(0, .v y2 .sh), (1, .v y25 .bw), (5, .v y2 .sh), (34, .v y4 .sh)] (.cond (.seq (.reg [] []) .nil) .nil))) (.reg [] [])))))) (.seq (.reg [] []) .nil)))
theorem ev37 (xs : Vals (ptys sg37.ps)) : evF (P := Tryz.prog) tab [.fn E20] sg37 Tryz.f37.results.toList (code Tryz.f37) plan37 xs = d37 xs.1 xs.2.1 := by kernel_rfl
theorem sim37 : Sim Tryz.prog 37 sg37 d37 := sim_ev mixd tabOK Tryz.func37 (code_of rfl) Tryz.call37 (Nat.le_of_ble_eq_true (by kernel_rfl)) (by kernel_rfl) plan37 _ fun xs y h => (ev37 xs).trans h
noncomputable def E37 : FnE Tryz.prog := ⟨37, sg37, d37, sim37⟩

/-- election/electionref24.Less -/
noncomputable def d28 (a : List Int) (b : List Int) : Option Bool :=
  (whileO (β := ((List Int) × (List Int)) ⊕ Bool) (fun ((a_1, b_1, i) : (List Int) × (List Int) × Int) =>
      letJ (fun ((a_2, b_2, i_1, t15) : (List Int) × (List Int) × Int × Bool) =>
          bif t15 then
            bif (decide (0 ≤ i_1) && decide (i_1 < (a_2.length : Int))) then
              bif (decide (0 ≤ i_1) && decide (i_1 < (b_2.length : Int))) then
                bif !(decide ((List.getD a_2 (Int.toNat i_1) 0) = (List.getD b_2 (Int.toNat i_1) 0))) then
                  bif (decide (0 ≤ i_1) && decide (i_1 < (a_2.length : Int))) then
                    bif (decide (0 ≤ i_1) && decide (i_1 < (b_2.length : Int))) then
                      some (Sum.inr (Sum.inr (decide ((List.getD a_2 (Int.toNat i_1) 0) < (List.getD b_2 (Int.toNat i_1) 0)))))
                    else none
                  else none
                else
                  some (Sum.inl (a_2, b_2, (w (i_1 + 1))))
              else none
            else none
          else
            some (Sum.inr (Sum.inl (a_2, b_2)))) fun j_ =>
      bif (decide (i < (a_1.length : Int))) then
        j_ (a_1, b_1, i, (decide (i < (b_1.length : Int))))
      else
        j_ (a_1, b_1, i, false)) (a, b, 0)).bind fun
  | Sum.inl (a_3, b_3) =>
    some (decide ((a_3.length : Int) < (b_3.length : Int)))
  | Sum.inr t4 =>
    some t4
def sg28 : Sig := ⟨[(y25, .bw), (y25, .bw)], [(y4, .sh)]⟩
def plan28 : Plan := (.seq (.reg [] []) (.seq (.seq (.reg [] []) (.block (.loop [(0, .v y25 .bw), (1, .v y25 .bw), (5, .v y2 .sh)] [(.brk 0, [(0, .v y25 .bw), (1, .v y25 .bw)]), (.ret, [(4, .v y4 .sh)])] (.seq (.join (.reg [] []) [(0, .v y25 .bw), (1, .v y25 .bw), (5, .v y2 .sh), (15, .v y4 .sh)] (.cond .nil .nil)) (.seq (.block (.seq (.reg [] []) (.cond (.seq (.reg [] []) .nil) .nil))) (.reg [] [])))))) (.seq (.reg [] []) .nil)))
theorem ev28 (xs : Vals (ptys sg28.ps)) : evF (P := Tryz.prog) tab [] sg28 Tryz.f28.results.toList (code Tryz.f28) plan28 xs = d28 xs.1 xs.2.1 := by kernel_rfl
theorem sim28 : Sim Tryz.prog 28 sg28 d28 := sim_ev mixd tabOK Tryz.func28 (code_of rfl) Tryz.call28 (Nat.le_of_ble_eq_true (by kernel_rfl)) (by kernel_rfl) plan28 _ fun xs y h => (ev28 xs).trans h
noncomputable def E28 : FnE Tryz.prog := ⟨28, sg28, d28, sim28⟩

/-- election/electionref24.Valid -/
noncomputable def d54 (p0 : Int) (p1 : List (List Int × Int)) : Option Bool :=
  letJ (fun ((t0, t1, t12) : Int × (List (List Int × Int)) × Bool) =>
      bif t12 then
        some false
      else
        (whileO (β := Unit ⊕ Bool) (fun ((t0_1, t1_1, t5, t6) : Int × (List (List Int × Int)) × Int × Int) =>
            bif (decide (t6 < (t1_1.length : Int))) then
              letJ (fun ((t0_2, t1_2, t5_1, t6_1, t62) : Int × (List (List Int × Int)) × Int × Int × Bool) =>
                  bif t62 then
                    some (Sum.inr (Sum.inr false))
                  else
                    bif (decide (0 ≤ t6_1) && decide (t6_1 < (t1_2.length : Int))) then
                      some (Sum.inl (t0_2, t1_2, (w (t5_1 - ((List.getD t1_2 (Int.toNat t6_1) ([], 0)).2))), (w (t6_1 + 1))))
                    else none) fun j__1 =>
              bif (decide (0 ≤ t6) && decide (t6 < (t1_1.length : Int))) then
                (d37 t0_1 ((List.getD t1_1 (Int.toNat t6) ([], 0)).1)).bind fun r =>
                bif !(!r) then
                  bif (decide (0 ≤ t6) && decide (t6 < (t1_1.length : Int))) then
                    bif !(decide ((List.getD t1_1 (Int.toNat t6) ([], 0)).2 < 1)) then
                      bif (decide (0 ≤ t6) && decide (t6 < (t1_1.length : Int))) then
                        bif !(decide (t5 < (List.getD t1_1 (Int.toNat t6) ([], 0)).2)) then
                          bif (decide (0 < t6)) then
                            bif (decide (0 ≤ (w (t6 - 1))) && decide ((w (t6 - 1)) < (t1_1.length : Int))) then
                              bif (decide (0 ≤ t6) && decide (t6 < (t1_1.length : Int))) then
                                (d28 ((List.getD t1_1 (Int.toNat (w (t6 - 1))) ([], 0)).1) ((List.getD t1_1 (Int.toNat t6) ([], 0)).1)).bind fun r_1 =>
                                j__1 (t0_1, t1_1, t5, t6, !r_1)
                              else none
                            else none
                          else
                            j__1 (t0_1, t1_1, t5, t6, false)
                        else
                          j__1 (t0_1, t1_1, t5, t6, true)
                      else none
                    else
                      j__1 (t0_1, t1_1, t5, t6, true)
                  else none
                else
                  j__1 (t0_1, t1_1, t5, t6, true)
              else none
            else
              some (Sum.inr (Sum.inl ()))) (t0, t1, 100000, 0)).bind fun
        | Sum.inl _ =>
          some true
        | Sum.inr t4 =>
          some t4) fun j_ =>
  bif !(decide (p0 < 1)) then
    j_ (p0, p1, (decide (7 < p0)))
  else
    j_ (p0, p1, true)
def sg54 : Sig := ⟨[(y2, .sh), (y34, .bw)], [(y4, .sh)]⟩
def plan54 : Plan := (.seq (.reg [] []) (.seq (.join (.reg [] []) [(0, .v y2 .sh), (1, .v y34 .bw), (12, .v y4 .sh)] (.cond (.seq (.reg [] []) .nil) .nil)) (.seq (.reg [] []) (.seq (.seq (.reg [] []) (.block (.loop [(0, .v y2 .sh), (1, .v y34 .bw), (5, .v y2 .sh), (6, .v y2 .sh)] [(.brk 0, []), (.ret, [(4, .v y4 .sh)])] (.seq (.seq (.reg [] []) (.cond .nil .nil)) (.seq (.block (.seq (.join (.reg [] []) [(0, .v y2 .sh), (1, .v y34 .bw), (5, .v y2 .sh), (6, .v y2 .sh), (62, .v y4 .sh)] (.cond (.seq (.reg [] []) .nil) .nil)) (.reg [] []))) (.reg [] [])))))) (.seq (.reg [] []) .nil)))))
theorem ev54 (xs : Vals (ptys sg54.ps)) : evF (P := Tryz.prog) tab [.fn E37, .fn E28] sg54 Tryz.f54.results.toList (code Tryz.f54) plan54 xs = d54 xs.1 xs.2.1 := by kernel_rfl
theorem sim54 : Sim Tryz.prog 54 sg54 d54 := sim_ev mixd tabOK Tryz.func54 (code_of rfl) Tryz.call54 (Nat.le_of_ble_eq_true (by kernel_rfl)) (by kernel_rfl) plan54 _ fun xs y h => (ev54 xs).trans h
noncomputable def E54 : FnE Tryz.prog := ⟨54, sg54, d54, sim54⟩

/-- election/electionref24.Permutation -/
noncomputable def d55 (n : Int) (l : List Int) : Option Bool :=
  bif (decide ((l.length : Int) = n)) then
    (d37 n l).bind fun r =>
    some r
  else
    some false
def sg55 : Sig := ⟨[(y2, .sh), (y25, .bw)], [(y4, .sh)]⟩
def plan55 : Plan := (.seq (.reg [] []) (.seq (.reg [] []) .nil))
theorem ev55 (xs : Vals (ptys sg55.ps)) : evF (P := Tryz.prog) tab [.fn E37] sg55 Tryz.f55.results.toList (code Tryz.f55) plan55 xs = d55 xs.1 xs.2.1 := by kernel_rfl
theorem sim55 : Sim Tryz.prog 55 sg55 d55 := sim_ev mixd tabOK Tryz.func55 (code_of rfl) Tryz.call55 (Nat.le_of_ble_eq_true (by kernel_rfl)) (by kernel_rfl) plan55 _ fun xs y h => (ev55 xs).trans h
noncomputable def E55 : FnE Tryz.prog := ⟨55, sg55, d55, sim55⟩

/-- election/electionref24.Fit -/
noncomputable def d35 (p0 : Int) (p1 : (List Int × (List (List Int) × (Int × (Int × (Int × (Int × (Int × (Int × Int))))))))) (p2 : List (List Int × Int)) (p3 : List Int) : Option Int :=
  letJ (fun ((t0, t2, t3, t5, t9, t25) : Int × (List (List Int × Int)) × (List Int) × (List Int × (List (List Int) × (Int × (Int × (Int × (Int × (Int × (Int × Int)))))))) × Int × Bool) =>
      bif t25 then
        some 5
      else
        letJ (fun ((t0_1, t2_1, t3_1, t5_1, t9_1, t10) : Int × (List (List Int × Int)) × (List Int) × (List Int × (List (List Int) × (Int × (Int × (Int × (Int × (Int × (Int × Int)))))))) × Int × Bool) =>
            letJ (fun ((t2_2, t3_2, t9_2, t77) : (List (List Int × Int)) × (List Int) × Int × Bool) =>
                bif t77 then
                  some 4
                else
                  (d54 t9_2 t2_2).bind fun r =>
                  bif !r then
                    some 8
                  else
                    (d55 t9_2 t3_2).bind fun r_1 =>
                    bif !r_1 then
                      some 13
                    else
                      some 0) fun j__2 =>
            bif !(decide (t9_1 < 1)) then
              bif !(decide (7 < t9_1)) then
                bif !(decide (t5_1.2.2.2.1 < 1)) then
                  bif !(decide (5 < t5_1.2.2.2.1)) then
                    bif (decide (t0_1 = 1)) then
                      bif !(!(decide (t5_1.2.2.2.1 = 1))) then
                        bif !(!t10) then
                          bif !(decide (t5_1.2.2.2.2.2.2.1 < 1)) then
                            j__2 (t2_1, t3_1, t9_1, (decide (3 < t5_1.2.2.2.2.2.2.1)))
                          else
                            j__2 (t2_1, t3_1, t9_1, true)
                        else
                          j__2 (t2_1, t3_1, t9_1, true)
                      else
                        j__2 (t2_1, t3_1, t9_1, true)
                    else
                      bif !(!t10) then
                        bif !(decide (t5_1.2.2.2.2.2.2.1 < 1)) then
                          j__2 (t2_1, t3_1, t9_1, (decide (3 < t5_1.2.2.2.2.2.2.1)))
                        else
                          j__2 (t2_1, t3_1, t9_1, true)
                      else
                        j__2 (t2_1, t3_1, t9_1, true)
                  else
                    j__2 (t2_1, t3_1, t9_1, true)
                else
                  j__2 (t2_1, t3_1, t9_1, true)
              else
                j__2 (t2_1, t3_1, t9_1, true)
            else
              j__2 (t2_1, t3_1, t9_1, true)) fun j__1 =>
        bif (decide (t0 = 2)) then
          bif (decide (1 ≤ t5.2.2.2.2.2.1)) then
            j__1 (t0, t2, t3, t5, t9, (decide (t5.2.2.2.2.2.1 ≤ 6)))
          else
            j__1 (t0, t2, t3, t5, t9, false)
        else
          j__1 (t0, t2, t3, t5, t9, (decide (t5.2.2.2.2.2.1 = 0)))) fun j_ =>
  bif !(decide (p0 < 1)) then
    bif !(decide (3 < p0)) then
      j_ (p0, p2, p3, p1, (p1.2.1.length : Int), !(decide (p1.2.2.1 = p0)))
    else
      j_ (p0, p2, p3, p1, (p1.2.1.length : Int), true)
  else
    j_ (p0, p2, p3, p1, (p1.2.1.length : Int), true)
def sg35 : Sig := ⟨[(y2, .sh), (y23, .bw), (y34, .bw), (y25, .bw)], [(y2, .sh)]⟩
def plan35 : Plan := (.seq (.reg [] []) (.seq (.reg [] []) (.seq (.join (.reg [] []) [(0, .v y2 .sh), (2, .v y34 .bw), (3, .v y25 .bw), (5, .v (.ptr y23) (.own 0 .bw)), (9, .v y2 .sh), (25, .v y4 .sh)] (.cond (.seq (.reg [] []) .nil) .nil)) (.seq (.reg [] []) (.join (.seq (.reg [] []) (.cond (.reg [] []) .nil)) [(0, .v y2 .sh), (2, .v y34 .bw), (3, .v y25 .bw), (5, .v (.ptr y23) (.own 0 .bw)), (9, .v y2 .sh), (10, .v y4 .sh)] (.seq (.join (.reg [] []) [(2, .v y34 .bw), (3, .v y25 .bw), (9, .v y2 .sh), (77, .v y4 .sh)] (.cond (.seq (.reg [] []) .nil) .nil)) (.seq (.seq (.reg [] []) (.cond (.seq (.reg [] []) .nil) .nil)) (.seq (.seq (.reg [] []) (.cond (.seq (.reg [] []) .nil) .nil)) (.seq (.reg [] []) .nil)))))))))
theorem ev35 (xs : Vals (ptys sg35.ps)) : evF (P := Tryz.prog) tab [.fn E54, .fn E55] sg35 Tryz.f35.results.toList (code Tryz.f35) plan35 xs = d35 xs.1 xs.2.1 xs.2.2.1 xs.2.2.2.1 := by kernel_rfl
theorem sim35 : Sim Tryz.prog 35 sg35 d35 := sim_ev mixd tabOK Tryz.func35 (code_of rfl) Tryz.call35 (Nat.le_of_ble_eq_true (by kernel_rfl)) (by kernel_rfl) plan35 _ fun xs y h => (ev35 xs).trans h
noncomputable def E35 : FnE Tryz.prog := ⟨35, sg35, d35, sim35⟩

/-- election/electionref31.Rising -/
noncomputable def d80 (l : List Int) : Option (List Int) :=
  (whileO (β := (List Int)) (fun ((l_1, out, x) : (List Int) × (List Int) × Int) =>
      bif (decide (x < 7)) then
        letJ (fun ((l_2, out_1, x_1) : (List Int) × (List Int) × Int) =>
            some (Sum.inl (l_2, out_1, (w (x_1 + 1))))) fun j_ =>
        (d20 l_1 x).bind fun r =>
        bif r then
          bif (decide ((out.length : Int) + (([x] : List Int).length : Int) ≤ LIM)) then
            j_ (l_1, (out ++ [x]), x)
          else none
        else
          j_ (l_1, out, x)
      else
        some (Sum.inr out)) (l, [], 0)).bind fun (out_2 : List Int) =>
  some out_2
def sg80 : Sig := ⟨[(y25, .bw)], [(y25, (.own 3 .sh))]⟩
def plan80 : Plan := (.seq (.reg [] []) (.seq (.reg [] [{ fl := 2 }]) (.seq (.seq (.reg [] []) (.block (.loop [(0, .v y25 .bw), (3, .v y25 (.own 3 .sh)), (4, .v y2 .sh)] [(.brk 0, [(3, .v y25 (.own 3 .sh))])] (.seq (.seq (.reg [] []) (.cond .nil .nil)) (.join (.block (.seq (.reg [] []) (.cond (.reg [] []) .nil))) [(0, .v y25 .bw), (3, .v y25 (.own 3 .sh)), (4, .v y2 .sh)] (.reg [] [])))))) (.seq (.reg [] []) .nil))))
theorem ev80 (xs : Vals (ptys sg80.ps)) : evF (P := Tryz.prog) tab [.fn E20] sg80 Tryz.f80.results.toList (code Tryz.f80) plan80 xs = d80 xs.1 := by kernel_rfl
theorem sim80 : Sim Tryz.prog 80 sg80 d80 := sim_ev mixd tabOK Tryz.func80 (code_of rfl) Tryz.call80 (Nat.le_of_ble_eq_true (by kernel_rfl)) (by kernel_rfl) plan80 _ fun xs y h => (ev80 xs).trans h
noncomputable def E80 : FnE Tryz.prog := ⟨80, sg80, d80, sim80⟩

/-- election/electionref31.rising -/
noncomputable def d56 (l : List Int) : Option Bool :=
  (whileO (β := Unit ⊕ Bool) (fun ((l_1, i) : (List Int) × Int) =>
      bif (decide (i < (l_1.length : Int))) then
        bif (decide (0 ≤ (w (i - 1))) && decide ((w (i - 1)) < (l_1.length : Int))) then
          bif (decide (0 ≤ i) && decide (i < (l_1.length : Int))) then
            bif (decide ((List.getD l_1 (Int.toNat i) 0) ≤ (List.getD l_1 (Int.toNat (w (i - 1))) 0))) then
              some (Sum.inr (Sum.inr false))
            else
              some (Sum.inl (l_1, (w (i + 1))))
          else none
        else none
      else
        some (Sum.inr (Sum.inl ()))) (l, 1)).bind fun
  | Sum.inl _ =>
    some true
  | Sum.inr t2 =>
    some t2
def sg56 : Sig := ⟨[(y25, .bw)], [(y4, .sh)]⟩
def plan56 : Plan := (.seq (.reg [] []) (.seq (.seq (.reg [] []) (.block (.loop [(0, .v y25 .bw), (3, .v y2 .sh)] [(.brk 0, []), (.ret, [(2, .v y4 .sh)])] (.seq (.seq (.reg [] []) (.cond .nil .nil)) (.seq (.block (.seq (.reg [] []) (.cond (.seq (.reg [] []) .nil) .nil))) (.reg [] [])))))) (.seq (.reg [] []) .nil)))
theorem ev56 (xs : Vals (ptys sg56.ps)) : evF (P := Tryz.prog) tab [] sg56 Tryz.f56.results.toList (code Tryz.f56) plan56 xs = d56 xs.1 := by kernel_rfl
theorem sim56 : Sim Tryz.prog 56 sg56 d56 := sim_ev mixd tabOK Tryz.func56 (code_of rfl) Tryz.call56 (Nat.le_of_ble_eq_true (by kernel_rfl)) (by kernel_rfl) plan56 _ fun xs y h => (ev56 xs).trans h
noncomputable def E56 : FnE Tryz.prog := ⟨56, sg56, d56, sim56⟩

/-- election/electionref31.Valid -/
noncomputable def d38 (p0 : Int) (p1 : (Int × (Int × (Int × (List Int × Int))))) : Option Bool :=
  letJ (fun ((t0, t3, t32) : Int × (Int × (Int × (Int × (List Int × Int)))) × Bool) =>
      bif t32 then
        some false
      else
        bif (decide (t3.1 = 1)) then
          bif !(decide (t3.2.1 = t3.2.2.1)) then
            bif (decide ((t3.2.2.2.1.length : Int) = 0)) then
              some (decide (t3.2.2.2.2 = 0))
            else
              some false
          else
            some false
        else
          bif (decide (t3.1 = 2)) then
            bif !(decide (t3.2.1 = t3.2.2.1)) then
              (d37 t0 t3.2.2.2.1).bind fun r =>
              bif r then
                (d56 t3.2.2.2.1).bind fun r_1 =>
                bif r_1 then
                  (d20 t3.2.2.2.1 t3.2.1).bind fun r_2 =>
                  bif r_2 then
                    (d20 t3.2.2.2.1 t3.2.2.1).bind fun r_3 =>
                    bif r_3 then
                      some (decide (t3.2.2.2.2 = 0))
                    else
                      some false
                  else
                    some false
                else
                  some false
              else
                some false
            else
              some false
          else
            bif (decide (t3.1 = 3)) then
              bif (decide (t3.2.2.1 = 0)) then
                bif (decide ((t3.2.2.2.1.length : Int) = 0)) then
                  bif (decide (2 ≤ t3.2.2.2.2)) then
                    some (decide (t3.2.2.2.2 ≤ 6))
                  else
                    some false
                else
                  some false
              else
                some false
            else
              some false) fun j_ =>
  bif !(decide (p0 < 1)) then
    bif !(decide (7 < p0)) then
      bif !(decide (p1.2.1 < 0)) then
        bif !(decide (p0 ≤ p1.2.1)) then
          bif !(decide (p1.2.2.1 < 0)) then
            j_ (p0, p1, (decide (p0 ≤ p1.2.2.1)))
          else
            j_ (p0, p1, true)
        else
          j_ (p0, p1, true)
      else
        j_ (p0, p1, true)
    else
      j_ (p0, p1, true)
  else
    j_ (p0, p1, true)
def sg38 : Sig := ⟨[(y2, .sh), (y45, .bw)], [(y4, .sh)]⟩
def plan38 : Plan := (.seq (.reg [] []) (.seq (.join (.reg [] []) [(0, .v y2 .sh), (3, .v (.ptr y45) (.own 0 .bw)), (32, .v y4 .sh)] (.cond (.seq (.reg [] []) .nil) .nil)) (.seq (.seq (.reg [] []) (.block (.seq (.reg [] []) (.cond (.seq (.reg [] []) .nil) (.seq (.reg [] []) (.cond (.seq (.reg [] []) .nil) (.seq (.reg [] []) (.cond (.seq (.reg [] []) .nil) .nil)))))))) (.seq (.reg [] []) .nil))))
theorem ev38 (xs : Vals (ptys sg38.ps)) : evF (P := Tryz.prog) tab [.fn E37, .fn E56, .fn E20] sg38 Tryz.f38.results.toList (code Tryz.f38) plan38 xs = d38 xs.1 xs.2.1 := by kernel_rfl
theorem sim38 : Sim Tryz.prog 38 sg38 d38 := sim_ev mixd tabOK Tryz.func38 (code_of rfl) Tryz.call38 (Nat.le_of_ble_eq_true (by kernel_rfl)) (by kernel_rfl) plan38 _ fun xs y h => (ev38 xs).trans h
noncomputable def E38 : FnE Tryz.prog := ⟨38, sg38, d38, sim38⟩

/-- election/electionref24.All -/
noncomputable def d69 (n : Int) : Option (List Bool) :=
  bif (decide (n = n) && (decide (0 ≤ n) && decide (n ≤ LIM))) then
    (whileO (β := (List Bool)) (fun ((n_1, out, i) : Int × (List Bool) × Int) =>
        bif (decide (i < n_1)) then
          bif (decide (0 ≤ i) && decide (i < (out.length : Int))) then
            some (Sum.inl (n_1, (List.set out (Int.toNat i) true), (w (i + 1))))
          else none
        else
          some (Sum.inr out)) (n, (List.replicate (Int.toNat n) false), 0)).bind fun (out_1 : List Bool) =>
    some out_1
  else none
def sg69 : Sig := ⟨[(y2, .sh)], [(y96, (.own 4 .sh))]⟩
def plan69 : Plan := (.seq (.reg [] []) (.seq (.reg [] []) (.seq (.seq (.reg [] []) (.block (.loop [(0, .v y2 .sh), (3, .v y96 (.own 4 .sh)), (4, .v y2 .sh)] [(.brk 0, [(3, .v y96 (.own 4 .sh))])] (.seq (.seq (.reg [] []) (.cond .nil .nil)) (.seq (.block (.reg [] [])) (.reg [] [])))))) (.seq (.reg [] []) .nil))))
theorem ev69 (xs : Vals (ptys sg69.ps)) : evF (P := Tryz.prog) tab [] sg69 Tryz.f69.results.toList (code Tryz.f69) plan69 xs = d69 xs.1 := by kernel_rfl
theorem sim69 : Sim Tryz.prog 69 sg69 d69 := sim_ev mixd tabOK Tryz.func69 (code_of rfl) Tryz.call69 (Nat.le_of_ble_eq_true (by kernel_rfl)) (by kernel_rfl) plan69 _ fun xs y h => (ev69 xs).trans h
noncomputable def E69 : FnE Tryz.prog := ⟨69, sg69, d69, sim69⟩

/-- election/electionref24.Pile -/
noncomputable def d81 (gs : List (List Int × Int)) : Option Bool :=
  (d54 7 gs).bind fun r =>
  some r
def sg81 : Sig := ⟨[(y34, .bw)], [(y4, .sh)]⟩
def plan81 : Plan := (.seq (.reg [] []) (.seq (.reg [] []) .nil))
theorem ev81 (xs : Vals (ptys sg81.ps)) : evF (P := Tryz.prog) tab [.fn E54] sg81 Tryz.f81.results.toList (code Tryz.f81) plan81 xs = d81 xs.1 := by kernel_rfl
theorem sim81 : Sim Tryz.prog 81 sg81 d81 := sim_ev mixd tabOK Tryz.func81 (code_of rfl) Tryz.call81 (Nat.le_of_ble_eq_true (by kernel_rfl)) (by kernel_rfl) plan81 _ fun xs y h => (ev81 xs).trans h
noncomputable def E81 : FnE Tryz.prog := ⟨81, sg81, d81, sim81⟩

/-- election/electionref24.in -/
noncomputable def d87 (remain : List Bool) (i : Int) : Option Bool :=
  bif (decide (0 ≤ i)) then
    bif (decide (i < (remain.length : Int))) then
      bif (decide (0 ≤ i) && decide (i < (remain.length : Int))) then
        some (List.getD remain (Int.toNat i) false)
      else none
    else
      some false
  else
    some false
def sg87 : Sig := ⟨[(y96, .bw), (y2, .sh)], [(y4, .sh)]⟩
def plan87 : Plan := (.seq (.reg [] []) (.seq (.reg [] []) .nil))
theorem ev87 (xs : Vals (ptys sg87.ps)) : evF (P := Tryz.prog) tab [] sg87 Tryz.f87.results.toList (code Tryz.f87) plan87 xs = d87 xs.1 xs.2.1 := by kernel_rfl
theorem sim87 : Sim Tryz.prog 87 sg87 d87 := sim_ev mixd tabOK Tryz.func87 (code_of rfl) Tryz.call87 (Nat.le_of_ble_eq_true (by kernel_rfl)) (by kernel_rfl) plan87 _ fun xs y h => (ev87 xs).trans h
noncomputable def E87 : FnE Tryz.prog := ⟨87, sg87, d87, sim87⟩

/-- election/electionref24.Kept -/
noncomputable def d82 (p : List Int) (remain : List Bool) : Option (List Int) :=
  (whileO (β := (List Int)) (fun ((p_1, remain_1, out, i) : (List Int) × (List Bool) × (List Int) × Int) =>
      bif (decide (i < (p_1.length : Int))) then
        letJ (fun ((p_2, remain_2, out_1, i_1) : (List Int) × (List Bool) × (List Int) × Int) =>
            some (Sum.inl (p_2, remain_2, out_1, (w (i_1 + 1))))) fun j_ =>
        bif (decide (0 ≤ i) && decide (i < (p_1.length : Int))) then
          (d87 remain_1 (List.getD p_1 (Int.toNat i) 0)).bind fun r =>
          bif r then
            bif (decide (0 ≤ i) && decide (i < (p_1.length : Int))) then
              bif (decide ((out.length : Int) + (([(List.getD p_1 (Int.toNat i) 0)] : List Int).length : Int) ≤ LIM)) then
                j_ (p_1, remain_1, (out ++ [(List.getD p_1 (Int.toNat i) 0)]), i)
              else none
            else none
          else
            j_ (p_1, remain_1, out, i)
        else none
      else
        some (Sum.inr out)) (p, remain, [], 0)).bind fun (out_2 : List Int) =>
  some out_2
def sg82 : Sig := ⟨[(y25, .bw), (y96, .bw)], [(y25, (.own 3 .sh))]⟩
def plan82 : Plan := (.seq (.reg [] []) (.seq (.reg [] [{ fl := 2 }]) (.seq (.seq (.reg [] []) (.block (.loop [(0, .v y25 .bw), (1, .v y96 .bw), (5, .v y25 (.own 3 .sh)), (6, .v y2 .sh)] [(.brk 0, [(5, .v y25 (.own 3 .sh))])] (.seq (.seq (.reg [] []) (.cond .nil .nil)) (.join (.block (.seq (.reg [] []) (.cond (.reg [] []) .nil))) [(0, .v y25 .bw), (1, .v y96 .bw), (5, .v y25 (.own 3 .sh)), (6, .v y2 .sh)] (.reg [] [])))))) (.seq (.reg [] []) .nil))))
theorem ev82 (xs : Vals (ptys sg82.ps)) : evF (P := Tryz.prog) tab [.fn E87] sg82 Tryz.f82.results.toList (code Tryz.f82) plan82 xs = d82 xs.1 xs.2.1 := by kernel_rfl
theorem sim82 : Sim Tryz.prog 82 sg82 d82 := sim_ev mixd tabOK Tryz.func82 (code_of rfl) Tryz.call82 (Nat.le_of_ble_eq_true (by kernel_rfl)) (by kernel_rfl) plan82 _ fun xs y h => (ev82 xs).trans h
noncomputable def E82 : FnE Tryz.prog := ⟨82, sg82, d82, sim82⟩

/-- election/electionref24.First -/
noncomputable def d68 (gs : List (List Int × Int)) (remain : List Bool) : Option ((List Int) × Int) :=
  letJ (fun ((gs_1, remain_1, t17) : (List (List Int × Int)) × (List Bool) × Bool) =>
      bif t17 then
        some ([], 0)
      else
        bif (decide ((remain_1.length : Int) = (remain_1.length : Int)) && (decide (0 ≤ (remain_1.length : Int)) && decide ((remain_1.length : Int) ≤ LIM))) then
          (whileO (β := ((List Int) × Int)) (fun ((gs_2, remain_2, votes, rest, i) : (List (List Int × Int)) × (List Bool) × (List Int) × Int × Int) =>
              bif (decide (i < (gs_2.length : Int))) then
                letJ (fun ((gs_3, remain_3, votes_1, rest_1, i_1) : (List (List Int × Int)) × (List Bool) × (List Int) × Int × Int) =>
                    some (Sum.inl (gs_3, remain_3, votes_1, rest_1, (w (i_1 + 1))))) fun j__1 =>
                bif (decide (0 ≤ i) && decide (i < (gs_2.length : Int))) then
                  (d82 ((List.getD gs_2 (Int.toNat i) ([], 0)).1) remain_2).bind fun r_1 =>
                  bif (decide (0 < (r_1.length : Int))) then
                    bif (decide (0 ≤ 0) && decide (0 < (r_1.length : Int))) then
                      bif (decide (0 ≤ (List.getD r_1 0 0)) && decide ((List.getD r_1 0 0) < (votes.length : Int))) then
                        bif (decide (0 ≤ i) && decide (i < (gs_2.length : Int))) then
                          bif (decide (0 ≤ (List.getD r_1 0 0)) && decide ((List.getD r_1 0 0) < (votes.length : Int))) then
                            j__1 (gs_2, remain_2, (List.set votes (Int.toNat (List.getD r_1 0 0)) (w ((List.getD votes (Int.toNat (List.getD r_1 0 0)) 0) + ((List.getD gs_2 (Int.toNat i) ([], 0)).2)))), rest, i)
                          else none
                        else none
                      else none
                    else none
                  else
                    bif (decide (0 ≤ i) && decide (i < (gs_2.length : Int))) then
                      j__1 (gs_2, remain_2, votes, (w (rest + ((List.getD gs_2 (Int.toNat i) ([], 0)).2))), i)
                    else none
                else none
              else
                some (Sum.inr (votes, rest))) (gs_1, remain_1, (List.replicate (Int.toNat (remain_1.length : Int)) 0), 0, 0)).bind fun ((votes_2, rest_2) : (List Int) × Int) =>
          some (votes_2, rest_2)
        else none) fun j_ =>
  bif !(decide (7 < (remain.length : Int))) then
    (d81 gs).bind fun r =>
    j_ (gs, remain, !r)
  else
    j_ (gs, remain, true)
def sg68 : Sig := ⟨[(y34, .bw), (y96, .bw)], [(y25, .sh), (y2, .sh)]⟩
def plan68 : Plan := (.post (.seq (.reg [] []) (.seq (.join (.reg [] []) [(0, .v y34 .bw), (1, .v y96 .bw), (17, .v y4 .sh)] (.cond (.seq (.reg [] []) .nil) .nil)) (.seq (.reg [] []) (.seq (.reg [] []) (.seq (.seq (.reg [] []) (.block (.loop [(0, .v y34 .bw), (1, .v y96 .bw), (6, .v y25 (.own 3 .sh)), (7, .v y2 .sh), (8, .v y2 .sh)] [(.brk 0, [(6, .v y25 (.own 3 .sh)), (7, .v y2 .sh)])] (.seq (.seq (.reg [] []) (.cond .nil .nil)) (.join (.block (.seq (.reg [] []) (.seq (.reg [] []) (.cond (.reg [] []) (.reg [] []))))) [(0, .v y34 .bw), (1, .v y96 .bw), (6, .v y25 (.own 3 .sh)), (7, .v y2 .sh), (8, .v y2 .sh)] (.reg [] [])))))) (.seq (.reg [] []) .nil)))))) [(4, [])])
theorem ev68 (xs : Vals (ptys sg68.ps)) : evF (P := Tryz.prog) tab [.fn E81, .fn E82] sg68 Tryz.f68.results.toList (code Tryz.f68) plan68 xs = d68 xs.1 xs.2.1 := by kernel_rfl
theorem sim68 : Sim Tryz.prog 68 sg68 d68 := sim_ev mixd tabOK Tryz.func68 (code_of rfl) Tryz.call68 (Nat.le_of_ble_eq_true (by kernel_rfl)) (by kernel_rfl) plan68 _ fun xs y h => (ev68 xs).trans h
noncomputable def E68 : FnE Tryz.prog := ⟨68, sg68, d68, sim68⟩

/-- election/electionref24.Place -/
noncomputable def d78 (p : List Int) (x : Int) : Option Int :=
  (whileO (β := (List Int) ⊕ Int) (fun ((p_1, x_1, i) : (List Int) × Int × Int) =>
      bif (decide (i < (p_1.length : Int))) then
        bif (decide (0 ≤ i) && decide (i < (p_1.length : Int))) then
          bif (decide ((List.getD p_1 (Int.toNat i) 0) = x_1)) then
            some (Sum.inr (Sum.inr i))
          else
            some (Sum.inl (p_1, x_1, (w (i + 1))))
        else none
      else
        some (Sum.inr (Sum.inl p_1))) (p, x, 0)).bind fun
  | Sum.inl p_2 =>
    some (p_2.length : Int)
  | Sum.inr t4 =>
    some t4
def sg78 : Sig := ⟨[(y25, .bw), (y2, .sh)], [(y2, .sh)]⟩
def plan78 : Plan := (.seq (.reg [] []) (.seq (.seq (.reg [] []) (.block (.loop [(0, .v y25 .bw), (1, .v y2 .sh), (5, .v y2 .sh)] [(.brk 0, [(0, .v y25 .bw)]), (.ret, [(4, .v y2 .sh)])] (.seq (.seq (.reg [] []) (.cond .nil .nil)) (.seq (.block (.seq (.reg [] []) (.cond (.seq (.reg [] []) .nil) .nil))) (.reg [] [])))))) (.seq (.reg [] []) .nil)))
theorem ev78 (xs : Vals (ptys sg78.ps)) : evF (P := Tryz.prog) tab [] sg78 Tryz.f78.results.toList (code Tryz.f78) plan78 xs = d78 xs.1 xs.2.1 := by kernel_rfl
theorem sim78 : Sim Tryz.prog 78 sg78 d78 := sim_ev mixd tabOK Tryz.func78 (code_of rfl) Tryz.call78 (Nat.le_of_ble_eq_true (by kernel_rfl)) (by kernel_rfl) plan78 _ fun xs y h => (ev78 xs).trans h
noncomputable def E78 : FnE Tryz.prog := ⟨78, sg78, d78, sim78⟩

/-- election/electionref24.Prefers -/
noncomputable def d70 (gs : List (List Int × Int)) (a : Int) (b : Int) : Option Int :=
  (whileO (β := Int) (fun ((gs_1, a_1, b_1, n, i) : (List (List Int × Int)) × Int × Int × Int × Int) =>
      letJ (fun ((gs_2, a_2, b_2, n_1, i_1, t16) : (List (List Int × Int)) × Int × Int × Int × Int × Bool) =>
          bif t16 then
            letJ (fun ((gs_3, a_3, b_3, n_2, i_2) : (List (List Int × Int)) × Int × Int × Int × Int) =>
                some (Sum.inl (gs_3, a_3, b_3, n_2, (w (i_2 + 1))))) fun j__1 =>
            bif (decide (0 ≤ i_1) && decide (i_1 < (gs_2.length : Int))) then
              (d78 ((List.getD gs_2 (Int.toNat i_1) ([], 0)).1) a_2).bind fun r_1 =>
              bif (decide (0 ≤ i_1) && decide (i_1 < (gs_2.length : Int))) then
                (d78 ((List.getD gs_2 (Int.toNat i_1) ([], 0)).1) b_2).bind fun r_2 =>
                bif (decide (r_1 < r_2)) then
                  bif (decide (0 ≤ i_1) && decide (i_1 < (gs_2.length : Int))) then
                    j__1 (gs_2, a_2, b_2, (w (n_1 + ((List.getD gs_2 (Int.toNat i_1) ([], 0)).2))), i_1)
                  else none
                else
                  j__1 (gs_2, a_2, b_2, n_1, i_1)
              else none
            else none
          else
            some (Sum.inr n_1)) fun j_ =>
      bif (decide (i < (gs_1.length : Int))) then
        (d81 gs_1).bind fun r =>
        j_ (gs_1, a_1, b_1, n, i, r)
      else
        j_ (gs_1, a_1, b_1, n, i, false)) (gs, a, b, 0, 0)).bind fun (n_3 : Int) =>
  some n_3
def sg70 : Sig := ⟨[(y34, .bw), (y2, .sh), (y2, .sh)], [(y2, .sh)]⟩
def plan70 : Plan := (.seq (.reg [] []) (.seq (.reg [] []) (.seq (.seq (.reg [] []) (.block (.loop [(0, .v y34 .bw), (1, .v y2 .sh), (2, .v y2 .sh), (7, .v y2 .sh), (8, .v y2 .sh)] [(.brk 0, [(7, .v y2 .sh)])] (.seq (.join (.reg [] []) [(0, .v y34 .bw), (1, .v y2 .sh), (2, .v y2 .sh), (7, .v y2 .sh), (8, .v y2 .sh), (16, .v y4 .sh)] (.cond .nil .nil)) (.join (.block (.seq (.reg [] []) (.cond (.reg [] []) .nil))) [(0, .v y34 .bw), (1, .v y2 .sh), (2, .v y2 .sh), (7, .v y2 .sh), (8, .v y2 .sh)] (.reg [] [])))))) (.seq (.reg [] []) .nil))))
theorem ev70 (xs : Vals (ptys sg70.ps)) : evF (P := Tryz.prog) tab [.fn E81, .fn E78] sg70 Tryz.f70.results.toList (code Tryz.f70) plan70 xs = d70 xs.1 xs.2.1 xs.2.2.1 := by kernel_rfl
theorem sim70 : Sim Tryz.prog 70 sg70 d70 := sim_ev mixd tabOK Tryz.func70 (code_of rfl) Tryz.call70 (Nat.le_of_ble_eq_true (by kernel_rfl)) (by kernel_rfl) plan70 _ fun xs y h => (ev70 xs).trans h
noncomputable def E70 : FnE Tryz.prog := ⟨70, sg70, d70, sim70⟩

/-- election/electionref31.Flags -/
noncomputable def d71 (n : Int) (l : List Int) : Option (List Bool) :=
  bif (decide (n = n) && (decide (0 ≤ n) && decide (n ≤ LIM))) then
    (whileO (β := (List Bool)) (fun ((l_1, out, i) : (List Int) × (List Bool) × Int) =>
        bif (decide (i < (l_1.length : Int))) then
          bif (decide (0 ≤ i) && decide (i < (l_1.length : Int))) then
            bif (decide (0 ≤ (List.getD l_1 (Int.toNat i) 0)) && decide ((List.getD l_1 (Int.toNat i) 0) < (out.length : Int))) then
              some (Sum.inl (l_1, (List.set out (Int.toNat (List.getD l_1 (Int.toNat i) 0)) true), (w (i + 1))))
            else none
          else none
        else
          some (Sum.inr out)) (l, (List.replicate (Int.toNat n) false), 0)).bind fun (out_1 : List Bool) =>
    some out_1
  else none
def sg71 : Sig := ⟨[(y2, .sh), (y25, .bw)], [(y96, (.own 4 .sh))]⟩
def plan71 : Plan := (.seq (.reg [] []) (.seq (.reg [] []) (.seq (.seq (.reg [] []) (.block (.loop [(1, .v y25 .bw), (5, .v y96 (.own 4 .sh)), (6, .v y2 .sh)] [(.brk 0, [(5, .v y96 (.own 4 .sh))])] (.seq (.seq (.reg [] []) (.cond .nil .nil)) (.seq (.block (.reg [] [])) (.reg [] [])))))) (.seq (.reg [] []) .nil))))
theorem ev71 (xs : Vals (ptys sg71.ps)) : evF (P := Tryz.prog) tab [] sg71 Tryz.f71.results.toList (code Tryz.f71) plan71 xs = d71 xs.1 xs.2.1 := by kernel_rfl
theorem sim71 : Sim Tryz.prog 71 sg71 d71 := sim_ev mixd tabOK Tryz.func71 (code_of rfl) Tryz.call71 (Nat.le_of_ble_eq_true (by kernel_rfl)) (by kernel_rfl) plan71 _ fun xs y h => (ev71 xs).trans h
noncomputable def E71 : FnE Tryz.prog := ⟨71, sg71, d71, sim71⟩

/-- election/electionref24.Total -/
noncomputable def d83 (gs : List (List Int × Int)) : Option Int :=
  (whileO (β := Int) (fun ((gs_1, n, i) : (List (List Int × Int)) × Int × Int) =>
      letJ (fun ((gs_2, n_1, i_1, t12) : (List (List Int × Int)) × Int × Int × Bool) =>
          bif t12 then
            bif (decide (0 ≤ i_1) && decide (i_1 < (gs_2.length : Int))) then
              some (Sum.inl (gs_2, (w (n_1 + ((List.getD gs_2 (Int.toNat i_1) ([], 0)).2))), (w (i_1 + 1))))
            else none
          else
            some (Sum.inr n_1)) fun j_ =>
      bif (decide (i < (gs_1.length : Int))) then
        (d81 gs_1).bind fun r =>
        j_ (gs_1, n, i, r)
      else
        j_ (gs_1, n, i, false)) (gs, 0, 0)).bind fun (n_2 : Int) =>
  some n_2
def sg83 : Sig := ⟨[(y34, .bw)], [(y2, .sh)]⟩
def plan83 : Plan := (.seq (.reg [] []) (.seq (.reg [] []) (.seq (.seq (.reg [] []) (.block (.loop [(0, .v y34 .bw), (3, .v y2 .sh), (4, .v y2 .sh)] [(.brk 0, [(3, .v y2 .sh)])] (.seq (.join (.reg [] []) [(0, .v y34 .bw), (3, .v y2 .sh), (4, .v y2 .sh), (12, .v y4 .sh)] (.cond .nil .nil)) (.seq (.block (.reg [] [])) (.reg [] [])))))) (.seq (.reg [] []) .nil))))
theorem ev83 (xs : Vals (ptys sg83.ps)) : evF (P := Tryz.prog) tab [.fn E81] sg83 Tryz.f83.results.toList (code Tryz.f83) plan83 xs = d83 xs.1 := by kernel_rfl
theorem sim83 : Sim Tryz.prog 83 sg83 d83 := sim_ev mixd tabOK Tryz.func83 (code_of rfl) Tryz.call83 (Nat.le_of_ble_eq_true (by kernel_rfl)) (by kernel_rfl) plan83 _ fun xs y h => (ev83 xs).trans h
noncomputable def E83 : FnE Tryz.prog := ⟨83, sg83, d83, sim83⟩

/-- election/electionref24.Marked -/
noncomputable def d72 (gs : List (List Int × Int)) : Option Int :=
  (d83 gs).bind fun r =>
  letJ (fun (n_1 : Int) =>
      some n_1) fun j__1 =>
  letJ (fun ((gs_1, n, t15) : (List (List Int × Int)) × Int × Bool) =>
      bif t15 then
        bif (decide (0 ≤ 0) && decide (0 < (gs_1.length : Int))) then
          j__1 (w (n - ((List.getD gs_1 0 ([], 0)).2)))
        else none
      else
        j__1 n) fun j_ =>
  bif (decide (0 < r)) then
    bif (decide (0 ≤ 0) && decide (0 < (gs.length : Int))) then
      j_ (gs, r, (decide ((((List.getD gs 0 ([], 0)).1).length : Int) = 0)))
    else none
  else
    j_ (gs, r, false)
def sg72 : Sig := ⟨[(y34, .bw)], [(y2, .sh)]⟩
def plan72 : Plan := (.seq (.reg [] []) (.seq (.reg [] []) (.join (.join (.reg [] []) [(0, .v y34 .bw), (3, .v y2 .sh), (15, .v y4 .sh)] (.cond (.reg [] []) .nil)) [(3, .v y2 .sh)] (.seq (.reg [] []) .nil))))
theorem ev72 (xs : Vals (ptys sg72.ps)) : evF (P := Tryz.prog) tab [.fn E83] sg72 Tryz.f72.results.toList (code Tryz.f72) plan72 xs = d72 xs.1 := by kernel_rfl
theorem sim72 : Sim Tryz.prog 72 sg72 d72 := sim_ev mixd tabOK Tryz.func72 (code_of rfl) Tryz.call72 (Nat.le_of_ble_eq_true (by kernel_rfl)) (by kernel_rfl) plan72 _ fun xs y h => (ev72 xs).trans h
noncomputable def E72 : FnE Tryz.prog := ⟨72, sg72, d72, sim72⟩

/-- election/electionref31.Tally -/
noncomputable def d59 (p0 : Int) (p1 : List (List Int × Int)) (p2 : (Int × (Int × (Int × (List Int × Int))))) : Option (Int × Int) :=
  letJ (fun ((t0, t1, t5, t21) : Int × (List (List Int × Int)) × (Int × (Int × (Int × (List Int × Int)))) × Bool) =>
      bif t21 then
        some (0, 0)
      else
        (d69 t0).bind fun r_2 =>
        (d68 t1 r_2).bind fun r_3 =>
        bif (decide (t5.1 = 1)) then
          bif (decide (0 ≤ t5.2.1) && decide (t5.2.1 < (r_3.1.length : Int))) then
            (d70 t1 t5.2.2.1 t5.2.1).bind fun r_4 =>
            some ((List.getD r_3.1 (Int.toNat t5.2.1) 0), r_4)
          else none
        else
          bif (decide (t5.1 = 2)) then
            (d71 t0 t5.2.2.2.1).bind fun r_5 =>
            (d68 t1 r_5).bind fun r_6 =>
            bif (decide (0 ≤ t5.2.1) && decide (t5.2.1 < (r_6.1.length : Int))) then
              bif (decide (0 ≤ t5.2.2.1) && decide (t5.2.2.1 < (r_6.1.length : Int))) then
                some ((List.getD r_6.1 (Int.toNat t5.2.1) 0), (List.getD r_6.1 (Int.toNat t5.2.2.1) 0))
              else none
            else none
          else
            bif (decide (0 ≤ t5.2.1) && decide (t5.2.1 < (r_3.1.length : Int))) then
              (d72 t1).bind fun r_7 =>
              some ((w (t5.2.2.2.2 * (List.getD r_3.1 (Int.toNat t5.2.1) 0))), r_7)
            else none) fun j_ =>
  (d38 p0 p2).bind fun r =>
  bif !(!r) then
    (d54 p0 p1).bind fun r_1 =>
    j_ (p0, p1, p2, !r_1)
  else
    j_ (p0, p1, p2, true)
def sg59 : Sig := ⟨[(y2, .sh), (y34, .bw), (y45, .bw)], [(y2, .sh), (y2, .sh)]⟩
def plan59 : Plan := (.seq (.reg [] []) (.seq (.join (.reg [] []) [(0, .v y2 .sh), (1, .v y34 .bw), (5, .v (.ptr y45) (.own 0 .bw)), (21, .v y4 .sh)] (.cond (.seq (.reg [] []) .nil) .nil)) (.seq (.reg [] [{}, {}, {}, {}, { fl := 1 }]) (.seq (.seq (.reg [] []) (.block (.seq (.reg [] []) (.cond (.seq (.reg [] []) .nil) (.seq (.reg [] []) (.cond (.seq (.reg [] [{}, {}, {}, {}, {}, {}, { fl := 1 }]) (.seq (.reg [] []) .nil)) .nil)))))) (.seq (.reg [] []) .nil)))))
theorem ev59 (xs : Vals (ptys sg59.ps)) : evF (P := Tryz.prog) tab [.fn E38, .fn E54, .fn E69, .fn E68, .fn E70, .fn E71, .fn E72] sg59 Tryz.f59.results.toList (code Tryz.f59) plan59 xs = d59 xs.1 xs.2.1 xs.2.2.1 := by kernel_rfl
theorem sim59 : Sim Tryz.prog 59 sg59 d59 := sim_ev mixd tabOK Tryz.func59 (code_of rfl) Tryz.call59 (Nat.le_of_ble_eq_true (by kernel_rfl)) (by kernel_rfl) plan59 _ fun xs y h => (ev59 xs).trans h
noncomputable def E59 : FnE Tryz.prog := ⟨59, sg59, d59, sim59⟩

/-- election/electionref31.Margin -/
noncomputable def d42 (n : Int) (gs : List (List Int × Int)) (a : (Int × (Int × (Int × (List Int × Int))))) : Option Int :=
  (d59 n gs a).bind fun r =>
  some (w (r.1 - r.2))
def sg42 : Sig := ⟨[(y2, .sh), (y34, .bw), (y45, .bw)], [(y2, .sh)]⟩
def plan42 : Plan := (.seq (.reg [] []) (.seq (.reg [] [{}, {}, {}, {}, { fl := 1 }]) (.seq (.reg [] []) .nil)))
theorem ev42 (xs : Vals (ptys sg42.ps)) : evF (P := Tryz.prog) tab [.fn E59] sg42 Tryz.f42.results.toList (code Tryz.f42) plan42 xs = d42 xs.1 xs.2.1 xs.2.2.1 := by kernel_rfl
theorem sim42 : Sim Tryz.prog 42 sg42 d42 := sim_ev mixd tabOK Tryz.func42 (code_of rfl) Tryz.call42 (Nat.le_of_ble_eq_true (by kernel_rfl)) (by kernel_rfl) plan42 _ fun xs y h => (ev42 xs).trans h
noncomputable def E42 : FnE Tryz.prog := ⟨42, sg42, d42, sim42⟩

/-- election/electionref31.cmp -/
noncomputable def d57 (a : Int) (b : Int) : Option Int :=
  bif (decide (a < b)) then
    some (-1)
  else
    bif (decide (b < a)) then
      some 1
    else
      some 0
def sg57 : Sig := ⟨[(y2, .sh), (y2, .sh)], [(y2, .sh)]⟩
def plan57 : Plan := (.seq (.reg [] []) (.seq (.block (.seq (.reg [] []) (.cond (.seq (.reg [] []) .nil) (.seq (.reg [] []) (.cond (.seq (.reg [] []) .nil) .nil))))) (.seq (.reg [] []) .nil)))
theorem ev57 (xs : Vals (ptys sg57.ps)) : evF (P := Tryz.prog) tab [] sg57 Tryz.f57.results.toList (code Tryz.f57) plan57 xs = d57 xs.1 xs.2.1 := by kernel_rfl
theorem sim57 : Sim Tryz.prog 57 sg57 d57 := sim_ev mixd tabOK Tryz.func57 (code_of rfl) Tryz.call57 (Nat.le_of_ble_eq_true (by kernel_rfl)) (by kernel_rfl) plan57 _ fun xs y h => (ev57 xs).trans h
noncomputable def E57 : FnE Tryz.prog := ⟨57, sg57, d57, sim57⟩

/-- election/electionref31.Compare -/
noncomputable def d39 (a : (Int × (Int × (Int × (List Int × Int))))) (b : (Int × (Int × (Int × (List Int × Int))))) : Option Int :=
  (d57 a.1 b.1).bind fun r =>
  (d57 a.2.1 b.2.1).bind fun r_1 =>
  (d57 a.2.2.1 b.2.2.1).bind fun r_2 =>
  (d57 (a.2.2.2.1.length : Int) (b.2.2.2.1.length : Int)).bind fun r_3 =>
  (whileO (β := ((Int × (Int × (Int × (List Int × Int)))) × (Int × (Int × (Int × (List Int × Int))))) ⊕ Int) (fun ((a_1, b_1, t29, t30) : (Int × (Int × (Int × (List Int × Int)))) × (Int × (Int × (Int × (List Int × Int)))) × (List Int) × Int) =>
      bif (decide (t30 < 4)) then
        bif (decide (0 ≤ t30) && decide (t30 < 4)) then
          bif !(decide ((List.getD t29 (Int.toNat t30) 0) = 0)) then
            some (Sum.inr (Sum.inr (List.getD t29 (Int.toNat t30) 0)))
          else
            some (Sum.inl (a_1, b_1, t29, (w (t30 + 1))))
        else none
      else
        some (Sum.inr (Sum.inl (a_1, b_1)))) (a, b, [r, r_1, r_2, r_3], 0)).bind fun
  | Sum.inl (a_2, b_2) =>
    (d28 a_2.2.2.2.1 b_2.2.2.2.1).bind fun r_4 =>
    bif r_4 then
      some (-1)
    else
      (d28 b_2.2.2.2.1 a_2.2.2.2.1).bind fun r_5 =>
      bif r_5 then
        some 1
      else
        (d57 a_2.2.2.2.2 b_2.2.2.2.2).bind fun r_6 =>
        some r_6
  | Sum.inr t4 =>
    some t4
def sg39 : Sig := ⟨[(y45, .bw), (y45, .bw)], [(y2, .sh)]⟩
def plan39 : Plan := (.seq (.reg [] []) (.seq (.seq (.reg [] []) (.block (.loop [(2, .v (.ptr y45) (.own 0 .bw)), (3, .v (.ptr y45) (.own 0 .bw)), (29, .v y83 .sh), (30, .v y2 .sh)] [(.brk 0, [(2, .v (.ptr y45) (.own 0 .bw)), (3, .v (.ptr y45) (.own 0 .bw))]), (.ret, [(4, .v y2 .sh)])] (.seq (.reg [] []) (.seq (.cond .nil .nil) (.seq (.block (.seq (.reg [] []) (.seq (.reg [] []) (.cond (.seq (.reg [] []) .nil) .nil)))) (.reg [] []))))))) (.seq (.seq (.reg [] []) (.cond (.seq (.reg [] []) .nil) .nil)) (.seq (.seq (.reg [] []) (.cond (.seq (.reg [] []) .nil) .nil)) (.seq (.reg [] []) .nil)))))
theorem ev39 (xs : Vals (ptys sg39.ps)) : evF (P := Tryz.prog) tab [.fn E57, .fn E28] sg39 Tryz.f39.results.toList (code Tryz.f39) plan39 xs = d39 xs.1 xs.2.1 := by kernel_rfl
theorem sim39 : Sim Tryz.prog 39 sg39 d39 := sim_ev mixd tabOK Tryz.func39 (code_of rfl) Tryz.call39 (Nat.le_of_ble_eq_true (by kernel_rfl)) (by kernel_rfl) plan39 _ fun xs y h => (ev39 xs).trans h
noncomputable def E39 : FnE Tryz.prog := ⟨39, sg39, d39, sim39⟩

/-- election/electionref31.own -/
noncomputable def d66 (p0 : Int) (p1 : List (List Int × Int)) (p2 : List Int) : Option ((Int × (Int × (Int × (List Int × Int)))) × Int) :=
  (whileO (β := ((Int × (Int × (Int × (List Int × Int)))) × (Int × (Int × (Int × (List Int × Int)))) × Int)) (fun ((t0, t1, t2, t6, t8, t9, t10, t11) : Int × (List (List Int × Int)) × (List Int) × (Int × (Int × (Int × (List Int × Int)))) × (Int × (Int × (Int × (List Int × Int)))) × Int × Bool × Int) =>
      bif (decide (t11 < t0)) then
        letJ (fun ((t0_3, t1_3, t2_3, t6_3, t8_3, t9_3, t10_3, t11_3) : Int × (List (List Int × Int)) × (List Int) × (Int × (Int × (Int × (List Int × Int)))) × (Int × (Int × (Int × (List Int × Int)))) × Int × Bool × Int) =>
            some (Sum.inl (t0_3, t1_3, t2_3, t6_3, t8_3, t9_3, t10_3, (w (t11_3 + 1))))) fun j__2 =>
        bif (decide (0 ≤ 0) && decide (0 < (t2.length : Int))) then
          letJ (fun ((t0_1, t1_1, t2_1, t6_1, t8_1, t9_1, t10_1, t11_1, t12) : Int × (List (List Int × Int)) × (List Int) × (Int × (Int × (Int × (List Int × Int)))) × (Int × (Int × (Int × (List Int × Int)))) × Int × Bool × Int × (Int × (Int × (Int × (List Int × Int))))) =>
              bif (decide (0 ≤ 0) && decide (0 < (t2_1.length : Int))) then
                bif (decide (t11_1 = (List.getD t2_1 0 0))) then
                  j__2 (t0_1, t1_1, t2_1, t6_1, t8_1, t9_1, t10_1, t11_1)
                else
                  (d42 t0_1 t1_1 t12).bind fun r_2 =>
                  letJ (fun ((t0_2, t1_2, t2_2, t6_2, t8_2, t9_2, t10_2, t11_2, t12_1, t13, t60) : Int × (List (List Int × Int)) × (List Int) × (Int × (Int × (Int × (List Int × Int)))) × (Int × (Int × (Int × (List Int × Int)))) × Int × Bool × Int × (Int × (Int × (Int × (List Int × Int)))) × Int × Bool) =>
                      bif t60 then
                        j__2 (t0_2, t1_2, t2_2, t6_2, t12_1, t13, true, t11_2)
                      else
                        j__2 (t0_2, t1_2, t2_2, t6_2, t8_2, t9_2, t10_2, t11_2)) fun j__1 =>
                  bif !(!t10_1) then
                    bif !(decide (t9_1 < r_2)) then
                      bif (decide (r_2 = t9_1)) then
                        (d39 t12 t8_1).bind fun r_3 =>
                        j__1 (t0_1, t1_1, t2_1, t6_1, t8_1, t9_1, t10_1, t11_1, t12, r_2, (decide (r_3 < 0)))
                      else
                        j__1 (t0_1, t1_1, t2_1, t6_1, t8_1, t9_1, t10_1, t11_1, t12, r_2, false)
                    else
                      j__1 (t0_1, t1_1, t2_1, t6_1, t8_1, t9_1, t10_1, t11_1, t12, r_2, true)
                  else
                    j__1 (t0_1, t1_1, t2_1, t6_1, t8_1, t9_1, t10_1, t11_1, t12, r_2, true)
              else none) fun j_ =>
          (d20 t2 t11).bind fun r =>
          bif r then
            bif (decide (0 ≤ 0) && decide (0 < (t2.length : Int))) then
              (d80 t2).bind fun r_1 =>
              j_ (t0, t1, t2, t6, t8, t9, t10, t11, (2, (List.getD t2 0 0), t11, r_1, 0))
            else none
          else
            j_ (t0, t1, t2, t6, t8, t9, t10, t11, (1, t11, (List.getD t2 0 0), [], 0))
        else none
      else
        some (Sum.inr (t6, t8, t9))) (p0, p1, p2, (0, 0, 0, [], 0), (0, 0, 0, [], 0), 0, false, 0)).bind fun ((t6_4, t8_4, t9_4) : (Int × (Int × (Int × (List Int × Int)))) × (Int × (Int × (Int × (List Int × Int)))) × Int) =>
  some (t8_4, t9_4)
def sg66 : Sig := ⟨[(y2, .sh), (y34, .bw), (y25, .bw)], [(y45, .sh), (y2, .sh)]⟩
def plan66 : Plan := (.seq (.reg [] []) (.seq (.reg [] []) (.seq (.reg [] []) (.seq (.seq (.reg [] []) (.block (.loop [(0, .v y2 .sh), (1, .v y34 .bw), (2, .v y25 .bw), (6, .v (.ptr y45) (.own 0 .sh)), (8, .v (.ptr y45) (.own 0 .sh)), (9, .v y2 .sh), (10, .v y4 .sh), (11, .v y2 .sh)] [(.brk 0, [(6, .v (.ptr y45) (.own 0 .sh)), (8, .v (.ptr y45) (.own 0 .sh)), (9, .v y2 .sh)])] (.seq (.seq (.reg [] []) (.cond .nil .nil)) (.join (.block (.seq (.reg [] []) (.join (.seq (.reg [] []) (.cond (.reg [] [{}, {}, {}, {}, {}, {}, { frz := [(32, [])] }]) .nil)) [(0, .v y2 .sh), (1, .v y34 .bw), (2, .v y25 .bw), (6, .v (.ptr y45) (.own 0 .sh)), (8, .v (.ptr y45) (.own 0 .sh)), (9, .v y2 .sh), (10, .v y4 .sh), (11, .v y2 .sh), (12, .v (.ptr y45) (.own 0 (.pr .sh (.pr .sh (.pr .sh .sh)))))] (.seq (.seq (.reg [] []) (.cond .nil .nil)) (.seq (.reg [] []) (.join (.reg [] []) [(0, .v y2 .sh), (1, .v y34 .bw), (2, .v y25 .bw), (6, .v (.ptr y45) (.own 0 .sh)), (8, .v (.ptr y45) (.own 0 .sh)), (9, .v y2 .sh), (10, .v y4 .sh), (11, .v y2 .sh), (12, .v (.ptr y45) (.own 0 (.pr .sh (.pr .sh (.pr .sh .sh))))), (13, .v y2 .sh), (60, .v y4 .sh)] (.cond (.reg [] []) .nil))))))) [(0, .v y2 .sh), (1, .v y34 .bw), (2, .v y25 .bw), (6, .v (.ptr y45) (.own 0 .sh)), (8, .v (.ptr y45) (.own 0 .sh)), (9, .v y2 .sh), (10, .v y4 .sh), (11, .v y2 .sh)] (.reg [] [])))))) (.seq (.reg [] []) .nil)))))
theorem ev66 (xs : Vals (ptys sg66.ps)) : evF (P := Tryz.prog) tab [.fn E20, .fn E80, .fn E42, .fn E39] sg66 Tryz.f66.results.toList (code Tryz.f66) plan66 xs = d66 xs.1 xs.2.1 xs.2.2.1 := by kernel_rfl
theorem sim66 : Sim Tryz.prog 66 sg66 d66 := sim_ev mixd tabOK Tryz.func66 (code_of rfl) Tryz.call66 (Nat.le_of_ble_eq_true (by kernel_rfl)) (by kernel_rfl) plan66 _ fun xs y h => (ev66 xs).trans h
noncomputable def E66 : FnE Tryz.prog := ⟨66, sg66, d66, sim66⟩

/-- election/electionref31.front -/
noncomputable def d67 (x : Int) (l : List Int) : Option (List Int) :=
  bif (decide ((([x] : List Int).length : Int) + (l.length : Int) ≤ LIM)) then
    some ([x] ++ l)
  else none
def sg67 : Sig := ⟨[(y2, .sh), (y25, .bw)], [(y25, (.own 3 .sh))]⟩
def plan67 : Plan := (.seq (.reg [] []) (.seq (.reg [] []) .nil))
theorem ev67 (xs : Vals (ptys sg67.ps)) : evF (P := Tryz.prog) tab [] sg67 Tryz.f67.results.toList (code Tryz.f67) plan67 xs = d67 xs.1 xs.2.1 := by kernel_rfl
theorem sim67 : Sim Tryz.prog 67 sg67 d67 := sim_ev mixd tabOK Tryz.func67 (code_of rfl) Tryz.call67 (Nat.le_of_ble_eq_true (by kernel_rfl)) (by kernel_rfl) plan67 _ fun xs y h => (ev67 xs).trans h
noncomputable def E67 : FnE Tryz.prog := ⟨67, sg67, d67, sim67⟩

/-- election/electionref31.value -/
noncomputable def d58F (self_ : Int → (List (List Int × Int)) → (List Int) → Option (Int × (List (Int × (Int × (Int × (List Int × Int))))))) (p0 : Int) (p1 : List (List Int × Int)) (p2 : List Int) : Option (Int × (List (Int × (Int × (Int × (List Int × Int)))))) :=
  (d66 p0 p1 p2).bind fun r =>
  bif (decide ((p2.length : Int) = p0)) then
    some (r.2, [r.1])
  else
    (whileO (β := ((Int × (Int × (Int × (List Int × Int)))) × Int × Int × (List (Int × (Int × (Int × (List Int × Int))))))) (fun ((t0, t1, t2, t8, t9, t10, t11, t12, t13) : Int × (List (List Int × Int)) × (List Int) × (Int × (Int × (Int × (List Int × Int)))) × Int × Int × Bool × (List (Int × (Int × (Int × (List Int × Int))))) × Int) =>
        bif (decide (t13 < t0)) then
          letJ (fun ((t0_3, t1_3, t2_3, t8_3, t9_3, t10_3, t11_3, t12_3, t13_3) : Int × (List (List Int × Int)) × (List Int) × (Int × (Int × (Int × (List Int × Int)))) × Int × Int × Bool × (List (Int × (Int × (Int × (List Int × Int))))) × Int) =>
              some (Sum.inl (t0_3, t1_3, t2_3, t8_3, t9_3, t10_3, t11_3, t12_3, (w (t13_3 + 1))))) fun j__2 =>
          (d20 t2 t13).bind fun r_1 =>
          bif r_1 then
            j__2 (t0, t1, t2, t8, t9, t10, t11, t12, t13)
          else
            (d67 t13 t2).bind fun r_2 =>
            (self_ t0 t1 r_2).bind fun r_3 =>
            letJ (fun ((t0_2, t1_2, t2_2, t8_2, t9_2, t10_2, t11_2, t12_2, t13_2, t15_1) : Int × (List (List Int × Int)) × (List Int) × (Int × (Int × (Int × (List Int × Int)))) × Int × Int × Bool × (List (Int × (Int × (Int × (List Int × Int))))) × Int × (List (Int × (Int × (Int × (List Int × Int)))))) =>
                bif (decide ((t12_2.length : Int) + (t15_1.length : Int) ≤ LIM)) then
                  j__2 (t0_2, t1_2, t2_2, t8_2, t9_2, t10_2, t11_2, (t12_2 ++ t15_1), t13_2)
                else none) fun j__1 =>
            letJ (fun ((t0_1, t1_1, t2_1, t8_1, t9_1, t10_1, t11_1, t12_1, t13_1, t14, t15, t53) : Int × (List (List Int × Int)) × (List Int) × (Int × (Int × (Int × (List Int × Int)))) × Int × Int × Bool × (List (Int × (Int × (Int × (List Int × Int))))) × Int × Int × (List (Int × (Int × (Int × (List Int × Int))))) × Bool) =>
                bif t53 then
                  j__1 (t0_1, t1_1, t2_1, t8_1, t9_1, t14, true, t12_1, t13_1, t15)
                else
                  j__1 (t0_1, t1_1, t2_1, t8_1, t9_1, t10_1, t11_1, t12_1, t13_1, t15)) fun j_ =>
            bif !(!t11) then
              j_ (t0, t1, t2, t8, t9, t10, t11, t12, t13, r_3.1, r_3.2, (decide (r_3.1 < t10)))
            else
              j_ (t0, t1, t2, t8, t9, t10, t11, t12, t13, r_3.1, r_3.2, true)
        else
          some (Sum.inr (t8, t9, t10, t12))) (p0, p1, p2, r.1, r.2, 0, false, [], 0)).bind fun ((t8_4, t9_4, t10_4, t12_4) : (Int × (Int × (Int × (List Int × Int)))) × Int × Int × (List (Int × (Int × (Int × (List Int × Int)))))) =>
    bif (decide (t10_4 ≤ t9_4)) then
      some (t9_4, [t8_4])
    else
      some (t10_4, t12_4)
def sg58 : Sig := ⟨[(y2, .sh), (y34, .bw), (y25, .sh)], [(y2, .sh), (y26, .sh)]⟩
def plan58 : Plan := (.post (.seq (.reg [] []) (.seq (.reg [] [{}, {}, {}, {}, { fl := 1 }]) (.seq (.seq (.reg [] []) (.cond (.seq (.reg [] []) .nil) .nil)) (.seq (.reg [] []) (.seq (.reg [] [{ fl := 2 }]) (.seq (.seq (.reg [] []) (.block (.loop [(0, .v y2 .sh), (1, .v y34 .bw), (2, .v y25 .sh), (8, .v (.ptr y45) (.own 0 .sh)), (9, .v y2 .sh), (10, .v y2 .sh), (11, .v y4 .sh), (12, .v y26 (.own 45 .sh)), (13, .v y2 .sh)] [(.brk 0, [(8, .v (.ptr y45) (.own 0 .sh)), (9, .v y2 .sh), (10, .v y2 .sh), (12, .v y26 (.own 45 .sh))])] (.seq (.seq (.reg [] []) (.cond .nil .nil)) (.join (.block (.seq (.seq (.reg [] []) (.cond .nil .nil)) (.seq (.reg [] [{}, {}, {}, {}, {}, { frz := [(43, [])] }, { fl := 1 }]) (.join (.join (.reg [] []) [(0, .v y2 .sh), (1, .v y34 .bw), (2, .v y25 .sh), (8, .v (.ptr y45) (.own 0 .sh)), (9, .v y2 .sh), (10, .v y2 .sh), (11, .v y4 .sh), (12, .v y26 (.own 45 .sh)), (13, .v y2 .sh), (14, .v y2 .sh), (15, .v y26 .sh), (53, .v y4 .sh)] (.cond (.reg [] []) .nil)) [(0, .v y2 .sh), (1, .v y34 .bw), (2, .v y25 .sh), (8, .v (.ptr y45) (.own 0 .sh)), (9, .v y2 .sh), (10, .v y2 .sh), (11, .v y4 .sh), (12, .v y26 (.own 45 .sh)), (13, .v y2 .sh), (15, .v y26 .sh)] (.reg [] []))))) [(0, .v y2 .sh), (1, .v y34 .bw), (2, .v y25 .sh), (8, .v (.ptr y45) (.own 0 .sh)), (9, .v y2 .sh), (10, .v y2 .sh), (11, .v y4 .sh), (12, .v y26 (.own 45 .sh)), (13, .v y2 .sh)] (.reg [] [])))))) (.seq (.seq (.reg [] []) (.cond (.seq (.reg [] []) .nil) .nil)) (.seq (.reg [] []) .nil)))))))) [(7, [])])
noncomputable def d58N : Nat → Arr (ptys sg58.ps) (Option (Ret sg58.res))
  | 0 => fun _ _ _ => none
  | k + 1 => d58F (d58N k)
theorem ev58 (g : Arr (ptys sg58.ps) (Option (Ret sg58.res))) (h : Sim Tryz.prog 58 sg58 g) (xs : Vals (ptys sg58.ps)) : evF (P := Tryz.prog) tab [.fn E66, .fn E20, .fn E67, .fn ⟨58, sg58, g, h⟩] sg58 Tryz.f58.results.toList (code Tryz.f58) plan58 xs = d58F g xs.1 xs.2.1 xs.2.2.1 := by kernel_rfl
theorem sim58N : ∀ k, Sim Tryz.prog 58 sg58 (d58N k)
  | 0 => ⟨Tryz.call58, fun xs y h => absurd (show (none : Option _) = some y from h) (by simp)⟩
  | k + 1 => sim_ev mixd tabOK Tryz.func58 (code_of rfl) Tryz.call58 (Nat.le_of_ble_eq_true (by kernel_rfl)) (by kernel_rfl) plan58 _ fun xs y h => (ev58 _ (sim58N k) xs).trans h
noncomputable def d58 (p0 : Int) (p1 : List (List Int × Int)) (p2 : List Int) : Option (Int × (List (Int × (Int × (Int × (List Int × Int)))))) := d58N 10 p0 p1 p2
theorem sim58 : Sim Tryz.prog 58 sg58 d58 := sim58N 10
noncomputable def E58 : FnE Tryz.prog := ⟨58, sg58, d58, sim58⟩

/-- election/electionref31.set -/
noncomputable def d40 (n : Int) (gs : List (List Int × Int)) (winner : Int) : Option (Int × (List (Int × (Int × (Int × (List Int × Int)))))) :=
  letJ (fun ((n_1, gs_1, winner_1, t25) : Int × (List (List Int × Int)) × Int × Bool) =>
      bif t25 then
        some (0, [])
      else
        (whileO (β := (Int × (List (Int × (Int × (Int × (List Int × Int))))))) (fun ((n_2, gs_2, winner_2, best, all, x) : Int × (List (List Int × Int)) × Int × Int × (List (Int × (Int × (Int × (List Int × Int))))) × Int) =>
            bif (decide (x < n_2)) then
              letJ (fun ((n_3, gs_3, winner_3, best_1, all_1, x_1) : Int × (List (List Int × Int)) × Int × Int × (List (Int × (Int × (Int × (List Int × Int))))) × Int) =>
                  some (Sum.inl (n_3, gs_3, winner_3, best_1, all_1, (w (x_1 + 1))))) fun j__1 =>
              bif !(decide (x = winner_2)) then
                (d58 n_2 gs_2 [x]).bind fun r_1 =>
                bif (decide ((all.length : Int) + (r_1.2.length : Int) ≤ LIM)) then
                  j__1 (n_2, gs_2, winner_2, (bif (decide (r_1.1 < best)) then r_1.1 else best), (all ++ r_1.2), x)
                else none
              else
                j__1 (n_2, gs_2, winner_2, best, all, x)
            else
              some (Sum.inr (best, all))) (n_1, gs_1, winner_1, 100000, [], 0)).bind fun ((best_2, all_2) : Int × (List (Int × (Int × (Int × (List Int × Int)))))) =>
        some ((bif (decide (best_2 < 0)) then 0 else best_2), all_2)) fun j_ =>
  (d54 n gs).bind fun r =>
  bif !(!r) then
    bif !(decide (winner < 0)) then
      j_ (n, gs, winner, (decide (n ≤ winner)))
    else
      j_ (n, gs, winner, true)
  else
    j_ (n, gs, winner, true)
def sg40 : Sig := ⟨[(y2, .sh), (y34, .bw), (y2, .sh)], [(y2, .sh), (y26, .sh)]⟩
def plan40 : Plan := (.post (.seq (.reg [] []) (.seq (.join (.reg [] []) [(0, .v y2 .sh), (1, .v y34 .bw), (2, .v y2 .sh), (25, .v y4 .sh)] (.cond (.seq (.reg [] []) .nil) .nil)) (.seq (.reg [] []) (.seq (.reg [] [{ fl := 2 }]) (.seq (.seq (.reg [] []) (.block (.loop [(0, .v y2 .sh), (1, .v y34 .bw), (2, .v y2 .sh), (8, .v y2 .sh), (9, .v y26 (.own 45 .sh)), (10, .v y2 .sh)] [(.brk 0, [(8, .v y2 .sh), (9, .v y26 (.own 45 .sh))])] (.seq (.seq (.reg [] []) (.cond .nil .nil)) (.join (.block (.seq (.reg [] []) (.cond (.seq (.reg [] [{}, {}, {}, {}, { frz := [(38, [])] }, { fl := 1 }]) (.seq (.reg [] []) (.reg [] []))) .nil))) [(0, .v y2 .sh), (1, .v y34 .bw), (2, .v y2 .sh), (8, .v y2 .sh), (9, .v y26 (.own 45 .sh)), (10, .v y2 .sh)] (.reg [] [])))))) (.seq (.reg [] []) .nil)))))) [(7, [])])
theorem ev40 (xs : Vals (ptys sg40.ps)) : evF (P := Tryz.prog) tab [.fn E54, .fn E58] sg40 Tryz.f40.results.toList (code Tryz.f40) plan40 xs = d40 xs.1 xs.2.1 xs.2.2.1 := by kernel_rfl
theorem sim40 : Sim Tryz.prog 40 sg40 d40 := sim_ev mixd tabOK Tryz.func40 (code_of rfl) Tryz.call40 (Nat.le_of_ble_eq_true (by kernel_rfl)) (by kernel_rfl) plan40 _ fun xs y h => (ev40 xs).trans h
noncomputable def E40 : FnE Tryz.prog := ⟨40, sg40, d40, sim40⟩

/-- election/electionref31.sorted -/
noncomputable def d41 (l : List (Int × (Int × (Int × (List Int × Int))))) : Option (List (Int × (Int × (Int × (List Int × Int))))) :=
  (whileO (β := (List (Int × (Int × (Int × (List Int × Int)))))) (fun ((l_1, out, i) : (List (Int × (Int × (Int × (List Int × Int))))) × (List (Int × (Int × (Int × (List Int × Int))))) × Int) =>
      bif (decide (i < (l_1.length : Int))) then
        letJ (fun ((l_6, out_5, i_5) : (List (Int × (Int × (Int × (List Int × Int))))) × (List (Int × (Int × (Int × (List Int × Int))))) × Int) =>
            some (Sum.inl (l_6, out_5, (w (i_5 + 1))))) fun j__2 =>
        (whileO (β := ((List (Int × (Int × (Int × (List Int × Int))))) × (List (Int × (Int × (Int × (List Int × Int))))) × Int × Int)) (fun ((l_2, out_1, i_1, k) : (List (Int × (Int × (Int × (List Int × Int))))) × (List (Int × (Int × (Int × (List Int × Int))))) × Int × Int) =>
            letJ (fun ((l_3, out_2, i_2, k_1, t27) : (List (Int × (Int × (Int × (List Int × Int))))) × (List (Int × (Int × (Int × (List Int × Int))))) × Int × Int × Bool) =>
                bif t27 then
                  some (Sum.inl (l_3, out_2, i_2, (w (k_1 + 1))))
                else
                  some (Sum.inr (l_3, out_2, i_2, k_1))) fun j_ =>
            bif (decide (k < (out_1.length : Int))) then
              bif (decide (0 ≤ k) && decide (k < (out_1.length : Int))) then
                bif (decide (0 ≤ i_1) && decide (i_1 < (l_2.length : Int))) then
                  (d39 (List.getD out_1 (Int.toNat k) (0, 0, 0, [], 0)) (List.getD l_2 (Int.toNat i_1) (0, 0, 0, [], 0))).bind fun r =>
                  j_ (l_2, out_1, i_1, k, (decide (r < 0)))
                else none
              else none
            else
              j_ (l_2, out_1, i_1, k, false)) (l_1, out, i, 0)).bind fun ((l_4, out_3, i_3, k_2) : (List (Int × (Int × (Int × (List Int × Int))))) × (List (Int × (Int × (Int × (List Int × Int))))) × Int × Int) =>
        letJ (fun ((l_5, out_4, i_4, k_3, t45) : (List (Int × (Int × (Int × (List Int × Int))))) × (List (Int × (Int × (Int × (List Int × Int))))) × Int × Int × Bool) =>
            bif t45 then
              j__2 (l_5, out_4, i_4)
            else
              bif (cutOK 0 k_3 out_4.length) then
                bif (decide ((([] : List (Int × (Int × (Int × (List Int × Int))))).length : Int) + ((List.drop 0 (List.take (Int.toNat k_3) out_4)).length : Int) ≤ LIM)) then
                  bif (decide (0 ≤ i_4) && decide (i_4 < (l_5.length : Int))) then
                    bif (decide (((List.drop 0 (List.take (Int.toNat k_3) out_4)).length : Int) + (([(List.getD l_5 (Int.toNat i_4) (0, 0, 0, [], 0))] : List (Int × (Int × (Int × (List Int × Int))))).length : Int) ≤ LIM)) then
                      bif (cutOK k_3 (out_4.length : Int) out_4.length) then
                        bif (decide ((((List.drop 0 (List.take (Int.toNat k_3) out_4)) ++ [(List.getD l_5 (Int.toNat i_4) (0, 0, 0, [], 0))]).length : Int) + ((List.drop (Int.toNat k_3) (List.take (Int.toNat (out_4.length : Int)) out_4)).length : Int) ≤ LIM)) then
                          j__2 (l_5, (((List.drop 0 (List.take (Int.toNat k_3) out_4)) ++ [(List.getD l_5 (Int.toNat i_4) (0, 0, 0, [], 0))]) ++ (List.drop (Int.toNat k_3) (List.take (Int.toNat (out_4.length : Int)) out_4))), i_4)
                        else none
                      else none
                    else none
                  else none
                else none
              else none) fun j__1 =>
        bif (decide (k_2 < (out_3.length : Int))) then
          bif (decide (0 ≤ k_2) && decide (k_2 < (out_3.length : Int))) then
            bif (decide (0 ≤ i_3) && decide (i_3 < (l_4.length : Int))) then
              (d39 (List.getD out_3 (Int.toNat k_2) (0, 0, 0, [], 0)) (List.getD l_4 (Int.toNat i_3) (0, 0, 0, [], 0))).bind fun r_1 =>
              j__1 (l_4, out_3, i_3, k_2, (decide (r_1 = 0)))
            else none
          else none
        else
          j__1 (l_4, out_3, i_3, k_2, false)
      else
        some (Sum.inr out)) (l, [], 0)).bind fun (out_6 : List (Int × (Int × (Int × (List Int × Int))))) =>
  some out_6
def sg41 : Sig := ⟨[(y26, .sh)], [(y26, (.own 45 .sh))]⟩
def plan41 : Plan := (.seq (.reg [] []) (.seq (.reg [] [{ fl := 2 }]) (.seq (.seq (.reg [] []) (.block (.loop [(0, .v y26 .sh), (3, .v y26 (.own 45 .sh)), (4, .v y2 .sh)] [(.brk 0, [(3, .v y26 (.own 45 .sh))])] (.seq (.seq (.reg [] []) (.cond .nil .nil)) (.join (.block (.seq (.reg [] []) (.seq (.block (.loop [(0, .v y26 .sh), (3, .v y26 (.own 45 .sh)), (4, .v y2 .sh), (5, .v y2 .sh)] [(.brk 2, [(0, .v y26 .sh), (3, .v y26 (.own 45 .sh)), (4, .v y2 .sh), (5, .v y2 .sh)])] (.seq (.join (.reg [] []) [(0, .v y26 .sh), (3, .v y26 (.own 45 .sh)), (4, .v y2 .sh), (5, .v y2 .sh), (27, .v y4 .sh)] (.cond .nil .nil)) (.block (.reg [] []))))) (.seq (.join (.reg [] []) [(0, .v y26 .sh), (3, .v y26 (.own 45 .sh)), (4, .v y2 .sh), (5, .v y2 .sh), (45, .v y4 .sh)] (.cond .nil .nil)) (.reg [(3, [])] []))))) [(0, .v y26 .sh), (3, .v y26 (.own 45 .sh)), (4, .v y2 .sh)] (.reg [] [])))))) (.seq (.reg [] []) .nil))))
theorem ev41 (xs : Vals (ptys sg41.ps)) : evF (P := Tryz.prog) tab [.fn E39] sg41 Tryz.f41.results.toList (code Tryz.f41) plan41 xs = d41 xs.1 := by kernel_rfl
theorem sim41 : Sim Tryz.prog 41 sg41 d41 := sim_ev mixd tabOK Tryz.func41 (code_of rfl) Tryz.call41 (Nat.le_of_ble_eq_true (by kernel_rfl)) (by kernel_rfl) plan41 _ fun xs y h => (ev41 xs).trans h
noncomputable def E41 : FnE Tryz.prog := ⟨41, sg41, d41, sim41⟩

/-- election/electionref31.Derive -/
noncomputable def d21 (p0 : (List Int × (List (List Int) × (Int × (Int × (Int × (Int × (Int × (Int × Int))))))))) (p1 : List (List Int × Int)) (p2 : List Int) : Option ((List (Int × (Int × (Int × (List Int × Int))))) × Bool) :=
  letJ (fun ((t1, t2, t3, t8, t30) : (List (List Int × Int)) × (List Int) × (List Int × (List (List Int) × (Int × (Int × (Int × (Int × (Int × (Int × Int)))))))) × Int × Bool) =>
      bif t30 then
        some ([], false)
      else
        bif (decide (t8 ≤ t3.2.2.2.1)) then
          some ([], (decide ((t2.length : Int) = t8)))
        else
          bif !(decide ((t2.length : Int) = t3.2.2.2.1)) then
            some ([], false)
          else
            bif (decide (t3.2.2.1 = 1)) then
              bif (decide (0 ≤ 0) && decide (0 < (t2.length : Int))) then
                (d40 t8 t1 (List.getD t2 0 0)).bind fun r_3 =>
                bif (decide (r_3.1 < 1)) then
                  some ([], false)
                else
                  (d41 r_3.2).bind fun r_4 =>
                  some (r_4, true)
              else none
            else
              (whileO (β := (List (Int × (Int × (Int × (List Int × Int))))) ⊕ ((List (Int × (Int × (Int × (List Int × Int))))) × Bool)) (fun ((t1_1, t2_1, t3_1, t8_1, t9, t12) : (List (List Int × Int)) × (List Int) × (List Int × (List (List Int) × (Int × (Int × (Int × (Int × (Int × (Int × Int)))))))) × Int × (List (Int × (Int × (Int × (List Int × Int))))) × Int) =>
                  bif (decide (t12 < (t2_1.length : Int))) then
                    bif (decide (0 ≤ t12) && decide (t12 < (t2_1.length : Int))) then
                      (d42 t8_1 t1_1 (3, (List.getD t2_1 (Int.toNat t12) 0), 0, [], (w (t3_1.2.2.2.1 + 1)))).bind fun r_5 =>
                      bif (decide (r_5 < 1)) then
                        some (Sum.inr (Sum.inr ([], false)))
                      else
                        bif (decide ((t9.length : Int) + (([(3, (List.getD t2_1 (Int.toNat t12) 0), 0, [], (w (t3_1.2.2.2.1 + 1)))] : List (Int × (Int × (Int × (List Int × Int))))).length : Int) ≤ LIM)) then
                          some (Sum.inl (t1_1, t2_1, t3_1, t8_1, (t9 ++ [(3, (List.getD t2_1 (Int.toNat t12) 0), 0, [], (w (t3_1.2.2.2.1 + 1)))]), (w (t12 + 1))))
                        else none
                    else none
                  else
                    some (Sum.inr (Sum.inl t9))) (t1, t2, t3, t8, [], 0)).bind fun
              | Sum.inl t9_1 =>
                (d41 t9_1).bind fun r_6 =>
                some (r_6, true)
              | Sum.inr (t6, t7) =>
                some (t6, t7)) fun j_ =>
  (d36 (p0.2.1.length : Int)).bind fun r =>
  (d35 p0.2.2.1 p0 p1 r).bind fun r_1 =>
  bif !(!(decide (r_1 = 0))) then
    (d37 (p0.2.1.length : Int) p2).bind fun r_2 =>
    j_ (p1, p2, p0, (p0.2.1.length : Int), !r_2)
  else
    j_ (p1, p2, p0, (p0.2.1.length : Int), true)
def sg21 : Sig := ⟨[(y23, .bw), (y34, .bw), (y25, .bw)], [(y26, .sh), (y4, .sh)]⟩
def plan21 : Plan := (.post (.seq (.reg [] []) (.seq (.reg [] []) (.seq (.join (.reg [] []) [(1, .v y34 .bw), (2, .v y25 .bw), (3, .v (.ptr y23) (.own 0 .bw)), (8, .v y2 .sh), (30, .v y4 .sh)] (.cond (.seq (.reg [] []) .nil) .nil)) (.seq (.seq (.reg [] []) (.cond (.seq (.reg [] []) .nil) .nil)) (.seq (.seq (.reg [] []) (.cond (.seq (.reg [] []) .nil) .nil)) (.seq (.reg [] [{ fl := 2 }]) (.seq (.seq (.reg [] []) (.cond (.seq (.reg [] [{}, {}, {}, {}, {}, {}, { fl := 1 }]) (.seq (.seq (.reg [] []) (.cond (.seq (.reg [] []) .nil) .nil)) (.seq (.reg [] []) .nil))) .nil)) (.seq (.seq (.reg [] []) (.block (.loop [(1, .v y34 .bw), (2, .v y25 .bw), (3, .v (.ptr y23) (.own 0 .bw)), (8, .v y2 .sh), (9, .v y26 (.own 45 .sh)), (12, .v y2 .sh)] [(.brk 0, [(9, .v y26 (.own 45 .sh))]), (.ret, [(6, .v y26 .sh), (7, .v y4 .sh)])] (.seq (.seq (.reg [] []) (.cond .nil .nil)) (.seq (.block (.seq (.reg [] []) (.seq (.seq (.reg [] []) (.cond (.seq (.reg [] []) .nil) .nil)) (.reg [] [])))) (.reg [] [])))))) (.seq (.reg [(9, [])] []) .nil))))))))) [(6, [])])
theorem ev21 (xs : Vals (ptys sg21.ps)) : evF (P := Tryz.prog) tab [.fn E36, .fn E35, .fn E37, .fn E40, .fn E41, .fn E42] sg21 Tryz.f21.results.toList (code Tryz.f21) plan21 xs = d21 xs.1 xs.2.1 xs.2.2.1 := by kernel_rfl
theorem sim21 : Sim Tryz.prog 21 sg21 d21 := sim_ev mixd tabOK Tryz.func21 (code_of rfl) Tryz.call21 (Nat.le_of_ble_eq_true (by kernel_rfl)) (by kernel_rfl) plan21 _ fun xs y h => (ev21 xs).trans h
noncomputable def E21 : FnE Tryz.prog := ⟨21, sg21, d21, sim21⟩

/-- election/electionlaw33.Make -/
noncomputable def d43 (p0 : Int) (p1 : Int) (p2 : Int) (p3 : Int) (p4 : Int) (p5 : Int) : Option (Int × (Int × (Int × (List Int × Int)))) :=
  (d7 p1 3).bind fun r =>
  (d7 p2 p0).bind fun r_1 =>
  bif (decide ((w (1 + r)) = 3)) then
    (d7 p5 5).bind fun r_2 =>
    some ((w (1 + r)), r_1, 0, [], (w (2 + r_2)))
  else
    (d7 p3 (w (p0 - 1))).bind fun r_3 =>
    (d7 (w ((w (r_1 + 1)) + r_3)) p0).bind fun r_4 =>
    letJ (fun ((t12_4, t13_4) : (Int × (Int × (Int × (List Int × Int)))) × (Int × (Int × (Int × (List Int × Int))))) =>
        some t13_4) fun j__2 =>
    bif (decide ((w (1 + r)) = 2)) then
      (whileO (β := ((Int × (Int × (Int × (List Int × Int)))) × (Int × (Int × (Int × (List Int × Int)))))) (fun ((t0, t4, t12, t13, t14) : Int × Int × (Int × (Int × (Int × (List Int × Int)))) × (Int × (Int × (Int × (List Int × Int)))) × Int) =>
          bif (decide (t14 < t0)) then
            letJ (fun ((t0_2, t4_2, t12_2, t13_2, t14_2) : Int × Int × (Int × (Int × (Int × (List Int × Int)))) × (Int × (Int × (Int × (List Int × Int)))) × Int) =>
                some (Sum.inl (t0_2, t4_2, t12_2, t13_2, (w (t14_2 + 1))))) fun j__1 =>
            letJ (fun ((t0_1, t4_1, t12_1, t13_1, t14_1, t67) : Int × Int × (Int × (Int × (Int × (List Int × Int)))) × (Int × (Int × (Int × (List Int × Int)))) × Int × Bool) =>
                bif t67 then
                  bif (decide ((t13_1.2.2.2.1.length : Int) + (([t14_1] : List Int).length : Int) ≤ LIM)) then
                    j__1 (t0_1, t4_1, t12_1, (t13_1.1, t13_1.2.1, t13_1.2.2.1, (t13_1.2.2.2.1 ++ [t14_1]), t13_1.2.2.2.2), t14_1)
                  else none
                else
                  j__1 (t0_1, t4_1, t12_1, t13_1, t14_1)) fun j_ =>
            bif !(decide (t14 = t13.2.1)) then
              bif !(decide (t14 = t13.2.2.1)) then
                (d7 t4 128).bind fun r_5 =>
                bif (decide (0 ≤ (wu64 t14))) then
                  j_ (t0, t4, t12, t13, t14, (decide ((w ((BitVec.ofInt 64 (w (Int.fdiv r_5 (2 ^ (min (Int.toNat (wu64 t14)) 64)))) &&& BitVec.ofInt 64 1).toNat : Int)) = 1)))
                else none
              else
                j_ (t0, t4, t12, t13, t14, true)
            else
              j_ (t0, t4, t12, t13, t14, true)
          else
            some (Sum.inr (t12, t13))) (p0, p4, (0, 0, 0, [], 0), ((w (1 + r)), r_1, r_4, [], 0), 0)).bind fun ((t12_3, t13_3) : (Int × (Int × (Int × (List Int × Int)))) × (Int × (Int × (Int × (List Int × Int))))) =>
      j__2 (t12_3, t13_3)
    else
      j__2 ((0, 0, 0, [], 0), ((w (1 + r)), r_1, r_4, [], 0))
def sg43 : Sig := ⟨[(y2, .sh), (y2, .sh), (y2, .sh), (y2, .sh), (y2, .sh), (y2, .sh)], [(y45, .sh)]⟩
def plan43 : Plan := (.seq (.reg [] []) (.seq (.reg [] [{}, {}, {}, {}, {}, {}, { fl := 7 }]) (.seq (.seq (.reg [] []) (.cond (.seq (.reg [] []) (.seq (.reg [(13, [0, 1, 1, 1, 0])] []) .nil)) .nil)) (.seq (.reg [] []) (.join (.seq (.reg [] []) (.cond (.seq (.reg [] []) (.block (.loop [(0, .v y2 .sh), (4, .v y2 .sh), (12, .v (.ptr y45) (.own 0 .sh)), (13, .v (.ptr y45) (.own 0 (.pr .sh (.pr .sh (.pr .sh (.pr (.own 3 .sh) .sh)))))), (14, .v y2 .sh)] [(.brk 0, [(12, .v (.ptr y45) (.own 0 .sh)), (13, .v (.ptr y45) (.own 0 (.pr .sh (.pr .sh (.pr .sh (.pr (.own 3 .sh) .sh))))))])] (.seq (.seq (.reg [] []) (.cond .nil .nil)) (.join (.block (.join (.reg [] []) [(0, .v y2 .sh), (4, .v y2 .sh), (12, .v (.ptr y45) (.own 0 .sh)), (13, .v (.ptr y45) (.own 0 (.pr .sh (.pr .sh (.pr .sh (.pr (.own 3 .sh) .sh)))))), (14, .v y2 .sh), (67, .v y4 .sh)] (.cond (.reg [] []) .nil))) [(0, .v y2 .sh), (4, .v y2 .sh), (12, .v (.ptr y45) (.own 0 .sh)), (13, .v (.ptr y45) (.own 0 (.pr .sh (.pr .sh (.pr .sh (.pr (.own 3 .sh) .sh)))))), (14, .v y2 .sh)] (.reg [] [])))))) .nil)) [(12, .v (.ptr y45) (.own 0 .sh)), (13, .v (.ptr y45) (.own 0 (.pr .sh (.pr .sh (.pr .sh (.pr (.own 3 .sh) .sh))))))] (.seq (.reg [(13, [0, 1, 1, 1, 0])] []) .nil))))))
theorem ev43 (xs : Vals (ptys sg43.ps)) : evF (P := Tryz.prog) tab [.fn E7] sg43 Tryz.f43.results.toList (code Tryz.f43) plan43 xs = d43 xs.1 xs.2.1 xs.2.2.1 xs.2.2.2.1 xs.2.2.2.2.1 xs.2.2.2.2.2.1 := by kernel_rfl
theorem sim43 : Sim Tryz.prog 43 sg43 d43 := sim_ev mixd tabOK Tryz.func43 (code_of rfl) Tryz.call43 (Nat.le_of_ble_eq_true (by kernel_rfl)) (by kernel_rfl) plan43 _ fun xs y h => (ev43 xs).trans h
noncomputable def E43 : FnE Tryz.prog := ⟨43, sg43, d43, sim43⟩

/-- election/electionlaw33.All -/
noncomputable def d22 (n : Int) (l : List (List Int)) : Option (List (Int × (Int × (Int × (List Int × Int))))) :=
  (whileO (β := (List (Int × (Int × (Int × (List Int × Int)))))) (fun ((n_1, l_1, out, i) : Int × (List (List Int)) × (List (Int × (Int × (Int × (List Int × Int))))) × Int) =>
      letJ (fun ((n_2, l_2, out_1, i_1, t16) : Int × (List (List Int)) × (List (Int × (Int × (Int × (List Int × Int))))) × Int × Bool) =>
          bif t16 then
            (whileO (β := (Int × (List (List Int)) × (List (Int × (Int × (Int × (List Int × Int))))) × Int × (List Int))) (fun ((n_3, l_3, out_2, i_2, k, j__1) : Int × (List (List Int)) × (List (Int × (Int × (Int × (List Int × Int))))) × Int × (List Int) × Int) =>
                letJ (fun ((n_4, l_4, out_3, i_3, k_1, j__2, t29) : Int × (List (List Int)) × (List (Int × (Int × (Int × (List Int × Int))))) × Int × (List Int) × Int × Bool) =>
                    bif t29 then
                      bif (decide (0 ≤ i_3) && decide (i_3 < (l_4.length : Int))) then
                        bif (decide (0 ≤ j__2) && decide (j__2 < ((List.getD l_4 (Int.toNat i_3) []).length : Int))) then
                          bif (decide (0 ≤ j__2) && decide (j__2 < 5)) then
                            some (Sum.inl (n_4, l_4, out_3, i_3, (List.set k_1 (Int.toNat j__2) (List.getD (List.getD l_4 (Int.toNat i_3) []) (Int.toNat j__2) 0)), (w (j__2 + 1))))
                          else none
                        else none
                      else none
                    else
                      some (Sum.inr (n_4, l_4, out_3, i_3, k_1))) fun j__3 =>
                bif (decide (j__1 < 5)) then
                  bif (decide (0 ≤ i_2) && decide (i_2 < (l_3.length : Int))) then
                    j__3 (n_3, l_3, out_2, i_2, k, j__1, (decide (j__1 < ((List.getD l_3 (Int.toNat i_2) []).length : Int))))
                  else none
                else
                  j__3 (n_3, l_3, out_2, i_2, k, j__1, false)) (n_2, l_2, out_1, i_1, [0, 0, 0, 0, 0], 0)).bind fun ((n_5, l_5, out_4, i_4, k_2) : Int × (List (List Int)) × (List (Int × (Int × (Int × (List Int × Int))))) × Int × (List Int)) =>
            (d43 n_5 (List.getD k_2 0 0) (List.getD k_2 1 0) (List.getD k_2 2 0) (List.getD k_2 3 0) (List.getD k_2 4 0)).bind fun r =>
            bif (decide ((out_4.length : Int) + (([r] : List (Int × (Int × (Int × (List Int × Int))))).length : Int) ≤ LIM)) then
              some (Sum.inl (n_5, l_5, (out_4 ++ [r]), (w (i_4 + 1))))
            else none
          else
            some (Sum.inr out_1)) fun j_ =>
      bif (decide (i < (l_1.length : Int))) then
        j_ (n_1, l_1, out, i, (decide (i < 12)))
      else
        j_ (n_1, l_1, out, i, false)) (n, l, [], 0)).bind fun (out_5 : List (Int × (Int × (Int × (List Int × Int))))) =>
  some out_5
def sg22 : Sig := ⟨[(y2, .sh), (y27, .bw)], [(y26, (.own 45 .sh))]⟩
def plan22 : Plan := (.seq (.reg [] []) (.seq (.reg [] [{ fl := 2 }]) (.seq (.seq (.reg [] []) (.block (.loop [(0, .v y2 .sh), (1, .v y27 .bw), (5, .v y26 (.own 45 .sh)), (6, .v y2 .sh)] [(.brk 0, [(5, .v y26 (.own 45 .sh))])] (.seq (.join (.reg [] []) [(0, .v y2 .sh), (1, .v y27 .bw), (5, .v y26 (.own 45 .sh)), (6, .v y2 .sh), (16, .v y4 .sh)] (.cond .nil .nil)) (.seq (.block (.seq (.reg [] []) (.seq (.seq (.reg [] []) (.block (.loop [(0, .v y2 .sh), (1, .v y27 .bw), (5, .v y26 (.own 45 .sh)), (6, .v y2 .sh), (7, .v (.ptr y73) (.own 0 .sh)), (8, .v y2 .sh)] [(.brk 2, [(0, .v y2 .sh), (1, .v y27 .bw), (5, .v y26 (.own 45 .sh)), (6, .v y2 .sh), (7, .v (.ptr y73) (.own 0 .sh))])] (.seq (.join (.reg [] []) [(0, .v y2 .sh), (1, .v y27 .bw), (5, .v y26 (.own 45 .sh)), (6, .v y2 .sh), (7, .v (.ptr y73) (.own 0 .sh)), (8, .v y2 .sh), (29, .v y4 .sh)] (.cond .nil .nil)) (.seq (.block (.reg [] [])) (.reg [] [])))))) (.reg [] [])))) (.reg [] [])))))) (.seq (.reg [] []) .nil))))
theorem ev22 (xs : Vals (ptys sg22.ps)) : evF (P := Tryz.prog) tab [.fn E43] sg22 Tryz.f22.results.toList (code Tryz.f22) plan22 xs = d22 xs.1 xs.2.1 := by kernel_rfl
theorem sim22 : Sim Tryz.prog 22 sg22 d22 := sim_ev mixd tabOK Tryz.func22 (code_of rfl) Tryz.call22 (Nat.le_of_ble_eq_true (by kernel_rfl)) (by kernel_rfl) plan22 _ fun xs y h => (ev22 xs).trans h
noncomputable def E22 : FnE Tryz.prog := ⟨22, sg22, d22, sim22⟩

/-- election/electionlaw35.mixed -/
noncomputable def d10 (c : (List Int × (List (List Int) × (Int × (Int × (Int × (Int × (Int × (Int × Int))))))))) (n : Int) (gs : List (List Int × Int)) (winners : List Int) (x : List (List Int)) (drop : Int) : Option (List (Int × (Int × (Int × (List Int × Int))))) :=
  (d21 c gs winners).bind fun r =>
  (whileO (β := (Int × (List (List Int)) × (List (Int × (Int × (Int × (List Int × Int))))))) (fun ((n_1, x_1, drop_1, l, out, i) : Int × (List (List Int)) × Int × (List (Int × (Int × (Int × (List Int × Int))))) × (List (Int × (Int × (Int × (List Int × Int))))) × Int) =>
      letJ (fun ((n_2, x_2, drop_2, l_1, out_1, i_1, t31) : Int × (List (List Int)) × Int × (List (Int × (Int × (Int × (List Int × Int))))) × (List (Int × (Int × (Int × (List Int × Int))))) × Int × Bool) =>
          bif t31 then
            letJ (fun ((n_4, x_4, drop_4, l_3, out_3, i_3) : Int × (List (List Int)) × Int × (List (Int × (Int × (Int × (List Int × Int))))) × (List (Int × (Int × (Int × (List Int × Int))))) × Int) =>
                some (Sum.inl (n_4, x_4, drop_4, l_3, out_3, (w (i_3 + 1))))) fun j__2 =>
            letJ (fun ((n_3, x_3, drop_3, l_2, out_2, i_2, t43) : Int × (List (List Int)) × Int × (List (Int × (Int × (Int × (List Int × Int))))) × (List (Int × (Int × (Int × (List Int × Int))))) × Int × Bool) =>
                bif t43 then
                  bif (decide (0 ≤ i_2) && decide (i_2 < (l_2.length : Int))) then
                    bif (decide ((out_2.length : Int) + (([(List.getD l_2 (Int.toNat i_2) (0, 0, 0, [], 0))] : List (Int × (Int × (Int × (List Int × Int))))).length : Int) ≤ LIM)) then
                      j__2 (n_3, x_3, drop_3, l_2, (out_2 ++ [(List.getD l_2 (Int.toNat i_2) (0, 0, 0, [], 0))]), i_2)
                    else none
                  else none
                else
                  j__2 (n_3, x_3, drop_3, l_2, out_2, i_2)) fun j__1 =>
            bif !(decide (drop_2 < 0)) then
              (d7 drop_2 (l_1.length : Int)).bind fun r_1 =>
              j__1 (n_2, x_2, drop_2, l_1, out_1, i_1, !(decide (i_1 = r_1)))
            else
              j__1 (n_2, x_2, drop_2, l_1, out_1, i_1, true)
          else
            some (Sum.inr (n_2, x_2, out_1))) fun j_ =>
      bif (decide (i < (l.length : Int))) then
        j_ (n_1, x_1, drop_1, l, out, i, (decide (i < 30)))
      else
        j_ (n_1, x_1, drop_1, l, out, i, false)) (n, x, drop, r.1, [], 0)).bind fun ((n_5, x_5, out_4) : Int × (List (List Int)) × (List (Int × (Int × (Int × (List Int × Int)))))) =>
  letJ (fun (out_5 : List (Int × (Int × (Int × (List Int × Int))))) =>
      some out_5) fun j__3 =>
  bif (decide (2 ≤ n_5)) then
    (d22 n_5 x_5).bind fun r_2 =>
    bif (decide ((out_4.length : Int) + (r_2.length : Int) ≤ LIM)) then
      j__3 (out_4 ++ r_2)
    else none
  else
    j__3 out_4
def sg10 : Sig := ⟨[(y23, .bw), (y2, .sh), (y34, .bw), (y25, .bw), (y27, .bw), (y2, .sh)], [(y26, (.own 45 .sh))]⟩
def plan10 : Plan := (.seq (.reg [] []) (.seq (.reg [] [{}, {}, {}, {}, { fl := 1 }]) (.seq (.reg [] [{ fl := 2 }]) (.seq (.seq (.reg [] []) (.block (.loop [(1, .v y2 .sh), (4, .v y27 .bw), (5, .v y2 .sh), (13, .v y26 .sh), (15, .v y26 (.own 45 .sh)), (16, .v y2 .sh)] [(.brk 0, [(1, .v y2 .sh), (4, .v y27 .bw), (15, .v y26 (.own 45 .sh))])] (.seq (.join (.reg [] []) [(1, .v y2 .sh), (4, .v y27 .bw), (5, .v y2 .sh), (13, .v y26 .sh), (15, .v y26 (.own 45 .sh)), (16, .v y2 .sh), (31, .v y4 .sh)] (.cond .nil .nil)) (.join (.block (.join (.reg [] []) [(1, .v y2 .sh), (4, .v y27 .bw), (5, .v y2 .sh), (13, .v y26 .sh), (15, .v y26 (.own 45 .sh)), (16, .v y2 .sh), (43, .v y4 .sh)] (.cond (.reg [] []) .nil))) [(1, .v y2 .sh), (4, .v y27 .bw), (5, .v y2 .sh), (13, .v y26 .sh), (15, .v y26 (.own 45 .sh)), (16, .v y2 .sh)] (.reg [] [])))))) (.join (.seq (.reg [] []) (.cond (.reg [] []) .nil)) [(15, .v y26 (.own 45 .sh))] (.seq (.reg [] []) .nil))))))
theorem ev10 (xs : Vals (ptys sg10.ps)) : evF (P := Tryz.prog) tab [.fn E21, .fn E7, .fn E22] sg10 Tryz.f10.results.toList (code Tryz.f10) plan10 xs = d10 xs.1 xs.2.1 xs.2.2.1 xs.2.2.2.1 xs.2.2.2.2.1 xs.2.2.2.2.2.1 := by kernel_rfl
theorem sim10 : Sim Tryz.prog 10 sg10 d10 := sim_ev mixd tabOK Tryz.func10 (code_of rfl) Tryz.call10 (Nat.le_of_ble_eq_true (by kernel_rfl)) (by kernel_rfl) plan10 _ fun xs y h => (ev10 xs).trans h
noncomputable def E10 : FnE Tryz.prog := ⟨10, sg10, d10, sim10⟩

/-- election/electionmake.Ballots -/
noncomputable def d24 (n : Int) (l : List (List Int)) (most : Int) : Option (List (List Int)) :=
  (whileO (β := (List (List Int))) (fun ((n_1, l_1, most_1, out, i) : Int × (List (List Int)) × Int × (List (List Int)) × Int) =>
      letJ (fun ((n_2, l_2, most_2, out_1, i_1, t17) : Int × (List (List Int)) × Int × (List (List Int)) × Int × Bool) =>
          bif t17 then
            bif (decide (0 ≤ i_1) && decide (i_1 < (l_2.length : Int))) then
              bif (decide (0 ≤ i_1) && decide (i_1 < (l_2.length : Int))) then
                bif (cutOK 0 (bif (decide (12 < ((List.getD l_2 (Int.toNat i_1) []).length : Int))) then 12 else ((List.getD l_2 (Int.toNat i_1) []).length : Int)) (List.getD l_2 (Int.toNat i_1) []).length) then
                  (d9 n_2 (List.drop 0 (List.take (Int.toNat (bif (decide (12 < ((List.getD l_2 (Int.toNat i_1) []).length : Int))) then 12 else ((List.getD l_2 (Int.toNat i_1) []).length : Int))) (List.getD l_2 (Int.toNat i_1) [])))).bind fun r =>
                  bif (decide ((out_1.length : Int) + (([r] : List (List Int)).length : Int) ≤ LIM)) then
                    some (Sum.inl (n_2, l_2, most_2, (out_1 ++ [r]), (w (i_1 + 1))))
                  else none
                else none
              else none
            else none
          else
            some (Sum.inr out_1)) fun j_ =>
      bif (decide (i < (l_1.length : Int))) then
        j_ (n_1, l_1, most_1, out, i, (decide (i < most_1)))
      else
        j_ (n_1, l_1, most_1, out, i, false)) (n, l, most, [], 0)).bind fun (out_2 : List (List Int)) =>
  some out_2
def sg24 : Sig := ⟨[(y2, .sh), (y27, .bw), (y2, .sh)], [(y27, (.own 25 .sh))]⟩
def plan24 : Plan := (.seq (.reg [] []) (.seq (.reg [] [{ fl := 2 }]) (.seq (.seq (.reg [] []) (.block (.loop [(0, .v y2 .sh), (1, .v y27 .bw), (2, .v y2 .sh), (7, .v y27 (.own 25 .sh)), (8, .v y2 .sh)] [(.brk 0, [(7, .v y27 (.own 25 .sh))])] (.seq (.join (.reg [] []) [(0, .v y2 .sh), (1, .v y27 .bw), (2, .v y2 .sh), (7, .v y27 (.own 25 .sh)), (8, .v y2 .sh), (17, .v y4 .sh)] (.cond .nil .nil)) (.seq (.block (.reg [] [{}, {}, {}, {}, {}, {}, {}, {}, {}, {}, {}, {}, {}, {}, { frz := [(33, [])] }])) (.reg [] [])))))) (.seq (.reg [] []) .nil))))
theorem ev24 (xs : Vals (ptys sg24.ps)) : evF (P := Tryz.prog) tab [.fn E9] sg24 Tryz.f24.results.toList (code Tryz.f24) plan24 xs = d24 xs.1 xs.2.1 xs.2.2.1 := by kernel_rfl
theorem sim24 : Sim Tryz.prog 24 sg24 d24 := sim_ev mixd tabOK Tryz.func24 (code_of rfl) Tryz.call24 (Nat.le_of_ble_eq_true (by kernel_rfl)) (by kernel_rfl) plan24 _ fun xs y h => (ev24 xs).trans h
noncomputable def E24 : FnE Tryz.prog := ⟨24, sg24, d24, sim24⟩

/-- election/electionref24.Eq -/
noncomputable def d15 (a : List Int) (b : List Int) : Option Bool :=
  (d28 a b).bind fun r =>
  bif !r then
    (d28 b a).bind fun r_1 =>
    some (!r_1)
  else
    some false
def sg15 : Sig := ⟨[(y25, .bw), (y25, .bw)], [(y4, .sh)]⟩
def plan15 : Plan := (.seq (.reg [] []) (.seq (.reg [] []) .nil))
theorem ev15 (xs : Vals (ptys sg15.ps)) : evF (P := Tryz.prog) tab [.fn E28] sg15 Tryz.f15.results.toList (code Tryz.f15) plan15 xs = d15 xs.1 xs.2.1 := by kernel_rfl
theorem sim15 : Sim Tryz.prog 15 sg15 d15 := sim_ev mixd tabOK Tryz.func15 (code_of rfl) Tryz.call15 (Nat.le_of_ble_eq_true (by kernel_rfl)) (by kernel_rfl) plan15 _ fun xs y h => (ev15 xs).trans h
noncomputable def E15 : FnE Tryz.prog := ⟨15, sg15, d15, sim15⟩

/-- election/electionref24.Add -/
noncomputable def d44 (gs : List (List Int × Int)) (p : List Int) (k : Int) : Option (List (List Int × Int)) :=
  (whileO (β := ((List Int) × Int × (List (List Int × Int)) × Bool)) (fun ((gs_1, p_1, k_1, out, done, i) : (List (List Int × Int)) × (List Int) × Int × (List (List Int × Int)) × Bool × Int) =>
      bif (decide (i < (gs_1.length : Int))) then
        letJ (fun ((gs_4, p_4, k_4, out_3, done_3, i_3) : (List (List Int × Int)) × (List Int) × Int × (List (List Int × Int)) × Bool × Int) =>
            some (Sum.inl (gs_4, p_4, k_4, out_3, done_3, (w (i_3 + 1))))) fun j__2 =>
        bif (decide (0 ≤ i) && decide (i < (gs_1.length : Int))) then
          letJ (fun ((gs_3, p_3, k_3, out_2, done_2, i_2, g_1) : (List (List Int × Int)) × (List Int) × Int × (List (List Int × Int)) × Bool × Int × (List Int × Int)) =>
              bif (decide ((out_2.length : Int) + (([g_1] : List (List Int × Int)).length : Int) ≤ LIM)) then
                j__2 (gs_3, p_3, k_3, (out_2 ++ [g_1]), done_2, i_2)
              else none) fun j__1 =>
          letJ (fun ((gs_2, p_2, k_2, out_1, done_1, i_1, g, t29) : (List (List Int × Int)) × (List Int) × Int × (List (List Int × Int)) × Bool × Int × (List Int × Int) × Bool) =>
              bif t29 then
                (d15 g.1 p_2).bind fun r_1 =>
                bif r_1 then
                  bif (decide ((out_1.length : Int) + (([(g.1, (w (g.2 + k_2)))] : List (List Int × Int)).length : Int) ≤ LIM)) then
                    j__2 (gs_2, p_2, k_2, (out_1 ++ [(g.1, (w (g.2 + k_2)))]), true, i_1)
                  else none
                else
                  bif (decide ((out_1.length : Int) + (([(p_2, k_2)] : List (List Int × Int)).length : Int) ≤ LIM)) then
                    j__1 (gs_2, p_2, k_2, (out_1 ++ [(p_2, k_2)]), true, i_1, g)
                  else none
              else
                j__1 (gs_2, p_2, k_2, out_1, done_1, i_1, g)) fun j_ =>
          bif !done then
            (d28 ((List.getD gs_1 (Int.toNat i) ([], 0)).1) p_1).bind fun r =>
            j_ (gs_1, p_1, k_1, out, done, i, (List.getD gs_1 (Int.toNat i) ([], 0)), !r)
          else
            j_ (gs_1, p_1, k_1, out, done, i, (List.getD gs_1 (Int.toNat i) ([], 0)), false)
        else none
      else
        some (Sum.inr (p_1, k_1, out, done))) (gs, p, k, [], false, 0)).bind fun ((p_5, k_5, out_4, done_4) : (List Int) × Int × (List (List Int × Int)) × Bool) =>
  letJ (fun (out_5 : List (List Int × Int)) =>
      some out_5) fun j__3 =>
  bif !done_4 then
    bif (decide ((out_4.length : Int) + (([(p_5, k_5)] : List (List Int × Int)).length : Int) ≤ LIM)) then
      j__3 (out_4 ++ [(p_5, k_5)])
    else none
  else
    j__3 out_4
def sg44 : Sig := ⟨[(y34, .sh), (y25, .sh), (y2, .sh)], [(y34, (.own 89 .sh))]⟩
def plan44 : Plan := (.seq (.reg [] []) (.seq (.reg [] [{ fl := 2 }]) (.seq (.reg [] []) (.seq (.seq (.reg [] []) (.block (.loop [(0, .v y34 .sh), (1, .v y25 .sh), (2, .v y2 .sh), (7, .v y34 (.own 89 .sh)), (8, .v y4 .sh), (9, .v y2 .sh)] [(.brk 0, [(1, .v y25 .sh), (2, .v y2 .sh), (7, .v y34 (.own 89 .sh)), (8, .v y4 .sh)])] (.seq (.seq (.reg [] []) (.cond .nil .nil)) (.join (.block (.seq (.reg [] []) (.join (.join (.reg [] []) [(0, .v y34 .sh), (1, .v y25 .sh), (2, .v y2 .sh), (7, .v y34 (.own 89 .sh)), (8, .v y4 .sh), (9, .v y2 .sh), (10, .v (.ptr y89) (.own 0 .sh)), (29, .v y4 .sh)] (.cond (.seq (.reg [] []) (.seq (.seq (.reg [] []) (.cond (.seq (.reg [] []) .nil) .nil)) (.reg [] []))) .nil)) [(0, .v y34 .sh), (1, .v y25 .sh), (2, .v y2 .sh), (7, .v y34 (.own 89 .sh)), (8, .v y4 .sh), (9, .v y2 .sh), (10, .v (.ptr y89) (.own 0 .sh))] (.reg [] [])))) [(0, .v y34 .sh), (1, .v y25 .sh), (2, .v y2 .sh), (7, .v y34 (.own 89 .sh)), (8, .v y4 .sh), (9, .v y2 .sh)] (.reg [] [])))))) (.join (.seq (.reg [] []) (.cond (.reg [] []) .nil)) [(7, .v y34 (.own 89 .sh))] (.seq (.reg [] []) .nil))))))
theorem ev44 (xs : Vals (ptys sg44.ps)) : evF (P := Tryz.prog) tab [.fn E28, .fn E15] sg44 Tryz.f44.results.toList (code Tryz.f44) plan44 xs = d44 xs.1 xs.2.1 xs.2.2.1 := by kernel_rfl
theorem sim44 : Sim Tryz.prog 44 sg44 d44 := sim_ev mixd tabOK Tryz.func44 (code_of rfl) Tryz.call44 (Nat.le_of_ble_eq_true (by kernel_rfl)) (by kernel_rfl) plan44 _ fun xs y h => (ev44 xs).trans h
noncomputable def E44 : FnE Tryz.prog := ⟨44, sg44, d44, sim44⟩

/-- election/electionref24.Make -/
noncomputable def d23 (n : Int) (ballots : List (List Int)) : Option ((List (List Int × Int)) × Int) :=
  letJ (fun ((n_1, ballots_1, t13) : Int × (List (List Int)) × Bool) =>
      bif t13 then
        some ([], 4)
      else
        bif (decide (100000 < (ballots_1.length : Int))) then
          some ([], 7)
        else
          (whileO (β := (List (List Int × Int)) ⊕ ((List (List Int × Int)) × Int)) (fun ((n_2, ballots_2, gs, i) : Int × (List (List Int)) × (List (List Int × Int)) × Int) =>
              bif (decide (i < (ballots_2.length : Int))) then
                bif (decide (0 ≤ i) && decide (i < (ballots_2.length : Int))) then
                  (d37 n_2 (List.getD ballots_2 (Int.toNat i) [])).bind fun r =>
                  bif !r then
                    some (Sum.inr (Sum.inr ([], 8)))
                  else
                    bif (decide (0 ≤ i) && decide (i < (ballots_2.length : Int))) then
                      bif (decide ((([] : List Int).length : Int) + ((List.getD ballots_2 (Int.toNat i) []).length : Int) ≤ LIM)) then
                        (d44 gs (List.getD ballots_2 (Int.toNat i) []) 1).bind fun r_1 =>
                        some (Sum.inl (n_2, ballots_2, r_1, (w (i + 1))))
                      else none
                    else none
                else none
              else
                some (Sum.inr (Sum.inl gs))) (n_1, ballots_1, [], 0)).bind fun
          | Sum.inl gs_1 =>
            some (gs_1, 0)
          | Sum.inr (t4, t5) =>
            some (t4, t5)) fun j_ =>
  bif !(decide (n < 1)) then
    j_ (n, ballots, (decide (7 < n)))
  else
    j_ (n, ballots, true)
def sg23 : Sig := ⟨[(y2, .sh), (y27, .bw)], [(y34, .sh), (y2, .sh)]⟩
def plan23 : Plan := (.post (.seq (.reg [] []) (.seq (.join (.reg [] []) [(0, .v y2 .sh), (1, .v y27 .bw), (13, .v y4 .sh)] (.cond (.seq (.reg [] []) .nil) .nil)) (.seq (.seq (.reg [] []) (.cond (.seq (.reg [] []) .nil) .nil)) (.seq (.reg [] [{ fl := 2 }]) (.seq (.seq (.reg [] []) (.block (.loop [(0, .v y2 .sh), (1, .v y27 .bw), (6, .v y34 (.own 89 .sh)), (7, .v y2 .sh)] [(.brk 0, [(6, .v y34 (.own 89 .sh))]), (.ret, [(4, .v y34 .sh), (5, .v y2 .sh)])] (.seq (.seq (.reg [] []) (.cond .nil .nil)) (.seq (.block (.seq (.seq (.reg [] []) (.cond (.seq (.reg [] []) .nil) .nil)) (.reg [(6, [])] [{}, {}, {}, {}, {}, {}, { frz := [(35, [])] }]))) (.reg [] [])))))) (.seq (.reg [] []) .nil)))))) [(4, [])])
theorem ev23 (xs : Vals (ptys sg23.ps)) : evF (P := Tryz.prog) tab [.fn E37, .fn E44] sg23 Tryz.f23.results.toList (code Tryz.f23) plan23 xs = d23 xs.1 xs.2.1 := by kernel_rfl
theorem sim23 : Sim Tryz.prog 23 sg23 d23 := sim_ev mixd tabOK Tryz.func23 (code_of rfl) Tryz.call23 (Nat.le_of_ble_eq_true (by kernel_rfl)) (by kernel_rfl) plan23 _ fun xs y h => (ev23 xs).trans h
noncomputable def E23 : FnE Tryz.prog := ⟨23, sg23, d23, sim23⟩

/-- election/electionmake.Pile -/
noncomputable def d11 (n : Int) (l : List (List Int)) (most : Int) : Option (List (List Int × Int)) :=
  (d24 n l most).bind fun r =>
  (d23 n r).bind fun r_1 =>
  some r_1.1
def sg11 : Sig := ⟨[(y2, .sh), (y27, .bw), (y2, .sh)], [(y34, .sh)]⟩
def plan11 : Plan := (.seq (.reg [] []) (.seq (.reg [] [{}, {}, {}, {}, {}, {}, { fl := 1 }]) (.seq (.reg [] []) .nil)))
theorem ev11 (xs : Vals (ptys sg11.ps)) : evF (P := Tryz.prog) tab [.fn E24, .fn E23] sg11 Tryz.f11.results.toList (code Tryz.f11) plan11 xs = d11 xs.1 xs.2.1 xs.2.2.1 := by kernel_rfl
theorem sim11 : Sim Tryz.prog 11 sg11 d11 := sim_ev mixd tabOK Tryz.func11 (code_of rfl) Tryz.call11 (Nat.le_of_ble_eq_true (by kernel_rfl)) (by kernel_rfl) plan11 _ fun xs y h => (ev11 xs).trans h
noncomputable def E11 : FnE Tryz.prog := ⟨11, sg11, d11, sim11⟩

/-- election/electionlaw31.Cut -/
noncomputable def d12 (l : List (List Int)) (n : Int) : Option (List (List Int)) :=
  (whileO (β := (List (List Int))) (fun ((l_1, n_1, out, i) : (List (List Int)) × Int × (List (List Int)) × Int) =>
      letJ (fun ((l_2, n_2, out_1, i_1, t15) : (List (List Int)) × Int × (List (List Int)) × Int × Bool) =>
          bif t15 then
            bif (decide (0 ≤ i_1) && decide (i_1 < (l_2.length : Int))) then
              bif (decide (0 ≤ i_1) && decide (i_1 < (l_2.length : Int))) then
                bif (cutOK 0 (bif (decide (8 < ((List.getD l_2 (Int.toNat i_1) []).length : Int))) then 8 else ((List.getD l_2 (Int.toNat i_1) []).length : Int)) (List.getD l_2 (Int.toNat i_1) []).length) then
                  bif (decide ((out_1.length : Int) + (([(List.drop 0 (List.take (Int.toNat (bif (decide (8 < ((List.getD l_2 (Int.toNat i_1) []).length : Int))) then 8 else ((List.getD l_2 (Int.toNat i_1) []).length : Int))) (List.getD l_2 (Int.toNat i_1) [])))] : List (List Int)).length : Int) ≤ LIM)) then
                    some (Sum.inl (l_2, n_2, (out_1 ++ [(List.drop 0 (List.take (Int.toNat (bif (decide (8 < ((List.getD l_2 (Int.toNat i_1) []).length : Int))) then 8 else ((List.getD l_2 (Int.toNat i_1) []).length : Int))) (List.getD l_2 (Int.toNat i_1) [])))]), (w (i_1 + 1))))
                  else none
                else none
              else none
            else none
          else
            some (Sum.inr out_1)) fun j_ =>
      bif (decide (i < (l_1.length : Int))) then
        j_ (l_1, n_1, out, i, (decide (i < n_1)))
      else
        j_ (l_1, n_1, out, i, false)) (l, n, [], 0)).bind fun (out_2 : List (List Int)) =>
  some out_2
def sg12 : Sig := ⟨[(y27, .sh), (y2, .sh)], [(y27, (.own 25 .sh))]⟩
def plan12 : Plan := (.seq (.reg [] []) (.seq (.reg [] [{ fl := 2 }]) (.seq (.seq (.reg [] []) (.block (.loop [(0, .v y27 .sh), (1, .v y2 .sh), (5, .v y27 (.own 25 .sh)), (6, .v y2 .sh)] [(.brk 0, [(5, .v y27 (.own 25 .sh))])] (.seq (.join (.reg [] []) [(0, .v y27 .sh), (1, .v y2 .sh), (5, .v y27 (.own 25 .sh)), (6, .v y2 .sh), (15, .v y4 .sh)] (.cond .nil .nil)) (.seq (.block (.reg [] [])) (.reg [] [])))))) (.seq (.reg [] []) .nil))))
theorem ev12 (xs : Vals (ptys sg12.ps)) : evF (P := Tryz.prog) tab [] sg12 Tryz.f12.results.toList (code Tryz.f12) plan12 xs = d12 xs.1 xs.2.1 := by kernel_rfl
theorem sim12 : Sim Tryz.prog 12 sg12 d12 := sim_ev mixd tabOK Tryz.func12 (code_of rfl) Tryz.call12 (Nat.le_of_ble_eq_true (by kernel_rfl)) (by kernel_rfl) plan12 _ fun xs y h => (ev12 xs).trans h
noncomputable def E12 : FnE Tryz.prog := ⟨12, sg12, d12, sim12⟩

/-- election/electionref31.IsTail -/
noncomputable def d77 (n : Int) (l : List Int) : Option Bool :=
  bif (decide (0 < (l.length : Int))) then
    (d37 n l).bind fun r =>
    some r
  else
    some false
def sg77 : Sig := ⟨[(y2, .sh), (y25, .bw)], [(y4, .sh)]⟩
def plan77 : Plan := (.seq (.reg [] []) (.seq (.reg [] []) .nil))
theorem ev77 (xs : Vals (ptys sg77.ps)) : evF (P := Tryz.prog) tab [.fn E37] sg77 Tryz.f77.results.toList (code Tryz.f77) plan77 xs = d77 xs.1 xs.2.1 := by kernel_rfl
theorem sim77 : Sim Tryz.prog 77 sg77 d77 := sim_ev mixd tabOK Tryz.func77 (code_of rfl) Tryz.call77 (Nat.le_of_ble_eq_true (by kernel_rfl)) (by kernel_rfl) plan77 _ fun xs y h => (ev77 xs).trans h
noncomputable def E77 : FnE Tryz.prog := ⟨77, sg77, d77, sim77⟩

/-- election/electionref31.Contradicts -/
noncomputable def d63 (p0 : Int) (p1 : (Int × (Int × (Int × (List Int × Int))))) (p2 : List Int) : Option Bool :=
  letJ (fun ((t2, t4, t19) : (List Int) × (Int × (Int × (Int × (List Int × Int)))) × Bool) =>
      bif t19 then
        some false
      else
        bif (decide (t4.1 = 1)) then
          (d78 t2 t4.2.2.1).bind fun r_2 =>
          bif (decide (r_2 < (t2.length : Int))) then
            bif (cutOK r_2 (t2.length : Int) t2.length) then
              (d20 (List.drop (Int.toNat r_2) (List.take (Int.toNat (t2.length : Int)) t2)) t4.2.1).bind fun r_3 =>
              some (!r_3)
            else none
          else
            some false
        else
          bif (decide (t4.1 = 2)) then
            letJ (fun ((t2_1, t4_1, t8, t59) : (List Int) × (Int × (Int × (Int × (List Int × Int)))) × Int × Bool) =>
                bif t59 then
                  some false
                else
                  (whileO (β := Unit ⊕ Bool) (fun ((t2_2, t4_2, t8_1, t9) : (List Int) × (Int × (Int × (Int × (List Int × Int)))) × Int × Int) =>
                      bif (decide (t9 < (t4_2.2.2.2.1.length : Int))) then
                        bif (cutOK t8_1 (t2_2.length : Int) t2_2.length) then
                          bif (decide (0 ≤ t9) && decide (t9 < (t4_2.2.2.2.1.length : Int))) then
                            (d20 (List.drop (Int.toNat t8_1) (List.take (Int.toNat (t2_2.length : Int)) t2_2)) (List.getD t4_2.2.2.2.1 (Int.toNat t9) 0)).bind fun r_4 =>
                            bif !r_4 then
                              some (Sum.inr (Sum.inr false))
                            else
                              some (Sum.inl (t2_2, t4_2, t8_1, (w (t9 + 1))))
                          else none
                        else none
                      else
                        some (Sum.inr (Sum.inl ()))) (t2_1, t4_1, t8, 0)).bind fun
                  | Sum.inl _ =>
                    some true
                  | Sum.inr t6 =>
                    some t6) fun j__1 =>
            bif !(decide ((w ((t2.length : Int) - (t4.2.2.2.1.length : Int))) < 0)) then
              bif (decide (0 ≤ (w ((t2.length : Int) - (t4.2.2.2.1.length : Int)))) && decide ((w ((t2.length : Int) - (t4.2.2.2.1.length : Int))) < (t2.length : Int))) then
                j__1 (t2, t4, (w ((t2.length : Int) - (t4.2.2.2.1.length : Int))), !(decide ((List.getD t2 (Int.toNat (w ((t2.length : Int) - (t4.2.2.2.1.length : Int)))) 0) = t4.2.1)))
              else none
            else
              j__1 (t2, t4, (w ((t2.length : Int) - (t4.2.2.2.1.length : Int))), true)
          else
            some false) fun j_ =>
  (d38 p0 p1).bind fun r =>
  bif !(!r) then
    (d77 p0 p2).bind fun r_1 =>
    j_ (p2, p1, !r_1)
  else
    j_ (p2, p1, true)
def sg63 : Sig := ⟨[(y2, .sh), (y45, .bw), (y25, .bw)], [(y4, .sh)]⟩
def plan63 : Plan := (.seq (.reg [] []) (.seq (.join (.reg [] []) [(2, .v y25 .bw), (4, .v (.ptr y45) (.own 0 .bw)), (19, .v y4 .sh)] (.cond (.seq (.reg [] []) .nil) .nil)) (.seq (.seq (.reg [] []) (.block (.seq (.reg [] []) (.cond (.seq (.reg [] []) (.seq (.reg [] []) .nil)) (.seq (.reg [] []) (.cond (.seq (.reg [] []) (.seq (.join (.reg [] []) [(2, .v y25 .bw), (4, .v (.ptr y45) (.own 0 .bw)), (8, .v y2 .sh), (59, .v y4 .sh)] (.cond (.seq (.reg [] []) .nil) .nil)) (.seq (.seq (.reg [] []) (.block (.loop [(2, .v y25 .bw), (4, .v (.ptr y45) (.own 0 .bw)), (8, .v y2 .sh), (9, .v y2 .sh)] [(.brk 1, []), (.ret, [(6, .v y4 .sh)])] (.seq (.seq (.reg [] []) (.cond .nil .nil)) (.seq (.block (.seq (.reg [] []) (.cond (.seq (.reg [] []) .nil) .nil))) (.reg [] [])))))) (.seq (.reg [] []) .nil)))) .nil)))))) (.seq (.reg [] []) .nil))))
theorem ev63 (xs : Vals (ptys sg63.ps)) : evF (P := Tryz.prog) tab [.fn E38, .fn E77, .fn E78, .fn E20] sg63 Tryz.f63.results.toList (code Tryz.f63) plan63 xs = d63 xs.1 xs.2.1 xs.2.2.1 := by kernel_rfl
theorem sim63 : Sim Tryz.prog 63 sg63 d63 := sim_ev mixd tabOK Tryz.func63 (code_of rfl) Tryz.call63 (Nat.le_of_ble_eq_true (by kernel_rfl)) (by kernel_rfl) plan63 _ fun xs y h => (ev63 xs).trans h
noncomputable def E63 : FnE Tryz.prog := ⟨63, sg63, d63, sim63⟩

/-- election/electionref31.Contradicted -/
noncomputable def d48 (n : Int) (order : List Int) (l : List (Int × (Int × (Int × (List Int × Int))))) : Option Bool :=
  (whileO (β := Unit ⊕ Bool) (fun ((n_1, order_1, l_1, i) : Int × (List Int) × (List (Int × (Int × (Int × (List Int × Int))))) × Int) =>
      bif (decide (i < (l_1.length : Int))) then
        (whileO (β := (Int × (List Int) × (List (Int × (Int × (Int × (List Int × Int))))) × Int) ⊕ Bool) (fun ((n_2, order_2, l_2, i_1, k) : Int × (List Int) × (List (Int × (Int × (Int × (List Int × Int))))) × Int × Int) =>
            bif (decide (k < n_2)) then
              bif (decide (0 ≤ i_1) && decide (i_1 < (l_2.length : Int))) then
                bif (cutOK k (order_2.length : Int) order_2.length) then
                  (d63 n_2 (List.getD l_2 (Int.toNat i_1) (0, 0, 0, [], 0)) (List.drop (Int.toNat k) (List.take (Int.toNat (order_2.length : Int)) order_2))).bind fun r =>
                  bif r then
                    some (Sum.inr (Sum.inr true))
                  else
                    some (Sum.inl (n_2, order_2, l_2, i_1, (w (k + 1))))
                else none
              else none
            else
              some (Sum.inr (Sum.inl (n_2, order_2, l_2, i_1)))) (n_1, order_1, l_1, i, 0)).bind fun
        | Sum.inl (n_3, order_3, l_3, i_2) =>
          some (Sum.inl (n_3, order_3, l_3, (w (i_2 + 1))))
        | Sum.inr t6 =>
          some (Sum.inr (Sum.inr t6))
      else
        some (Sum.inr (Sum.inl ()))) (n, order, l, 0)).bind fun
  | Sum.inl _ =>
    some false
  | Sum.inr t6_1 =>
    some t6_1
def sg48 : Sig := ⟨[(y2, .sh), (y25, .bw), (y26, .bw)], [(y4, .sh)]⟩
def plan48 : Plan := (.seq (.reg [] []) (.seq (.seq (.reg [] []) (.block (.loop [(0, .v y2 .sh), (1, .v y25 .bw), (2, .v y26 .bw), (7, .v y2 .sh)] [(.brk 0, []), (.ret, [(6, .v y4 .sh)])] (.seq (.seq (.reg [] []) (.cond .nil .nil)) (.seq (.block (.seq (.reg [] []) (.block (.loop [(0, .v y2 .sh), (1, .v y25 .bw), (2, .v y26 .bw), (7, .v y2 .sh), (8, .v y2 .sh)] [(.brk 2, [(0, .v y2 .sh), (1, .v y25 .bw), (2, .v y26 .bw), (7, .v y2 .sh)]), (.ret, [(6, .v y4 .sh)])] (.seq (.seq (.reg [] []) (.cond .nil .nil)) (.seq (.block (.seq (.reg [] []) (.cond (.seq (.reg [] []) .nil) .nil))) (.reg [] []))))))) (.reg [] [])))))) (.seq (.reg [] []) .nil)))
theorem ev48 (xs : Vals (ptys sg48.ps)) : evF (P := Tryz.prog) tab [.fn E63] sg48 Tryz.f48.results.toList (code Tryz.f48) plan48 xs = d48 xs.1 xs.2.1 xs.2.2.1 := by kernel_rfl
theorem sim48 : Sim Tryz.prog 48 sg48 d48 := sim_ev mixd tabOK Tryz.func48 (code_of rfl) Tryz.call48 (Nat.le_of_ble_eq_true (by kernel_rfl)) (by kernel_rfl) plan48 _ fun xs y h => (ev48 xs).trans h
noncomputable def E48 : FnE Tryz.prog := ⟨48, sg48, d48, sim48⟩

/-- election/electionref31.witness -/
noncomputable def d27F (self_ : Int → Int → (List Int) → (List (Int × (Int × (Int × (List Int × Int))))) → Option ((List Int) × Bool)) (n : Int) (winner : Int) (begin : List Int) (l : List (Int × (Int × (Int × (List Int × Int))))) : Option ((List Int) × Bool) :=
  bif (decide ((begin.length : Int) = n)) then
    bif (decide (0 ≤ (w (n - 1))) && decide ((w (n - 1)) < (begin.length : Int))) then
      bif !(decide ((List.getD begin (Int.toNat (w (n - 1))) 0) = winner)) then
        (d48 n begin l).bind fun r =>
        some (begin, !r)
      else
        some (begin, false)
    else none
  else
    (whileO (β := Unit ⊕ ((List Int) × Bool)) (fun ((n_1, winner_1, begin_1, l_1, x) : Int × Int × (List Int) × (List (Int × (Int × (Int × (List Int × Int))))) × Int) =>
        bif (decide (x < n_1)) then
          letJ (fun ((n_2, winner_2, begin_2, l_2, x_1) : Int × Int × (List Int) × (List (Int × (Int × (Int × (List Int × Int))))) × Int) =>
              some (Sum.inl (n_2, winner_2, begin_2, l_2, (w (x_1 + 1))))) fun j_ =>
          (d20 begin_1 x).bind fun r_1 =>
          bif !r_1 then
            bif (decide ((([] : List Int).length : Int) + (begin_1.length : Int) ≤ LIM)) then
              bif (decide ((begin_1.length : Int) + (([x] : List Int).length : Int) ≤ LIM)) then
                (self_ n_1 winner_1 (begin_1 ++ [x]) l_1).bind fun r_2 =>
                bif r_2.2 then
                  some (Sum.inr (Sum.inr (r_2.1, true)))
                else
                  j_ (n_1, winner_1, begin_1, l_1, x)
              else none
            else none
          else
            j_ (n_1, winner_1, begin_1, l_1, x)
        else
          some (Sum.inr (Sum.inl ()))) (n, winner, begin, l, 0)).bind fun
    | Sum.inl _ =>
      some ([], false)
    | Sum.inr (t8, t9) =>
      some (t8, t9)
def sg27 : Sig := ⟨[(y2, .sh), (y2, .sh), (y25, .sh), (y26, .bw)], [(y25, .sh), (y4, .sh)]⟩
def plan27 : Plan := (.seq (.reg [] []) (.seq (.seq (.reg [] []) (.cond (.seq (.reg [] []) .nil) .nil)) (.seq (.seq (.reg [] []) (.block (.loop [(0, .v y2 .sh), (1, .v y2 .sh), (2, .v y25 .sh), (3, .v y26 .bw), (10, .v y2 .sh)] [(.brk 0, []), (.ret, [(8, .v y25 .sh), (9, .v y4 .sh)])] (.seq (.seq (.reg [] []) (.cond .nil .nil)) (.join (.block (.seq (.reg [] []) (.cond (.seq (.reg [] [{}, {}, {}, {}, {}, {}, {}, {}, { frz := [(48, [])] }, { fl := 1 }]) (.seq (.reg [] []) (.cond (.seq (.reg [] []) .nil) .nil))) .nil))) [(0, .v y2 .sh), (1, .v y2 .sh), (2, .v y25 .sh), (3, .v y26 .bw), (10, .v y2 .sh)] (.reg [] [])))))) (.seq (.reg [] []) .nil))))
noncomputable def d27N : Nat → Arr (ptys sg27.ps) (Option (Ret sg27.res))
  | 0 => fun _ _ _ _ => none
  | k + 1 => d27F (d27N k)
theorem ev27 (g : Arr (ptys sg27.ps) (Option (Ret sg27.res))) (h : Sim Tryz.prog 27 sg27 g) (xs : Vals (ptys sg27.ps)) : evF (P := Tryz.prog) tab [.fn E48, .fn E20, .fn ⟨27, sg27, g, h⟩] sg27 Tryz.f27.results.toList (code Tryz.f27) plan27 xs = d27F g xs.1 xs.2.1 xs.2.2.1 xs.2.2.2.1 := by kernel_rfl
theorem sim27N : ∀ k, Sim Tryz.prog 27 sg27 (d27N k)
  | 0 => ⟨Tryz.call27, fun xs y h => absurd (show (none : Option _) = some y from h) (by simp)⟩
  | k + 1 => sim_ev mixd tabOK Tryz.func27 (code_of rfl) Tryz.call27 (Nat.le_of_ble_eq_true (by kernel_rfl)) (by kernel_rfl) plan27 _ fun xs y h => (ev27 _ (sim27N k) xs).trans h
noncomputable def d27 (n : Int) (winner : Int) (begin : List Int) (l : List (Int × (Int × (Int × (List Int × Int))))) : Option ((List Int) × Bool) := d27N 10 n winner begin l
theorem sim27 : Sim Tryz.prog 27 sg27 d27 := sim27N 10
noncomputable def E27 : FnE Tryz.prog := ⟨27, sg27, d27, sim27⟩

/-- election/electionref31.Witness -/
noncomputable def d14 (n : Int) (winner : Int) (l : List (Int × (Int × (Int × (List Int × Int))))) : Option ((List Int) × Bool) :=
  letJ (fun ((n_1, winner_1, l_1, t27) : Int × Int × (List (Int × (Int × (Int × (List Int × Int))))) × Bool) =>
      bif t27 then
        some ([], false)
      else
        (d27 n_1 winner_1 [] l_1).bind fun r =>
        some (r.1, r.2)) fun j_ =>
  bif !(decide (n < 1)) then
    bif !(decide (7 < n)) then
      bif !(decide (winner < 0)) then
        bif !(decide (n ≤ winner)) then
          j_ (n, winner, l, (decide (1400 < (l.length : Int))))
        else
          j_ (n, winner, l, true)
      else
        j_ (n, winner, l, true)
    else
      j_ (n, winner, l, true)
  else
    j_ (n, winner, l, true)
def sg14 : Sig := ⟨[(y2, .sh), (y2, .sh), (y26, .bw)], [(y25, .sh), (y4, .sh)]⟩
def plan14 : Plan := (.seq (.reg [] []) (.seq (.join (.reg [] []) [(0, .v y2 .sh), (1, .v y2 .sh), (2, .v y26 .bw), (27, .v y4 .sh)] (.cond (.seq (.reg [] []) .nil) .nil)) (.seq (.reg [] []) .nil)))
theorem ev14 (xs : Vals (ptys sg14.ps)) : evF (P := Tryz.prog) tab [.fn E27] sg14 Tryz.f14.results.toList (code Tryz.f14) plan14 xs = d14 xs.1 xs.2.1 xs.2.2.1 := by kernel_rfl
theorem sim14 : Sim Tryz.prog 14 sg14 d14 := sim_ev mixd tabOK Tryz.func14 (code_of rfl) Tryz.call14 (Nat.le_of_ble_eq_true (by kernel_rfl)) (by kernel_rfl) plan14 _ fun xs y h => (ev14 xs).trans h
noncomputable def E14 : FnE Tryz.prog := ⟨14, sg14, d14, sim14⟩

/-- election/electionref31.Suffice -/
noncomputable def d17 (p0 : (List Int × (List (List Int) × (Int × (Int × (Int × (Int × (Int × (Int × Int))))))))) (p1 : List Int) (p2 : List (Int × (Int × (Int × (List Int × Int))))) : Option Bool :=
  letJ (fun ((t1, t2, t3, t7, t34) : (List Int) × (List (Int × (Int × (Int × (List Int × Int))))) × (List Int × (List (List Int) × (Int × (Int × (Int × (Int × (Int × (Int × Int)))))))) × Int × Bool) =>
      bif t34 then
        some false
      else
        (whileO (β := ((List Int) × (List (Int × (Int × (Int × (List Int × Int))))) × (List Int × (List (List Int) × (Int × (Int × (Int × (Int × (Int × (Int × Int)))))))) × Int) ⊕ Bool) (fun ((t1_1, t2_1, t3_1, t7_1, t8) : (List Int) × (List (Int × (Int × (Int × (List Int × Int))))) × (List Int × (List (List Int) × (Int × (Int × (Int × (Int × (Int × (Int × Int)))))))) × Int × Int) =>
            bif (decide (t8 < (t2_1.length : Int))) then
              bif (decide (0 ≤ t8) && decide (t8 < (t2_1.length : Int))) then
                (d38 t7_1 (List.getD t2_1 (Int.toNat t8) (0, 0, 0, [], 0))).bind fun r_3 =>
                bif !r_3 then
                  some (Sum.inr (Sum.inr false))
                else
                  some (Sum.inl (t1_1, t2_1, t3_1, t7_1, (w (t8 + 1))))
              else none
            else
              some (Sum.inr (Sum.inl (t1_1, t2_1, t3_1, t7_1)))) (t1, t2, t3, t7, 0)).bind fun
        | Sum.inl (t1_2, t2_2, t3_2, t7_2) =>
          bif (decide (t7_2 ≤ t3_2.2.2.2.1)) then
            some (decide ((t1_2.length : Int) = t7_2))
          else
            bif !(decide ((t1_2.length : Int) = t3_2.2.2.2.1)) then
              some false
            else
              bif (decide (t3_2.2.2.1 = 1)) then
                bif (decide (0 ≤ 0) && decide (0 < (t1_2.length : Int))) then
                  (d14 t7_2 (List.getD t1_2 0 0) t2_2).bind fun r_4 =>
                  some (!r_4.2)
                else none
              else
                (whileO (β := Unit ⊕ Bool) (fun ((t1_3, t2_3, t3_3, t11) : (List Int) × (List (Int × (Int × (Int × (List Int × Int))))) × (List Int × (List (List Int) × (Int × (Int × (Int × (Int × (Int × (Int × Int)))))))) × Int) =>
                    bif (decide (t11 < (t1_3.length : Int))) then
                      (whileO (β := ((List Int) × (List (Int × (Int × (Int × (List Int × Int))))) × (List Int × (List (List Int) × (Int × (Int × (Int × (Int × (Int × (Int × Int)))))))) × Int × Bool)) (fun ((t1_4, t2_4, t3_4, t11_1, t12, t13) : (List Int) × (List (Int × (Int × (Int × (List Int × Int))))) × (List Int × (List (List Int) × (Int × (Int × (Int × (Int × (Int × (Int × Int)))))))) × Int × Bool × Int) =>
                          bif (decide (t13 < (t2_4.length : Int))) then
                            letJ (fun ((t1_5, t2_5, t3_5, t11_2, t12_1, t13_1) : (List Int) × (List (Int × (Int × (Int × (List Int × Int))))) × (List Int × (List (List Int) × (Int × (Int × (Int × (Int × (Int × (Int × Int)))))))) × Int × Bool × Int) =>
                                some (Sum.inl (t1_5, t2_5, t3_5, t11_2, t12_1, (w (t13_1 + 1))))) fun j__1 =>
                            bif !t12 then
                              bif (decide (0 ≤ t13) && decide (t13 < (t2_4.length : Int))) then
                                bif (decide (0 ≤ t11_1) && decide (t11_1 < (t1_4.length : Int))) then
                                  (d39 (List.getD t2_4 (Int.toNat t13) (0, 0, 0, [], 0)) (3, (List.getD t1_4 (Int.toNat t11_1) 0), 0, [], (w (t3_4.2.2.2.1 + 1)))).bind fun r_5 =>
                                  j__1 (t1_4, t2_4, t3_4, t11_1, (decide (r_5 = 0)), t13)
                                else none
                              else none
                            else
                              j__1 (t1_4, t2_4, t3_4, t11_1, true, t13)
                          else
                            some (Sum.inr (t1_4, t2_4, t3_4, t11_1, t12))) (t1_3, t2_3, t3_3, t11, false, 0)).bind fun ((t1_6, t2_6, t3_6, t11_3, t12_2) : (List Int) × (List (Int × (Int × (Int × (List Int × Int))))) × (List Int × (List (List Int) × (Int × (Int × (Int × (Int × (Int × (Int × Int)))))))) × Int × Bool) =>
                      bif !t12_2 then
                        some (Sum.inr (Sum.inr false))
                      else
                        some (Sum.inl (t1_6, t2_6, t3_6, (w (t11_3 + 1))))
                    else
                      some (Sum.inr (Sum.inl ()))) (t1_2, t2_2, t3_2, 0)).bind fun
                | Sum.inl _ =>
                  some true
                | Sum.inr t6_1 =>
                  some t6_1
        | Sum.inr t6 =>
          some t6) fun j_ =>
  (d36 (p0.2.1.length : Int)).bind fun r =>
  (d35 p0.2.2.1 p0 [] r).bind fun r_1 =>
  bif !(!(decide (r_1 = 0))) then
    (d37 (p0.2.1.length : Int) p1).bind fun r_2 =>
    bif !(!r_2) then
      j_ (p1, p2, p0, (p0.2.1.length : Int), (decide (1400 < (p2.length : Int))))
    else
      j_ (p1, p2, p0, (p0.2.1.length : Int), true)
  else
    j_ (p1, p2, p0, (p0.2.1.length : Int), true)
def sg17 : Sig := ⟨[(y23, .bw), (y25, .bw), (y26, .bw)], [(y4, .sh)]⟩
def plan17 : Plan := (.seq (.reg [] []) (.seq (.reg [] []) (.seq (.join (.reg [] []) [(1, .v y25 .bw), (2, .v y26 .bw), (3, .v (.ptr y23) (.own 0 .bw)), (7, .v y2 .sh), (34, .v y4 .sh)] (.cond (.seq (.reg [] []) .nil) .nil)) (.seq (.seq (.reg [] []) (.block (.loop [(1, .v y25 .bw), (2, .v y26 .bw), (3, .v (.ptr y23) (.own 0 .bw)), (7, .v y2 .sh), (8, .v y2 .sh)] [(.brk 0, [(1, .v y25 .bw), (2, .v y26 .bw), (3, .v (.ptr y23) (.own 0 .bw)), (7, .v y2 .sh)]), (.ret, [(6, .v y4 .sh)])] (.seq (.seq (.reg [] []) (.cond .nil .nil)) (.seq (.block (.seq (.reg [] []) (.cond (.seq (.reg [] []) .nil) .nil))) (.reg [] [])))))) (.seq (.seq (.reg [] []) (.cond (.seq (.reg [] []) .nil) .nil)) (.seq (.seq (.reg [] []) (.cond (.seq (.reg [] []) .nil) .nil)) (.seq (.seq (.reg [] []) (.cond (.seq (.reg [] [{}, {}, {}, {}, {}, {}, { fl := 1 }]) (.seq (.reg [] []) .nil)) .nil)) (.seq (.seq (.reg [] []) (.block (.loop [(1, .v y25 .bw), (2, .v y26 .bw), (3, .v (.ptr y23) (.own 0 .bw)), (11, .v y2 .sh)] [(.brk 2, []), (.ret, [(6, .v y4 .sh)])] (.seq (.seq (.reg [] []) (.cond .nil .nil)) (.seq (.block (.seq (.reg [] []) (.seq (.seq (.reg [] []) (.block (.loop [(1, .v y25 .bw), (2, .v y26 .bw), (3, .v (.ptr y23) (.own 0 .bw)), (11, .v y2 .sh), (12, .v y4 .sh), (13, .v y2 .sh)] [(.brk 4, [(1, .v y25 .bw), (2, .v y26 .bw), (3, .v (.ptr y23) (.own 0 .bw)), (11, .v y2 .sh), (12, .v y4 .sh)])] (.seq (.seq (.reg [] []) (.cond .nil .nil)) (.join (.block (.reg [] [])) [(1, .v y25 .bw), (2, .v y26 .bw), (3, .v (.ptr y23) (.own 0 .bw)), (11, .v y2 .sh), (12, .v y4 .sh), (13, .v y2 .sh)] (.reg [] [])))))) (.seq (.reg [] []) (.cond (.seq (.reg [] []) .nil) .nil))))) (.reg [] [])))))) (.seq (.reg [] []) .nil)))))))))
theorem ev17 (xs : Vals (ptys sg17.ps)) : evF (P := Tryz.prog) tab [.fn E36, .fn E35, .fn E37, .fn E38, .fn E14, .fn E39] sg17 Tryz.f17.results.toList (code Tryz.f17) plan17 xs = d17 xs.1 xs.2.1 xs.2.2.1 := by kernel_rfl
theorem sim17 : Sim Tryz.prog 17 sg17 d17 := sim_ev mixd tabOK Tryz.func17 (code_of rfl) Tryz.call17 (Nat.le_of_ble_eq_true (by kernel_rfl)) (by kernel_rfl) plan17 _ fun xs y h => (ev17 xs).trans h
noncomputable def E17 : FnE Tryz.prog := ⟨17, sg17, d17, sim17⟩

/-- election/electionmake.Ints -/
noncomputable def d18 (l : List Int) (n : Int) : Option (List Int) :=
  bif (cutOK 0 (bif (decide (n < (l.length : Int))) then n else (l.length : Int)) l.length) then
    some (List.drop 0 (List.take (Int.toNat (bif (decide (n < (l.length : Int))) then n else (l.length : Int))) l))
  else none
def sg18 : Sig := ⟨[(y25, .sh), (y2, .sh)], [(y25, .sh)]⟩
def plan18 : Plan := (.seq (.reg [] []) (.seq (.reg [] []) .nil))
theorem ev18 (xs : Vals (ptys sg18.ps)) : evF (P := Tryz.prog) tab [] sg18 Tryz.f18.results.toList (code Tryz.f18) plan18 xs = d18 xs.1 xs.2.1 := by kernel_rfl
theorem sim18 : Sim Tryz.prog 18 sg18 d18 := sim_ev mixd tabOK Tryz.func18 (code_of rfl) Tryz.call18 (Nat.le_of_ble_eq_true (by kernel_rfl)) (by kernel_rfl) plan18 _ fun xs y h => (ev18 xs).trans h
noncomputable def E18 : FnE Tryz.prog := ⟨18, sg18, d18, sim18⟩

/-- election/assertion.isAscending -/
noncomputable def d51 (n : Int) (l : List Int) : Option Bool :=
  (whileO (β := Unit ⊕ Bool) (fun ((n_1, l_1, t7, t8, t9) : Int × (List Int) × (List Int) × Int × Int) =>
      bif (decide (t9 < t8)) then
        bif (decide (0 ≤ t9) && decide (t9 < (t7.length : Int))) then
          letJ (fun ((n_2, l_2, t7_1, t8_1, t9_1, t33) : Int × (List Int) × (List Int) × Int × Int × Bool) =>
              bif t33 then
                some (Sum.inr (Sum.inr false))
              else
                some (Sum.inl (n_2, l_2, t7_1, t8_1, (w (t9_1 + 1))))) fun j_ =>
          bif !(decide ((List.getD t7 (Int.toNat t9) 0) < 0)) then
            bif !(decide (n_1 ≤ (List.getD t7 (Int.toNat t9) 0))) then
              bif (decide (0 < t9)) then
                bif (decide (0 ≤ (w (t9 - 1))) && decide ((w (t9 - 1)) < (l_1.length : Int))) then
                  j_ (n_1, l_1, t7, t8, t9, (decide ((List.getD t7 (Int.toNat t9) 0) ≤ (List.getD l_1 (Int.toNat (w (t9 - 1))) 0))))
                else none
              else
                j_ (n_1, l_1, t7, t8, t9, false)
            else
              j_ (n_1, l_1, t7, t8, t9, true)
          else
            j_ (n_1, l_1, t7, t8, t9, true)
        else none
      else
        some (Sum.inr (Sum.inl ()))) (n, l, l, (l.length : Int), 0)).bind fun
  | Sum.inl _ =>
    some true
  | Sum.inr t4 =>
    some t4
def sg51 : Sig := ⟨[(y2, .sh), (y25, .bw)], [(y4, .sh)]⟩
def plan51 : Plan := (.seq (.reg [] []) (.seq (.seq (.reg [] []) (.block (.loop [(0, .v y2 .sh), (1, .v y25 .bw), (7, .v y25 .bw), (8, .v y2 .sh), (9, .v y2 .sh)] [(.brk 0, []), (.ret, [(4, .v y4 .sh)])] (.seq (.reg [] []) (.seq (.cond .nil .nil) (.seq (.block (.seq (.reg [] []) (.join (.reg [] []) [(0, .v y2 .sh), (1, .v y25 .bw), (7, .v y25 .bw), (8, .v y2 .sh), (9, .v y2 .sh), (33, .v y4 .sh)] (.cond (.seq (.reg [] []) .nil) .nil)))) (.reg [] []))))))) (.seq (.reg [] []) .nil)))
theorem ev51 (xs : Vals (ptys sg51.ps)) : evF (P := Tryz.prog) tab [] sg51 Tryz.f51.results.toList (code Tryz.f51) plan51 xs = d51 xs.1 xs.2.1 := by kernel_rfl
theorem sim51 : Sim Tryz.prog 51 sg51 d51 := sim_ev mixd tabOK Tryz.func51 (code_of rfl) Tryz.call51 (Nat.le_of_ble_eq_true (by kernel_rfl)) (by kernel_rfl) plan51 _ fun xs y h => (ev51 xs).trans h
noncomputable def E51 : FnE Tryz.prog := ⟨51, sg51, d51, sim51⟩

/-- slices.Index[[]int,int] -/
noncomputable def d50 (s : List Int) (v : Int) : Option Int :=
  (whileO (β := Unit ⊕ Int) (fun ((s_1, v_1, t7, t8) : (List Int) × Int × Int × Int) =>
      bif (decide (t8 < t7)) then
        bif (decide (0 ≤ t8) && decide (t8 < (s_1.length : Int))) then
          bif (decide (v_1 = (List.getD s_1 (Int.toNat t8) 0))) then
            some (Sum.inr (Sum.inr t8))
          else
            some (Sum.inl (s_1, v_1, t7, (w (t8 + 1))))
        else none
      else
        some (Sum.inr (Sum.inl ()))) (s, v, (s.length : Int), 0)).bind fun
  | Sum.inl _ =>
    some (-1)
  | Sum.inr t4 =>
    some t4
def sg50 : Sig := ⟨[(y25, .bw), (y2, .sh)], [(y2, .sh)]⟩
def plan50 : Plan := (.seq (.reg [] []) (.seq (.seq (.reg [] []) (.block (.loop [(0, .v y25 .bw), (1, .v y2 .sh), (7, .v y2 .sh), (8, .v y2 .sh)] [(.brk 0, []), (.ret, [(4, .v y2 .sh)])] (.seq (.reg [] []) (.seq (.cond .nil .nil) (.seq (.block (.seq (.reg [] []) (.seq (.reg [] []) (.cond (.seq (.reg [] []) .nil) .nil)))) (.reg [] []))))))) (.seq (.reg [] []) .nil)))
theorem ev50 (xs : Vals (ptys sg50.ps)) : evF (P := Tryz.prog) tab [] sg50 Tryz.f50.results.toList (code Tryz.f50) plan50 xs = d50 xs.1 xs.2.1 := by kernel_rfl
theorem sim50 : Sim Tryz.prog 50 sg50 d50 := sim_ev mixd tabOK Tryz.func50 (code_of rfl) Tryz.call50 (Nat.le_of_ble_eq_true (by kernel_rfl)) (by kernel_rfl) plan50 _ fun xs y h => (ev50 xs).trans h
noncomputable def E50 : FnE Tryz.prog := ⟨50, sg50, d50, sim50⟩

/-- slices.Contains[[]int,int] -/
noncomputable def d30 (s : List Int) (v : Int) : Option Bool :=
  (d50 s v).bind fun r =>
  some (decide (0 ≤ r))
def sg30 : Sig := ⟨[(y25, .bw), (y2, .sh)], [(y4, .sh)]⟩
def plan30 : Plan := (.seq (.reg [] []) (.seq (.reg [] []) .nil))
theorem ev30 (xs : Vals (ptys sg30.ps)) : evF (P := Tryz.prog) tab [.fn E50] sg30 Tryz.f30.results.toList (code Tryz.f30) plan30 xs = d30 xs.1 xs.2.1 := by kernel_rfl
theorem sim30 : Sim Tryz.prog 30 sg30 d30 := sim_ev mixd tabOK Tryz.func30 (code_of rfl) Tryz.call30 (Nat.le_of_ble_eq_true (by kernel_rfl)) (by kernel_rfl) plan30 _ fun xs y h => (ev30 xs).trans h
noncomputable def E30 : FnE Tryz.prog := ⟨30, sg30, d30, sim30⟩

/-- election/assertion.Valid -/
noncomputable def d31 (p0 : Int) (p1 : (Int × (Int × (Int × (List Int × Int))))) : Option Bool :=
  letJ (fun ((t0, t3, t32) : Int × (Int × (Int × (Int × (List Int × Int)))) × Bool) =>
      bif t32 then
        some false
      else
        bif (decide (t3.1 = 1)) then
          bif !(decide (t3.2.1 = t3.2.2.1)) then
            bif (decide ((t3.2.2.2.1.length : Int) = 0)) then
              some (decide (t3.2.2.2.2 = 0))
            else
              some false
          else
            some false
        else
          bif (decide (t3.1 = 2)) then
            bif !(decide (t3.2.1 = t3.2.2.1)) then
              bif (decide (t3.2.2.2.2 = 0)) then
                (d51 t0 t3.2.2.2.1).bind fun r =>
                bif r then
                  (d30 t3.2.2.2.1 t3.2.1).bind fun r_1 =>
                  bif r_1 then
                    (d30 t3.2.2.2.1 t3.2.2.1).bind fun r_2 =>
                    some r_2
                  else
                    some false
                else
                  some false
              else
                some false
            else
              some false
          else
            bif (decide (t3.1 = 3)) then
              bif (decide (t3.2.2.1 = 0)) then
                bif (decide ((t3.2.2.2.1.length : Int) = 0)) then
                  bif (decide (2 ≤ t3.2.2.2.2)) then
                    some (decide (t3.2.2.2.2 ≤ 6))
                  else
                    some false
                else
                  some false
              else
                some false
            else
              some false) fun j_ =>
  bif !(decide (p0 < 1)) then
    bif !(decide (7 < p0)) then
      bif !(decide (p1.2.1 < 0)) then
        bif !(decide (p0 ≤ p1.2.1)) then
          bif !(decide (p1.2.2.1 < 0)) then
            j_ (p0, p1, (decide (p0 ≤ p1.2.2.1)))
          else
            j_ (p0, p1, true)
        else
          j_ (p0, p1, true)
      else
        j_ (p0, p1, true)
    else
      j_ (p0, p1, true)
  else
    j_ (p0, p1, true)
def sg31 : Sig := ⟨[(y2, .sh), (y45, .bw)], [(y4, .sh)]⟩
def plan31 : Plan := (.seq (.reg [] []) (.seq (.join (.reg [] []) [(0, .v y2 .sh), (3, .v (.ptr y45) (.own 0 .bw)), (32, .v y4 .sh)] (.cond (.seq (.reg [] []) .nil) .nil)) (.seq (.seq (.reg [] []) (.block (.seq (.reg [] []) (.cond (.seq (.reg [] []) .nil) (.seq (.reg [] []) (.cond (.seq (.reg [] []) .nil) (.seq (.reg [] []) (.cond (.seq (.reg [] []) .nil) .nil)))))))) (.seq (.reg [] []) .nil))))
theorem ev31 (xs : Vals (ptys sg31.ps)) : evF (P := Tryz.prog) tab [.fn E51, .fn E30] sg31 Tryz.f31.results.toList (code Tryz.f31) plan31 xs = d31 xs.1 xs.2.1 := by kernel_rfl
theorem sim31 : Sim Tryz.prog 31 sg31 d31 := sim_ev mixd tabOK Tryz.func31 (code_of rfl) Tryz.call31 (Nat.le_of_ble_eq_true (by kernel_rfl)) (by kernel_rfl) plan31 _ fun xs y h => (ev31 xs).trans h
noncomputable def E31 : FnE Tryz.prog := ⟨31, sg31, d31, sim31⟩

/-- election/assertion.isTail -/
noncomputable def d73 (n : Int) (tail : List Int) : Option Bool :=
  (whileO (β := (List Int) ⊕ Bool) (fun ((n_1, tail_1, t7, t8, t9) : Int × (List Int) × (List Int) × Int × Int) =>
      bif (decide (t9 < t8)) then
        bif (decide (0 ≤ t9) && decide (t9 < (t7.length : Int))) then
          letJ (fun ((n_2, tail_2, t7_1, t8_1, t9_1, t27) : Int × (List Int) × (List Int) × Int × Int × Bool) =>
              bif t27 then
                some (Sum.inr (Sum.inr false))
              else
                some (Sum.inl (n_2, tail_2, t7_1, t8_1, (w (t9_1 + 1))))) fun j_ =>
          bif !(decide ((List.getD t7 (Int.toNat t9) 0) < 0)) then
            bif !(decide (n_1 ≤ (List.getD t7 (Int.toNat t9) 0))) then
              bif (cutOK 0 t9 tail_1.length) then
                (d30 (List.drop 0 (List.take (Int.toNat t9) tail_1)) (List.getD t7 (Int.toNat t9) 0)).bind fun r =>
                j_ (n_1, tail_1, t7, t8, t9, r)
              else none
            else
              j_ (n_1, tail_1, t7, t8, t9, true)
          else
            j_ (n_1, tail_1, t7, t8, t9, true)
        else none
      else
        some (Sum.inr (Sum.inl tail_1))) (n, tail, tail, (tail.length : Int), 0)).bind fun
  | Sum.inl tail_3 =>
    some (decide (0 < (tail_3.length : Int)))
  | Sum.inr t4 =>
    some t4
def sg73 : Sig := ⟨[(y2, .sh), (y25, .bw)], [(y4, .sh)]⟩
def plan73 : Plan := (.seq (.reg [] []) (.seq (.seq (.reg [] []) (.block (.loop [(0, .v y2 .sh), (1, .v y25 .bw), (7, .v y25 .bw), (8, .v y2 .sh), (9, .v y2 .sh)] [(.brk 0, [(1, .v y25 .bw)]), (.ret, [(4, .v y4 .sh)])] (.seq (.reg [] []) (.seq (.cond .nil .nil) (.seq (.block (.seq (.reg [] []) (.join (.reg [] []) [(0, .v y2 .sh), (1, .v y25 .bw), (7, .v y25 .bw), (8, .v y2 .sh), (9, .v y2 .sh), (27, .v y4 .sh)] (.cond (.seq (.reg [] []) .nil) .nil)))) (.reg [] []))))))) (.seq (.reg [] []) .nil)))
theorem ev73 (xs : Vals (ptys sg73.ps)) : evF (P := Tryz.prog) tab [.fn E30] sg73 Tryz.f73.results.toList (code Tryz.f73) plan73 xs = d73 xs.1 xs.2.1 := by kernel_rfl
theorem sim73 : Sim Tryz.prog 73 sg73 d73 := sim_ev mixd tabOK Tryz.func73 (code_of rfl) Tryz.call73 (Nat.le_of_ble_eq_true (by kernel_rfl)) (by kernel_rfl) plan73 _ fun xs y h => (ev73 xs).trans h
noncomputable def E73 : FnE Tryz.prog := ⟨73, sg73, d73, sim73⟩

/-- slices.Equal[[]int,int] -/
noncomputable def d74 (s1 : List Int) (s2 : List Int) : Option Bool :=
  bif !(decide ((s1.length : Int) = (s2.length : Int))) then
    some false
  else
    (whileO (β := Unit ⊕ Bool) (fun ((s1_1, s2_1, t12, t13) : (List Int) × (List Int) × Int × Int) =>
        bif (decide (t13 < t12)) then
          bif (decide (0 ≤ t13) && decide (t13 < (s1_1.length : Int))) then
            bif (decide (0 ≤ t13) && decide (t13 < (s2_1.length : Int))) then
              bif !(decide ((List.getD s1_1 (Int.toNat t13) 0) = (List.getD s2_1 (Int.toNat t13) 0))) then
                some (Sum.inr (Sum.inr false))
              else
                some (Sum.inl (s1_1, s2_1, t12, (w (t13 + 1))))
            else none
          else none
        else
          some (Sum.inr (Sum.inl ()))) (s1, s2, (s1.length : Int), 0)).bind fun
    | Sum.inl _ =>
      some true
    | Sum.inr t4 =>
      some t4
def sg74 : Sig := ⟨[(y25, .bw), (y25, .bw)], [(y4, .sh)]⟩
def plan74 : Plan := (.seq (.reg [] []) (.seq (.seq (.reg [] []) (.cond (.seq (.reg [] []) .nil) .nil)) (.seq (.seq (.reg [] []) (.block (.loop [(0, .v y25 .bw), (1, .v y25 .bw), (12, .v y2 .sh), (13, .v y2 .sh)] [(.brk 0, []), (.ret, [(4, .v y4 .sh)])] (.seq (.reg [] []) (.seq (.cond .nil .nil) (.seq (.block (.seq (.reg [] []) (.seq (.reg [] []) (.cond (.seq (.reg [] []) .nil) .nil)))) (.reg [] []))))))) (.seq (.reg [] []) .nil))))
theorem ev74 (xs : Vals (ptys sg74.ps)) : evF (P := Tryz.prog) tab [] sg74 Tryz.f74.results.toList (code Tryz.f74) plan74 xs = d74 xs.1 xs.2.1 := by kernel_rfl
theorem sim74 : Sim Tryz.prog 74 sg74 d74 := sim_ev mixd tabOK Tryz.func74 (code_of rfl) Tryz.call74 (Nat.le_of_ble_eq_true (by kernel_rfl)) (by kernel_rfl) plan74 _ fun xs y h => (ev74 xs).trans h
noncomputable def E74 : FnE Tryz.prog := ⟨74, sg74, d74, sim74⟩

/-- election/assertion.Contradicts -/
noncomputable def d61 (p0 : Int) (p1 : (Int × (Int × (Int × (List Int × Int))))) (p2 : List Int) : Option Bool :=
  letJ (fun ((t2, t4, t18) : (List Int) × (Int × (Int × (Int × (List Int × Int)))) × Bool) =>
      bif t18 then
        some false
      else
        bif (decide (t4.1 = 1)) then
          (d50 t2 t4.2.2.1).bind fun r_2 =>
          bif (decide (0 ≤ r_2)) then
            bif (cutOK r_2 (t2.length : Int) t2.length) then
              (d30 (List.drop (Int.toNat r_2) (List.take (Int.toNat (t2.length : Int)) t2)) t4.2.1).bind fun r_3 =>
              some (!r_3)
            else none
          else
            some false
        else
          bif (decide (t4.1 = 2)) then
            bif (decide (0 ≤ (w ((t2.length : Int) - (t4.2.2.2.1.length : Int))))) then
              bif (decide (0 ≤ (w ((t2.length : Int) - (t4.2.2.2.1.length : Int)))) && decide ((w ((t2.length : Int) - (t4.2.2.2.1.length : Int))) < (t2.length : Int))) then
                bif (decide ((List.getD t2 (Int.toNat (w ((t2.length : Int) - (t4.2.2.2.1.length : Int)))) 0) = t4.2.1)) then
                  bif (cutOK (w ((t2.length : Int) - (t4.2.2.2.1.length : Int))) (t2.length : Int) t2.length) then
                    (bif decide (((List.drop (Int.toNat (w ((t2.length : Int) - (t4.2.2.2.1.length : Int)))) (List.take (Int.toNat (t2.length : Int)) t2)).length : Int) ≤ LIM) then some () else none).bind fun u =>
                    (d74 (sortI (List.drop (Int.toNat (w ((t2.length : Int) - (t4.2.2.2.1.length : Int)))) (List.take (Int.toNat (t2.length : Int)) t2))) t4.2.2.2.1).bind fun r_4 =>
                    some r_4
                  else none
                else
                  some false
              else none
            else
              some false
          else
            some false) fun j_ =>
  (d31 p0 p1).bind fun r =>
  bif !(!r) then
    (d73 p0 p2).bind fun r_1 =>
    j_ (p2, p1, !r_1)
  else
    j_ (p2, p1, true)
def sg61 : Sig := ⟨[(y2, .sh), (y45, .bw), (y25, .bw)], [(y4, .sh)]⟩
def plan61 : Plan := (.seq (.reg [] []) (.seq (.join (.reg [] []) [(2, .v y25 .bw), (4, .v (.ptr y45) (.own 0 .bw)), (18, .v y4 .sh)] (.cond (.seq (.reg [] []) .nil) .nil)) (.seq (.seq (.reg [] []) (.block (.seq (.reg [] []) (.cond (.seq (.reg [] []) (.seq (.reg [] []) .nil)) (.seq (.reg [] []) (.cond (.seq (.reg [] []) (.seq (.reg [] []) .nil)) .nil)))))) (.seq (.reg [] []) .nil))))
theorem ev61 (xs : Vals (ptys sg61.ps)) : evF (P := Tryz.prog) tab [.fn E31, .fn E73, .fn E50, .fn E30, .sq sqE, .fn E74] sg61 Tryz.f61.results.toList (code Tryz.f61) plan61 xs = d61 xs.1 xs.2.1 xs.2.2.1 := by kernel_rfl
theorem sim61 : Sim Tryz.prog 61 sg61 d61 := sim_ev mixd tabOK Tryz.func61 (code_of rfl) Tryz.call61 (Nat.le_of_ble_eq_true (by kernel_rfl)) (by kernel_rfl) plan61 _ fun xs y h => (ev61 xs).trans h
noncomputable def E61 : FnE Tryz.prog := ⟨61, sg61, d61, sim61⟩

/-- election/suffice.contradicted$1 -/
noncomputable def d60 (a : (Int × (Int × (Int × (List Int × Int))))) (p1 : Int) (p2 : List Int) : Option Bool :=
  (d61 p1 a p2).bind fun r =>
  some r
def sg60 : Sig := ⟨[(y45, .bw), ((.ptr y2), .bw), ((.ptr y25), .bw)], [(y4, .sh)]⟩
def plan60 : Plan := (.seq (.reg [] []) (.seq (.reg [] []) .nil))
theorem ev60 (xs : Vals (ptys sg60.ps)) : evF (P := Tryz.prog) tab [.fn E61] sg60 Tryz.f60.results.toList (code Tryz.f60) plan60 xs = d60 xs.1 xs.2.1 xs.2.2.1 := by kernel_rfl
theorem sim60 : Sim Tryz.prog 60 sg60 d60 := sim_ev mixd tabOK Tryz.func60 (code_of rfl) Tryz.call60 (Nat.le_of_ble_eq_true (by kernel_rfl)) (by kernel_rfl) plan60 _ fun xs y h => (ev60 xs).trans h
noncomputable def E60 : FnE Tryz.prog := ⟨60, sg60, d60, sim60⟩

/-- slices.IndexFunc[[]election/api.Assertion,election/api.Assertion] -/
noncomputable def d52 (s : List (Int × (Int × (Int × (List Int × Int))))) (f : ((Int × (Int × (Int × (List Int × Int)))) → Option Bool)) : Option Int :=
  (whileO (β := Unit ⊕ Int) (fun ((s_1, f_1, t7, t8) : (List (Int × (Int × (Int × (List Int × Int))))) × ((Int × (Int × (Int × (List Int × Int)))) → Option Bool) × Int × Int) =>
      bif (decide (t8 < t7)) then
        bif (decide (0 ≤ t8) && decide (t8 < (s_1.length : Int))) then
          (f_1 (List.getD s_1 (Int.toNat t8) (0, 0, 0, [], 0))).bind fun r =>
          bif r then
            some (Sum.inr (Sum.inr t8))
          else
            some (Sum.inl (s_1, f_1, t7, (w (t8 + 1))))
        else none
      else
        some (Sum.inr (Sum.inl ()))) (s, f, (s.length : Int), 0)).bind fun
  | Sum.inl _ =>
    some (-1)
  | Sum.inr t4 =>
    some t4
def sg52 : Sig := ⟨[(y26, .bw), (y64, .bw)], [(y2, .sh)]⟩
def plan52 : Plan := (.seq (.reg [] []) (.seq (.seq (.reg [] []) (.block (.loop [(0, .v y26 .bw), (1, .v y64 .bw), (7, .v y2 .sh), (8, .v y2 .sh)] [(.brk 0, []), (.ret, [(4, .v y2 .sh)])] (.seq (.reg [] []) (.seq (.cond .nil .nil) (.seq (.block (.seq (.reg [] []) (.seq (.reg [] []) (.cond (.seq (.reg [] []) .nil) .nil)))) (.reg [] []))))))) (.seq (.reg [] []) .nil)))
theorem ev52 (xs : Vals (ptys sg52.ps)) : evF (P := Tryz.prog) tab [] sg52 Tryz.f52.results.toList (code Tryz.f52) plan52 xs = d52 xs.1 xs.2.1 := by kernel_rfl
theorem sim52 : Sim Tryz.prog 52 sg52 d52 := sim_ev mixd tabOK Tryz.func52 (code_of rfl) Tryz.call52 (Nat.le_of_ble_eq_true (by kernel_rfl)) (by kernel_rfl) plan52 _ fun xs y h => (ev52 xs).trans h
noncomputable def E52 : FnE Tryz.prog := ⟨52, sg52, d52, sim52⟩

/-- slices.ContainsFunc[[]election/api.Assertion,election/api.Assertion] -/
noncomputable def d32 (s : List (Int × (Int × (Int × (List Int × Int))))) (f : ((Int × (Int × (Int × (List Int × Int)))) → Option Bool)) : Option Bool :=
  (d52 s f).bind fun r =>
  some (decide (0 ≤ r))
def sg32 : Sig := ⟨[(y26, .bw), (y64, .bw)], [(y4, .sh)]⟩
def plan32 : Plan := (.seq (.reg [] []) (.seq (.reg [] []) .nil))
theorem ev32 (xs : Vals (ptys sg32.ps)) : evF (P := Tryz.prog) tab [.fn E52] sg32 Tryz.f32.results.toList (code Tryz.f32) plan32 xs = d32 xs.1 xs.2.1 := by kernel_rfl
theorem sim32 : Sim Tryz.prog 32 sg32 d32 := sim_ev mixd tabOK Tryz.func32 (code_of rfl) Tryz.call32 (Nat.le_of_ble_eq_true (by kernel_rfl)) (by kernel_rfl) plan32 _ fun xs y h => (ev32 xs).trans h
noncomputable def E32 : FnE Tryz.prog := ⟨32, sg32, d32, sim32⟩

/-- election/suffice.contradicted -/
noncomputable def d46 (n : Int) (l : List (Int × (Int × (Int × (List Int × Int))))) (tail : List Int) : Option Bool :=
  (d32 l (fun a => d60 a n tail)).bind fun r =>
  some r
def sg46 : Sig := ⟨[(y2, .sh), (y26, .bw), (y25, .bw)], [(y4, .sh)]⟩
def plan46 : Plan := (.seq (.reg [] []) (.seq (.reg [] []) .nil))
theorem ev46 (xs : Vals (ptys sg46.ps)) : evF (P := Tryz.prog) tab [.fn E32, .fn E60] sg46 Tryz.f46.results.toList (code Tryz.f46) plan46 xs = d46 xs.1 xs.2.1 xs.2.2.1 := by kernel_rfl
theorem sim46 : Sim Tryz.prog 46 sg46 d46 := sim_ev mixd tabOK Tryz.func46 (code_of rfl) Tryz.call46 (Nat.le_of_ble_eq_true (by kernel_rfl)) (by kernel_rfl) plan46 _ fun xs y h => (ev46 xs).trans h
noncomputable def E46 : FnE Tryz.prog := ⟨46, sg46, d46, sim46⟩

/-- cmp.isNaN[int] -/
noncomputable def d62 (x : Int) : Option Bool :=
  some (!(decide (x = x)))
def sg62 : Sig := ⟨[(y2, .sh)], [(y4, .sh)]⟩
def plan62 : Plan := (.seq (.reg [] []) (.seq (.reg [] []) .nil))
theorem ev62 (xs : Vals (ptys sg62.ps)) : evF (P := Tryz.prog) tab [] sg62 Tryz.f62.results.toList (code Tryz.f62) plan62 xs = d62 xs.1 := by kernel_rfl
theorem sim62 : Sim Tryz.prog 62 sg62 d62 := sim_ev mixd tabOK Tryz.func62 (code_of rfl) Tryz.call62 (Nat.le_of_ble_eq_true (by kernel_rfl)) (by kernel_rfl) plan62 _ fun xs y h => (ev62 xs).trans h
noncomputable def E62 : FnE Tryz.prog := ⟨62, sg62, d62, sim62⟩

/-- cmp.Compare[int] -/
noncomputable def d47 (x : Int) (y : Int) : Option Int :=
  (d62 x).bind fun r =>
  (d62 y).bind fun r_1 =>
  bif r then
    bif r_1 then
      some 0
    else
      some (-1)
  else
    bif r_1 then
      some 1
    else
      bif (decide (x < y)) then
        some (-1)
      else
        bif (decide (y < x)) then
          some 1
        else
          some 0
def sg47 : Sig := ⟨[(y2, .sh), (y2, .sh)], [(y2, .sh)]⟩
def plan47 : Plan := (.seq (.reg [] []) (.seq (.reg [] []) (.seq (.reg [] []) (.seq (.seq (.reg [] []) (.cond (.seq (.seq (.reg [] []) (.cond (.seq (.reg [] []) .nil) .nil)) (.seq (.reg [] []) .nil)) .nil)) (.seq (.seq (.reg [] []) (.cond (.seq (.reg [] []) .nil) .nil)) (.seq (.seq (.reg [] []) (.cond (.seq (.reg [] []) .nil) .nil)) (.seq (.seq (.reg [] []) (.cond (.seq (.reg [] []) .nil) .nil)) (.seq (.reg [] []) .nil))))))))
theorem ev47 (xs : Vals (ptys sg47.ps)) : evF (P := Tryz.prog) tab [.fn E62] sg47 Tryz.f47.results.toList (code Tryz.f47) plan47 xs = d47 xs.1 xs.2.1 := by kernel_rfl
theorem sim47 : Sim Tryz.prog 47 sg47 d47 := sim_ev mixd tabOK Tryz.func47 (code_of rfl) Tryz.call47 (Nat.le_of_ble_eq_true (by kernel_rfl)) (by kernel_rfl) plan47 _ fun xs y h => (ev47 xs).trans h
noncomputable def E47 : FnE Tryz.prog := ⟨47, sg47, d47, sim47⟩

/-- slices.Compare[[]int,int] -/
noncomputable def d26 (s1 : List Int) (s2 : List Int) : Option Int :=
  (whileO (β := ((List Int) × (List Int)) ⊕ Int) (fun ((s1_1, s2_1, t9, t10, t11) : (List Int) × (List Int) × (List Int) × Int × Int) =>
      bif (decide (t11 < t10)) then
        bif (decide (0 ≤ t11) && decide (t11 < (t9.length : Int))) then
          bif (decide ((s2_1.length : Int) ≤ t11)) then
            some (Sum.inr (Sum.inr 1))
          else
            bif (decide (0 ≤ t11) && decide (t11 < (s2_1.length : Int))) then
              (d47 (List.getD t9 (Int.toNat t11) 0) (List.getD s2_1 (Int.toNat t11) 0)).bind fun r =>
              bif !(decide (r = 0)) then
                some (Sum.inr (Sum.inr r))
              else
                some (Sum.inl (s1_1, s2_1, t9, t10, (w (t11 + 1))))
            else none
        else none
      else
        some (Sum.inr (Sum.inl (s1_1, s2_1)))) (s1, s2, s1, (s1.length : Int), 0)).bind fun
  | Sum.inl (s1_2, s2_2) =>
    bif (decide ((s1_2.length : Int) < (s2_2.length : Int))) then
      some (-1)
    else
      some 0
  | Sum.inr t4 =>
    some t4
def sg26 : Sig := ⟨[(y25, .bw), (y25, .bw)], [(y2, .sh)]⟩
def plan26 : Plan := (.seq (.reg [] []) (.seq (.seq (.reg [] []) (.block (.loop [(0, .v y25 .bw), (1, .v y25 .bw), (9, .v y25 .bw), (10, .v y2 .sh), (11, .v y2 .sh)] [(.brk 0, [(0, .v y25 .bw), (1, .v y25 .bw)]), (.ret, [(4, .v y2 .sh)])] (.seq (.reg [] []) (.seq (.cond .nil .nil) (.seq (.block (.seq (.reg [] []) (.seq (.seq (.reg [] []) (.cond (.seq (.reg [] []) .nil) .nil)) (.seq (.reg [] []) (.seq (.reg [] []) (.seq (.reg [] []) (.cond (.seq (.reg [] []) .nil) .nil))))))) (.reg [] []))))))) (.seq (.seq (.reg [] []) (.cond (.seq (.reg [] []) .nil) .nil)) (.seq (.reg [] []) .nil))))
theorem ev26 (xs : Vals (ptys sg26.ps)) : evF (P := Tryz.prog) tab [.fn E47] sg26 Tryz.f26.results.toList (code Tryz.f26) plan26 xs = d26 xs.1 xs.2.1 := by kernel_rfl
theorem sim26 : Sim Tryz.prog 26 sg26 d26 := sim_ev mixd tabOK Tryz.func26 (code_of rfl) Tryz.call26 (Nat.le_of_ble_eq_true (by kernel_rfl)) (by kernel_rfl) plan26 _ fun xs y h => (ev26 xs).trans h
noncomputable def E26 : FnE Tryz.prog := ⟨26, sg26, d26, sim26⟩

/-- cmp.Or[int] -/
noncomputable def d53 (vals : List Int) : Option Int :=
  (whileO (β := Int ⊕ Int) (fun ((zero, t6, t7, t8) : Int × (List Int) × Int × Int) =>
      bif (decide (t8 < t7)) then
        bif (decide (0 ≤ t8) && decide (t8 < (t6.length : Int))) then
          bif !(decide ((List.getD t6 (Int.toNat t8) 0) = zero)) then
            some (Sum.inr (Sum.inr (List.getD t6 (Int.toNat t8) 0)))
          else
            some (Sum.inl (zero, t6, t7, (w (t8 + 1))))
        else none
      else
        some (Sum.inr (Sum.inl zero))) (0, vals, (vals.length : Int), 0)).bind fun
  | Sum.inl zero_1 =>
    some zero_1
  | Sum.inr t2 =>
    some t2
def sg53 : Sig := ⟨[(y25, .bw)], [(y2, .sh)]⟩
def plan53 : Plan := (.seq (.reg [] []) (.seq (.reg [] []) (.seq (.seq (.reg [] []) (.block (.loop [(3, .v y2 .sh), (6, .v y25 .bw), (7, .v y2 .sh), (8, .v y2 .sh)] [(.brk 0, [(3, .v y2 .sh)]), (.ret, [(2, .v y2 .sh)])] (.seq (.reg [] []) (.seq (.cond .nil .nil) (.seq (.block (.seq (.reg [] []) (.seq (.reg [] []) (.cond (.seq (.reg [] []) .nil) .nil)))) (.reg [] []))))))) (.seq (.reg [] []) .nil))))
theorem ev53 (xs : Vals (ptys sg53.ps)) : evF (P := Tryz.prog) tab [] sg53 Tryz.f53.results.toList (code Tryz.f53) plan53 xs = d53 xs.1 := by kernel_rfl
theorem sim53 : Sim Tryz.prog 53 sg53 d53 := sim_ev mixd tabOK Tryz.func53 (code_of rfl) Tryz.call53 (Nat.le_of_ble_eq_true (by kernel_rfl)) (by kernel_rfl) plan53 _ fun xs y h => (ev53 xs).trans h
noncomputable def E53 : FnE Tryz.prog := ⟨53, sg53, d53, sim53⟩

/-- election/assertion.Compare -/
noncomputable def d34 (a : (Int × (Int × (Int × (List Int × Int))))) (b : (Int × (Int × (Int × (List Int × Int))))) : Option Int :=
  (d47 a.1 b.1).bind fun r =>
  (d47 a.2.1 b.2.1).bind fun r_1 =>
  (d47 a.2.2.1 b.2.2.1).bind fun r_2 =>
  (d47 (a.2.2.2.1.length : Int) (b.2.2.2.1.length : Int)).bind fun r_3 =>
  (d26 a.2.2.2.1 b.2.2.2.1).bind fun r_4 =>
  (d47 a.2.2.2.2 b.2.2.2.2).bind fun r_5 =>
  (d53 [r, r_1, r_2, r_3, r_4, r_5]).bind fun r_6 =>
  some r_6
def sg34 : Sig := ⟨[(y45, .bw), (y45, .bw)], [(y2, .sh)]⟩
def plan34 : Plan := (.seq (.reg [] []) (.seq (.reg [] []) .nil))
theorem ev34 (xs : Vals (ptys sg34.ps)) : evF (P := Tryz.prog) tab [.fn E47, .fn E26, .fn E53] sg34 Tryz.f34.results.toList (code Tryz.f34) plan34 xs = d34 xs.1 xs.2.1 := by kernel_rfl
theorem sim34 : Sim Tryz.prog 34 sg34 d34 := sim_ev mixd tabOK Tryz.func34 (code_of rfl) Tryz.call34 (Nat.le_of_ble_eq_true (by kernel_rfl)) (by kernel_rfl) plan34 _ fun xs y h => (ev34 xs).trans h
noncomputable def E34 : FnE Tryz.prog := ⟨34, sg34, d34, sim34⟩

/-- election/suffice.Check$1 -/
noncomputable def d33 (a : (Int × (Int × (Int × (List Int × Int))))) (p1 : (Int × (Int × (Int × (List Int × Int))))) : Option Bool :=
  (d34 a p1).bind fun r =>
  some (decide (r = 0))
def sg33 : Sig := ⟨[(y45, .bw), ((.ptr y45), .bw)], [(y4, .sh)]⟩
def plan33 : Plan := (.seq (.reg [] []) (.seq (.reg [] []) .nil))
theorem ev33 (xs : Vals (ptys sg33.ps)) : evF (P := Tryz.prog) tab [.fn E34] sg33 Tryz.f33.results.toList (code Tryz.f33) plan33 xs = d33 xs.1 xs.2.1 := by kernel_rfl
theorem sim33 : Sim Tryz.prog 33 sg33 d33 := sim_ev mixd tabOK Tryz.func33 (code_of rfl) Tryz.call33 (Nat.le_of_ble_eq_true (by kernel_rfl)) (by kernel_rfl) plan33 _ fun xs y h => (ev33 xs).trans h
noncomputable def E33 : FnE Tryz.prog := ⟨33, sg33, d33, sim33⟩

/-- election/pile.isBallot -/
noncomputable def d79 (n : Int) (prefs : List Int) : Option Bool :=
  (whileO (β := Unit ⊕ Bool) (fun ((n_1, seen, t8, t9, t10) : Int × (List Bool) × (List Int) × Int × Int) =>
      bif (decide (t10 < t9)) then
        bif (decide (0 ≤ t10) && decide (t10 < (t8.length : Int))) then
          letJ (fun ((n_2, seen_1, p, t8_1, t9_1, t10_1, t25) : Int × (List Bool) × Int × (List Int) × Int × Int × Bool) =>
              bif t25 then
                some (Sum.inr (Sum.inr false))
              else
                bif (decide (0 ≤ p) && decide (p < 7)) then
                  some (Sum.inl (n_2, (List.set seen_1 (Int.toNat p) true), t8_1, t9_1, (w (t10_1 + 1))))
                else none) fun j_ =>
          bif !(decide ((List.getD t8 (Int.toNat t10) 0) < 0)) then
            bif !(decide (n_1 ≤ (List.getD t8 (Int.toNat t10) 0))) then
              bif (decide (0 ≤ (List.getD t8 (Int.toNat t10) 0)) && decide ((List.getD t8 (Int.toNat t10) 0) < 7)) then
                j_ (n_1, seen, (List.getD t8 (Int.toNat t10) 0), t8, t9, t10, (List.getD seen (Int.toNat (List.getD t8 (Int.toNat t10) 0)) false))
              else none
            else
              j_ (n_1, seen, (List.getD t8 (Int.toNat t10) 0), t8, t9, t10, true)
          else
            j_ (n_1, seen, (List.getD t8 (Int.toNat t10) 0), t8, t9, t10, true)
        else none
      else
        some (Sum.inr (Sum.inl ()))) (n, [false, false, false, false, false, false, false], prefs, (prefs.length : Int), 0)).bind fun
  | Sum.inl _ =>
    some true
  | Sum.inr t4 =>
    some t4
def sg79 : Sig := ⟨[(y2, .sh), (y25, .bw)], [(y4, .sh)]⟩
def plan79 : Plan := (.seq (.reg [] []) (.seq (.reg [] []) (.seq (.seq (.reg [] []) (.block (.loop [(0, .v y2 .sh), (5, .v (.ptr y109) (.own 0 .sh)), (8, .v y25 .bw), (9, .v y2 .sh), (10, .v y2 .sh)] [(.brk 0, []), (.ret, [(4, .v y4 .sh)])] (.seq (.reg [] []) (.seq (.cond .nil .nil) (.seq (.block (.seq (.reg [] []) (.seq (.join (.reg [] []) [(0, .v y2 .sh), (5, .v (.ptr y109) (.own 0 .sh)), (7, .v y2 .sh), (8, .v y25 .bw), (9, .v y2 .sh), (10, .v y2 .sh), (25, .v y4 .sh)] (.cond (.seq (.reg [] []) .nil) .nil)) (.reg [] [])))) (.reg [] []))))))) (.seq (.reg [] []) .nil))))
theorem ev79 (xs : Vals (ptys sg79.ps)) : evF (P := Tryz.prog) tab [] sg79 Tryz.f79.results.toList (code Tryz.f79) plan79 xs = d79 xs.1 xs.2.1 := by kernel_rfl
theorem sim79 : Sim Tryz.prog 79 sg79 d79 := sim_ev mixd tabOK Tryz.func79 (code_of rfl) Tryz.call79 (Nat.le_of_ble_eq_true (by kernel_rfl)) (by kernel_rfl) plan79 _ fun xs y h => (ev79 xs).trans h
noncomputable def E79 : FnE Tryz.prog := ⟨79, sg79, d79, sim79⟩

/-- election/pile.isPile -/
noncomputable def d64 (n : Int) (gs : List (List Int × Int)) : Option Bool :=
  (whileO (β := Unit ⊕ Bool) (fun ((n_1, gs_1, total, t8, t9, t10) : Int × (List (List Int × Int)) × Int × (List (List Int × Int)) × Int × Int) =>
      bif (decide (t10 < t9)) then
        bif (decide (0 ≤ t10) && decide (t10 < (t8.length : Int))) then
          letJ (fun ((n_2, gs_2, total_1, i, g, t8_1, t9_1, t10_1, t31) : Int × (List (List Int × Int)) × Int × Int × (List Int × Int) × (List (List Int × Int)) × Int × Int × Bool) =>
              bif t31 then
                some (Sum.inr (Sum.inr false))
              else
                letJ (fun ((n_3, gs_3, total_2, g_1, t8_2, t9_2, t10_2, t45) : Int × (List (List Int × Int)) × Int × (List Int × Int) × (List (List Int × Int)) × Int × Int × Bool) =>
                    bif t45 then
                      some (Sum.inr (Sum.inr false))
                    else
                      some (Sum.inl (n_3, gs_3, (w (total_2 + g_1.2)), t8_2, t9_2, (w (t10_2 + 1))))) fun j__1 =>
                bif (decide (0 < i)) then
                  bif (decide (0 ≤ (w (i - 1))) && decide ((w (i - 1)) < (gs_2.length : Int))) then
                    (d26 ((List.getD gs_2 (Int.toNat (w (i - 1))) ([], 0)).1) g.1).bind fun r_1 =>
                    j__1 (n_2, gs_2, total_1, g, t8_1, t9_1, t10_1, (decide (0 ≤ r_1)))
                  else none
                else
                  j__1 (n_2, gs_2, total_1, g, t8_1, t9_1, t10_1, false)) fun j_ =>
          bif !(decide ((List.getD t8 (Int.toNat t10) ([], 0)).2 < 1)) then
            bif !(decide ((w (100000 - total)) < (List.getD t8 (Int.toNat t10) ([], 0)).2)) then
              (d79 n_1 ((List.getD t8 (Int.toNat t10) ([], 0)).1)).bind fun r =>
              j_ (n_1, gs_1, total, t10, (List.getD t8 (Int.toNat t10) ([], 0)), t8, t9, t10, !r)
            else
              j_ (n_1, gs_1, total, t10, (List.getD t8 (Int.toNat t10) ([], 0)), t8, t9, t10, true)
          else
            j_ (n_1, gs_1, total, t10, (List.getD t8 (Int.toNat t10) ([], 0)), t8, t9, t10, true)
        else none
      else
        some (Sum.inr (Sum.inl ()))) (n, gs, 0, gs, (gs.length : Int), 0)).bind fun
  | Sum.inl _ =>
    some true
  | Sum.inr t4 =>
    some t4
def sg64 : Sig := ⟨[(y2, .sh), (y34, .bw)], [(y4, .sh)]⟩
def plan64 : Plan := (.seq (.reg [] []) (.seq (.reg [] []) (.seq (.seq (.reg [] []) (.block (.loop [(0, .v y2 .sh), (1, .v y34 .bw), (5, .v y2 .sh), (8, .v y34 .bw), (9, .v y2 .sh), (10, .v y2 .sh)] [(.brk 0, []), (.ret, [(4, .v y4 .sh)])] (.seq (.reg [] []) (.seq (.cond .nil .nil) (.seq (.block (.seq (.reg [] []) (.seq (.join (.reg [] []) [(0, .v y2 .sh), (1, .v y34 .bw), (5, .v y2 .sh), (6, .v y2 .sh), (7, .v (.ptr y89) (.own 0 .bw)), (8, .v y34 .bw), (9, .v y2 .sh), (10, .v y2 .sh), (31, .v y4 .sh)] (.cond (.seq (.reg [] []) .nil) .nil)) (.seq (.join (.reg [] []) [(0, .v y2 .sh), (1, .v y34 .bw), (5, .v y2 .sh), (7, .v (.ptr y89) (.own 0 .bw)), (8, .v y34 .bw), (9, .v y2 .sh), (10, .v y2 .sh), (45, .v y4 .sh)] (.cond (.seq (.reg [] []) .nil) .nil)) (.reg [] []))))) (.reg [] []))))))) (.seq (.reg [] []) .nil))))
theorem ev64 (xs : Vals (ptys sg64.ps)) : evF (P := Tryz.prog) tab [.fn E79, .fn E26] sg64 Tryz.f64.results.toList (code Tryz.f64) plan64 xs = d64 xs.1 xs.2.1 := by kernel_rfl
theorem sim64 : Sim Tryz.prog 64 sg64 d64 := sim_ev mixd tabOK Tryz.func64 (code_of rfl) Tryz.call64 (Nat.le_of_ble_eq_true (by kernel_rfl)) (by kernel_rfl) plan64 _ fun xs y h => (ev64 xs).trans h
noncomputable def E64 : FnE Tryz.prog := ⟨64, sg64, d64, sim64⟩

/-- election/pile.isPermutation -/
noncomputable def d65 (l : List Int) (n : Int) : Option Bool :=
  bif (decide ((l.length : Int) = n)) then
    (d79 n l).bind fun r =>
    some r
  else
    some false
def sg65 : Sig := ⟨[(y25, .bw), (y2, .sh)], [(y4, .sh)]⟩
def plan65 : Plan := (.seq (.reg [] []) (.seq (.reg [] []) .nil))
theorem ev65 (xs : Vals (ptys sg65.ps)) : evF (P := Tryz.prog) tab [.fn E79] sg65 Tryz.f65.results.toList (code Tryz.f65) plan65 xs = d65 xs.1 xs.2.1 := by kernel_rfl
theorem sim65 : Sim Tryz.prog 65 sg65 d65 := sim_ev mixd tabOK Tryz.func65 (code_of rfl) Tryz.call65 (Nat.le_of_ble_eq_true (by kernel_rfl)) (by kernel_rfl) plan65 _ fun xs y h => (ev65 xs).trans h
noncomputable def E65 : FnE Tryz.prog := ⟨65, sg65, d65, sim65⟩

/-- election/pile.Fit -/
noncomputable def d49 (p0 : Int) (p1 : (List Int × (List (List Int) × (Int × (Int × (Int × (Int × (Int × (Int × Int))))))))) (p2 : List (List Int × Int)) (p3 : List Int) : Option Int :=
  letJ (fun ((t0, t2, t3, t5, t9, t10) : Int × (List (List Int × Int)) × (List Int) × (List Int × (List (List Int) × (Int × (Int × (Int × (Int × (Int × (Int × Int)))))))) × Int × Bool) =>
      letJ (fun ((t0_1, t2_1, t3_1, t5_1, t9_1, t10_1, t27) : Int × (List (List Int × Int)) × (List Int) × (List Int × (List (List Int) × (Int × (Int × (Int × (Int × (Int × (Int × Int)))))))) × Int × Bool × Bool) =>
          bif t27 then
            some 5
          else
            letJ (fun ((t2_5, t3_5, t9_5, t40_3) : (List (List Int × Int)) × (List Int) × Int × Bool) =>
                bif t40_3 then
                  some 4
                else
                  (d64 t9_5 t2_5).bind fun r =>
                  bif !r then
                    some 8
                  else
                    (d65 t3_5 t9_5).bind fun r_1 =>
                    bif !r_1 then
                      some 13
                    else
                      some 0) fun j__5 =>
            letJ (fun ((t0_2, t2_2, t3_2, t5_2, t9_2, t10_2, t40) : Int × (List (List Int × Int)) × (List Int) × (List Int × (List (List Int) × (Int × (Int × (Int × (Int × (Int × (Int × Int)))))))) × Int × Bool × Bool) =>
                bif t40 then
                  j__5 (t2_2, t3_2, t9_2, t40)
                else
                  letJ (fun ((t0_3, t2_3, t3_3, t5_3, t9_3, t10_3, t40_1) : Int × (List (List Int × Int)) × (List Int) × (List Int × (List (List Int) × (Int × (Int × (Int × (Int × (Int × (Int × Int)))))))) × Int × Bool × Bool) =>
                      bif t40_1 then
                        j__5 (t2_3, t3_3, t9_3, t40_1)
                      else
                        letJ (fun ((t2_4, t3_4, t5_4, t9_4, t10_4, t40_2) : (List (List Int × Int)) × (List Int) × (List Int × (List (List Int) × (Int × (Int × (Int × (Int × (Int × (Int × Int)))))))) × Int × Bool × Bool) =>
                            bif t40_2 then
                              j__5 (t2_4, t3_4, t9_4, t40_2)
                            else
                              bif !t10_4 then
                                j__5 (t2_4, t3_4, t9_4, !t10_4)
                              else
                                bif !(decide (t5_4.2.2.2.2.2.2.1 < 1)) then
                                  j__5 (t2_4, t3_4, t9_4, (decide (3 < t5_4.2.2.2.2.2.2.1)))
                                else
                                  j__5 (t2_4, t3_4, t9_4, true)) fun j__4 =>
                        bif (decide (t0_3 = 1)) then
                          j__4 (t2_3, t3_3, t5_3, t9_3, t10_3, !(decide (t5_3.2.2.2.1 = 1)))
                        else
                          j__4 (t2_3, t3_3, t5_3, t9_3, t10_3, false)) fun j__3 =>
                  bif !(decide (t5_2.2.2.2.1 < 1)) then
                    j__3 (t0_2, t2_2, t3_2, t5_2, t9_2, t10_2, (decide (5 < t5_2.2.2.2.1)))
                  else
                    j__3 (t0_2, t2_2, t3_2, t5_2, t9_2, t10_2, true)) fun j__2 =>
            bif !(decide (t9_1 < 1)) then
              j__2 (t0_1, t2_1, t3_1, t5_1, t9_1, t10_1, (decide (7 < t9_1)))
            else
              j__2 (t0_1, t2_1, t3_1, t5_1, t9_1, t10_1, true)) fun j__1 =>
      bif !(decide (t0 < 1)) then
        bif !(decide (3 < t0)) then
          j__1 (t0, t2, t3, t5, t9, t10, !(decide (t5.2.2.1 = t0)))
        else
          j__1 (t0, t2, t3, t5, t9, t10, true)
      else
        j__1 (t0, t2, t3, t5, t9, t10, true)) fun j_ =>
  bif (decide (p0 = 2)) then
    bif (decide (1 ≤ p1.2.2.2.2.2.1)) then
      j_ (p0, p2, p3, p1, (p1.2.1.length : Int), (decide (p1.2.2.2.2.2.1 ≤ 6)))
    else
      j_ (p0, p2, p3, p1, (p1.2.1.length : Int), false)
  else
    j_ (p0, p2, p3, p1, (p1.2.1.length : Int), (decide (p1.2.2.2.2.2.1 = 0)))
def sg49 : Sig := ⟨[(y2, .sh), (y23, .bw), (y34, .bw), (y25, .bw)], [(y2, .sh)]⟩
def plan49 : Plan := (.seq (.reg [] []) (.seq (.reg [] []) (.seq (.reg [] []) (.join (.seq (.reg [] []) (.cond (.reg [] []) .nil)) [(0, .v y2 .sh), (2, .v y34 .bw), (3, .v y25 .bw), (5, .v (.ptr y23) (.own 0 .bw)), (9, .v y2 .sh), (10, .v y4 .sh)] (.seq (.block (.join (.reg [] []) [(0, .v y2 .sh), (2, .v y34 .bw), (3, .v y25 .bw), (5, .v (.ptr y23) (.own 0 .bw)), (9, .v y2 .sh), (10, .v y4 .sh), (27, .v y4 .sh)] (.cond (.seq (.reg [] []) .nil) (.join (.join (.reg [] []) [(0, .v y2 .sh), (2, .v y34 .bw), (3, .v y25 .bw), (5, .v (.ptr y23) (.own 0 .bw)), (9, .v y2 .sh), (10, .v y4 .sh), (40, .v y4 .sh)] (.cond .nil (.join (.reg [] []) [(0, .v y2 .sh), (2, .v y34 .bw), (3, .v y25 .bw), (5, .v (.ptr y23) (.own 0 .bw)), (9, .v y2 .sh), (10, .v y4 .sh), (40, .v y4 .sh)] (.cond .nil (.join (.reg [] []) [(2, .v y34 .bw), (3, .v y25 .bw), (5, .v (.ptr y23) (.own 0 .bw)), (9, .v y2 .sh), (10, .v y4 .sh), (40, .v y4 .sh)] (.cond .nil (.seq (.reg [] []) (.cond .nil (.reg [] []))))))))) [(2, .v y34 .bw), (3, .v y25 .bw), (9, .v y2 .sh), (40, .v y4 .sh)] (.cond (.seq (.reg [] []) .nil) (.seq (.reg [] []) (.cond (.seq (.reg [] []) .nil) (.seq (.reg [] []) (.cond (.seq (.reg [] []) .nil) .nil))))))))) (.seq (.reg [] []) .nil))))))
theorem ev49 (xs : Vals (ptys sg49.ps)) : evF (P := Tryz.prog) tab [.fn E64, .fn E65] sg49 Tryz.f49.results.toList (code Tryz.f49) plan49 xs = d49 xs.1 xs.2.1 xs.2.2.1 xs.2.2.2.1 := by kernel_rfl
theorem sim49 : Sim Tryz.prog 49 sg49 d49 := sim_ev mixd tabOK Tryz.func49 (code_of rfl) Tryz.call49 (Nat.le_of_ble_eq_true (by kernel_rfl)) (by kernel_rfl) plan49 _ fun xs y h => (ev49 xs).trans h
noncomputable def E49 : FnE Tryz.prog := ⟨49, sg49, d49, sim49⟩

/-- election/suffice.fits -/
noncomputable def d29 (c : (List Int × (List (List Int) × (Int × (Int × (Int × (Int × (Int × (Int × Int))))))))) : Option Bool :=
  (whileO (β := ((List Int × (List (List Int) × (Int × (Int × (Int × (Int × (Int × (Int × Int)))))))) × (List Int))) (fun ((c_1, lots, t8, t9) : (List Int × (List (List Int) × (Int × (Int × (Int × (Int × (Int × (Int × Int)))))))) × (List Int) × Int × Int) =>
      bif (decide (t9 < t8)) then
        bif (decide ((lots.length : Int) + (([t9] : List Int).length : Int) ≤ LIM)) then
          some (Sum.inl (c_1, (lots ++ [t9]), t8, (w (t9 + 1))))
        else none
      else
        some (Sum.inr (c_1, lots))) (c, [], (bif (decide (7 < (c.2.1.length : Int))) then 7 else (c.2.1.length : Int)), 0)).bind fun ((c_2, lots_1) : (List Int × (List (List Int) × (Int × (Int × (Int × (Int × (Int × (Int × Int)))))))) × (List Int)) =>
  (d49 c_2.2.2.1 c_2 [] lots_1).bind fun r =>
  some (decide (r = 0))
def sg29 : Sig := ⟨[(y23, .bw)], [(y4, .sh)]⟩
def plan29 : Plan := (.seq (.reg [] []) (.seq (.reg [] [{ fl := 2 }]) (.seq (.seq (.reg [] []) (.block (.loop [(1, .v (.ptr y23) (.own 0 .bw)), (3, .v y25 (.own 3 .sh)), (8, .v y2 .sh), (9, .v y2 .sh)] [(.brk 0, [(1, .v (.ptr y23) (.own 0 .bw)), (3, .v y25 (.own 3 .sh))])] (.seq (.reg [] []) (.seq (.cond .nil .nil) (.seq (.block (.seq (.reg [] []) (.reg [] []))) (.reg [] []))))))) (.seq (.reg [] []) .nil))))
theorem ev29 (xs : Vals (ptys sg29.ps)) : evF (P := Tryz.prog) tab [.fn E49] sg29 Tryz.f29.results.toList (code Tryz.f29) plan29 xs = d29 xs.1 := by kernel_rfl
theorem sim29 : Sim Tryz.prog 29 sg29 d29 := sim_ev mixd tabOK Tryz.func29 (code_of rfl) Tryz.call29 (Nat.le_of_ble_eq_true (by kernel_rfl)) (by kernel_rfl) plan29 _ fun xs y h => (ev29 xs).trans h
noncomputable def E29 : FnE Tryz.prog := ⟨29, sg29, d29, sim29⟩

end Go.Proofs.YthlgoakkgmabaaaGreat