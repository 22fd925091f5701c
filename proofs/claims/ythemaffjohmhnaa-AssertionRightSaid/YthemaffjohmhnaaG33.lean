/- More functions of the program, with their contracts. -/
import Derived.Test.YthemaffjohmhnaaG36
import Derived.Test.YthemaffjohmhnaaV
open Go Go.Proofs Go.X
namespace Go.Proofs.Ythemaffjohmhnaa
set_option linter.unusedVariables false
set_option maxRecDepth 100000
/-- election/electionmake.Short -/
noncomputable def d16 (gs : List (List Int × Int)) : Option Bool :=
  (whileO (β := (List (List Int × Int)) ⊕ Bool) (fun ((gs_1, i) : (List (List Int × Int)) × Int) =>
      bif (decide (i < (gs_1.length : Int))) then
        bif (decide (0 ≤ i) && decide (i < (gs_1.length : Int))) then
          bif (decide (12 < (((List.getD gs_1 (Int.toNat i) ([], 0)).1).length : Int))) then
            some (Sum.inr (Sum.inr false))
          else
            some (Sum.inl (gs_1, (w (i + 1))))
        else none
      else
        some (Sum.inr (Sum.inl gs_1))) (gs, 0)).bind fun
  | Sum.inl gs_2 =>
    some (decide ((gs_2.length : Int) ≤ 60))
  | Sum.inr t2 =>
    some t2
def sg16 : Sig := ⟨[(y22, .bw)], [(y4, .sh)]⟩
def plan16 : Plan := (.seq (.reg [] []) (.seq (.seq (.reg [] []) (.block (.loop [(0, .v y22 .bw), (3, .v y2 .sh)] [(.brk 0, [(0, .v y22 .bw)]), (.ret, [(2, .v y4 .sh)])] (.seq (.seq (.reg [] []) (.cond .nil .nil)) (.seq (.block (.seq (.reg [] []) (.cond (.seq (.reg [] []) .nil) .nil))) (.reg [] [])))))) (.seq (.reg [] []) .nil)))
theorem ev16 (xs : Vals (ptys sg16.ps)) : evF (P := Try.prog) tab [] sg16 Try.f16.results.toList (code Try.f16) plan16 xs = d16 xs.1 := by kernel_rfl
theorem sim16 : Sim Try.prog 16 sg16 d16 := sim_ev mixd tabOK Try.func16 (code_of rfl) Try.call16 (Nat.le_of_ble_eq_true (by kernel_rfl)) (by kernel_rfl) plan16 _ fun xs y h => (ev16 xs).trans h
noncomputable def E16 : FnE Try.prog := ⟨16, sg16, d16, sim16⟩

/-- election/assertion.isTail -/
noncomputable def d81 (n : Int) (tail : List Int) : Option Bool :=
  (whileO (β := (List Int) ⊕ Bool) (fun ((n_1, tail_1, t7, t8, t9) : Int × (List Int) × (List Int) × Int × Int) =>
      bif (decide (t9 < t8)) then
        bif (decide (0 ≤ t9) && decide (t9 < (t7.length : Int))) then
          letJ (fun ((n_2, tail_2, t7_1, t8_1, t9_1, t27) : Int × (List Int) × (List Int) × Int × Int × Bool) =>
              bif t27 then
                some (Sum.inr (Sum.inr false))
              else
                some (Sum.inl (n_2, tail_2, t7_1, t8_1, (w (t9_1 + 1))))) fun j_ =>
          bif !(decide ((List.getD t7 (Int.toNat t9) 0) < 0)) then
            bif !(decide (n_1 ≤ (List.getD t7 (Int.toNat t9) 0))) then
              bif (cutOK 0 t9 tail_1.length) then
                (d78 (List.drop 0 (List.take (Int.toNat t9) tail_1)) (List.getD t7 (Int.toNat t9) 0)).bind fun r =>
                j_ (n_1, tail_1, t7, t8, t9, r)
              else none
            else
              j_ (n_1, tail_1, t7, t8, t9, true)
          else
            j_ (n_1, tail_1, t7, t8, t9, true)
        else none
      else
        some (Sum.inr (Sum.inl tail_1))) (n, tail, tail, (tail.length : Int), 0)).bind fun
  | Sum.inl tail_3 =>
    some (decide (0 < (tail_3.length : Int)))
  | Sum.inr t4 =>
    some t4
def sg81 : Sig := ⟨[(y2, .sh), (y23, .bw)], [(y4, .sh)]⟩
def plan81 : Plan := (.seq (.reg [] []) (.seq (.seq (.reg [] []) (.block (.loop [(0, .v y2 .sh), (1, .v y23 .bw), (7, .v y23 .bw), (8, .v y2 .sh), (9, .v y2 .sh)] [(.brk 0, [(1, .v y23 .bw)]), (.ret, [(4, .v y4 .sh)])] (.seq (.reg [] []) (.seq (.cond .nil .nil) (.seq (.block (.seq (.reg [] []) (.join (.reg [] []) [(0, .v y2 .sh), (1, .v y23 .bw), (7, .v y23 .bw), (8, .v y2 .sh), (9, .v y2 .sh), (27, .v y4 .sh)] (.cond (.seq (.reg [] []) .nil) .nil)))) (.reg [] []))))))) (.seq (.reg [] []) .nil)))
theorem ev81 (xs : Vals (ptys sg81.ps)) : evF (P := Try.prog) tab [.fn E78] sg81 Try.f81.results.toList (code Try.f81) plan81 xs = d81 xs.1 xs.2.1 := by kernel_rfl
theorem sim81 : Sim Try.prog 81 sg81 d81 := sim_ev mixd tabOK Try.func81 (code_of rfl) Try.call81 (Nat.le_of_ble_eq_true (by kernel_rfl)) (by kernel_rfl) plan81 _ fun xs y h => (ev81 xs).trans h
noncomputable def E81 : FnE Try.prog := ⟨81, sg81, d81, sim81⟩

/-- slices.Equal[[]int,int] -/
noncomputable def d83 (s1 : List Int) (s2 : List Int) : Option Bool :=
  bif !(decide ((s1.length : Int) = (s2.length : Int))) then
    some false
  else
    (whileO (β := Unit ⊕ Bool) (fun ((s1_1, s2_1, t12, t13) : (List Int) × (List Int) × Int × Int) =>
        bif (decide (t13 < t12)) then
          bif (decide (0 ≤ t13) && decide (t13 < (s1_1.length : Int))) then
            bif (decide (0 ≤ t13) && decide (t13 < (s2_1.length : Int))) then
              bif !(decide ((List.getD s1_1 (Int.toNat t13) 0) = (List.getD s2_1 (Int.toNat t13) 0))) then
                some (Sum.inr (Sum.inr false))
              else
                some (Sum.inl (s1_1, s2_1, t12, (w (t13 + 1))))
            else none
          else none
        else
          some (Sum.inr (Sum.inl ()))) (s1, s2, (s1.length : Int), 0)).bind fun
    | Sum.inl _ =>
      some true
    | Sum.inr t4 =>
      some t4
def sg83 : Sig := ⟨[(y23, .bw), (y23, .bw)], [(y4, .sh)]⟩
def plan83 : Plan := (.seq (.reg [] []) (.seq (.seq (.reg [] []) (.cond (.seq (.reg [] []) .nil) .nil)) (.seq (.seq (.reg [] []) (.block (.loop [(0, .v y23 .bw), (1, .v y23 .bw), (12, .v y2 .sh), (13, .v y2 .sh)] [(.brk 0, []), (.ret, [(4, .v y4 .sh)])] (.seq (.reg [] []) (.seq (.cond .nil .nil) (.seq (.block (.seq (.reg [] []) (.seq (.reg [] []) (.cond (.seq (.reg [] []) .nil) .nil)))) (.reg [] []))))))) (.seq (.reg [] []) .nil))))
theorem ev83 (xs : Vals (ptys sg83.ps)) : evF (P := Try.prog) tab [] sg83 Try.f83.results.toList (code Try.f83) plan83 xs = d83 xs.1 xs.2.1 := by kernel_rfl
theorem sim83 : Sim Try.prog 83 sg83 d83 := sim_ev mixd tabOK Try.func83 (code_of rfl) Try.call83 (Nat.le_of_ble_eq_true (by kernel_rfl)) (by kernel_rfl) plan83 _ fun xs y h => (ev83 xs).trans h
noncomputable def E83 : FnE Try.prog := ⟨83, sg83, d83, sim83⟩

/-- election/assertion.Contradicts -/
noncomputable def d30 (p0 : Int) (p1 : (Int × (Int × (Int × (List Int × Int))))) (p2 : List Int) : Option Bool :=
  letJ (fun ((t2, t4, t18) : (List Int) × (Int × (Int × (Int × (List Int × Int)))) × Bool) =>
      bif t18 then
        some false
      else
        bif (decide (t4.1 = 1)) then
          (d82 t2 t4.2.2.1).bind fun r_2 =>
          bif (decide (0 ≤ r_2)) then
            bif (cutOK r_2 (t2.length : Int) t2.length) then
              (d78 (List.drop (Int.toNat r_2) (List.take (Int.toNat (t2.length : Int)) t2)) t4.2.1).bind fun r_3 =>
              some (!r_3)
            else none
          else
            some false
        else
          bif (decide (t4.1 = 2)) then
            bif (decide (0 ≤ (w ((t2.length : Int) - (t4.2.2.2.1.length : Int))))) then
              bif (decide (0 ≤ (w ((t2.length : Int) - (t4.2.2.2.1.length : Int)))) && decide ((w ((t2.length : Int) - (t4.2.2.2.1.length : Int))) < (t2.length : Int))) then
                bif (decide ((List.getD t2 (Int.toNat (w ((t2.length : Int) - (t4.2.2.2.1.length : Int)))) 0) = t4.2.1)) then
                  bif (cutOK (w ((t2.length : Int) - (t4.2.2.2.1.length : Int))) (t2.length : Int) t2.length) then
                    (bif decide (((List.drop (Int.toNat (w ((t2.length : Int) - (t4.2.2.2.1.length : Int)))) (List.take (Int.toNat (t2.length : Int)) t2)).length : Int) ≤ LIM) then some () else none).bind fun u =>
                    (d83 (sortI (List.drop (Int.toNat (w ((t2.length : Int) - (t4.2.2.2.1.length : Int)))) (List.take (Int.toNat (t2.length : Int)) t2))) t4.2.2.2.1).bind fun r_4 =>
                    some r_4
                  else none
                else
                  some false
              else none
            else
              some false
          else
            some false) fun j_ =>
  (d25 p0 p1).bind fun r =>
  bif !(!r) then
    (d81 p0 p2).bind fun r_1 =>
    j_ (p2, p1, !r_1)
  else
    j_ (p2, p1, true)
def sg30 : Sig := ⟨[(y2, .sh), (y24, .bw), (y23, .bw)], [(y4, .sh)]⟩
def plan30 : Plan := (.seq (.reg [] []) (.seq (.join (.reg [] []) [(2, .v y23 .bw), (4, .v (.ptr y24) (.own 0 .bw)), (18, .v y4 .sh)] (.cond (.seq (.reg [] []) .nil) .nil)) (.seq (.seq (.reg [] []) (.block (.seq (.reg [] []) (.cond (.seq (.reg [] []) (.seq (.reg [] []) .nil)) (.seq (.reg [] []) (.cond (.seq (.reg [] []) (.seq (.reg [] []) .nil)) .nil)))))) (.seq (.reg [] []) .nil))))
theorem ev30 (xs : Vals (ptys sg30.ps)) : evF (P := Try.prog) tab [.fn E25, .fn E81, .fn E82, .fn E78, .sq sqE, .fn E83] sg30 Try.f30.results.toList (code Try.f30) plan30 xs = d30 xs.1 xs.2.1 xs.2.2.1 := by kernel_rfl
theorem sim30 : Sim Try.prog 30 sg30 d30 := sim_ev mixd tabOK Try.func30 (code_of rfl) Try.call30 (Nat.le_of_ble_eq_true (by kernel_rfl)) (by kernel_rfl) plan30 _ fun xs y h => (ev30 xs).trans h
noncomputable def E30 : FnE Try.prog := ⟨30, sg30, d30, sim30⟩

/-- election/electionlaw33.Awake -/
noncomputable def d17 : Option Bool :=
  (d64 2 [[0, 1], [0, 1], [0, 1], [1, 0], [1, 0]]).bind fun r =>
  (d23 2 r.1 (1, 0, 1, [], 0)).bind fun r_1 =>
  bif (decide (r_1.1 = 3)) then
    bif (decide (r_1.2 = 2)) then
      (d28 2 r.1 (1, 0, 1, [], 0)).bind fun r_2 =>
      bif r_2 then
        (d27 2 r.1 (1, 0, 1, [], 0)).bind fun r_3 =>
        bif (decide (r_3 = 1)) then
          (d30 2 (1, 0, 1, [], 0) [1]).bind fun r_4 =>
          bif r_4 then
            (d30 2 (1, 0, 1, [], 0) [1, 0]).bind fun r_5 =>
            some (!r_5)
          else
            some false
        else
          some false
      else
        some false
    else
      some false
  else
    some false
def sg17 : Sig := ⟨[], [(y4, .sh)]⟩
def plan17 : Plan := (.seq (.reg [] []) (.seq (.reg [] [{}, {}, {}, {}, {}, { frz := [(7, []), (8, []), (9, []), (10, []), (11, [])] }, {}, { fl := 1 }]) (.seq (.reg [] []) (.seq (.reg [] [{}, {}, {}, { fl := 1 }]) (.seq (.reg [] []) .nil)))))
theorem ev17 (xs : Vals (ptys sg17.ps)) : evF (P := Try.prog) tab [.fn E64, .fn E23, .fn E28, .fn E27, .fn E30] sg17 Try.f17.results.toList (code Try.f17) plan17 xs = d17  := by kernel_rfl
theorem sim17 : Sim Try.prog 17 sg17 d17 := sim_ev mixd tabOK Try.func17 (code_of rfl) Try.call17 (Nat.le_of_ble_eq_true (by kernel_rfl)) (by kernel_rfl) plan17 _ fun xs y h => (ev17 xs).trans h
noncomputable def E17 : FnE Try.prog := ⟨17, sg17, d17, sim17⟩

/-- election/electionlaw31.Cut -/
noncomputable def d20 (l : List (List Int)) (n : Int) : Option (List (List Int)) :=
  (whileO (β := (List (List Int))) (fun ((l_1, n_1, out, i) : (List (List Int)) × Int × (List (List Int)) × Int) =>
      letJ (fun ((l_2, n_2, out_1, i_1, t15) : (List (List Int)) × Int × (List (List Int)) × Int × Bool) =>
          bif t15 then
            bif (decide (0 ≤ i_1) && decide (i_1 < (l_2.length : Int))) then
              bif (decide (0 ≤ i_1) && decide (i_1 < (l_2.length : Int))) then
                bif (cutOK 0 (bif (decide (8 < ((List.getD l_2 (Int.toNat i_1) []).length : Int))) then 8 else ((List.getD l_2 (Int.toNat i_1) []).length : Int)) (List.getD l_2 (Int.toNat i_1) []).length) then
                  bif (decide ((out_1.length : Int) + (([(List.drop 0 (List.take (Int.toNat (bif (decide (8 < ((List.getD l_2 (Int.toNat i_1) []).length : Int))) then 8 else ((List.getD l_2 (Int.toNat i_1) []).length : Int))) (List.getD l_2 (Int.toNat i_1) [])))] : List (List Int)).length : Int) ≤ LIM)) then
                    some (Sum.inl (l_2, n_2, (out_1 ++ [(List.drop 0 (List.take (Int.toNat (bif (decide (8 < ((List.getD l_2 (Int.toNat i_1) []).length : Int))) then 8 else ((List.getD l_2 (Int.toNat i_1) []).length : Int))) (List.getD l_2 (Int.toNat i_1) [])))]), (w (i_1 + 1))))
                  else none
                else none
              else none
            else none
          else
            some (Sum.inr out_1)) fun j_ =>
      bif (decide (i < (l_1.length : Int))) then
        j_ (l_1, n_1, out, i, (decide (i < n_1)))
      else
        j_ (l_1, n_1, out, i, false)) (l, n, [], 0)).bind fun (out_2 : List (List Int)) =>
  some out_2
def sg20 : Sig := ⟨[(y26, .sh), (y2, .sh)], [(y26, (.own 23 .sh))]⟩
def plan20 : Plan := (.seq (.reg [] []) (.seq (.reg [] [{ fl := 2 }]) (.seq (.seq (.reg [] []) (.block (.loop [(0, .v y26 .sh), (1, .v y2 .sh), (5, .v y26 (.own 23 .sh)), (6, .v y2 .sh)] [(.brk 0, [(5, .v y26 (.own 23 .sh))])] (.seq (.join (.reg [] []) [(0, .v y26 .sh), (1, .v y2 .sh), (5, .v y26 (.own 23 .sh)), (6, .v y2 .sh), (15, .v y4 .sh)] (.cond .nil .nil)) (.seq (.block (.reg [] [])) (.reg [] [])))))) (.seq (.reg [] []) .nil))))
theorem ev20 (xs : Vals (ptys sg20.ps)) : evF (P := Try.prog) tab [] sg20 Try.f20.results.toList (code Try.f20) plan20 xs = d20 xs.1 xs.2.1 := by kernel_rfl
theorem sim20 : Sim Try.prog 20 sg20 d20 := sim_ev mixd tabOK Try.func20 (code_of rfl) Try.call20 (Nat.le_of_ble_eq_true (by kernel_rfl)) (by kernel_rfl) plan20 _ fun xs y h => (ev20 xs).trans h
noncomputable def E20 : FnE Try.prog := ⟨20, sg20, d20, sim20⟩

/-- election/electionref24.Valid -/
noncomputable def d71 (p0 : Int) (p1 : List (List Int × Int)) : Option Bool :=
  letJ (fun ((t0, t1, t12) : Int × (List (List Int × Int)) × Bool) =>
      bif t12 then
        some false
      else
        (whileO (β := Unit ⊕ Bool) (fun ((t0_1, t1_1, t5, t6) : Int × (List (List Int × Int)) × Int × Int) =>
            bif (decide (t6 < (t1_1.length : Int))) then
              letJ (fun ((t0_2, t1_2, t5_1, t6_1, t62) : Int × (List (List Int × Int)) × Int × Int × Bool) =>
                  bif t62 then
                    some (Sum.inr (Sum.inr false))
                  else
                    bif (decide (0 ≤ t6_1) && decide (t6_1 < (t1_2.length : Int))) then
                      some (Sum.inl (t0_2, t1_2, (w (t5_1 - ((List.getD t1_2 (Int.toNat t6_1) ([], 0)).2))), (w (t6_1 + 1))))
                    else none) fun j__1 =>
              bif (decide (0 ≤ t6) && decide (t6 < (t1_1.length : Int))) then
                (d79 t0_1 ((List.getD t1_1 (Int.toNat t6) ([], 0)).1)).bind fun r =>
                bif !(!r) then
                  bif (decide (0 ≤ t6) && decide (t6 < (t1_1.length : Int))) then
                    bif !(decide ((List.getD t1_1 (Int.toNat t6) ([], 0)).2 < 1)) then
                      bif (decide (0 ≤ t6) && decide (t6 < (t1_1.length : Int))) then
                        bif !(decide (t5 < (List.getD t1_1 (Int.toNat t6) ([], 0)).2)) then
                          bif (decide (0 < t6)) then
                            bif (decide (0 ≤ (w (t6 - 1))) && decide ((w (t6 - 1)) < (t1_1.length : Int))) then
                              bif (decide (0 ≤ t6) && decide (t6 < (t1_1.length : Int))) then
                                (d93 ((List.getD t1_1 (Int.toNat (w (t6 - 1))) ([], 0)).1) ((List.getD t1_1 (Int.toNat t6) ([], 0)).1)).bind fun r_1 =>
                                j__1 (t0_1, t1_1, t5, t6, !r_1)
                              else none
                            else none
                          else
                            j__1 (t0_1, t1_1, t5, t6, false)
                        else
                          j__1 (t0_1, t1_1, t5, t6, true)
                      else none
                    else
                      j__1 (t0_1, t1_1, t5, t6, true)
                  else none
                else
                  j__1 (t0_1, t1_1, t5, t6, true)
              else none
            else
              some (Sum.inr (Sum.inl ()))) (t0, t1, 100000, 0)).bind fun
        | Sum.inl _ =>
          some true
        | Sum.inr t4 =>
          some t4) fun j_ =>
  bif !(decide (p0 < 1)) then
    j_ (p0, p1, (decide (7 < p0)))
  else
    j_ (p0, p1, true)
def sg71 : Sig := ⟨[(y2, .sh), (y22, .bw)], [(y4, .sh)]⟩
def plan71 : Plan := (.seq (.reg [] []) (.seq (.join (.reg [] []) [(0, .v y2 .sh), (1, .v y22 .bw), (12, .v y4 .sh)] (.cond (.seq (.reg [] []) .nil) .nil)) (.seq (.reg [] []) (.seq (.seq (.reg [] []) (.block (.loop [(0, .v y2 .sh), (1, .v y22 .bw), (5, .v y2 .sh), (6, .v y2 .sh)] [(.brk 0, []), (.ret, [(4, .v y4 .sh)])] (.seq (.seq (.reg [] []) (.cond .nil .nil)) (.seq (.block (.seq (.join (.reg [] []) [(0, .v y2 .sh), (1, .v y22 .bw), (5, .v y2 .sh), (6, .v y2 .sh), (62, .v y4 .sh)] (.cond (.seq (.reg [] []) .nil) .nil)) (.reg [] []))) (.reg [] [])))))) (.seq (.reg [] []) .nil)))))
theorem ev71 (xs : Vals (ptys sg71.ps)) : evF (P := Try.prog) tab [.fn E79, .fn E93] sg71 Try.f71.results.toList (code Try.f71) plan71 xs = d71 xs.1 xs.2.1 := by kernel_rfl
theorem sim71 : Sim Try.prog 71 sg71 d71 := sim_ev mixd tabOK Try.func71 (code_of rfl) Try.call71 (Nat.le_of_ble_eq_true (by kernel_rfl)) (by kernel_rfl) plan71 _ fun xs y h => (ev71 xs).trans h
noncomputable def E71 : FnE Try.prog := ⟨71, sg71, d71, sim71⟩

/-- election/electionref24.All -/
noncomputable def d73 (n : Int) : Option (List Bool) :=
  bif (decide (n = n) && (decide (0 ≤ n) && decide (n ≤ LIM))) then
    (whileO (β := (List Bool)) (fun ((n_1, out, i) : Int × (List Bool) × Int) =>
        bif (decide (i < n_1)) then
          bif (decide (0 ≤ i) && decide (i < (out.length : Int))) then
            some (Sum.inl (n_1, (List.set out (Int.toNat i) true), (w (i + 1))))
          else none
        else
          some (Sum.inr out)) (n, (List.replicate (Int.toNat n) false), 0)).bind fun (out_1 : List Bool) =>
    some out_1
  else none
def sg73 : Sig := ⟨[(y2, .sh)], [(y75, (.own 4 .sh))]⟩
def plan73 : Plan := (.seq (.reg [] []) (.seq (.reg [] []) (.seq (.seq (.reg [] []) (.block (.loop [(0, .v y2 .sh), (3, .v y75 (.own 4 .sh)), (4, .v y2 .sh)] [(.brk 0, [(3, .v y75 (.own 4 .sh))])] (.seq (.seq (.reg [] []) (.cond .nil .nil)) (.seq (.block (.reg [] [])) (.reg [] [])))))) (.seq (.reg [] []) .nil))))
theorem ev73 (xs : Vals (ptys sg73.ps)) : evF (P := Try.prog) tab [] sg73 Try.f73.results.toList (code Try.f73) plan73 xs = d73 xs.1 := by kernel_rfl
theorem sim73 : Sim Try.prog 73 sg73 d73 := sim_ev mixd tabOK Try.func73 (code_of rfl) Try.call73 (Nat.le_of_ble_eq_true (by kernel_rfl)) (by kernel_rfl) plan73 _ fun xs y h => (ev73 xs).trans h
noncomputable def E73 : FnE Try.prog := ⟨73, sg73, d73, sim73⟩

/-- election/electionref24.Pile -/
noncomputable def d106 (gs : List (List Int × Int)) : Option Bool :=
  (d71 7 gs).bind fun r =>
  some r
def sg106 : Sig := ⟨[(y22, .bw)], [(y4, .sh)]⟩
def plan106 : Plan := (.seq (.reg [] []) (.seq (.reg [] []) .nil))
theorem ev106 (xs : Vals (ptys sg106.ps)) : evF (P := Try.prog) tab [.fn E71] sg106 Try.f106.results.toList (code Try.f106) plan106 xs = d106 xs.1 := by kernel_rfl
theorem sim106 : Sim Try.prog 106 sg106 d106 := sim_ev mixd tabOK Try.func106 (code_of rfl) Try.call106 (Nat.le_of_ble_eq_true (by kernel_rfl)) (by kernel_rfl) plan106 _ fun xs y h => (ev106 xs).trans h
noncomputable def E106 : FnE Try.prog := ⟨106, sg106, d106, sim106⟩

/-- election/electionref24.in -/
noncomputable def d124 (remain : List Bool) (i : Int) : Option Bool :=
  bif (decide (0 ≤ i)) then
    bif (decide (i < (remain.length : Int))) then
      bif (decide (0 ≤ i) && decide (i < (remain.length : Int))) then
        some (List.getD remain (Int.toNat i) false)
      else none
    else
      some false
  else
    some false
def sg124 : Sig := ⟨[(y75, .bw), (y2, .sh)], [(y4, .sh)]⟩
def plan124 : Plan := (.seq (.reg [] []) (.seq (.reg [] []) .nil))
theorem ev124 (xs : Vals (ptys sg124.ps)) : evF (P := Try.prog) tab [] sg124 Try.f124.results.toList (code Try.f124) plan124 xs = d124 xs.1 xs.2.1 := by kernel_rfl
theorem sim124 : Sim Try.prog 124 sg124 d124 := sim_ev mixd tabOK Try.func124 (code_of rfl) Try.call124 (Nat.le_of_ble_eq_true (by kernel_rfl)) (by kernel_rfl) plan124 _ fun xs y h => (ev124 xs).trans h
noncomputable def E124 : FnE Try.prog := ⟨124, sg124, d124, sim124⟩

/-- election/electionref24.Kept -/
noncomputable def d107 (p : List Int) (remain : List Bool) : Option (List Int) :=
  (whileO (β := (List Int)) (fun ((p_1, remain_1, out, i) : (List Int) × (List Bool) × (List Int) × Int) =>
      bif (decide (i < (p_1.length : Int))) then
        letJ (fun ((p_2, remain_2, out_1, i_1) : (List Int) × (List Bool) × (List Int) × Int) =>
            some (Sum.inl (p_2, remain_2, out_1, (w (i_1 + 1))))) fun j_ =>
        bif (decide (0 ≤ i) && decide (i < (p_1.length : Int))) then
          (d124 remain_1 (List.getD p_1 (Int.toNat i) 0)).bind fun r =>
          bif r then
            bif (decide (0 ≤ i) && decide (i < (p_1.length : Int))) then
              bif (decide ((out.length : Int) + (([(List.getD p_1 (Int.toNat i) 0)] : List Int).length : Int) ≤ LIM)) then
                j_ (p_1, remain_1, (out ++ [(List.getD p_1 (Int.toNat i) 0)]), i)
              else none
            else none
          else
            j_ (p_1, remain_1, out, i)
        else none
      else
        some (Sum.inr out)) (p, remain, [], 0)).bind fun (out_2 : List Int) =>
  some out_2
def sg107 : Sig := ⟨[(y23, .bw), (y75, .bw)], [(y23, (.own 3 .sh))]⟩
def plan107 : Plan := (.seq (.reg [] []) (.seq (.reg [] [{ fl := 2 }]) (.seq (.seq (.reg [] []) (.block (.loop [(0, .v y23 .bw), (1, .v y75 .bw), (5, .v y23 (.own 3 .sh)), (6, .v y2 .sh)] [(.brk 0, [(5, .v y23 (.own 3 .sh))])] (.seq (.seq (.reg [] []) (.cond .nil .nil)) (.join (.block (.seq (.reg [] []) (.cond (.reg [] []) .nil))) [(0, .v y23 .bw), (1, .v y75 .bw), (5, .v y23 (.own 3 .sh)), (6, .v y2 .sh)] (.reg [] [])))))) (.seq (.reg [] []) .nil))))
theorem ev107 (xs : Vals (ptys sg107.ps)) : evF (P := Try.prog) tab [.fn E124] sg107 Try.f107.results.toList (code Try.f107) plan107 xs = d107 xs.1 xs.2.1 := by kernel_rfl
theorem sim107 : Sim Try.prog 107 sg107 d107 := sim_ev mixd tabOK Try.func107 (code_of rfl) Try.call107 (Nat.le_of_ble_eq_true (by kernel_rfl)) (by kernel_rfl) plan107 _ fun xs y h => (ev107 xs).trans h
noncomputable def E107 : FnE Try.prog := ⟨107, sg107, d107, sim107⟩

/-- election/electionref24.First -/
noncomputable def d72 (gs : List (List Int × Int)) (remain : List Bool) : Option ((List Int) × Int) :=
  letJ (fun ((gs_1, remain_1, t17) : (List (List Int × Int)) × (List Bool) × Bool) =>
      bif t17 then
        some ([], 0)
      else
        bif (decide ((remain_1.length : Int) = (remain_1.length : Int)) && (decide (0 ≤ (remain_1.length : Int)) && decide ((remain_1.length : Int) ≤ LIM))) then
          (whileO (β := ((List Int) × Int)) (fun ((gs_2, remain_2, votes, rest, i) : (List (List Int × Int)) × (List Bool) × (List Int) × Int × Int) =>
              bif (decide (i < (gs_2.length : Int))) then
                letJ (fun ((gs_3, remain_3, votes_1, rest_1, i_1) : (List (List Int × Int)) × (List Bool) × (List Int) × Int × Int) =>
                    some (Sum.inl (gs_3, remain_3, votes_1, rest_1, (w (i_1 + 1))))) fun j__1 =>
                bif (decide (0 ≤ i) && decide (i < (gs_2.length : Int))) then
                  (d107 ((List.getD gs_2 (Int.toNat i) ([], 0)).1) remain_2).bind fun r_1 =>
                  bif (decide (0 < (r_1.length : Int))) then
                    bif (decide (0 ≤ 0) && decide (0 < (r_1.length : Int))) then
                      bif (decide (0 ≤ (List.getD r_1 0 0)) && decide ((List.getD r_1 0 0) < (votes.length : Int))) then
                        bif (decide (0 ≤ i) && decide (i < (gs_2.length : Int))) then
                          bif (decide (0 ≤ (List.getD r_1 0 0)) && decide ((List.getD r_1 0 0) < (votes.length : Int))) then
                            j__1 (gs_2, remain_2, (List.set votes (Int.toNat (List.getD r_1 0 0)) (w ((List.getD votes (Int.toNat (List.getD r_1 0 0)) 0) + ((List.getD gs_2 (Int.toNat i) ([], 0)).2)))), rest, i)
                          else none
                        else none
                      else none
                    else none
                  else
                    bif (decide (0 ≤ i) && decide (i < (gs_2.length : Int))) then
                      j__1 (gs_2, remain_2, votes, (w (rest + ((List.getD gs_2 (Int.toNat i) ([], 0)).2))), i)
                    else none
                else none
              else
                some (Sum.inr (votes, rest))) (gs_1, remain_1, (List.replicate (Int.toNat (remain_1.length : Int)) 0), 0, 0)).bind fun ((votes_2, rest_2) : (List Int) × Int) =>
          some (votes_2, rest_2)
        else none) fun j_ =>
  bif !(decide (7 < (remain.length : Int))) then
    (d106 gs).bind fun r =>
    j_ (gs, remain, !r)
  else
    j_ (gs, remain, true)
def sg72 : Sig := ⟨[(y22, .bw), (y75, .bw)], [(y23, .sh), (y2, .sh)]⟩
def plan72 : Plan := (.post (.seq (.reg [] []) (.seq (.join (.reg [] []) [(0, .v y22 .bw), (1, .v y75 .bw), (17, .v y4 .sh)] (.cond (.seq (.reg [] []) .nil) .nil)) (.seq (.reg [] []) (.seq (.reg [] []) (.seq (.seq (.reg [] []) (.block (.loop [(0, .v y22 .bw), (1, .v y75 .bw), (6, .v y23 (.own 3 .sh)), (7, .v y2 .sh), (8, .v y2 .sh)] [(.brk 0, [(6, .v y23 (.own 3 .sh)), (7, .v y2 .sh)])] (.seq (.seq (.reg [] []) (.cond .nil .nil)) (.join (.block (.seq (.reg [] []) (.seq (.reg [] []) (.cond (.reg [] []) (.reg [] []))))) [(0, .v y22 .bw), (1, .v y75 .bw), (6, .v y23 (.own 3 .sh)), (7, .v y2 .sh), (8, .v y2 .sh)] (.reg [] [])))))) (.seq (.reg [] []) .nil)))))) [(4, [])])
theorem ev72 (xs : Vals (ptys sg72.ps)) : evF (P := Try.prog) tab [.fn E106, .fn E107] sg72 Try.f72.results.toList (code Try.f72) plan72 xs = d72 xs.1 xs.2.1 := by kernel_rfl
theorem sim72 : Sim Try.prog 72 sg72 d72 := sim_ev mixd tabOK Try.func72 (code_of rfl) Try.call72 (Nat.le_of_ble_eq_true (by kernel_rfl)) (by kernel_rfl) plan72 _ fun xs y h => (ev72 xs).trans h
noncomputable def E72 : FnE Try.prog := ⟨72, sg72, d72, sim72⟩

/-- election/electionref24.Prefers -/
noncomputable def d74 (gs : List (List Int × Int)) (a : Int) (b : Int) : Option Int :=
  (whileO (β := Int) (fun ((gs_1, a_1, b_1, n, i) : (List (List Int × Int)) × Int × Int × Int × Int) =>
      letJ (fun ((gs_2, a_2, b_2, n_1, i_1, t16) : (List (List Int × Int)) × Int × Int × Int × Int × Bool) =>
          bif t16 then
            letJ (fun ((gs_3, a_3, b_3, n_2, i_2) : (List (List Int × Int)) × Int × Int × Int × Int) =>
                some (Sum.inl (gs_3, a_3, b_3, n_2, (w (i_2 + 1))))) fun j__1 =>
            bif (decide (0 ≤ i_1) && decide (i_1 < (gs_2.length : Int))) then
              (d87 ((List.getD gs_2 (Int.toNat i_1) ([], 0)).1) a_2).bind fun r_1 =>
              bif (decide (0 ≤ i_1) && decide (i_1 < (gs_2.length : Int))) then
                (d87 ((List.getD gs_2 (Int.toNat i_1) ([], 0)).1) b_2).bind fun r_2 =>
                bif (decide (r_1 < r_2)) then
                  bif (decide (0 ≤ i_1) && decide (i_1 < (gs_2.length : Int))) then
                    j__1 (gs_2, a_2, b_2, (w (n_1 + ((List.getD gs_2 (Int.toNat i_1) ([], 0)).2))), i_1)
                  else none
                else
                  j__1 (gs_2, a_2, b_2, n_1, i_1)
              else none
            else none
          else
            some (Sum.inr n_1)) fun j_ =>
      bif (decide (i < (gs_1.length : Int))) then
        (d106 gs_1).bind fun r =>
        j_ (gs_1, a_1, b_1, n, i, r)
      else
        j_ (gs_1, a_1, b_1, n, i, false)) (gs, a, b, 0, 0)).bind fun (n_3 : Int) =>
  some n_3
def sg74 : Sig := ⟨[(y22, .bw), (y2, .sh), (y2, .sh)], [(y2, .sh)]⟩
def plan74 : Plan := (.seq (.reg [] []) (.seq (.reg [] []) (.seq (.seq (.reg [] []) (.block (.loop [(0, .v y22 .bw), (1, .v y2 .sh), (2, .v y2 .sh), (7, .v y2 .sh), (8, .v y2 .sh)] [(.brk 0, [(7, .v y2 .sh)])] (.seq (.join (.reg [] []) [(0, .v y22 .bw), (1, .v y2 .sh), (2, .v y2 .sh), (7, .v y2 .sh), (8, .v y2 .sh), (16, .v y4 .sh)] (.cond .nil .nil)) (.join (.block (.seq (.reg [] []) (.cond (.reg [] []) .nil))) [(0, .v y22 .bw), (1, .v y2 .sh), (2, .v y2 .sh), (7, .v y2 .sh), (8, .v y2 .sh)] (.reg [] [])))))) (.seq (.reg [] []) .nil))))
theorem ev74 (xs : Vals (ptys sg74.ps)) : evF (P := Try.prog) tab [.fn E106, .fn E87] sg74 Try.f74.results.toList (code Try.f74) plan74 xs = d74 xs.1 xs.2.1 xs.2.2.1 := by kernel_rfl
theorem sim74 : Sim Try.prog 74 sg74 d74 := sim_ev mixd tabOK Try.func74 (code_of rfl) Try.call74 (Nat.le_of_ble_eq_true (by kernel_rfl)) (by kernel_rfl) plan74 _ fun xs y h => (ev74 xs).trans h
noncomputable def E74 : FnE Try.prog := ⟨74, sg74, d74, sim74⟩

/-- election/electionref31.Flags -/
noncomputable def d75 (n : Int) (l : List Int) : Option (List Bool) :=
  bif (decide (n = n) && (decide (0 ≤ n) && decide (n ≤ LIM))) then
    (whileO (β := (List Bool)) (fun ((l_1, out, i) : (List Int) × (List Bool) × Int) =>
        bif (decide (i < (l_1.length : Int))) then
          bif (decide (0 ≤ i) && decide (i < (l_1.length : Int))) then
            bif (decide (0 ≤ (List.getD l_1 (Int.toNat i) 0)) && decide ((List.getD l_1 (Int.toNat i) 0) < (out.length : Int))) then
              some (Sum.inl (l_1, (List.set out (Int.toNat (List.getD l_1 (Int.toNat i) 0)) true), (w (i + 1))))
            else none
          else none
        else
          some (Sum.inr out)) (l, (List.replicate (Int.toNat n) false), 0)).bind fun (out_1 : List Bool) =>
    some out_1
  else none
def sg75 : Sig := ⟨[(y2, .sh), (y23, .bw)], [(y75, (.own 4 .sh))]⟩
def plan75 : Plan := (.seq (.reg [] []) (.seq (.reg [] []) (.seq (.seq (.reg [] []) (.block (.loop [(1, .v y23 .bw), (5, .v y75 (.own 4 .sh)), (6, .v y2 .sh)] [(.brk 0, [(5, .v y75 (.own 4 .sh))])] (.seq (.seq (.reg [] []) (.cond .nil .nil)) (.seq (.block (.reg [] [])) (.reg [] [])))))) (.seq (.reg [] []) .nil))))
theorem ev75 (xs : Vals (ptys sg75.ps)) : evF (P := Try.prog) tab [] sg75 Try.f75.results.toList (code Try.f75) plan75 xs = d75 xs.1 xs.2.1 := by kernel_rfl
theorem sim75 : Sim Try.prog 75 sg75 d75 := sim_ev mixd tabOK Try.func75 (code_of rfl) Try.call75 (Nat.le_of_ble_eq_true (by kernel_rfl)) (by kernel_rfl) plan75 _ fun xs y h => (ev75 xs).trans h
noncomputable def E75 : FnE Try.prog := ⟨75, sg75, d75, sim75⟩

/-- election/electionref24.Total -/
noncomputable def d108 (gs : List (List Int × Int)) : Option Int :=
  (whileO (β := Int) (fun ((gs_1, n, i) : (List (List Int × Int)) × Int × Int) =>
      letJ (fun ((gs_2, n_1, i_1, t12) : (List (List Int × Int)) × Int × Int × Bool) =>
          bif t12 then
            bif (decide (0 ≤ i_1) && decide (i_1 < (gs_2.length : Int))) then
              some (Sum.inl (gs_2, (w (n_1 + ((List.getD gs_2 (Int.toNat i_1) ([], 0)).2))), (w (i_1 + 1))))
            else none
          else
            some (Sum.inr n_1)) fun j_ =>
      bif (decide (i < (gs_1.length : Int))) then
        (d106 gs_1).bind fun r =>
        j_ (gs_1, n, i, r)
      else
        j_ (gs_1, n, i, false)) (gs, 0, 0)).bind fun (n_2 : Int) =>
  some n_2
def sg108 : Sig := ⟨[(y22, .bw)], [(y2, .sh)]⟩
def plan108 : Plan := (.seq (.reg [] []) (.seq (.reg [] []) (.seq (.seq (.reg [] []) (.block (.loop [(0, .v y22 .bw), (3, .v y2 .sh), (4, .v y2 .sh)] [(.brk 0, [(3, .v y2 .sh)])] (.seq (.join (.reg [] []) [(0, .v y22 .bw), (3, .v y2 .sh), (4, .v y2 .sh), (12, .v y4 .sh)] (.cond .nil .nil)) (.seq (.block (.reg [] [])) (.reg [] [])))))) (.seq (.reg [] []) .nil))))
theorem ev108 (xs : Vals (ptys sg108.ps)) : evF (P := Try.prog) tab [.fn E106] sg108 Try.f108.results.toList (code Try.f108) plan108 xs = d108 xs.1 := by kernel_rfl
theorem sim108 : Sim Try.prog 108 sg108 d108 := sim_ev mixd tabOK Try.func108 (code_of rfl) Try.call108 (Nat.le_of_ble_eq_true (by kernel_rfl)) (by kernel_rfl) plan108 _ fun xs y h => (ev108 xs).trans h
noncomputable def E108 : FnE Try.prog := ⟨108, sg108, d108, sim108⟩

/-- election/electionref24.Marked -/
noncomputable def d76 (gs : List (List Int × Int)) : Option Int :=
  (d108 gs).bind fun r =>
  letJ (fun (n_1 : Int) =>
      some n_1) fun j__1 =>
  letJ (fun ((gs_1, n, t15) : (List (List Int × Int)) × Int × Bool) =>
      bif t15 then
        bif (decide (0 ≤ 0) && decide (0 < (gs_1.length : Int))) then
          j__1 (w (n - ((List.getD gs_1 0 ([], 0)).2)))
        else none
      else
        j__1 n) fun j_ =>
  bif (decide (0 < r)) then
    bif (decide (0 ≤ 0) && decide (0 < (gs.length : Int))) then
      j_ (gs, r, (decide ((((List.getD gs 0 ([], 0)).1).length : Int) = 0)))
    else none
  else
    j_ (gs, r, false)
def sg76 : Sig := ⟨[(y22, .bw)], [(y2, .sh)]⟩
def plan76 : Plan := (.seq (.reg [] []) (.seq (.reg [] []) (.join (.join (.reg [] []) [(0, .v y22 .bw), (3, .v y2 .sh), (15, .v y4 .sh)] (.cond (.reg [] []) .nil)) [(3, .v y2 .sh)] (.seq (.reg [] []) .nil))))
theorem ev76 (xs : Vals (ptys sg76.ps)) : evF (P := Try.prog) tab [.fn E108] sg76 Try.f76.results.toList (code Try.f76) plan76 xs = d76 xs.1 := by kernel_rfl
theorem sim76 : Sim Try.prog 76 sg76 d76 := sim_ev mixd tabOK Try.func76 (code_of rfl) Try.call76 (Nat.le_of_ble_eq_true (by kernel_rfl)) (by kernel_rfl) plan76 _ fun xs y h => (ev76 xs).trans h
noncomputable def E76 : FnE Try.prog := ⟨76, sg76, d76, sim76⟩

/-- election/electionref31.Tally -/
noncomputable def d24 (p0 : Int) (p1 : List (List Int × Int)) (p2 : (Int × (Int × (Int × (List Int × Int))))) : Option (Int × Int) :=
  letJ (fun ((t0, t1, t5, t21) : Int × (List (List Int × Int)) × (Int × (Int × (Int × (List Int × Int)))) × Bool) =>
      bif t21 then
        some (0, 0)
      else
        (d73 t0).bind fun r_2 =>
        (d72 t1 r_2).bind fun r_3 =>
        bif (decide (t5.1 = 1)) then
          bif (decide (0 ≤ t5.2.1) && decide (t5.2.1 < (r_3.1.length : Int))) then
            (d74 t1 t5.2.2.1 t5.2.1).bind fun r_4 =>
            some ((List.getD r_3.1 (Int.toNat t5.2.1) 0), r_4)
          else none
        else
          bif (decide (t5.1 = 2)) then
            (d75 t0 t5.2.2.2.1).bind fun r_5 =>
            (d72 t1 r_5).bind fun r_6 =>
            bif (decide (0 ≤ t5.2.1) && decide (t5.2.1 < (r_6.1.length : Int))) then
              bif (decide (0 ≤ t5.2.2.1) && decide (t5.2.2.1 < (r_6.1.length : Int))) then
                some ((List.getD r_6.1 (Int.toNat t5.2.1) 0), (List.getD r_6.1 (Int.toNat t5.2.2.1) 0))
              else none
            else none
          else
            bif (decide (0 ≤ t5.2.1) && decide (t5.2.1 < (r_3.1.length : Int))) then
              (d76 t1).bind fun r_7 =>
              some ((w (t5.2.2.2.2 * (List.getD r_3.1 (Int.toNat t5.2.1) 0))), r_7)
            else none) fun j_ =>
  (d26 p0 p2).bind fun r =>
  bif !(!r) then
    (d71 p0 p1).bind fun r_1 =>
    j_ (p0, p1, p2, !r_1)
  else
    j_ (p0, p1, p2, true)
def sg24 : Sig := ⟨[(y2, .sh), (y22, .bw), (y24, .bw)], [(y2, .sh), (y2, .sh)]⟩
def plan24 : Plan := (.seq (.reg [] []) (.seq (.join (.reg [] []) [(0, .v y2 .sh), (1, .v y22 .bw), (5, .v (.ptr y24) (.own 0 .bw)), (21, .v y4 .sh)] (.cond (.seq (.reg [] []) .nil) .nil)) (.seq (.reg [] [{}, {}, {}, {}, { fl := 1 }]) (.seq (.seq (.reg [] []) (.block (.seq (.reg [] []) (.cond (.seq (.reg [] []) .nil) (.seq (.reg [] []) (.cond (.seq (.reg [] [{}, {}, {}, {}, {}, {}, { fl := 1 }]) (.seq (.reg [] []) .nil)) .nil)))))) (.seq (.reg [] []) .nil)))))
theorem ev24 (xs : Vals (ptys sg24.ps)) : evF (P := Try.prog) tab [.fn E26, .fn E71, .fn E73, .fn E72, .fn E74, .fn E75, .fn E76] sg24 Try.f24.results.toList (code Try.f24) plan24 xs = d24 xs.1 xs.2.1 xs.2.2.1 := by kernel_rfl
theorem sim24 : Sim Try.prog 24 sg24 d24 := sim_ev mixd tabOK Try.func24 (code_of rfl) Try.call24 (Nat.le_of_ble_eq_true (by kernel_rfl)) (by kernel_rfl) plan24 _ fun xs y h => (ev24 xs).trans h
noncomputable def E24 : FnE Try.prog := ⟨24, sg24, d24, sim24⟩

/-- election/electionlaw33.AssertionTells -/
noncomputable def d3 (p0 : Int) (p1 : List (List Int × Int)) (p2 : (Int × (Int × (Int × (List Int × Int))))) (p3 : Bool) (p4 : List (List Int)) (p5 : Int) (p6 : Int) (p7 : Int) (p8 : Int) (p9 : Int) (p10 : Int) (p11 : Int) : Option Bool :=
  letJ (fun ((t0, t1, t3, t4, t5, t6, t7, t8, t9, t10, t11, t14, t37) : Int × (List (List Int × Int)) × Bool × (List (List Int)) × Int × Int × Int × Int × Int × Int × Int × (Int × (Int × (Int × (List Int × Int)))) × Bool) =>
      bif t37 then
        (d17).bind fun r_1 =>
        some r_1
      else
        letJ (fun ((t0_1, t1_1, t14_1) : Int × (List (List Int × Int)) × (Int × (Int × (Int × (List Int × Int))))) =>
            (d23 t0_1 t1_1 t14_1).bind fun r_7 =>
            (d24 t0_1 t1_1 t14_1).bind fun r_8 =>
            (d17).bind fun r_9 =>
            bif r_9 then
              (d25 t0_1 t14_1).bind fun r_10 =>
              (d26 t0_1 t14_1).bind fun r_11 =>
              bif (r_10 == r_11) then
                bif (decide (r_7.1 = r_8.1)) then
                  bif (decide (r_7.2 = r_8.2)) then
                    (d27 t0_1 t1_1 t14_1).bind fun r_12 =>
                    bif (decide (r_12 = (w (r_8.1 - r_8.2)))) then
                      (d28 t0_1 t1_1 t14_1).bind fun r_13 =>
                      some (r_13 == (decide (r_8.2 < r_8.1)))
                    else
                      some false
                  else
                    some false
                else
                  some false
              else
                some false
            else
              some false) fun j__1 =>
        bif !t3 then
          (d18 t0 6).bind fun r_2 =>
          (d20 t4 40).bind fun r_3 =>
          (d19 (w (2 + r_2)) r_3 40).bind fun r_4 =>
          (d22 (w (2 + r_2)) t5 t6 t7 t8 t9).bind fun r_5 =>
          (d21 r_5 t10 t11).bind fun r_6 =>
          j__1 ((w (2 + r_2)), r_4, r_6)
        else
          j__1 (t0, t1, t14)) fun j_ =>
  (d16 p1).bind fun r =>
  bif !(!r) then
    j_ (p0, p1, p3, p4, p5, p6, p7, p8, p9, p10, p11, p2, (decide (9 < (p2.2.2.2.1.length : Int))))
  else
    j_ (p0, p1, p3, p4, p5, p6, p7, p8, p9, p10, p11, p2, true)
def sg3 : Sig := ⟨[(y2, .sh), (y22, .bw), (y24, .bw), (y4, .sh), (y26, .sh), (y2, .sh), (y2, .sh), (y2, .sh), (y2, .sh), (y2, .sh), (y2, .sh), (y2, .sh)], [(y4, .sh)]⟩
def plan3 : Plan := (.seq (.reg [] []) (.seq (.join (.reg [] []) [(0, .v y2 .sh), (1, .v y22 .bw), (3, .v y4 .sh), (4, .v y26 .sh), (5, .v y2 .sh), (6, .v y2 .sh), (7, .v y2 .sh), (8, .v y2 .sh), (9, .v y2 .sh), (10, .v y2 .sh), (11, .v y2 .sh), (14, .v (.ptr y24) (.own 0 .bw)), (37, .v y4 .sh)] (.cond (.seq (.reg [] []) .nil) .nil)) (.join (.seq (.reg [] []) (.cond (.seq (.reg [] []) (.seq (.reg [] []) (.reg [] []))) .nil)) [(0, .v y2 .sh), (1, .v y22 .bw), (14, .v (.ptr y24) (.own 0 .bw))] (.seq (.reg [] [{}, {}, {}, {}, { fl := 1 }]) (.seq (.reg [] [{}, {}, {}, {}, { fl := 1 }]) (.seq (.reg [] []) .nil))))))
theorem ev3 (xs : Vals (ptys sg3.ps)) : evF (P := Try.prog) tab [.fn E16, .fn E17, .fn E18, .fn E20, .fn E19, .fn E22, .fn E21, .fn E23, .fn E24, .fn E25, .fn E26, .fn E27, .fn E28] sg3 Try.f3.results.toList (code Try.f3) plan3 xs = d3 xs.1 xs.2.1 xs.2.2.1 xs.2.2.2.1 xs.2.2.2.2.1 xs.2.2.2.2.2.1 xs.2.2.2.2.2.2.1 xs.2.2.2.2.2.2.2.1 xs.2.2.2.2.2.2.2.2.1 xs.2.2.2.2.2.2.2.2.2.1 xs.2.2.2.2.2.2.2.2.2.2.1 xs.2.2.2.2.2.2.2.2.2.2.2.1 := by kernel_rfl
theorem sim3 : Sim Try.prog 3 sg3 d3 := sim_ev mixd tabOK Try.func3 (code_of rfl) Try.call3 (Nat.le_of_ble_eq_true (by kernel_rfl)) (by kernel_rfl) plan3 _ fun xs y h => (ev3 xs).trans h
noncomputable def E3 : FnE Try.prog := ⟨3, sg3, d3, sim3⟩

/-- cmp.Or[int] -/
noncomputable def d89 (vals : List Int) : Option Int :=
  (whileO (β := Int ⊕ Int) (fun ((zero, t6, t7, t8) : Int × (List Int) × Int × Int) =>
      bif (decide (t8 < t7)) then
        bif (decide (0 ≤ t8) && decide (t8 < (t6.length : Int))) then
          bif !(decide ((List.getD t6 (Int.toNat t8) 0) = zero)) then
            some (Sum.inr (Sum.inr (List.getD t6 (Int.toNat t8) 0)))
          else
            some (Sum.inl (zero, t6, t7, (w (t8 + 1))))
        else none
      else
        some (Sum.inr (Sum.inl zero))) (0, vals, (vals.length : Int), 0)).bind fun
  | Sum.inl zero_1 =>
    some zero_1
  | Sum.inr t2 =>
    some t2
def sg89 : Sig := ⟨[(y23, .bw)], [(y2, .sh)]⟩
def plan89 : Plan := (.seq (.reg [] []) (.seq (.reg [] []) (.seq (.seq (.reg [] []) (.block (.loop [(3, .v y2 .sh), (6, .v y23 .bw), (7, .v y2 .sh), (8, .v y2 .sh)] [(.brk 0, [(3, .v y2 .sh)]), (.ret, [(2, .v y2 .sh)])] (.seq (.reg [] []) (.seq (.cond .nil .nil) (.seq (.block (.seq (.reg [] []) (.seq (.reg [] []) (.cond (.seq (.reg [] []) .nil) .nil)))) (.reg [] []))))))) (.seq (.reg [] []) .nil))))
theorem ev89 (xs : Vals (ptys sg89.ps)) : evF (P := Try.prog) tab [] sg89 Try.f89.results.toList (code Try.f89) plan89 xs = d89 xs.1 := by kernel_rfl
theorem sim89 : Sim Try.prog 89 sg89 d89 := sim_ev mixd tabOK Try.func89 (code_of rfl) Try.call89 (Nat.le_of_ble_eq_true (by kernel_rfl)) (by kernel_rfl) plan89 _ fun xs y h => (ev89 xs).trans h
noncomputable def E89 : FnE Try.prog := ⟨89, sg89, d89, sim89⟩

/-- election/assertion.Compare -/
noncomputable def d35 (a : (Int × (Int × (Int × (List Int × Int))))) (b : (Int × (Int × (Int × (List Int × Int))))) : Option Int :=
  (d90 a.1 b.1).bind fun r =>
  (d90 a.2.1 b.2.1).bind fun r_1 =>
  (d90 a.2.2.1 b.2.2.1).bind fun r_2 =>
  (d90 (a.2.2.2.1.length : Int) (b.2.2.2.1.length : Int)).bind fun r_3 =>
  (d91 a.2.2.2.1 b.2.2.2.1).bind fun r_4 =>
  (d90 a.2.2.2.2 b.2.2.2.2).bind fun r_5 =>
  (d89 [r, r_1, r_2, r_3, r_4, r_5]).bind fun r_6 =>
  some r_6
def sg35 : Sig := ⟨[(y24, .bw), (y24, .bw)], [(y2, .sh)]⟩
def plan35 : Plan := (.seq (.reg [] []) (.seq (.reg [] []) .nil))
theorem ev35 (xs : Vals (ptys sg35.ps)) : evF (P := Try.prog) tab [.fn E90, .fn E91, .fn E89] sg35 Try.f35.results.toList (code Try.f35) plan35 xs = d35 xs.1 xs.2.1 := by kernel_rfl
theorem sim35 : Sim Try.prog 35 sg35 d35 := sim_ev mixd tabOK Try.func35 (code_of rfl) Try.call35 (Nat.le_of_ble_eq_true (by kernel_rfl)) (by kernel_rfl) plan35 _ fun xs y h => (ev35 xs).trans h
noncomputable def E35 : FnE Try.prog := ⟨35, sg35, d35, sim35⟩

/-- election/electionref31.cmp -/
noncomputable def d92 (a : Int) (b : Int) : Option Int :=
  bif (decide (a < b)) then
    some (-1)
  else
    bif (decide (b < a)) then
      some 1
    else
      some 0
def sg92 : Sig := ⟨[(y2, .sh), (y2, .sh)], [(y2, .sh)]⟩
def plan92 : Plan := (.seq (.reg [] []) (.seq (.block (.seq (.reg [] []) (.cond (.seq (.reg [] []) .nil) (.seq (.reg [] []) (.cond (.seq (.reg [] []) .nil) .nil))))) (.seq (.reg [] []) .nil)))
theorem ev92 (xs : Vals (ptys sg92.ps)) : evF (P := Try.prog) tab [] sg92 Try.f92.results.toList (code Try.f92) plan92 xs = d92 xs.1 xs.2.1 := by kernel_rfl
theorem sim92 : Sim Try.prog 92 sg92 d92 := sim_ev mixd tabOK Try.func92 (code_of rfl) Try.call92 (Nat.le_of_ble_eq_true (by kernel_rfl)) (by kernel_rfl) plan92 _ fun xs y h => (ev92 xs).trans h
noncomputable def E92 : FnE Try.prog := ⟨92, sg92, d92, sim92⟩

/-- election/electionref31.Compare -/
noncomputable def d36 (a : (Int × (Int × (Int × (List Int × Int))))) (b : (Int × (Int × (Int × (List Int × Int))))) : Option Int :=
  (d92 a.1 b.1).bind fun r =>
  (d92 a.2.1 b.2.1).bind fun r_1 =>
  (d92 a.2.2.1 b.2.2.1).bind fun r_2 =>
  (d92 (a.2.2.2.1.length : Int) (b.2.2.2.1.length : Int)).bind fun r_3 =>
  (whileO (β := ((Int × (Int × (Int × (List Int × Int)))) × (Int × (Int × (Int × (List Int × Int))))) ⊕ Int) (fun ((a_1, b_1, t29, t30) : (Int × (Int × (Int × (List Int × Int)))) × (Int × (Int × (Int × (List Int × Int)))) × (List Int) × Int) =>
      bif (decide (t30 < 4)) then
        bif (decide (0 ≤ t30) && decide (t30 < 4)) then
          bif !(decide ((List.getD t29 (Int.toNat t30) 0) = 0)) then
            some (Sum.inr (Sum.inr (List.getD t29 (Int.toNat t30) 0)))
          else
            some (Sum.inl (a_1, b_1, t29, (w (t30 + 1))))
        else none
      else
        some (Sum.inr (Sum.inl (a_1, b_1)))) (a, b, [r, r_1, r_2, r_3], 0)).bind fun
  | Sum.inl (a_2, b_2) =>
    (d93 a_2.2.2.2.1 b_2.2.2.2.1).bind fun r_4 =>
    bif r_4 then
      some (-1)
    else
      (d93 b_2.2.2.2.1 a_2.2.2.2.1).bind fun r_5 =>
      bif r_5 then
        some 1
      else
        (d92 a_2.2.2.2.2 b_2.2.2.2.2).bind fun r_6 =>
        some r_6
  | Sum.inr t4 =>
    some t4
def sg36 : Sig := ⟨[(y24, .bw), (y24, .bw)], [(y2, .sh)]⟩
def plan36 : Plan := (.seq (.reg [] []) (.seq (.seq (.reg [] []) (.block (.loop [(2, .v (.ptr y24) (.own 0 .bw)), (3, .v (.ptr y24) (.own 0 .bw)), (29, .v y116 .sh), (30, .v y2 .sh)] [(.brk 0, [(2, .v (.ptr y24) (.own 0 .bw)), (3, .v (.ptr y24) (.own 0 .bw))]), (.ret, [(4, .v y2 .sh)])] (.seq (.reg [] []) (.seq (.cond .nil .nil) (.seq (.block (.seq (.reg [] []) (.seq (.reg [] []) (.cond (.seq (.reg [] []) .nil) .nil)))) (.reg [] []))))))) (.seq (.seq (.reg [] []) (.cond (.seq (.reg [] []) .nil) .nil)) (.seq (.seq (.reg [] []) (.cond (.seq (.reg [] []) .nil) .nil)) (.seq (.reg [] []) .nil)))))
theorem ev36 (xs : Vals (ptys sg36.ps)) : evF (P := Try.prog) tab [.fn E92, .fn E93] sg36 Try.f36.results.toList (code Try.f36) plan36 xs = d36 xs.1 xs.2.1 := by kernel_rfl
theorem sim36 : Sim Try.prog 36 sg36 d36 := sim_ev mixd tabOK Try.func36 (code_of rfl) Try.call36 (Nat.le_of_ble_eq_true (by kernel_rfl)) (by kernel_rfl) plan36 _ fun xs y h => (ev36 xs).trans h
noncomputable def E36 : FnE Try.prog := ⟨36, sg36, d36, sim36⟩

/-- election/electionlaw33.AssertionCompare -/
noncomputable def d6 (p0 : (Int × (Int × (Int × (List Int × Int))))) (p1 : (Int × (Int × (Int × (List Int × Int))))) (p2 : (Int × (Int × (Int × (List Int × Int))))) (p3 : Bool) (p4 : Int) (p5 : Int) : Option Bool :=
  letJ (fun ((t3, t4, t5, t6, t7, t8, t32) : Bool × Int × Int × (Int × (Int × (Int × (List Int × Int)))) × (Int × (Int × (Int × (List Int × Int)))) × (Int × (Int × (Int × (List Int × Int)))) × Bool) =>
      bif t32 then
        (d17).bind fun r =>
        some r
      else
        letJ (fun ((t6_1, t7_1, t8_1) : (Int × (Int × (Int × (List Int × Int)))) × (Int × (Int × (Int × (List Int × Int)))) × (Int × (Int × (Int × (List Int × Int))))) =>
            (d35 t6_1 t7_1).bind fun r_3 =>
            (d35 t7_1 t8_1).bind fun r_4 =>
            (d35 t6_1 t8_1).bind fun r_5 =>
            letJ (fun ((t6_2, t7_2, t8_2, t13, t87) : (Int × (Int × (Int × (List Int × Int)))) × (Int × (Int × (Int × (List Int × Int)))) × (Int × (Int × (Int × (List Int × Int)))) × Int × Bool) =>
                bif t87 then
                  some false
                else
                  letJ (fun ((t8_3, t13_1, t16) : (Int × (Int × (Int × (List Int × Int)))) × Int × Bool) =>
                      (d17).bind fun r_9 =>
                      bif r_9 then
                        bif ((decide (t13_1 = 0)) == t16) then
                          (d35 t8_3 t8_3).bind fun r_10 =>
                          some (decide (r_10 = 0))
                        else
                          some false
                      else
                        some false) fun j__3 =>
                  bif (decide (t6_2.1 = t7_2.1)) then
                    bif (decide (t6_2.2.1 = t7_2.2.1)) then
                      bif (decide (t6_2.2.2.1 = t7_2.2.2.1)) then
                        bif (decide (t6_2.2.2.2.2 = t7_2.2.2.2.2)) then
                          (d37 t6_2.2.2.2.1 t7_2.2.2.2.1).bind fun r_8 =>
                          j__3 (t8_2, t13, r_8)
                        else
                          j__3 (t8_2, t13, false)
                      else
                        j__3 (t8_2, t13, false)
                    else
                      j__3 (t8_2, t13, false)
                  else
                    j__3 (t8_2, t13, false)) fun j__2 =>
            (d36 t6_1 t7_1).bind fun r_6 =>
            bif !(!(decide (r_3 = r_6))) then
              (d35 t7_1 t6_1).bind fun r_7 =>
              bif !(!(decide (r_3 = (w (0 - r_7))))) then
                bif (decide (r_3 < 0)) then
                  bif (decide (r_4 < 0)) then
                    bif !(decide (0 ≤ r_5)) then
                      bif (decide (r_3 = 0)) then
                        j__2 (t6_1, t7_1, t8_1, r_3, !(decide (r_4 = r_5)))
                      else
                        j__2 (t6_1, t7_1, t8_1, r_3, false)
                    else
                      j__2 (t6_1, t7_1, t8_1, r_3, true)
                  else
                    bif (decide (r_3 = 0)) then
                      j__2 (t6_1, t7_1, t8_1, r_3, !(decide (r_4 = r_5)))
                    else
                      j__2 (t6_1, t7_1, t8_1, r_3, false)
                else
                  bif (decide (r_3 = 0)) then
                    j__2 (t6_1, t7_1, t8_1, r_3, !(decide (r_4 = r_5)))
                  else
                    j__2 (t6_1, t7_1, t8_1, r_3, false)
              else
                j__2 (t6_1, t7_1, t8_1, r_3, true)
            else
              j__2 (t6_1, t7_1, t8_1, r_3, true)) fun j__1 =>
        bif t3 then
          (d21 t6 t4 t5).bind fun r_1 =>
          (d21 r_1 (w (t4 + 1)) (w (t5 + 1))).bind fun r_2 =>
          j__1 (t6, r_1, r_2)
        else
          j__1 (t6, t7, t8)) fun j_ =>
  bif !(decide (9 < (p0.2.2.2.1.length : Int))) then
    bif !(decide (9 < (p1.2.2.2.1.length : Int))) then
      j_ (p3, p4, p5, p0, p1, p2, (decide (9 < (p2.2.2.2.1.length : Int))))
    else
      j_ (p3, p4, p5, p0, p1, p2, true)
  else
    j_ (p3, p4, p5, p0, p1, p2, true)
def sg6 : Sig := ⟨[(y24, .sh), (y24, .bw), (y24, .bw), (y4, .sh), (y2, .sh), (y2, .sh)], [(y4, .sh)]⟩
def plan6 : Plan := (.seq (.reg [] []) (.seq (.join (.reg [] []) [(3, .v y4 .sh), (4, .v y2 .sh), (5, .v y2 .sh), (6, .v (.ptr y24) (.own 0 .sh)), (7, .v (.ptr y24) (.own 0 .bw)), (8, .v (.ptr y24) (.own 0 .bw)), (32, .v y4 .sh)] (.cond (.seq (.reg [] []) .nil) .nil)) (.join (.seq (.reg [] []) (.cond (.seq (.reg [] []) (.reg [] [])) .nil)) [(6, .v (.ptr y24) (.own 0 .sh)), (7, .v (.ptr y24) (.own 0 .bw)), (8, .v (.ptr y24) (.own 0 .bw))] (.seq (.reg [] []) (.seq (.join (.reg [] []) [(6, .v (.ptr y24) (.own 0 .sh)), (7, .v (.ptr y24) (.own 0 .bw)), (8, .v (.ptr y24) (.own 0 .bw)), (13, .v y2 .sh), (87, .v y4 .sh)] (.cond (.seq (.reg [] []) .nil) .nil)) (.join (.reg [] []) [(8, .v (.ptr y24) (.own 0 .bw)), (13, .v y2 .sh), (16, .v y4 .sh)] (.seq (.reg [] []) .nil)))))))
theorem ev6 (xs : Vals (ptys sg6.ps)) : evF (P := Try.prog) tab [.fn E17, .fn E21, .fn E35, .fn E36, .fn E37] sg6 Try.f6.results.toList (code Try.f6) plan6 xs = d6 xs.1 xs.2.1 xs.2.2.1 xs.2.2.2.1 xs.2.2.2.2.1 xs.2.2.2.2.2.1 := by kernel_rfl
theorem sim6 : Sim Try.prog 6 sg6 d6 := sim_ev mixd tabOK Try.func6 (code_of rfl) Try.call6 (Nat.le_of_ble_eq_true (by kernel_rfl)) (by kernel_rfl) plan6 _ fun xs y h => (ev6 xs).trans h
noncomputable def E6 : FnE Try.prog := ⟨6, sg6, d6, sim6⟩

/-- election/electionlaw33.All -/
noncomputable def d39 (n : Int) (l : List (List Int)) : Option (List (Int × (Int × (Int × (List Int × Int))))) :=
  (whileO (β := (List (Int × (Int × (Int × (List Int × Int)))))) (fun ((n_1, l_1, out, i) : Int × (List (List Int)) × (List (Int × (Int × (Int × (List Int × Int))))) × Int) =>
      letJ (fun ((n_2, l_2, out_1, i_1, t16) : Int × (List (List Int)) × (List (Int × (Int × (Int × (List Int × Int))))) × Int × Bool) =>
          bif t16 then
            (whileO (β := (Int × (List (List Int)) × (List (Int × (Int × (Int × (List Int × Int))))) × Int × (List Int))) (fun ((n_3, l_3, out_2, i_2, k, j__1) : Int × (List (List Int)) × (List (Int × (Int × (Int × (List Int × Int))))) × Int × (List Int) × Int) =>
                letJ (fun ((n_4, l_4, out_3, i_3, k_1, j__2, t29) : Int × (List (List Int)) × (List (Int × (Int × (Int × (List Int × Int))))) × Int × (List Int) × Int × Bool) =>
                    bif t29 then
                      bif (decide (0 ≤ i_3) && decide (i_3 < (l_4.length : Int))) then
                        bif (decide (0 ≤ j__2) && decide (j__2 < ((List.getD l_4 (Int.toNat i_3) []).length : Int))) then
                          bif (decide (0 ≤ j__2) && decide (j__2 < 5)) then
                            some (Sum.inl (n_4, l_4, out_3, i_3, (List.set k_1 (Int.toNat j__2) (List.getD (List.getD l_4 (Int.toNat i_3) []) (Int.toNat j__2) 0)), (w (j__2 + 1))))
                          else none
                        else none
                      else none
                    else
                      some (Sum.inr (n_4, l_4, out_3, i_3, k_1))) fun j__3 =>
                bif (decide (j__1 < 5)) then
                  bif (decide (0 ≤ i_2) && decide (i_2 < (l_3.length : Int))) then
                    j__3 (n_3, l_3, out_2, i_2, k, j__1, (decide (j__1 < ((List.getD l_3 (Int.toNat i_2) []).length : Int))))
                  else none
                else
                  j__3 (n_3, l_3, out_2, i_2, k, j__1, false)) (n_2, l_2, out_1, i_1, [0, 0, 0, 0, 0], 0)).bind fun ((n_5, l_5, out_4, i_4, k_2) : Int × (List (List Int)) × (List (Int × (Int × (Int × (List Int × Int))))) × Int × (List Int)) =>
            (d22 n_5 (List.getD k_2 0 0) (List.getD k_2 1 0) (List.getD k_2 2 0) (List.getD k_2 3 0) (List.getD k_2 4 0)).bind fun r =>
            bif (decide ((out_4.length : Int) + (([r] : List (Int × (Int × (Int × (List Int × Int))))).length : Int) ≤ LIM)) then
              some (Sum.inl (n_5, l_5, (out_4 ++ [r]), (w (i_4 + 1))))
            else none
          else
            some (Sum.inr out_1)) fun j_ =>
      bif (decide (i < (l_1.length : Int))) then
        j_ (n_1, l_1, out, i, (decide (i < 12)))
      else
        j_ (n_1, l_1, out, i, false)) (n, l, [], 0)).bind fun (out_5 : List (Int × (Int × (Int × (List Int × Int))))) =>
  some out_5
def sg39 : Sig := ⟨[(y2, .sh), (y26, .bw)], [(y53, (.own 25 .sh))]⟩
def plan39 : Plan := (.seq (.reg [] []) (.seq (.reg [] [{ fl := 2 }]) (.seq (.seq (.reg [] []) (.block (.loop [(0, .v y2 .sh), (1, .v y26 .bw), (5, .v y53 (.own 25 .sh)), (6, .v y2 .sh)] [(.brk 0, [(5, .v y53 (.own 25 .sh))])] (.seq (.join (.reg [] []) [(0, .v y2 .sh), (1, .v y26 .bw), (5, .v y53 (.own 25 .sh)), (6, .v y2 .sh), (16, .v y4 .sh)] (.cond .nil .nil)) (.seq (.block (.seq (.reg [] []) (.seq (.seq (.reg [] []) (.block (.loop [(0, .v y2 .sh), (1, .v y26 .bw), (5, .v y53 (.own 25 .sh)), (6, .v y2 .sh), (7, .v (.ptr y118) (.own 0 .sh)), (8, .v y2 .sh)] [(.brk 2, [(0, .v y2 .sh), (1, .v y26 .bw), (5, .v y53 (.own 25 .sh)), (6, .v y2 .sh), (7, .v (.ptr y118) (.own 0 .sh))])] (.seq (.join (.reg [] []) [(0, .v y2 .sh), (1, .v y26 .bw), (5, .v y53 (.own 25 .sh)), (6, .v y2 .sh), (7, .v (.ptr y118) (.own 0 .sh)), (8, .v y2 .sh), (29, .v y4 .sh)] (.cond .nil .nil)) (.seq (.block (.reg [] [])) (.reg [] [])))))) (.reg [] [])))) (.reg [] [])))))) (.seq (.reg [] []) .nil))))
theorem ev39 (xs : Vals (ptys sg39.ps)) : evF (P := Try.prog) tab [.fn E22] sg39 Try.f39.results.toList (code Try.f39) plan39 xs = d39 xs.1 xs.2.1 := by kernel_rfl
theorem sim39 : Sim Try.prog 39 sg39 d39 := sim_ev mixd tabOK Try.func39 (code_of rfl) Try.call39 (Nat.le_of_ble_eq_true (by kernel_rfl)) (by kernel_rfl) plan39 _ fun xs y h => (ev39 xs).trans h
noncomputable def E39 : FnE Try.prog := ⟨39, sg39, d39, sim39⟩

/-- election/electionref31.bytes -/
noncomputable def d94 (out : List Int) (n : Int) (k : Int) : Option (List Int) :=
  (whileO (β := (List Int)) (fun ((out_1, n_1, i) : (List Int) × Int × Int) =>
      bif (decide (0 ≤ i)) then
        bif (decide (0 ≤ (wu64 (w (8 * i))))) then
          bif (decide ((out_1.length : Int) + (([(wu8 (w (Int.fdiv n_1 (2 ^ (min (Int.toNat (wu64 (w (8 * i)))) 64)))))] : List Int).length : Int) ≤ LIM)) then
            some (Sum.inl ((out_1 ++ [(wu8 (w (Int.fdiv n_1 (2 ^ (min (Int.toNat (wu64 (w (8 * i)))) 64)))))]), n_1, (w (i - 1))))
          else none
        else none
      else
        some (Sum.inr out_1)) (out, n, (w (k - 1)))).bind fun (out_2 : List Int) =>
  some out_2
def sg94 : Sig := ⟨[(y49, (.give (.own 5 .sh))), (y2, .sh), (y2, .sh)], [(y49, (.own 5 .sh))]⟩
def plan94 : Plan := (.seq (.reg [] []) (.seq (.seq (.reg [] []) (.block (.loop [(0, .v y49 (.own 5 .sh)), (1, .v y2 .sh), (7, .v y2 .sh)] [(.brk 0, [(0, .v y49 (.own 5 .sh))])] (.seq (.seq (.reg [] []) (.cond .nil .nil)) (.seq (.block (.reg [] [])) (.reg [] [])))))) (.seq (.reg [] []) .nil)))
theorem ev94 (xs : Vals (ptys sg94.ps)) : evF (P := Try.prog) tab [] sg94 Try.f94.results.toList (code Try.f94) plan94 xs = d94 xs.1 xs.2.1 xs.2.2.1 := by kernel_rfl
theorem sim94 : Sim Try.prog 94 sg94 d94 := sim_ev mixd tabOK Try.func94 (code_of rfl) Try.call94 (Nat.le_of_ble_eq_true (by kernel_rfl)) (by kernel_rfl) plan94 _ fun xs y h => (ev94 xs).trans h
noncomputable def E94 : FnE Try.prog := ⟨94, sg94, d94, sim94⟩

/-- election/electionref31.EncodeAll -/
noncomputable def d38 (l : List (Int × (Int × (Int × (List Int × Int))))) : Option ((List Int) × Int) :=
  bif (decide (1400 < (l.length : Int))) then
    some ([], 7)
  else
    (d94 [] (l.length : Int) 2).bind fun r =>
    (whileO (β := (List Int) ⊕ ((List Int) × Int)) (fun ((l_1, out, i) : (List (Int × (Int × (Int × (List Int × Int))))) × (List Int) × Int) =>
        bif (decide (i < (l_1.length : Int))) then
          bif (decide (0 ≤ i) && decide (i < (l_1.length : Int))) then
            (d26 7 (List.getD l_1 (Int.toNat i) (0, 0, 0, [], 0))).bind fun r_1 =>
            bif !r_1 then
              some (Sum.inr (Sum.inr ([], 8)))
            else
              bif (decide ((out.length : Int) + (([(wu8 ((List.getD l_1 (Int.toNat i) (0, 0, 0, [], 0)).1)), (wu8 (((List.getD l_1 (Int.toNat i) (0, 0, 0, [], 0)).2).1)), (wu8 ((((List.getD l_1 (Int.toNat i) (0, 0, 0, [], 0)).2).2).1)), (wu8 (((((List.getD l_1 (Int.toNat i) (0, 0, 0, [], 0)).2).2).2).2)), (wu8 ((((((List.getD l_1 (Int.toNat i) (0, 0, 0, [], 0)).2).2).2).1).length : Int))] : List Int).length : Int) ≤ LIM)) then
                (whileO (β := ((List (Int × (Int × (Int × (List Int × Int))))) × (List Int) × Int)) (fun ((l_2, out_1, i_1, a, k) : (List (Int × (Int × (Int × (List Int × Int))))) × (List Int) × Int × (Int × (Int × (Int × (List Int × Int)))) × Int) =>
                    bif (decide (k < (a.2.2.2.1.length : Int))) then
                      bif (decide (0 ≤ k) && decide (k < (a.2.2.2.1.length : Int))) then
                        bif (decide ((out_1.length : Int) + (([(wu8 (List.getD a.2.2.2.1 (Int.toNat k) 0))] : List Int).length : Int) ≤ LIM)) then
                          some (Sum.inl (l_2, (out_1 ++ [(wu8 (List.getD a.2.2.2.1 (Int.toNat k) 0))]), i_1, a, (w (k + 1))))
                        else none
                      else none
                    else
                      some (Sum.inr (l_2, out_1, i_1))) (l_1, (out ++ [(wu8 ((List.getD l_1 (Int.toNat i) (0, 0, 0, [], 0)).1)), (wu8 (((List.getD l_1 (Int.toNat i) (0, 0, 0, [], 0)).2).1)), (wu8 ((((List.getD l_1 (Int.toNat i) (0, 0, 0, [], 0)).2).2).1)), (wu8 (((((List.getD l_1 (Int.toNat i) (0, 0, 0, [], 0)).2).2).2).2)), (wu8 ((((((List.getD l_1 (Int.toNat i) (0, 0, 0, [], 0)).2).2).2).1).length : Int))]), i, (List.getD l_1 (Int.toNat i) (0, 0, 0, [], 0)), 0)).bind fun ((l_3, out_2, i_2) : (List (Int × (Int × (Int × (List Int × Int))))) × (List Int) × Int) =>
                some (Sum.inl (l_3, out_2, (w (i_2 + 1))))
              else none
          else none
        else
          some (Sum.inr (Sum.inl out))) (l, r, 0)).bind fun
    | Sum.inl out_3 =>
      some (out_3, 0)
    | Sum.inr (t2, t3) =>
      some (t2, t3)
def sg38 : Sig := ⟨[(y53, .bw)], [(y49, .sh), (y2, .sh)]⟩
def plan38 : Plan := (.post (.seq (.reg [] []) (.seq (.seq (.reg [] []) (.cond (.seq (.reg [] []) .nil) .nil)) (.seq (.reg [] []) (.seq (.seq (.reg [] []) (.block (.loop [(0, .v y53 .bw), (4, .v y49 (.own 5 .sh)), (5, .v y2 .sh)] [(.brk 0, [(4, .v y49 (.own 5 .sh))]), (.ret, [(2, .v y49 .sh), (3, .v y2 .sh)])] (.seq (.seq (.reg [] []) (.cond .nil .nil)) (.seq (.block (.seq (.reg [] []) (.seq (.seq (.reg [] []) (.cond (.seq (.reg [] []) .nil) .nil)) (.seq (.reg [] []) (.seq (.reg [] []) (.block (.loop [(0, .v y53 .bw), (4, .v y49 (.own 5 .sh)), (5, .v y2 .sh), (6, .v (.ptr y24) (.own 0 .bw)), (7, .v y2 .sh)] [(.brk 2, [(0, .v y53 .bw), (4, .v y49 (.own 5 .sh)), (5, .v y2 .sh)])] (.seq (.seq (.reg [] []) (.cond .nil .nil)) (.seq (.block (.reg [] [])) (.reg [] [])))))))))) (.reg [] [])))))) (.seq (.reg [] []) .nil))))) [(2, [])])
theorem ev38 (xs : Vals (ptys sg38.ps)) : evF (P := Try.prog) tab [.fn E94, .fn E26] sg38 Try.f38.results.toList (code Try.f38) plan38 xs = d38 xs.1 := by kernel_rfl
theorem sim38 : Sim Try.prog 38 sg38 d38 := sim_ev mixd tabOK Try.func38 (code_of rfl) Try.call38 (Nat.le_of_ble_eq_true (by kernel_rfl)) (by kernel_rfl) plan38 _ fun xs y h => (ev38 xs).trans h
noncomputable def E38 : FnE Try.prog := ⟨38, sg38, d38, sim38⟩

/-- election/assertion.Decode -/
noncomputable def d40 (p0 : List Int) : Option ((List (Int × (Int × (Int × (List Int × Int))))) × Bool) :=
  bif (decide ((p0.length : Int) < 2)) then
    some ([], false)
  else
    bif (decide (0 ≤ 0) && decide (0 < (p0.length : Int))) then
      bif (decide (0 ≤ 1) && decide (1 < (p0.length : Int))) then
        bif (cutOK 2 (p0.length : Int) p0.length) then
          bif (decide (1400 < (w ((BitVec.ofInt 64 (w ((w (List.getD p0 0 0)) * 2 ^ (min (Int.toNat 8) 64))) ||| BitVec.ofInt 64 (w (List.getD p0 1 0))).toNat : Int)))) then
            some ([], false)
          else
            (whileO (β := ((List Int) × (List (Int × (Int × (Int × (List Int × Int)))))) ⊕ ((List (Int × (Int × (Int × (List Int × Int))))) × Bool)) (fun ((t0, t5, t26, t27) : (List Int) × (List (Int × (Int × (Int × (List Int × Int))))) × Int × Int) =>
                bif (decide (t27 < t26)) then
                  letJ (fun ((t0_1, t5_1, t26_1, t27_1, t41) : (List Int) × (List (Int × (Int × (Int × (List Int × Int))))) × Int × Int × Bool) =>
                      bif t41 then
                        some (Sum.inr (Sum.inr ([], false)))
                      else
                        bif (decide (0 ≤ 0) && decide (0 < (t0_1.length : Int))) then
                          bif (decide (0 ≤ 1) && decide (1 < (t0_1.length : Int))) then
                            bif (decide (0 ≤ 2) && decide (2 < (t0_1.length : Int))) then
                              bif (decide (0 ≤ 3) && decide (3 < (t0_1.length : Int))) then
                                bif (decide (0 ≤ 4) && decide (4 < (t0_1.length : Int))) then
                                  bif (cutOK 5 (w (5 + (w (List.getD t0_1 4 0)))) t0_1.length) then
                                    (whileO (β := ((List Int) × (List (Int × (Int × (Int × (List Int × Int))))) × (Int × (Int × (Int × (List Int × Int)))) × Int × Int)) (fun ((t0_2, t5_2, t6, t26_2, t27_2, t65, t66, t67) : (List Int) × (List (Int × (Int × (Int × (List Int × Int))))) × (Int × (Int × (Int × (List Int × Int)))) × Int × Int × (List Int) × Int × Int) =>
                                        bif (decide (t67 < t66)) then
                                          bif (decide (0 ≤ t67) && decide (t67 < (t65.length : Int))) then
                                            bif (decide ((t6.2.2.2.1.length : Int) + (([(w (List.getD t65 (Int.toNat t67) 0))] : List Int).length : Int) ≤ LIM)) then
                                              some (Sum.inl (t0_2, t5_2, (t6.1, t6.2.1, t6.2.2.1, (t6.2.2.2.1 ++ [(w (List.getD t65 (Int.toNat t67) 0))]), t6.2.2.2.2), t26_2, t27_2, t65, t66, (w (t67 + 1))))
                                            else none
                                          else none
                                        else
                                          some (Sum.inr (t0_2, t5_2, t6, t26_2, t27_2))) (t0_1, t5_1, ((w (List.getD t0_1 0 0)), (w (List.getD t0_1 1 0)), (w (List.getD t0_1 2 0)), [], (w (List.getD t0_1 3 0))), t26_1, t27_1, (List.drop 5 (List.take (Int.toNat (w (5 + (w (List.getD t0_1 4 0))))) t0_1)), ((List.drop 5 (List.take (Int.toNat (w (5 + (w (List.getD t0_1 4 0))))) t0_1)).length : Int), 0)).bind fun ((t0_3, t5_3, t6_1, t26_3, t27_3) : (List Int) × (List (Int × (Int × (Int × (List Int × Int))))) × (Int × (Int × (Int × (List Int × Int)))) × Int × Int) =>
                                    (d25 7 t6_1).bind fun r =>
                                    bif !r then
                                      some (Sum.inr (Sum.inr ([], false)))
                                    else
                                      bif (decide ((t5_3.length : Int) + (([t6_1] : List (Int × (Int × (Int × (List Int × Int))))).length : Int) ≤ LIM)) then
                                        bif (cutOK (w (5 + (t6_1.2.2.2.1.length : Int))) (t0_3.length : Int) t0_3.length) then
                                          some (Sum.inl ((List.drop (Int.toNat (w (5 + (t6_1.2.2.2.1.length : Int)))) (List.take (Int.toNat (t0_3.length : Int)) t0_3)), (t5_3 ++ [t6_1]), t26_3, (w (t27_3 + 1))))
                                        else none
                                      else none
                                  else none
                                else none
                              else none
                            else none
                          else none
                        else none) fun j_ =>
                  bif !(decide ((t0.length : Int) < 5)) then
                    bif (decide (0 ≤ 4) && decide (4 < (t0.length : Int))) then
                      j_ (t0, t5, t26, t27, (decide ((t0.length : Int) < (w (5 + (w (List.getD t0 4 0)))))))
                    else none
                  else
                    j_ (t0, t5, t26, t27, true)
                else
                  some (Sum.inr (Sum.inl (t0, t5)))) ((List.drop 2 (List.take (Int.toNat (p0.length : Int)) p0)), [], (w ((BitVec.ofInt 64 (w ((w (List.getD p0 0 0)) * 2 ^ (min (Int.toNat 8) 64))) ||| BitVec.ofInt 64 (w (List.getD p0 1 0))).toNat : Int)), 0)).bind fun
            | Sum.inl (t0_4, t5_4) =>
              bif (decide (0 < (t0_4.length : Int))) then
                some ([], false)
              else
                some (t5_4, true)
            | Sum.inr (t2, t3) =>
              some (t2, t3)
        else none
      else none
    else none
def sg40 : Sig := ⟨[(y49, .bw)], [(y53, .sh), (y4, .sh)]⟩
def plan40 : Plan := (.post (.seq (.reg [] []) (.seq (.seq (.reg [] []) (.cond (.seq (.reg [] []) .nil) .nil)) (.seq (.reg [] []) (.seq (.reg [] []) (.seq (.seq (.reg [] []) (.cond (.seq (.reg [] []) .nil) .nil)) (.seq (.reg [] [{ fl := 2 }]) (.seq (.seq (.reg [] []) (.block (.loop [(0, .v y49 .bw), (5, .v y53 (.own 25 .sh)), (26, .v y2 .sh), (27, .v y2 .sh)] [(.brk 0, [(0, .v y49 .bw), (5, .v y53 (.own 25 .sh))]), (.ret, [(2, .v y53 .sh), (3, .v y4 .sh)])] (.seq (.reg [] []) (.seq (.cond .nil .nil) (.seq (.block (.seq (.join (.reg [] []) [(0, .v y49 .bw), (5, .v y53 (.own 25 .sh)), (26, .v y2 .sh), (27, .v y2 .sh), (41, .v y4 .sh)] (.cond (.seq (.reg [] []) .nil) .nil)) (.seq (.reg [] [{}, {}, {}, {}, {}, {}, {}, {}, {}, {}, {}, {}, {}, {}, {}, {}, { fl := 7 }]) (.seq (.seq (.reg [] []) (.block (.loop [(0, .v y49 .bw), (5, .v y53 (.own 25 .sh)), (6, .v (.ptr y24) (.own 0 (.pr .sh (.pr .sh (.pr .sh (.pr (.own 3 .sh) .sh)))))), (26, .v y2 .sh), (27, .v y2 .sh), (65, .v y49 .bw), (66, .v y2 .sh), (67, .v y2 .sh)] [(.brk 2, [(0, .v y49 .bw), (5, .v y53 (.own 25 .sh)), (6, .v (.ptr y24) (.own 0 (.pr .sh (.pr .sh (.pr .sh (.pr (.own 3 .sh) .sh)))))), (26, .v y2 .sh), (27, .v y2 .sh)])] (.seq (.reg [] []) (.seq (.cond .nil .nil) (.seq (.block (.seq (.reg [] []) (.reg [] []))) (.reg [] []))))))) (.seq (.seq (.reg [(6, [0, 1, 1, 1, 0])] []) (.cond (.seq (.reg [] []) .nil) .nil)) (.seq (.reg [] []) (.reg [] []))))))) (.reg [] []))))))) (.seq (.seq (.reg [] []) (.cond (.seq (.reg [] []) .nil) .nil)) (.seq (.reg [] []) .nil))))))))) [(2, [])])
theorem ev40 (xs : Vals (ptys sg40.ps)) : evF (P := Try.prog) tab [.fn E25] sg40 Try.f40.results.toList (code Try.f40) plan40 xs = d40 xs.1 := by kernel_rfl
theorem sim40 : Sim Try.prog 40 sg40 d40 := sim_ev mixd tabOK Try.func40 (code_of rfl) Try.call40 (Nat.le_of_ble_eq_true (by kernel_rfl)) (by kernel_rfl) plan40 _ fun xs y h => (ev40 xs).trans h
noncomputable def E40 : FnE Try.prog := ⟨40, sg40, d40, sim40⟩

/-- election/electionlaw33.AssertionReads -/
noncomputable def d7 (p0 : List Int) (p1 : Bool) (p2 : Int) (p3 : List (List Int)) (p4 : Int) (p5 : Int) (p6 : Bool) : Option Bool :=
  bif (decide (300 < (p0.length : Int))) then
    (d17).bind fun r =>
    some r
  else
    letJ (fun (t0 : List Int) =>
        (d40 t0).bind fun r_5 =>
        bif !r_5.2 then
          (d17).bind fun r_6 =>
          bif r_6 then
            some (decide ((r_5.1.length : Int) = 0))
          else
            some false
        else
          (d38 r_5.1).bind fun r_7 =>
          (d17).bind fun r_8 =>
          bif r_8 then
            bif (decide (r_7.2 = 0)) then
              some (decide (r_7.1 = t0))
            else
              some false
          else
            some false) fun j_ =>
    bif !p1 then
      (d18 p2 6).bind fun r_1 =>
      (d39 (w (2 + r_1)) p3).bind fun r_2 =>
      (d38 r_2).bind fun r_3 =>
      bif (decide ((([] : List Int).length : Int) + (r_3.1.length : Int) ≤ LIM)) then
        (d18 p4 (r_3.1.length : Int)).bind fun r_4 =>
        bif (decide (0 ≤ r_4) && decide (r_4 < (r_3.1.length : Int))) then
          bif p6 then
            bif (cutOK 0 r_4 (List.set r_3.1 (Int.toNat r_4) (wu8 p5)).length) then
              j_ (List.take (Int.toNat r_4) (List.set r_3.1 (Int.toNat r_4) (wu8 p5)))
            else none
          else
            j_ (List.set r_3.1 (Int.toNat r_4) (wu8 p5))
        else none
      else none
    else
      j_ p0
def sg7 : Sig := ⟨[(y49, .sh), (y4, .sh), (y2, .sh), (y26, .bw), (y2, .sh), (y2, .sh), (y4, .sh)], [(y4, .sh)]⟩
def plan7 : Plan := (.seq (.reg [] []) (.seq (.seq (.reg [] []) (.cond (.seq (.reg [] []) .nil) .nil)) (.join (.post (.seq (.reg [] []) (.cond (.seq (.reg [] [{}, {}, {}, {}, {}, {}, { fl := 1 }]) (.seq (.reg [] []) (.seq (.reg [] []) (.seq (.reg [] []) (.seq (.reg [] []) (.cond (.reg [] []) .nil)))))) .nil)) [(0, [])]) [(0, .v y49 .sh)] (.seq (.reg [] [{}, {}, { fl := 1 }]) (.seq (.seq (.reg [] []) (.cond (.seq (.reg [] []) .nil) .nil)) (.seq (.reg [] [{}, {}, { fl := 1 }]) (.seq (.reg [] []) .nil)))))))
theorem ev7 (xs : Vals (ptys sg7.ps)) : evF (P := Try.prog) tab [.fn E17, .fn E18, .fn E39, .fn E38, .fn E40] sg7 Try.f7.results.toList (code Try.f7) plan7 xs = d7 xs.1 xs.2.1 xs.2.2.1 xs.2.2.2.1 xs.2.2.2.2.1 xs.2.2.2.2.2.1 xs.2.2.2.2.2.2.1 := by kernel_rfl
theorem sim7 : Sim Try.prog 7 sg7 d7 := sim_ev mixd tabOK Try.func7 (code_of rfl) Try.call7 (Nat.le_of_ble_eq_true (by kernel_rfl)) (by kernel_rfl) plan7 _ fun xs y h => (ev7 xs).trans h
noncomputable def E7 : FnE Try.prog := ⟨7, sg7, d7, sim7⟩

/-- election/assertion.Encode -/
noncomputable def d41 (l : List (Int × (Int × (Int × (List Int × Int))))) : Option ((List Int) × Int) :=
  bif (decide (1400 < (l.length : Int))) then
    some ([], 7)
  else
    (whileO (β := (List Int) ⊕ ((List Int) × Int)) (fun ((b, t20, t21, t22) : (List Int) × (List (Int × (Int × (Int × (List Int × Int))))) × Int × Int) =>
        bif (decide (t22 < t21)) then
          bif (decide (0 ≤ t22) && decide (t22 < (t20.length : Int))) then
            (d25 7 (List.getD t20 (Int.toNat t22) (0, 0, 0, [], 0))).bind fun r =>
            bif !r then
              some (Sum.inr (Sum.inr ([], 8)))
            else
              bif (decide ((b.length : Int) + (([(wu8 ((List.getD t20 (Int.toNat t22) (0, 0, 0, [], 0)).1)), (wu8 (((List.getD t20 (Int.toNat t22) (0, 0, 0, [], 0)).2).1)), (wu8 ((((List.getD t20 (Int.toNat t22) (0, 0, 0, [], 0)).2).2).1)), (wu8 (((((List.getD t20 (Int.toNat t22) (0, 0, 0, [], 0)).2).2).2).2)), (wu8 ((((((List.getD t20 (Int.toNat t22) (0, 0, 0, [], 0)).2).2).2).1).length : Int))] : List Int).length : Int) ≤ LIM)) then
                (whileO (β := ((List Int) × (List (Int × (Int × (Int × (List Int × Int))))) × Int × Int)) (fun ((b_1, t20_1, t21_1, t22_1, t49, t50, t51) : (List Int) × (List (Int × (Int × (Int × (List Int × Int))))) × Int × Int × (List Int) × Int × Int) =>
                    bif (decide (t51 < t50)) then
                      bif (decide (0 ≤ t51) && decide (t51 < (t49.length : Int))) then
                        bif (decide ((b_1.length : Int) + (([(wu8 (List.getD t49 (Int.toNat t51) 0))] : List Int).length : Int) ≤ LIM)) then
                          some (Sum.inl ((b_1 ++ [(wu8 (List.getD t49 (Int.toNat t51) 0))]), t20_1, t21_1, t22_1, t49, t50, (w (t51 + 1))))
                        else none
                      else none
                    else
                      some (Sum.inr (b_1, t20_1, t21_1, t22_1))) ((b ++ [(wu8 ((List.getD t20 (Int.toNat t22) (0, 0, 0, [], 0)).1)), (wu8 (((List.getD t20 (Int.toNat t22) (0, 0, 0, [], 0)).2).1)), (wu8 ((((List.getD t20 (Int.toNat t22) (0, 0, 0, [], 0)).2).2).1)), (wu8 (((((List.getD t20 (Int.toNat t22) (0, 0, 0, [], 0)).2).2).2).2)), (wu8 ((((((List.getD t20 (Int.toNat t22) (0, 0, 0, [], 0)).2).2).2).1).length : Int))]), t20, t21, t22, ((((List.getD t20 (Int.toNat t22) (0, 0, 0, [], 0)).2).2).2).1, ((((((List.getD t20 (Int.toNat t22) (0, 0, 0, [], 0)).2).2).2).1).length : Int), 0)).bind fun ((b_2, t20_2, t21_2, t22_2) : (List Int) × (List (Int × (Int × (Int × (List Int × Int))))) × Int × Int) =>
                some (Sum.inl (b_2, t20_2, t21_2, (w (t22_2 + 1))))
              else none
          else none
        else
          some (Sum.inr (Sum.inl b))) ([(wu8 (w (Int.fdiv (l.length : Int) (2 ^ (min (Int.toNat 8) 64))))), (wu8 (l.length : Int))], l, (l.length : Int), 0)).bind fun
    | Sum.inl b_3 =>
      some (b_3, 0)
    | Sum.inr (t2, t3) =>
      some (t2, t3)
def sg41 : Sig := ⟨[(y53, .bw)], [(y49, .sh), (y2, .sh)]⟩
def plan41 : Plan := (.post (.seq (.reg [] []) (.seq (.seq (.reg [] []) (.cond (.seq (.reg [] []) .nil) .nil)) (.seq (.reg [] []) (.seq (.seq (.reg [] []) (.block (.loop [(4, .v y49 (.own 5 .sh)), (20, .v y53 .bw), (21, .v y2 .sh), (22, .v y2 .sh)] [(.brk 0, [(4, .v y49 (.own 5 .sh))]), (.ret, [(2, .v y49 .sh), (3, .v y2 .sh)])] (.seq (.reg [] []) (.seq (.cond .nil .nil) (.seq (.block (.seq (.reg [] []) (.seq (.seq (.reg [] []) (.cond (.seq (.reg [] []) .nil) .nil)) (.seq (.reg [] []) (.seq (.reg [] []) (.block (.loop [(4, .v y49 (.own 5 .sh)), (20, .v y53 .bw), (21, .v y2 .sh), (22, .v y2 .sh), (49, .v y23 .bw), (50, .v y2 .sh), (51, .v y2 .sh)] [(.brk 2, [(4, .v y49 (.own 5 .sh)), (20, .v y53 .bw), (21, .v y2 .sh), (22, .v y2 .sh)])] (.seq (.reg [] []) (.seq (.cond .nil .nil) (.seq (.block (.seq (.reg [] []) (.reg [] []))) (.reg [] []))))))))))) (.reg [] []))))))) (.seq (.reg [] []) .nil))))) [(2, [])])
theorem ev41 (xs : Vals (ptys sg41.ps)) : evF (P := Try.prog) tab [.fn E25] sg41 Try.f41.results.toList (code Try.f41) plan41 xs = d41 xs.1 := by kernel_rfl
theorem sim41 : Sim Try.prog 41 sg41 d41 := sim_ev mixd tabOK Try.func41 (code_of rfl) Try.call41 (Nat.le_of_ble_eq_true (by kernel_rfl)) (by kernel_rfl) plan41 _ fun xs y h => (ev41 xs).trans h
noncomputable def E41 : FnE Try.prog := ⟨41, sg41, d41, sim41⟩

/-- election/electionref31.SameAll -/
noncomputable def d42 (a : List (Int × (Int × (Int × (List Int × Int))))) (b : List (Int × (Int × (Int × (List Int × Int))))) : Option Bool :=
  bif !(decide ((a.length : Int) = (b.length : Int))) then
    some false
  else
    (whileO (β := Unit ⊕ Bool) (fun ((a_1, b_1, i) : (List (Int × (Int × (Int × (List Int × Int))))) × (List (Int × (Int × (Int × (List Int × Int))))) × Int) =>
        bif (decide (i < (a_1.length : Int))) then
          bif (decide (0 ≤ i) && decide (i < (a_1.length : Int))) then
            bif (decide (0 ≤ i) && decide (i < (b_1.length : Int))) then
              (d36 (List.getD a_1 (Int.toNat i) (0, 0, 0, [], 0)) (List.getD b_1 (Int.toNat i) (0, 0, 0, [], 0))).bind fun r =>
              bif !(decide (r = 0)) then
                some (Sum.inr (Sum.inr false))
              else
                some (Sum.inl (a_1, b_1, (w (i + 1))))
            else none
          else none
        else
          some (Sum.inr (Sum.inl ()))) (a, b, 0)).bind fun
    | Sum.inl _ =>
      some true
    | Sum.inr t4 =>
      some t4
def sg42 : Sig := ⟨[(y53, .bw), (y53, .bw)], [(y4, .sh)]⟩
def plan42 : Plan := (.seq (.reg [] []) (.seq (.seq (.reg [] []) (.cond (.seq (.reg [] []) .nil) .nil)) (.seq (.seq (.reg [] []) (.block (.loop [(0, .v y53 .bw), (1, .v y53 .bw), (5, .v y2 .sh)] [(.brk 0, []), (.ret, [(4, .v y4 .sh)])] (.seq (.seq (.reg [] []) (.cond .nil .nil)) (.seq (.block (.seq (.reg [] []) (.cond (.seq (.reg [] []) .nil) .nil))) (.reg [] [])))))) (.seq (.reg [] []) .nil))))
theorem ev42 (xs : Vals (ptys sg42.ps)) : evF (P := Try.prog) tab [.fn E36] sg42 Try.f42.results.toList (code Try.f42) plan42 xs = d42 xs.1 xs.2.1 := by kernel_rfl
theorem sim42 : Sim Try.prog 42 sg42 d42 := sim_ev mixd tabOK Try.func42 (code_of rfl) Try.call42 (Nat.le_of_ble_eq_true (by kernel_rfl)) (by kernel_rfl) plan42 _ fun xs y h => (ev42 xs).trans h
noncomputable def E42 : FnE Try.prog := ⟨42, sg42, d42, sim42⟩

/-- election/electionlaw33.AssertionBack -/
noncomputable def d8 (p0 : List (Int × (Int × (Int × (List Int × Int))))) (p1 : Bool) (p2 : Int) (p3 : List (List Int)) (p4 : Int) (p5 : Int) (p6 : Int) : Option Bool :=
  (whileO (β := ((List (Int × (Int × (Int × (List Int × Int))))) × Bool × Int × (List (List Int)) × Int × Int × Int) ⊕ Bool) (fun ((t0, t1, t2, t3, t4, t5, t6, t15) : (List (Int × (Int × (Int × (List Int × Int))))) × Bool × Int × (List (List Int)) × Int × Int × Int × Int) =>
      bif (decide (t15 < (t0.length : Int))) then
        bif (decide (0 ≤ t15) && decide (t15 < (t0.length : Int))) then
          bif (decide (9 < ((((((List.getD t0 (Int.toNat t15) (0, 0, 0, [], 0)).2).2).2).1).length : Int))) then
            (d17).bind fun r =>
            some (Sum.inr (Sum.inr r))
          else
            some (Sum.inl (t0, t1, t2, t3, t4, t5, t6, (w (t15 + 1))))
        else none
      else
        some (Sum.inr (Sum.inl (t0, t1, t2, t3, t4, t5, t6)))) (p0, p1, p2, p3, p4, p5, p6, 0)).bind fun
  | Sum.inl (t0_1, t1_1, t2_1, t3_1, t4_1, t5_1, t6_1) =>
    letJ (fun (t0_2 : List (Int × (Int × (Int × (List Int × Int))))) =>
        bif (cutOK 0 (bif (decide (40 < (t0_2.length : Int))) then 40 else (t0_2.length : Int)) t0_2.length) then
          (d41 (List.drop 0 (List.take (Int.toNat (bif (decide (40 < (t0_2.length : Int))) then 40 else (t0_2.length : Int))) t0_2))).bind fun r_5 =>
          (d38 (List.drop 0 (List.take (Int.toNat (bif (decide (40 < (t0_2.length : Int))) then 40 else (t0_2.length : Int))) t0_2))).bind fun r_6 =>
          letJ (fun ((t0_3, t17, t18, t85) : (List (Int × (Int × (Int × (List Int × Int))))) × (List Int) × Int × Bool) =>
              bif t85 then
                some false
              else
                bif !(decide (t18 = 0)) then
                  (d17).bind fun r_7 =>
                  bif r_7 then
                    some (decide ((t17.length : Int) = 0))
                  else
                    some false
                else
                  (d40 t17).bind fun r_8 =>
                  (d17).bind fun r_9 =>
                  bif r_9 then
                    bif r_8.2 then
                      (d42 t0_3 r_8.1).bind fun r_10 =>
                      some r_10
                    else
                      some false
                  else
                    some false) fun j__1 =>
          bif !(!(decide (r_5.2 = r_6.2))) then
            j__1 ((List.drop 0 (List.take (Int.toNat (bif (decide (40 < (t0_2.length : Int))) then 40 else (t0_2.length : Int))) t0_2)), r_5.1, r_5.2, !(decide (r_5.1 = r_6.1)))
          else
            j__1 ((List.drop 0 (List.take (Int.toNat (bif (decide (40 < (t0_2.length : Int))) then 40 else (t0_2.length : Int))) t0_2)), r_5.1, r_5.2, true)
        else none) fun j_ =>
    bif !t1_1 then
      (d18 t2_1 6).bind fun r_1 =>
      (d39 (w (2 + r_1)) t3_1).bind fun r_2 =>
      bif (decide (0 < (r_2.length : Int))) then
        (d18 t4_1 (r_2.length : Int)).bind fun r_3 =>
        bif (decide (0 ≤ r_3) && decide (r_3 < (r_2.length : Int))) then
          (d21 (List.getD r_2 (Int.toNat r_3) (0, 0, 0, [], 0)) t5_1 t6_1).bind fun r_4 =>
          bif (decide (0 ≤ r_3) && decide (r_3 < (r_2.length : Int))) then
            j_ (List.set r_2 (Int.toNat r_3) r_4)
          else none
        else none
      else
        j_ r_2
    else
      j_ t0_1
  | Sum.inr t14 =>
    some t14
def sg8 : Sig := ⟨[(y53, .sh), (y4, .sh), (y2, .sh), (y26, .bw), (y2, .sh), (y2, .sh), (y2, .sh)], [(y4, .sh)]⟩
def plan8 : Plan := (.seq (.reg [] []) (.seq (.seq (.reg [] []) (.block (.loop [(0, .v y53 .sh), (1, .v y4 .sh), (2, .v y2 .sh), (3, .v y26 .bw), (4, .v y2 .sh), (5, .v y2 .sh), (6, .v y2 .sh), (15, .v y2 .sh)] [(.brk 0, [(0, .v y53 .sh), (1, .v y4 .sh), (2, .v y2 .sh), (3, .v y26 .bw), (4, .v y2 .sh), (5, .v y2 .sh), (6, .v y2 .sh)]), (.ret, [(14, .v y4 .sh)])] (.seq (.seq (.reg [] []) (.cond .nil .nil)) (.seq (.block (.seq (.reg [] []) (.cond (.seq (.reg [] []) .nil) .nil))) (.reg [] [])))))) (.join (.post (.seq (.reg [] []) (.cond (.seq (.reg [] []) (.seq (.reg [] []) (.cond (.seq (.reg [] []) (.reg [] [])) .nil))) .nil)) [(0, [])]) [(0, .v y53 .sh)] (.seq (.reg [] []) (.seq (.reg [] [{}, {}, { fl := 1 }]) (.seq (.reg [] [{}, {}, { fl := 1 }]) (.seq (.join (.reg [] []) [(0, .v y53 .sh), (17, .v y49 .sh), (18, .v y2 .sh), (85, .v y4 .sh)] (.cond (.seq (.reg [] []) .nil) .nil)) (.seq (.seq (.reg [] []) (.cond (.seq (.reg [] []) .nil) .nil)) (.seq (.reg [] [{}, {}, { fl := 1 }]) (.seq (.reg [] []) .nil))))))))))
theorem ev8 (xs : Vals (ptys sg8.ps)) : evF (P := Try.prog) tab [.fn E17, .fn E18, .fn E39, .fn E21, .fn E41, .fn E38, .fn E40, .fn E42] sg8 Try.f8.results.toList (code Try.f8) plan8 xs = d8 xs.1 xs.2.1 xs.2.2.1 xs.2.2.2.1 xs.2.2.2.2.1 xs.2.2.2.2.2.1 xs.2.2.2.2.2.2.1 := by kernel_rfl
theorem sim8 : Sim Try.prog 8 sg8 d8 := sim_ev mixd tabOK Try.func8 (code_of rfl) Try.call8 (Nat.le_of_ble_eq_true (by kernel_rfl)) (by kernel_rfl) plan8 _ fun xs y h => (ev8 xs).trans h
noncomputable def E8 : FnE Try.prog := ⟨8, sg8, d8, sim8⟩

/-- election/electionref31.IsTail -/
noncomputable def d86 (n : Int) (l : List Int) : Option Bool :=
  bif (decide (0 < (l.length : Int))) then
    (d79 n l).bind fun r =>
    some r
  else
    some false
def sg86 : Sig := ⟨[(y2, .sh), (y23, .bw)], [(y4, .sh)]⟩
def plan86 : Plan := (.seq (.reg [] []) (.seq (.reg [] []) .nil))
theorem ev86 (xs : Vals (ptys sg86.ps)) : evF (P := Try.prog) tab [.fn E79] sg86 Try.f86.results.toList (code Try.f86) plan86 xs = d86 xs.1 xs.2.1 := by kernel_rfl
theorem sim86 : Sim Try.prog 86 sg86 d86 := sim_ev mixd tabOK Try.func86 (code_of rfl) Try.call86 (Nat.le_of_ble_eq_true (by kernel_rfl)) (by kernel_rfl) plan86 _ fun xs y h => (ev86 xs).trans h
noncomputable def E86 : FnE Try.prog := ⟨86, sg86, d86, sim86⟩

/-- election/electionref31.Contradicts -/
noncomputable def d31 (p0 : Int) (p1 : (Int × (Int × (Int × (List Int × Int))))) (p2 : List Int) : Option Bool :=
  letJ (fun ((t2, t4, t19) : (List Int) × (Int × (Int × (Int × (List Int × Int)))) × Bool) =>
      bif t19 then
        some false
      else
        bif (decide (t4.1 = 1)) then
          (d87 t2 t4.2.2.1).bind fun r_2 =>
          bif (decide (r_2 < (t2.length : Int))) then
            bif (cutOK r_2 (t2.length : Int) t2.length) then
              (d32 (List.drop (Int.toNat r_2) (List.take (Int.toNat (t2.length : Int)) t2)) t4.2.1).bind fun r_3 =>
              some (!r_3)
            else none
          else
            some false
        else
          bif (decide (t4.1 = 2)) then
            letJ (fun ((t2_1, t4_1, t8, t59) : (List Int) × (Int × (Int × (Int × (List Int × Int)))) × Int × Bool) =>
                bif t59 then
                  some false
                else
                  (whileO (β := Unit ⊕ Bool) (fun ((t2_2, t4_2, t8_1, t9) : (List Int) × (Int × (Int × (Int × (List Int × Int)))) × Int × Int) =>
                      bif (decide (t9 < (t4_2.2.2.2.1.length : Int))) then
                        bif (cutOK t8_1 (t2_2.length : Int) t2_2.length) then
                          bif (decide (0 ≤ t9) && decide (t9 < (t4_2.2.2.2.1.length : Int))) then
                            (d32 (List.drop (Int.toNat t8_1) (List.take (Int.toNat (t2_2.length : Int)) t2_2)) (List.getD t4_2.2.2.2.1 (Int.toNat t9) 0)).bind fun r_4 =>
                            bif !r_4 then
                              some (Sum.inr (Sum.inr false))
                            else
                              some (Sum.inl (t2_2, t4_2, t8_1, (w (t9 + 1))))
                          else none
                        else none
                      else
                        some (Sum.inr (Sum.inl ()))) (t2_1, t4_1, t8, 0)).bind fun
                  | Sum.inl _ =>
                    some true
                  | Sum.inr t6 =>
                    some t6) fun j__1 =>
            bif !(decide ((w ((t2.length : Int) - (t4.2.2.2.1.length : Int))) < 0)) then
              bif (decide (0 ≤ (w ((t2.length : Int) - (t4.2.2.2.1.length : Int)))) && decide ((w ((t2.length : Int) - (t4.2.2.2.1.length : Int))) < (t2.length : Int))) then
                j__1 (t2, t4, (w ((t2.length : Int) - (t4.2.2.2.1.length : Int))), !(decide ((List.getD t2 (Int.toNat (w ((t2.length : Int) - (t4.2.2.2.1.length : Int)))) 0) = t4.2.1)))
              else none
            else
              j__1 (t2, t4, (w ((t2.length : Int) - (t4.2.2.2.1.length : Int))), true)
          else
            some false) fun j_ =>
  (d26 p0 p1).bind fun r =>
  bif !(!r) then
    (d86 p0 p2).bind fun r_1 =>
    j_ (p2, p1, !r_1)
  else
    j_ (p2, p1, true)
def sg31 : Sig := ⟨[(y2, .sh), (y24, .bw), (y23, .bw)], [(y4, .sh)]⟩
def plan31 : Plan := (.seq (.reg [] []) (.seq (.join (.reg [] []) [(2, .v y23 .bw), (4, .v (.ptr y24) (.own 0 .bw)), (19, .v y4 .sh)] (.cond (.seq (.reg [] []) .nil) .nil)) (.seq (.seq (.reg [] []) (.block (.seq (.reg [] []) (.cond (.seq (.reg [] []) (.seq (.reg [] []) .nil)) (.seq (.reg [] []) (.cond (.seq (.reg [] []) (.seq (.join (.reg [] []) [(2, .v y23 .bw), (4, .v (.ptr y24) (.own 0 .bw)), (8, .v y2 .sh), (59, .v y4 .sh)] (.cond (.seq (.reg [] []) .nil) .nil)) (.seq (.seq (.reg [] []) (.block (.loop [(2, .v y23 .bw), (4, .v (.ptr y24) (.own 0 .bw)), (8, .v y2 .sh), (9, .v y2 .sh)] [(.brk 1, []), (.ret, [(6, .v y4 .sh)])] (.seq (.seq (.reg [] []) (.cond .nil .nil)) (.seq (.block (.seq (.reg [] []) (.cond (.seq (.reg [] []) .nil) .nil))) (.reg [] [])))))) (.seq (.reg [] []) .nil)))) .nil)))))) (.seq (.reg [] []) .nil))))
theorem ev31 (xs : Vals (ptys sg31.ps)) : evF (P := Try.prog) tab [.fn E26, .fn E86, .fn E87, .fn E32] sg31 Try.f31.results.toList (code Try.f31) plan31 xs = d31 xs.1 xs.2.1 xs.2.2.1 := by kernel_rfl
theorem sim31 : Sim Try.prog 31 sg31 d31 := sim_ev mixd tabOK Try.func31 (code_of rfl) Try.call31 (Nat.le_of_ble_eq_true (by kernel_rfl)) (by kernel_rfl) plan31 _ fun xs y h => (ev31 xs).trans h
noncomputable def E31 : FnE Try.prog := ⟨31, sg31, d31, sim31⟩

/-- election/electionlaw33.AssertionContradicts -/
noncomputable def d4 (p0 : Int) (p1 : (Int × (Int × (Int × (List Int × Int))))) (p2 : List Int) (p3 : Bool) (p4 : Int) (p5 : Int) (p6 : Int) (p7 : Int) (p8 : Int) (p9 : Int) (p10 : Int) : Option Bool :=
  letJ (fun ((t0, t2, t3, t4, t5, t6, t7, t8, t9, t10, t12, t32) : Int × (List Int) × Bool × Int × Int × Int × Int × Int × Int × Int × (Int × (Int × (Int × (List Int × Int)))) × Bool) =>
      bif t32 then
        (d17).bind fun r =>
        some r
      else
        letJ (fun ((t0_1, t2_1, t10_1, t12_1) : Int × (List Int) × Int × (Int × (Int × (Int × (List Int × Int))))) =>
            (d30 t0_1 t12_1 t2_1).bind fun r_5 =>
            (d31 t0_1 t12_1 t2_1).bind fun r_6 =>
            bif !(r_5 == r_6) then
              some false
            else
              letJ (fun (t84 : Bool) =>
                  bif t84 then
                    some false
                  else
                    (d17).bind fun r_11 =>
                    some r_11) fun j__2 =>
              bif r_5 then
                (d18 t10_1 t0_1).bind fun r_7 =>
                (d32 t2_1 r_7).bind fun r_8 =>
                bif !r_8 then
                  (d18 t10_1 t0_1).bind fun r_9 =>
                  bif (decide ((([r_9] : List Int).length : Int) + (t2_1.length : Int) ≤ LIM)) then
                    (d30 t0_1 t12_1 ([r_9] ++ t2_1)).bind fun r_10 =>
                    j__2 (!r_10)
                  else none
                else
                  j__2 false
              else
                j__2 false) fun j__1 =>
        bif !t3 then
          (d18 t0 6).bind fun r_1 =>
          (d22 (w (2 + r_1)) t4 t5 t6 t7 0).bind fun r_2 =>
          (d21 r_2 t8 t9).bind fun r_3 =>
          bif (decide ((([t5] : List Int).length : Int) + (t2.length : Int) ≤ LIM)) then
            (d29 (w (2 + r_1)) ([t5] ++ t2)).bind fun r_4 =>
            j__1 ((w (2 + r_1)), r_4, t10, r_3)
          else none
        else
          j__1 (t0, t2, t10, t12)) fun j_ =>
  bif !(decide (9 < (p2.length : Int))) then
    j_ (p0, p2, p3, p4, p5, p6, p7, p8, p9, p10, p1, (decide (9 < (p1.2.2.2.1.length : Int))))
  else
    j_ (p0, p2, p3, p4, p5, p6, p7, p8, p9, p10, p1, true)
def sg4 : Sig := ⟨[(y2, .sh), (y24, .bw), (y23, .sh), (y4, .sh), (y2, .sh), (y2, .sh), (y2, .sh), (y2, .sh), (y2, .sh), (y2, .sh), (y2, .sh)], [(y4, .sh)]⟩
def plan4 : Plan := (.seq (.reg [] []) (.seq (.join (.reg [] []) [(0, .v y2 .sh), (2, .v y23 .sh), (3, .v y4 .sh), (4, .v y2 .sh), (5, .v y2 .sh), (6, .v y2 .sh), (7, .v y2 .sh), (8, .v y2 .sh), (9, .v y2 .sh), (10, .v y2 .sh), (12, .v (.ptr y24) (.own 0 .bw)), (32, .v y4 .sh)] (.cond (.seq (.reg [] []) .nil) .nil)) (.join (.post (.seq (.reg [] []) (.cond (.seq (.reg [] []) (.seq (.reg [] []) (.reg [] []))) .nil)) [(2, [])]) [(0, .v y2 .sh), (2, .v y23 .sh), (10, .v y2 .sh), (12, .v (.ptr y24) (.own 0 .bw))] (.seq (.reg [] []) (.seq (.seq (.reg [] []) (.cond (.seq (.reg [] []) .nil) .nil)) (.seq (.join (.reg [] []) [(84, .v y4 .sh)] (.cond (.seq (.reg [] []) .nil) .nil)) (.seq (.reg [] []) .nil)))))))
theorem ev4 (xs : Vals (ptys sg4.ps)) : evF (P := Try.prog) tab [.fn E17, .fn E18, .fn E22, .fn E21, .fn E29, .fn E30, .fn E31, .fn E32] sg4 Try.f4.results.toList (code Try.f4) plan4 xs = d4 xs.1 xs.2.1 xs.2.2.1 xs.2.2.2.1 xs.2.2.2.2.1 xs.2.2.2.2.2.1 xs.2.2.2.2.2.2.1 xs.2.2.2.2.2.2.2.1 xs.2.2.2.2.2.2.2.2.1 xs.2.2.2.2.2.2.2.2.2.1 xs.2.2.2.2.2.2.2.2.2.2.1 := by kernel_rfl
theorem sim4 : Sim Try.prog 4 sg4 d4 := sim_ev mixd tabOK Try.func4 (code_of rfl) Try.call4 (Nat.le_of_ble_eq_true (by kernel_rfl)) (by kernel_rfl) plan4 _ fun xs y h => (ev4 xs).trans h
noncomputable def E4 : FnE Try.prog := ⟨4, sg4, d4, sim4⟩

end Go.Proofs.Ythemaffjohmhnaa