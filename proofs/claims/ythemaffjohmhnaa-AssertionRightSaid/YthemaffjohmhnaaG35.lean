/- More functions of the program, with their contracts. -/
import Derived.Test.YthemaffjohmhnaaG33
open Go Go.Proofs Go.X
namespace Go.Proofs.Ythemaffjohmhnaa
set_option linter.unusedVariables false
set_option maxRecDepth 100000
/-- election/electionref31.Margin -/
noncomputable def d33 (n : Int) (gs : List (List Int × Int)) (a : (Int × (Int × (Int × (List Int × Int))))) : Option Int :=
  (d24 n gs a).bind fun r =>
  some (w (r.1 - r.2))
def sg33 : Sig := ⟨[(y2, .sh), (y22, .bw), (y24, .bw)], [(y2, .sh)]⟩
def plan33 : Plan := (.seq (.reg [] []) (.seq (.reg [] [{}, {}, {}, {}, { fl := 1 }]) (.seq (.reg [] []) .nil)))
theorem ev33 (xs : Vals (ptys sg33.ps)) : evF (P := Try.prog) tab [.fn E24] sg33 Try.f33.results.toList (code Try.f33) plan33 xs = d33 xs.1 xs.2.1 xs.2.2.1 := by kernel_rfl
theorem sim33 : Sim Try.prog 33 sg33 d33 := sim_ev mixd tabOK Try.func33 (code_of rfl) Try.call33 (Nat.le_of_ble_eq_true (by kernel_rfl)) (by kernel_rfl) plan33 _ fun xs y h => (ev33 xs).trans h
noncomputable def E33 : FnE Try.prog := ⟨33, sg33, d33, sim33⟩

/-- election/electionref24.Lowest -/
noncomputable def d112 (votes : List Int) (remain : List Bool) : Option (List Int) :=
  (whileO (β := (List Int)) (fun ((votes_1, remain_1, out, i) : (List Int) × (List Bool) × (List Int) × Int) =>
      bif (decide (i < (votes_1.length : Int))) then
        letJ (fun ((votes_6, remain_6, out_5, i_5) : (List Int) × (List Bool) × (List Int) × Int) =>
            some (Sum.inl (votes_6, remain_6, out_5, (w (i_5 + 1))))) fun j__2 =>
        (d124 remain_1 i).bind fun r =>
        (whileO (β := ((List Int) × (List Bool) × (List Int) × Int × Bool)) (fun ((votes_2, remain_2, out_1, i_1, low, k) : (List Int) × (List Bool) × (List Int) × Int × Bool × Int) =>
            bif (decide (k < (votes_2.length : Int))) then
              letJ (fun ((votes_4, remain_4, out_3, i_3, low_2, k_2) : (List Int) × (List Bool) × (List Int) × Int × Bool × Int) =>
                  some (Sum.inl (votes_4, remain_4, out_3, i_3, low_2, (w (k_2 + 1))))) fun j__1 =>
              letJ (fun ((votes_3, remain_3, out_2, i_2, low_1, k_1, t37) : (List Int) × (List Bool) × (List Int) × Int × Bool × Int × Bool) =>
                  bif t37 then
                    j__1 (votes_3, remain_3, out_2, i_2, false, k_1)
                  else
                    j__1 (votes_3, remain_3, out_2, i_2, low_1, k_1)) fun j_ =>
              (d124 remain_2 k).bind fun r_1 =>
              bif r_1 then
                bif (decide (0 ≤ k) && decide (k < (votes_2.length : Int))) then
                  bif (decide (0 ≤ i_1) && decide (i_1 < (votes_2.length : Int))) then
                    j_ (votes_2, remain_2, out_1, i_1, low, k, (decide ((List.getD votes_2 (Int.toNat k) 0) < (List.getD votes_2 (Int.toNat i_1) 0))))
                  else none
                else none
              else
                j_ (votes_2, remain_2, out_1, i_1, low, k, false)
            else
              some (Sum.inr (votes_2, remain_2, out_1, i_1, low))) (votes_1, remain_1, out, i, r, 0)).bind fun ((votes_5, remain_5, out_4, i_4, low_3) : (List Int) × (List Bool) × (List Int) × Int × Bool) =>
        bif low_3 then
          bif (decide ((out_4.length : Int) + (([i_4] : List Int).length : Int) ≤ LIM)) then
            j__2 (votes_5, remain_5, (out_4 ++ [i_4]), i_4)
          else none
        else
          j__2 (votes_5, remain_5, out_4, i_4)
      else
        some (Sum.inr out)) (votes, remain, [], 0)).bind fun (out_6 : List Int) =>
  some out_6
def sg112 : Sig := ⟨[(y23, .bw), (y75, .bw)], [(y23, (.own 3 .sh))]⟩
def plan112 : Plan := (.seq (.reg [] []) (.seq (.reg [] [{ fl := 2 }]) (.seq (.seq (.reg [] []) (.block (.loop [(0, .v y23 .bw), (1, .v y75 .bw), (5, .v y23 (.own 3 .sh)), (6, .v y2 .sh)] [(.brk 0, [(5, .v y23 (.own 3 .sh))])] (.seq (.seq (.reg [] []) (.cond .nil .nil)) (.join (.block (.seq (.reg [] []) (.seq (.seq (.reg [] []) (.block (.loop [(0, .v y23 .bw), (1, .v y75 .bw), (5, .v y23 (.own 3 .sh)), (6, .v y2 .sh), (7, .v y4 .sh), (8, .v y2 .sh)] [(.brk 2, [(0, .v y23 .bw), (1, .v y75 .bw), (5, .v y23 (.own 3 .sh)), (6, .v y2 .sh), (7, .v y4 .sh)])] (.seq (.seq (.reg [] []) (.cond .nil .nil)) (.join (.block (.join (.reg [] []) [(0, .v y23 .bw), (1, .v y75 .bw), (5, .v y23 (.own 3 .sh)), (6, .v y2 .sh), (7, .v y4 .sh), (8, .v y2 .sh), (37, .v y4 .sh)] (.cond (.reg [] []) .nil))) [(0, .v y23 .bw), (1, .v y75 .bw), (5, .v y23 (.own 3 .sh)), (6, .v y2 .sh), (7, .v y4 .sh), (8, .v y2 .sh)] (.reg [] [])))))) (.seq (.reg [] []) (.cond (.reg [] []) .nil))))) [(0, .v y23 .bw), (1, .v y75 .bw), (5, .v y23 (.own 3 .sh)), (6, .v y2 .sh)] (.reg [] [])))))) (.seq (.reg [] []) .nil))))
theorem ev112 (xs : Vals (ptys sg112.ps)) : evF (P := Try.prog) tab [.fn E124] sg112 Try.f112.results.toList (code Try.f112) plan112 xs = d112 xs.1 xs.2.1 := by kernel_rfl
theorem sim112 : Sim Try.prog 112 sg112 d112 := sim_ev mixd tabOK Try.func112 (code_of rfl) Try.call112 (Nat.le_of_ble_eq_true (by kernel_rfl)) (by kernel_rfl) plan112 _ fun xs y h => (ev112 xs).trans h
noncomputable def E112 : FnE Try.prog := ⟨112, sg112, d112, sim112⟩

/-- election/electionlaw31.orders -/
noncomputable def d88F (self_ : Int → (List (List Int × Int)) → (List Bool) → (List Int) → Option (List (List Int))) (n : Int) (gs : List (List Int × Int)) (remain : List Bool) (begin : List Int) : Option (List (List Int)) :=
  bif (decide ((begin.length : Int) = n)) then
    some [begin]
  else
    (d72 gs remain).bind fun r =>
    (d112 r.1 remain).bind fun r_1 =>
    (whileO (β := (List (List Int))) (fun ((n_1, gs_1, remain_1, begin_1, low, out, i) : Int × (List (List Int × Int)) × (List Bool) × (List Int) × (List Int) × (List (List Int)) × Int) =>
        bif (decide (i < (low.length : Int))) then
          bif (decide ((([] : List Bool).length : Int) + (remain_1.length : Int) ≤ LIM)) then
            bif (decide (0 ≤ i) && decide (i < (low.length : Int))) then
              bif (decide (0 ≤ (List.getD low (Int.toNat i) 0)) && decide ((List.getD low (Int.toNat i) 0) < (remain_1.length : Int))) then
                bif (decide ((([] : List Int).length : Int) + (begin_1.length : Int) ≤ LIM)) then
                  bif (decide (0 ≤ i) && decide (i < (low.length : Int))) then
                    bif (decide ((begin_1.length : Int) + (([(List.getD low (Int.toNat i) 0)] : List Int).length : Int) ≤ LIM)) then
                      (self_ n_1 gs_1 (List.set remain_1 (Int.toNat (List.getD low (Int.toNat i) 0)) false) (begin_1 ++ [(List.getD low (Int.toNat i) 0)])).bind fun r_2 =>
                      bif (decide ((out.length : Int) + (r_2.length : Int) ≤ LIM)) then
                        some (Sum.inl (n_1, gs_1, remain_1, begin_1, low, (out ++ r_2), (w (i + 1))))
                      else none
                    else none
                  else none
                else none
              else none
            else none
          else none
        else
          some (Sum.inr out)) (n, gs, remain, begin, r_1, [], 0)).bind fun (out_1 : List (List Int)) =>
    some out_1
def sg88 : Sig := ⟨[(y2, .sh), (y22, .bw), (y75, .bw), (y23, .sh)], [(y26, .sh)]⟩
def plan88 : Plan := (.post (.seq (.reg [] []) (.seq (.seq (.reg [] []) (.cond (.seq (.reg [] []) .nil) .nil)) (.seq (.reg [] [{}, {}, {}, { fl := 1 }]) (.seq (.reg [] []) (.seq (.reg [] [{ fl := 2 }]) (.seq (.seq (.reg [] []) (.block (.loop [(0, .v y2 .sh), (1, .v y22 .bw), (2, .v y75 .bw), (3, .v y23 .sh), (11, .v y23 (.own 3 .sh)), (12, .v y26 (.own 23 .sh)), (13, .v y2 .sh)] [(.brk 0, [(12, .v y26 (.own 23 .sh))])] (.seq (.seq (.reg [] []) (.cond .nil .nil)) (.seq (.block (.seq (.reg [] []) (.seq (.reg [] []) (.reg [] [{}, {}, {}, {}, {}, {}, {}, {}, {}, {}, {}, {}, { frz := [(55, [])] }])))) (.reg [] [])))))) (.seq (.reg [] []) .nil))))))) [(8, [])])
noncomputable def d88N : Nat → Arr (ptys sg88.ps) (Option (Ret sg88.res))
  | 0 => fun _ _ _ _ => none
  | k + 1 => d88F (d88N k)
theorem ev88 (g : Arr (ptys sg88.ps) (Option (Ret sg88.res))) (h : Sim Try.prog 88 sg88 g) (xs : Vals (ptys sg88.ps)) : evF (P := Try.prog) tab [.fn E72, .fn E112, .fn ⟨88, sg88, g, h⟩] sg88 Try.f88.results.toList (code Try.f88) plan88 xs = d88F g xs.1 xs.2.1 xs.2.2.1 xs.2.2.2.1 := by kernel_rfl
theorem sim88N : ∀ k, Sim Try.prog 88 sg88 (d88N k)
  | 0 => ⟨Try.call88, fun xs y h => absurd (show (none : Option _) = some y from h) (by simp)⟩
  | k + 1 => sim_ev mixd tabOK Try.func88 (code_of rfl) Try.call88 (Nat.le_of_ble_eq_true (by kernel_rfl)) (by kernel_rfl) plan88 _ fun xs y h => (ev88 _ (sim88N k) xs).trans h
noncomputable def d88 (n : Int) (gs : List (List Int × Int)) (remain : List Bool) (begin : List Int) : Option (List (List Int)) := d88N 10 n gs remain begin
theorem sim88 : Sim Try.prog 88 sg88 d88 := sim88N 10
noncomputable def E88 : FnE Try.prog := ⟨88, sg88, d88, sim88⟩

/-- election/electionlaw31.Orders -/
noncomputable def d34 (n : Int) (gs : List (List Int × Int)) : Option (List (List Int)) :=
  (d73 n).bind fun r =>
  (d88 n gs r []).bind fun r_1 =>
  some r_1
def sg34 : Sig := ⟨[(y2, .sh), (y22, .bw)], [(y26, .sh)]⟩
def plan34 : Plan := (.seq (.reg [] []) (.seq (.reg [] []) .nil))
theorem ev34 (xs : Vals (ptys sg34.ps)) : evF (P := Try.prog) tab [.fn E73, .fn E88] sg34 Try.f34.results.toList (code Try.f34) plan34 xs = d34 xs.1 xs.2.1 := by kernel_rfl
theorem sim34 : Sim Try.prog 34 sg34 d34 := sim_ev mixd tabOK Try.func34 (code_of rfl) Try.call34 (Nat.le_of_ble_eq_true (by kernel_rfl)) (by kernel_rfl) plan34 _ fun xs y h => (ev34 xs).trans h
noncomputable def E34 : FnE Try.prog := ⟨34, sg34, d34, sim34⟩

/-- election/electionlaw33.AssertionRight -/
noncomputable def d5 (p0 : Int) (p1 : List (List Int)) (p2 : Int) (p3 : Int) (p4 : Int) (p5 : Int) : Option Bool :=
  (d18 p0 4).bind fun r =>
  (d20 p1 24).bind fun r_1 =>
  (d19 (w (2 + r)) r_1 24).bind fun r_2 =>
  (d18 p2 2).bind fun r_3 =>
  (d22 (w (2 + r)) r_3 p3 p4 p5 0).bind fun r_4 =>
  (d28 (w (2 + r)) r_2 r_4).bind fun r_5 =>
  bif !r_5 then
    (d17).bind fun r_6 =>
    bif r_6 then
      (d33 (w (2 + r)) r_2 r_4).bind fun r_7 =>
      some (decide (r_7 ≤ 0))
    else
      some false
  else
    (d34 (w (2 + r)) r_2).bind fun r_8 =>
    (whileO (β := Unit ⊕ Bool) (fun ((t0, t14, t15, t16) : Int × (Int × (Int × (Int × (List Int × Int)))) × (List (List Int)) × Int) =>
        bif (decide (t16 < (t15.length : Int))) then
          (whileO (β := (Int × (Int × (Int × (Int × (List Int × Int)))) × (List (List Int)) × Int) ⊕ Bool) (fun ((t0_1, t14_1, t15_1, t16_1, t17) : Int × (Int × (Int × (Int × (List Int × Int)))) × (List (List Int)) × Int × Int) =>
              bif (decide (t17 < t0_1)) then
                bif (decide (0 ≤ t16_1) && decide (t16_1 < (t15_1.length : Int))) then
                  bif (cutOK t17 ((List.getD t15_1 (Int.toNat t16_1) []).length : Int) (List.getD t15_1 (Int.toNat t16_1) []).length) then
                    (d30 t0_1 t14_1 (List.drop (Int.toNat t17) (List.take (Int.toNat ((List.getD t15_1 (Int.toNat t16_1) []).length : Int)) (List.getD t15_1 (Int.toNat t16_1) [])))).bind fun r_9 =>
                    bif r_9 then
                      some (Sum.inr (Sum.inr false))
                    else
                      some (Sum.inl (t0_1, t14_1, t15_1, t16_1, (w (t17 + 1))))
                  else none
                else none
              else
                some (Sum.inr (Sum.inl (t0_1, t14_1, t15_1, t16_1)))) (t0, t14, t15, t16, 0)).bind fun
          | Sum.inl (t0_2, t14_2, t15_2, t16_2) =>
            some (Sum.inl (t0_2, t14_2, t15_2, (w (t16_2 + 1))))
          | Sum.inr t12 =>
            some (Sum.inr (Sum.inr t12))
        else
          some (Sum.inr (Sum.inl ()))) ((w (2 + r)), r_4, r_8, 0)).bind fun
    | Sum.inl _ =>
      (d17).bind fun r_10 =>
      some r_10
    | Sum.inr t12_1 =>
      some t12_1
def sg5 : Sig := ⟨[(y2, .sh), (y26, .sh), (y2, .sh), (y2, .sh), (y2, .sh), (y2, .sh)], [(y4, .sh)]⟩
def plan5 : Plan := (.seq (.reg [] []) (.seq (.reg [] []) (.seq (.reg [] []) (.seq (.reg [] []) (.seq (.seq (.reg [] []) (.cond (.seq (.reg [] []) .nil) .nil)) (.seq (.reg [] []) (.seq (.seq (.reg [] []) (.block (.loop [(0, .v y2 .sh), (14, .v (.ptr y24) (.own 0 .sh)), (15, .v y26 .sh), (16, .v y2 .sh)] [(.brk 0, []), (.ret, [(12, .v y4 .sh)])] (.seq (.seq (.reg [] []) (.cond .nil .nil)) (.seq (.block (.seq (.reg [] []) (.block (.loop [(0, .v y2 .sh), (14, .v (.ptr y24) (.own 0 .sh)), (15, .v y26 .sh), (16, .v y2 .sh), (17, .v y2 .sh)] [(.brk 2, [(0, .v y2 .sh), (14, .v (.ptr y24) (.own 0 .sh)), (15, .v y26 .sh), (16, .v y2 .sh)]), (.ret, [(12, .v y4 .sh)])] (.seq (.seq (.reg [] []) (.cond .nil .nil)) (.seq (.block (.seq (.reg [] []) (.cond (.seq (.reg [] []) .nil) .nil))) (.reg [] []))))))) (.reg [] [])))))) (.seq (.reg [] []) .nil))))))))
theorem ev5 (xs : Vals (ptys sg5.ps)) : evF (P := Try.prog) tab [.fn E18, .fn E20, .fn E19, .fn E22, .fn E28, .fn E17, .fn E33, .fn E34, .fn E30] sg5 Try.f5.results.toList (code Try.f5) plan5 xs = d5 xs.1 xs.2.1 xs.2.2.1 xs.2.2.2.1 xs.2.2.2.2.1 xs.2.2.2.2.2.1 := by kernel_rfl
theorem sim5 : Sim Try.prog 5 sg5 d5 := sim_ev mixd tabOK Try.func5 (code_of rfl) Try.call5 (Nat.le_of_ble_eq_true (by kernel_rfl)) (by kernel_rfl) plan5 _ fun xs y h => (ev5 xs).trans h
noncomputable def E5 : FnE Try.prog := ⟨5, sg5, d5, sim5⟩

end Go.Proofs.Ythemaffjohmhnaa