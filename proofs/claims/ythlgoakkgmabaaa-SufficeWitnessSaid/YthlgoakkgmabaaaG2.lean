/- More functions of the program, with their contracts. -/
import Derived.Test.YthlgoakkgmabaaaG1
import Derived.Test.YthlgoakkgmabaaaW5
open Go Go.Proofs Go.X
namespace Go.Proofs.Ythlgoakkgmabaaa
set_option linter.unusedVariables false
set_option maxRecDepth 100000
/-- election/suffice.Check -/
noncomputable def d20 (p0 : (List Int × (List (List Int) × (Int × (Int × (Int × (Int × (Int × (Int × Int))))))))) (p1 : List Int) (p2 : List (Int × (Int × (Int × (List Int × Int))))) : Option Bool :=
  letJ (fun ((t1, t2, t3, t7, t27) : (List Int) × (List (Int × (Int × (Int × (List Int × Int))))) × (List Int × (List (List Int) × (Int × (Int × (Int × (Int × (Int × (Int × Int)))))))) × Int × Bool) =>
      bif t27 then
        some false
      else
        (whileO (β := ((List Int) × (List (Int × (Int × (Int × (List Int × Int))))) × (List Int × (List (List Int) × (Int × (Int × (Int × (Int × (Int × (Int × Int)))))))) × Int) ⊕ Bool) (fun ((t1_1, t2_1, t3_1, t7_1, t28, t29, t30) : (List Int) × (List (Int × (Int × (Int × (List Int × Int))))) × (List Int × (List (List Int) × (Int × (Int × (Int × (Int × (Int × (Int × Int)))))))) × Int × (List Int) × Int × Int) =>
            bif (decide (t30 < t29)) then
              bif (decide (0 ≤ t30) && decide (t30 < (t28.length : Int))) then
                letJ (fun ((t1_2, t2_2, t3_2, t7_2, t28_1, t29_1, t30_1, t48) : (List Int) × (List (Int × (Int × (Int × (List Int × Int))))) × (List Int × (List (List Int) × (Int × (Int × (Int × (Int × (Int × (Int × Int)))))))) × Int × (List Int) × Int × Int × Bool) =>
                    bif t48 then
                      some (Sum.inr (Sum.inr false))
                    else
                      some (Sum.inl (t1_2, t2_2, t3_2, t7_2, t28_1, t29_1, (w (t30_1 + 1))))) fun j__1 =>
                bif !(decide ((List.getD t28 (Int.toNat t30) 0) < 0)) then
                  bif !(decide (t7_1 ≤ (List.getD t28 (Int.toNat t30) 0))) then
                    bif (cutOK 0 t30 t1_1.length) then
                      (d30 (List.drop 0 (List.take (Int.toNat t30) t1_1)) (List.getD t28 (Int.toNat t30) 0)).bind fun r_1 =>
                      j__1 (t1_1, t2_1, t3_1, t7_1, t28, t29, t30, r_1)
                    else none
                  else
                    j__1 (t1_1, t2_1, t3_1, t7_1, t28, t29, t30, true)
                else
                  j__1 (t1_1, t2_1, t3_1, t7_1, t28, t29, t30, true)
              else none
            else
              some (Sum.inr (Sum.inl (t1_1, t2_1, t3_1, t7_1)))) (t1, t2, t3, t7, t1, (t1.length : Int), 0)).bind fun
        | Sum.inl (t1_3, t2_3, t3_3, t7_3) =>
          (whileO (β := ((List Int) × (List (Int × (Int × (Int × (List Int × Int))))) × (List Int × (List (List Int) × (Int × (Int × (Int × (Int × (Int × (Int × Int)))))))) × Int) ⊕ Bool) (fun ((t1_4, t2_4, t3_4, t7_4, t50, t51, t52) : (List Int) × (List (Int × (Int × (Int × (List Int × Int))))) × (List Int × (List (List Int) × (Int × (Int × (Int × (Int × (Int × (Int × Int)))))))) × Int × (List (Int × (Int × (Int × (List Int × Int))))) × Int × Int) =>
              bif (decide (t52 < t51)) then
                bif (decide (0 ≤ t52) && decide (t52 < (t50.length : Int))) then
                  (d37 t7_4 (List.getD t50 (Int.toNat t52) (0, 0, 0, [], 0))).bind fun r_2 =>
                  bif !r_2 then
                    some (Sum.inr (Sum.inr false))
                  else
                    some (Sum.inl (t1_4, t2_4, t3_4, t7_4, t50, t51, (w (t52 + 1))))
                else none
              else
                some (Sum.inr (Sum.inl (t1_4, t2_4, t3_4, t7_4)))) (t1_3, t2_3, t3_3, t7_3, t2_3, (t2_3.length : Int), 0)).bind fun
          | Sum.inl (t1_5, t2_5, t3_5, t7_5) =>
            bif (decide (t7_5 ≤ t3_5.2.2.2.1)) then
              some (decide ((t1_5.length : Int) = t7_5))
            else
              bif !(decide ((t1_5.length : Int) = t3_5.2.2.2.1)) then
                some false
              else
                bif (decide (t3_5.2.2.1 = 1)) then
                  bif (decide (0 ≤ 0) && decide (0 < (t1_5.length : Int))) then
                    (d6 t7_5 (List.getD t1_5 0 0) t2_5).bind fun r_3 =>
                    some (!r_3.2)
                  else none
                else
                  (whileO (β := Unit ⊕ Bool) (fun ((t2_6, t3_6, t88, t89, t90) : (List (Int × (Int × (Int × (List Int × Int))))) × (List Int × (List (List Int) × (Int × (Int × (Int × (Int × (Int × (Int × Int)))))))) × (List Int) × Int × Int) =>
                      bif (decide (t90 < t89)) then
                        bif (decide (0 ≤ t90) && decide (t90 < (t88.length : Int))) then
                          (d38 t2_6 (fun a => d39 a (3, (List.getD t88 (Int.toNat t90) 0), 0, [], (w (t3_6.2.2.2.1 + 1))))).bind fun r_4 =>
                          bif !r_4 then
                            some (Sum.inr (Sum.inr false))
                          else
                            some (Sum.inl (t2_6, t3_6, t88, t89, (w (t90 + 1))))
                        else none
                      else
                        some (Sum.inr (Sum.inl ()))) (t2_5, t3_5, t1_5, (t1_5.length : Int), 0)).bind fun
                  | Sum.inl _ =>
                    some true
                  | Sum.inr t6_2 =>
                    some t6_2
          | Sum.inr t6_1 =>
            some t6_1
        | Sum.inr t6 =>
          some t6) fun j_ =>
  (d36 p0).bind fun r =>
  bif !(!r) then
    j_ (p1, p2, p0, (p0.2.1.length : Int), (decide (1400 < (p2.length : Int))))
  else
    j_ (p1, p2, p0, (p0.2.1.length : Int), true)
def sg20 : Sig := ⟨[(y50, .bw), (y26, .bw), (y24, .bw)], [(y4, .sh)]⟩
def plan20 : Plan := (.seq (.reg [] []) (.seq (.reg [] []) (.seq (.join (.reg [] []) [(1, .v y26 .bw), (2, .v y24 .bw), (3, .v (.ptr y50) (.own 0 .bw)), (7, .v y2 .sh), (27, .v y4 .sh)] (.cond (.seq (.reg [] []) .nil) .nil)) (.seq (.seq (.reg [] []) (.block (.loop [(1, .v y26 .bw), (2, .v y24 .bw), (3, .v (.ptr y50) (.own 0 .bw)), (7, .v y2 .sh), (28, .v y26 .bw), (29, .v y2 .sh), (30, .v y2 .sh)] [(.brk 0, [(1, .v y26 .bw), (2, .v y24 .bw), (3, .v (.ptr y50) (.own 0 .bw)), (7, .v y2 .sh)]), (.ret, [(6, .v y4 .sh)])] (.seq (.reg [] []) (.seq (.cond .nil .nil) (.seq (.block (.seq (.reg [] []) (.join (.reg [] []) [(1, .v y26 .bw), (2, .v y24 .bw), (3, .v (.ptr y50) (.own 0 .bw)), (7, .v y2 .sh), (28, .v y26 .bw), (29, .v y2 .sh), (30, .v y2 .sh), (48, .v y4 .sh)] (.cond (.seq (.reg [] []) .nil) .nil)))) (.reg [] []))))))) (.seq (.seq (.reg [] []) (.block (.loop [(1, .v y26 .bw), (2, .v y24 .bw), (3, .v (.ptr y50) (.own 0 .bw)), (7, .v y2 .sh), (50, .v y24 .bw), (51, .v y2 .sh), (52, .v y2 .sh)] [(.brk 2, [(1, .v y26 .bw), (2, .v y24 .bw), (3, .v (.ptr y50) (.own 0 .bw)), (7, .v y2 .sh)]), (.ret, [(6, .v y4 .sh)])] (.seq (.reg [] []) (.seq (.cond .nil .nil) (.seq (.block (.seq (.reg [] []) (.seq (.reg [] []) (.cond (.seq (.reg [] []) .nil) .nil)))) (.reg [] []))))))) (.seq (.seq (.reg [] []) (.cond (.seq (.reg [] []) .nil) .nil)) (.seq (.seq (.reg [] []) (.cond (.seq (.reg [] []) .nil) .nil)) (.seq (.seq (.reg [] []) (.cond (.seq (.reg [] [{}, {}, {}, {}, {}, {}, { fl := 1 }]) (.seq (.reg [] []) .nil)) .nil)) (.seq (.seq (.reg [] []) (.block (.loop [(2, .v y24 .bw), (3, .v (.ptr y50) (.own 0 .bw)), (88, .v y26 .bw), (89, .v y2 .sh), (90, .v y2 .sh)] [(.brk 4, []), (.ret, [(6, .v y4 .sh)])] (.seq (.reg [] []) (.seq (.cond .nil .nil) (.seq (.block (.seq (.reg [] []) (.seq (.reg [] []) (.seq (.reg [] []) (.cond (.seq (.reg [] []) .nil) .nil))))) (.reg [] []))))))) (.seq (.reg [] []) .nil))))))))))
theorem ev20 (xs : Vals (ptys sg20.ps)) : evF (P := Try.prog) tab [.fn E36, .fn E30, .fn E37, .fn E6, .fn E38, .fn E39] sg20 Try.f20.results.toList (code Try.f20) plan20 xs = d20 xs.1 xs.2.1 xs.2.2.1 := by kernel_rfl
theorem sim20 : Sim Try.prog 20 sg20 d20 := sim_ev mixd tabOK Try.func20 (code_of rfl) Try.call20 (Nat.le_of_ble_eq_true (by kernel_rfl)) (by kernel_rfl) plan20 _ fun xs y h => (ev20 xs).trans h
noncomputable def E20 : FnE Try.prog := ⟨20, sg20, d20, sim20⟩

/-- election/electionlaw35.Awake -/
noncomputable def d9 : Option Bool :=
  (d6 3 0 [(1, 0, 1, [], 0)]).bind fun r =>
  (d21 0 2 0 0 0).bind fun r_1 =>
  (d20 r_1 [0] [(1, 0, 1, [], 0)]).bind fun r_2 =>
  bif r_2 then
    (d21 0 3 0 0 0).bind fun r_3 =>
    (d20 r_3 [0] [(1, 0, 1, [], 0)]).bind fun r_4 =>
    bif !r_4 then
      bif r.2 then
        (d13 r.1 [1, 0, 2]).bind fun r_5 =>
        some r_5
      else
        some false
    else
      some false
  else
    some false
def sg9 : Sig := ⟨[], [(y4, .sh)]⟩
def plan9 : Plan := (.seq (.reg [] []) (.seq (.reg [] []) (.seq (.reg [] [{}, {}, { fl := 1 }]) (.seq (.reg [] []) .nil))))
theorem ev9 (xs : Vals (ptys sg9.ps)) : evF (P := Try.prog) tab [.fn E6, .fn E21, .fn E20, .fn E13] sg9 Try.f9.results.toList (code Try.f9) plan9 xs = d9  := by kernel_rfl
theorem sim9 : Sim Try.prog 9 sg9 d9 := sim_ev mixd tabOK Try.func9 (code_of rfl) Try.call9 (Nat.le_of_ble_eq_true (by kernel_rfl)) (by kernel_rfl) plan9 _ fun xs y h => (ev9 xs).trans h
noncomputable def E9 : FnE Try.prog := ⟨9, sg9, d9, sim9⟩

/-- election/electionlaw35.SufficeWitness -/
noncomputable def d3 (p0 : Int) (p1 : Int) (p2 : List (List Int)) (p3 : List (List Int)) : Option Bool :=
  (d4 p0 3).bind fun r =>
  (d4 p1 (w (2 + r))).bind fun r_1 =>
  (d5 (w (2 + r)) p2).bind fun r_2 =>
  (d6 (w (2 + r)) r_1 r_2).bind fun r_3 =>
  bif r_3.2 then
    letJ (fun (t49 : Bool) =>
        bif t49 then
          some false
        else
          (d9).bind fun r_6 =>
          some r_6) fun j_ =>
    (d7 (w (2 + r)) r_3.1).bind fun r_4 =>
    bif !(!r_4) then
      bif (decide (0 ≤ (w ((w (2 + r)) - 1))) && decide ((w ((w (2 + r)) - 1)) < (r_3.1.length : Int))) then
        bif !(decide ((List.getD r_3.1 (Int.toNat (w ((w (2 + r)) - 1))) 0) = r_1)) then
          (d8 (w (2 + r)) r_3.1 r_2).bind fun r_5 =>
          j_ r_5
        else
          j_ true
      else none
    else
      j_ true
  else
    bif !(decide ((r_3.1.length : Int) = 0)) then
      some false
    else
      (d11 p3 20).bind fun r_7 =>
      (d10 (w (2 + r)) r_7 20).bind fun r_8 =>
      (whileO (β := (Int × Int × (List (List Int × Int))) ⊕ Bool) (fun ((t0, t1, t9, t12, t13) : Int × Int × (List (Int × (Int × (Int × (List Int × Int))))) × (List (List Int × Int)) × Int) =>
          bif (decide (t13 < (t9.length : Int))) then
            bif (decide (0 ≤ t13) && decide (t13 < (t9.length : Int))) then
              (d12 t0 t12 (List.getD t9 (Int.toNat t13) (0, 0, 0, [], 0))).bind fun r_9 =>
              bif !r_9 then
                (d9).bind fun r_10 =>
                some (Sum.inr (Sum.inr r_10))
              else
                some (Sum.inl (t0, t1, t9, t12, (w (t13 + 1))))
            else none
          else
            some (Sum.inr (Sum.inl (t0, t1, t12)))) ((w (2 + r)), r_1, r_2, r_8, 0)).bind fun
      | Sum.inl (t0_1, t1_1, t12_1) =>
        (d9).bind fun r_11 =>
        bif r_11 then
          (d14 t0_1 t12_1).bind fun r_12 =>
          (d13 r_12 [t1_1]).bind fun r_13 =>
          some r_13
        else
          some false
      | Sum.inr t8 =>
        some t8
def sg3 : Sig := ⟨[(y2, .sh), (y2, .sh), (y22, .bw), (y22, .sh)], [(y4, .sh)]⟩
def plan3 : Plan := (.seq (.reg [] []) (.seq (.reg [] []) (.seq (.reg [] []) (.seq (.reg [] []) (.seq (.reg [] [{}, {}, {}, {}, { fl := 1 }]) (.seq (.seq (.reg [] []) (.cond (.seq (.join (.reg [] []) [(49, .v y4 .sh)] (.cond (.seq (.reg [] []) .nil) .nil)) (.seq (.reg [] []) .nil)) .nil)) (.seq (.seq (.reg [] []) (.cond (.seq (.reg [] []) .nil) .nil)) (.seq (.reg [] []) (.seq (.seq (.reg [] []) (.block (.loop [(0, .v y2 .sh), (1, .v y2 .sh), (9, .v y24 (.own 37 .sh)), (12, .v y32 .sh), (13, .v y2 .sh)] [(.brk 0, [(0, .v y2 .sh), (1, .v y2 .sh), (12, .v y32 .sh)]), (.ret, [(8, .v y4 .sh)])] (.seq (.seq (.reg [] []) (.cond .nil .nil)) (.seq (.block (.seq (.reg [] []) (.cond (.seq (.reg [] []) .nil) .nil))) (.reg [] [])))))) (.seq (.reg [] []) .nil))))))))))
theorem ev3 (xs : Vals (ptys sg3.ps)) : evF (P := Try.prog) tab [.fn E4, .fn E5, .fn E6, .fn E7, .fn E8, .fn E9, .fn E11, .fn E10, .fn E12, .fn E14, .fn E13] sg3 Try.f3.results.toList (code Try.f3) plan3 xs = d3 xs.1 xs.2.1 xs.2.2.1 xs.2.2.2.1 := by kernel_rfl
theorem sim3 : Sim Try.prog 3 sg3 d3 := sim_ev mixd tabOK Try.func3 (code_of rfl) Try.call3 (Nat.le_of_ble_eq_true (by kernel_rfl)) (by kernel_rfl) plan3 _ fun xs y h => (ev3 xs).trans h
noncomputable def E3 : FnE Try.prog := ⟨3, sg3, d3, sim3⟩

end Go.Proofs.Ythlgoakkgmabaaa