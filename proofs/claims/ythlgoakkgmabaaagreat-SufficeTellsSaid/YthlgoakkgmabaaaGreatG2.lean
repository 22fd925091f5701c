/- More functions of the program, with their contracts. -/
import Derived.Test.YthlgoakkgmabaaaGreatG1
import Derived.Test.YthlgoakkgmabaaaGreatW5
open Go Go.Proofs Go.X
namespace Go.Proofs.YthlgoakkgmabaaaGreat
set_option linter.unusedVariables false
set_option maxRecDepth 100000
/-- election/suffice.Check -/
noncomputable def d16 (p0 : (List Int × (List (List Int) × (Int × (Int × (Int × (Int × (Int × (Int × Int))))))))) (p1 : List Int) (p2 : List (Int × (Int × (Int × (List Int × Int))))) : Option Bool :=
  letJ (fun ((t1, t2, t3, t7, t27) : (List Int) × (List (Int × (Int × (Int × (List Int × Int))))) × (List Int × (List (List Int) × (Int × (Int × (Int × (Int × (Int × (Int × Int)))))))) × Int × Bool) =>
      bif t27 then
        some false
      else
        (whileO (β := ((List Int) × (List (Int × (Int × (Int × (List Int × Int))))) × (List Int × (List (List Int) × (Int × (Int × (Int × (Int × (Int × (Int × Int)))))))) × Int) ⊕ Bool) (fun ((t1_1, t2_1, t3_1, t7_1, t28, t29, t30) : (List Int) × (List (Int × (Int × (Int × (List Int × Int))))) × (List Int × (List (List Int) × (Int × (Int × (Int × (Int × (Int × (Int × Int)))))))) × Int × (List Int) × Int × Int) =>
            bif (decide (t30 < t29)) then
              bif (decide (0 ≤ t30) && decide (t30 < (t28.length : Int))) then
                letJ (fun ((t1_2, t2_2, t3_2, t7_2, t28_1, t29_1, t30_1, t48) : (List Int) × (List (Int × (Int × (Int × (List Int × Int))))) × (List Int × (List (List Int) × (Int × (Int × (Int × (Int × (Int × (Int × Int)))))))) × Int × (List Int) × Int × Int × Bool) =>
                    bif t48 then
                      some (Sum.inr (Sum.inr false))
                    else
                      some (Sum.inl (t1_2, t2_2, t3_2, t7_2, t28_1, t29_1, (w (t30_1 + 1))))) fun j__1 =>
                bif !(decide ((List.getD t28 (Int.toNat t30) 0) < 0)) then
                  bif !(decide (t7_1 ≤ (List.getD t28 (Int.toNat t30) 0))) then
                    bif (cutOK 0 t30 t1_1.length) then
                      (d30 (List.drop 0 (List.take (Int.toNat t30) t1_1)) (List.getD t28 (Int.toNat t30) 0)).bind fun r_1 =>
                      j__1 (t1_1, t2_1, t3_1, t7_1, t28, t29, t30, r_1)
                    else none
                  else
                    j__1 (t1_1, t2_1, t3_1, t7_1, t28, t29, t30, true)
                else
                  j__1 (t1_1, t2_1, t3_1, t7_1, t28, t29, t30, true)
              else none
            else
              some (Sum.inr (Sum.inl (t1_1, t2_1, t3_1, t7_1)))) (t1, t2, t3, t7, t1, (t1.length : Int), 0)).bind fun
        | Sum.inl (t1_3, t2_3, t3_3, t7_3) =>
          (whileO (β := ((List Int) × (List (Int × (Int × (Int × (List Int × Int))))) × (List Int × (List (List Int) × (Int × (Int × (Int × (Int × (Int × (Int × Int)))))))) × Int) ⊕ Bool) (fun ((t1_4, t2_4, t3_4, t7_4, t50, t51, t52) : (List Int) × (List (Int × (Int × (Int × (List Int × Int))))) × (List Int × (List (List Int) × (Int × (Int × (Int × (Int × (Int × (Int × Int)))))))) × Int × (List (Int × (Int × (Int × (List Int × Int))))) × Int × Int) =>
              bif (decide (t52 < t51)) then
                bif (decide (0 ≤ t52) && decide (t52 < (t50.length : Int))) then
                  (d31 t7_4 (List.getD t50 (Int.toNat t52) (0, 0, 0, [], 0))).bind fun r_2 =>
                  bif !r_2 then
                    some (Sum.inr (Sum.inr false))
                  else
                    some (Sum.inl (t1_4, t2_4, t3_4, t7_4, t50, t51, (w (t52 + 1))))
                else none
              else
                some (Sum.inr (Sum.inl (t1_4, t2_4, t3_4, t7_4)))) (t1_3, t2_3, t3_3, t7_3, t2_3, (t2_3.length : Int), 0)).bind fun
          | Sum.inl (t1_5, t2_5, t3_5, t7_5) =>
            bif (decide (t7_5 ≤ t3_5.2.2.2.1)) then
              some (decide ((t1_5.length : Int) = t7_5))
            else
              bif !(decide ((t1_5.length : Int) = t3_5.2.2.2.1)) then
                some false
              else
                bif (decide (t3_5.2.2.1 = 1)) then
                  bif (decide (0 ≤ 0) && decide (0 < (t1_5.length : Int))) then
                    (d13 t7_5 (List.getD t1_5 0 0) t2_5).bind fun r_3 =>
                    some (!r_3.2)
                  else none
                else
                  (whileO (β := Unit ⊕ Bool) (fun ((t2_6, t3_6, t88, t89, t90) : (List (Int × (Int × (Int × (List Int × Int))))) × (List Int × (List (List Int) × (Int × (Int × (Int × (Int × (Int × (Int × Int)))))))) × (List Int) × Int × Int) =>
                      bif (decide (t90 < t89)) then
                        bif (decide (0 ≤ t90) && decide (t90 < (t88.length : Int))) then
                          (d32 t2_6 (fun a => d33 a (3, (List.getD t88 (Int.toNat t90) 0), 0, [], (w (t3_6.2.2.2.1 + 1))))).bind fun r_4 =>
                          bif !r_4 then
                            some (Sum.inr (Sum.inr false))
                          else
                            some (Sum.inl (t2_6, t3_6, t88, t89, (w (t90 + 1))))
                        else none
                      else
                        some (Sum.inr (Sum.inl ()))) (t2_5, t3_5, t1_5, (t1_5.length : Int), 0)).bind fun
                  | Sum.inl _ =>
                    some true
                  | Sum.inr t6_2 =>
                    some t6_2
          | Sum.inr t6_1 =>
            some t6_1
        | Sum.inr t6 =>
          some t6) fun j_ =>
  (d29 p0).bind fun r =>
  bif !(!r) then
    j_ (p1, p2, p0, (p0.2.1.length : Int), (decide (1400 < (p2.length : Int))))
  else
    j_ (p1, p2, p0, (p0.2.1.length : Int), true)
def sg16 : Sig := ⟨[(y23, .bw), (y25, .bw), (y26, .bw)], [(y4, .sh)]⟩
def plan16 : Plan := (.seq (.reg [] []) (.seq (.reg [] []) (.seq (.join (.reg [] []) [(1, .v y25 .bw), (2, .v y26 .bw), (3, .v (.ptr y23) (.own 0 .bw)), (7, .v y2 .sh), (27, .v y4 .sh)] (.cond (.seq (.reg [] []) .nil) .nil)) (.seq (.seq (.reg [] []) (.block (.loop [(1, .v y25 .bw), (2, .v y26 .bw), (3, .v (.ptr y23) (.own 0 .bw)), (7, .v y2 .sh), (28, .v y25 .bw), (29, .v y2 .sh), (30, .v y2 .sh)] [(.brk 0, [(1, .v y25 .bw), (2, .v y26 .bw), (3, .v (.ptr y23) (.own 0 .bw)), (7, .v y2 .sh)]), (.ret, [(6, .v y4 .sh)])] (.seq (.reg [] []) (.seq (.cond .nil .nil) (.seq (.block (.seq (.reg [] []) (.join (.reg [] []) [(1, .v y25 .bw), (2, .v y26 .bw), (3, .v (.ptr y23) (.own 0 .bw)), (7, .v y2 .sh), (28, .v y25 .bw), (29, .v y2 .sh), (30, .v y2 .sh), (48, .v y4 .sh)] (.cond (.seq (.reg [] []) .nil) .nil)))) (.reg [] []))))))) (.seq (.seq (.reg [] []) (.block (.loop [(1, .v y25 .bw), (2, .v y26 .bw), (3, .v (.ptr y23) (.own 0 .bw)), (7, .v y2 .sh), (50, .v y26 .bw), (51, .v y2 .sh), (52, .v y2 .sh)] [(.brk 2, [(1, .v y25 .bw), (2, .v y26 .bw), (3, .v (.ptr y23) (.own 0 .bw)), (7, .v y2 .sh)]), (.ret, [(6, .v y4 .sh)])] (.seq (.reg [] []) (.seq (.cond .nil .nil) (.seq (.block (.seq (.reg [] []) (.seq (.reg [] []) (.cond (.seq (.reg [] []) .nil) .nil)))) (.reg [] []))))))) (.seq (.seq (.reg [] []) (.cond (.seq (.reg [] []) .nil) .nil)) (.seq (.seq (.reg [] []) (.cond (.seq (.reg [] []) .nil) .nil)) (.seq (.seq (.reg [] []) (.cond (.seq (.reg [] [{}, {}, {}, {}, {}, {}, { fl := 1 }]) (.seq (.reg [] []) .nil)) .nil)) (.seq (.seq (.reg [] []) (.block (.loop [(2, .v y26 .bw), (3, .v (.ptr y23) (.own 0 .bw)), (88, .v y25 .bw), (89, .v y2 .sh), (90, .v y2 .sh)] [(.brk 4, []), (.ret, [(6, .v y4 .sh)])] (.seq (.reg [] []) (.seq (.cond .nil .nil) (.seq (.block (.seq (.reg [] []) (.seq (.reg [] []) (.seq (.reg [] []) (.cond (.seq (.reg [] []) .nil) .nil))))) (.reg [] []))))))) (.seq (.reg [] []) .nil))))))))))
theorem ev16 (xs : Vals (ptys sg16.ps)) : evF (P := Tryz.prog) tab [.fn E29, .fn E30, .fn E31, .fn E13, .fn E32, .fn E33] sg16 Tryz.f16.results.toList (code Tryz.f16) plan16 xs = d16 xs.1 xs.2.1 xs.2.2.1 := by kernel_rfl
theorem sim16 : Sim Tryz.prog 16 sg16 d16 := sim_ev mixd tabOK Tryz.func16 (code_of rfl) Tryz.call16 (Nat.le_of_ble_eq_true (by kernel_rfl)) (by kernel_rfl) plan16 _ fun xs y h => (ev16 xs).trans h
noncomputable def E16 : FnE Tryz.prog := ⟨16, sg16, d16, sim16⟩

/-- election/electionlaw35.Awake -/
noncomputable def d6 : Option Bool :=
  (d13 3 0 [(1, 0, 1, [], 0)]).bind fun r =>
  (d8 0 2 0 0 0).bind fun r_1 =>
  (d16 r_1 [0] [(1, 0, 1, [], 0)]).bind fun r_2 =>
  bif r_2 then
    (d8 0 3 0 0 0).bind fun r_3 =>
    (d16 r_3 [0] [(1, 0, 1, [], 0)]).bind fun r_4 =>
    bif !r_4 then
      bif r.2 then
        (d15 r.1 [1, 0, 2]).bind fun r_5 =>
        some r_5
      else
        some false
    else
      some false
  else
    some false
def sg6 : Sig := ⟨[], [(y4, .sh)]⟩
def plan6 : Plan := (.seq (.reg [] []) (.seq (.reg [] []) (.seq (.reg [] [{}, {}, { fl := 1 }]) (.seq (.reg [] []) .nil))))
theorem ev6 (xs : Vals (ptys sg6.ps)) : evF (P := Tryz.prog) tab [.fn E13, .fn E8, .fn E16, .fn E15] sg6 Tryz.f6.results.toList (code Tryz.f6) plan6 xs = d6  := by kernel_rfl
theorem sim6 : Sim Tryz.prog 6 sg6 d6 := sim_ev mixd tabOK Tryz.func6 (code_of rfl) Tryz.call6 (Nat.le_of_ble_eq_true (by kernel_rfl)) (by kernel_rfl) plan6 _ fun xs y h => (ev6 xs).trans h
noncomputable def E6 : FnE Tryz.prog := ⟨6, sg6, d6, sim6⟩

/-- election/electionlaw35.SufficeTells -/
noncomputable def d3 (p0 : (List Int × (List (List Int) × (Int × (Int × (Int × (Int × (Int × (Int × Int))))))))) (p1 : List Int) (p2 : List (Int × (Int × (Int × (List Int × Int))))) (p3 : Bool) (p4 : Int) (p5 : List (List Int)) (p6 : List (List Int)) (p7 : Int) : Option Bool :=
  letJ (fun ((t1, t2, t3, t4, t5, t6, t7, t8, t35) : (List Int) × (List (Int × (Int × (Int × (List Int × Int))))) × Bool × Int × (List (List Int)) × (List (List Int)) × Int × (List Int × (List (List Int) × (Int × (Int × (Int × (Int × (Int × (Int × Int)))))))) × Bool) =>
      bif t35 then
        (d6).bind fun r_1 =>
        some r_1
      else
        letJ (fun ((t1_1, t2_1, t8_1) : (List Int) × (List (Int × (Int × (Int × (List Int × Int))))) × (List Int × (List (List Int) × (Int × (Int × (Int × (Int × (Int × (Int × Int))))))))) =>
            bif (decide ((([0] : List Int).length : Int) + (t1_1.length : Int) ≤ LIM)) then
              letJ (fun ((t1_2, t2_2, t4_1, t8_2, t17, t85) : (List Int) × (List (Int × (Int × (Int × (List Int × Int))))) × Int × (List Int × (List (List Int) × (Int × (Int × (Int × (Int × (Int × (Int × Int)))))))) × (List Int) × Bool) =>
                  bif t85 then
                    (d6).bind fun r_8 =>
                    some r_8
                  else
                    bif (decide (0 ≤ (w ((t17.length : Int) - 1))) && decide ((w ((t17.length : Int) - 1)) < (t17.length : Int))) then
                      (d13 t4_1 (List.getD t17 (Int.toNat (w ((t17.length : Int) - 1))) 0) t2_2).bind fun r_9 =>
                      bif (decide (0 ≤ (w ((t17.length : Int) - 1))) && decide ((w ((t17.length : Int) - 1)) < (t17.length : Int))) then
                        (d14 t4_1 (List.getD t17 (Int.toNat (w ((t17.length : Int) - 1))) 0) t2_2).bind fun r_10 =>
                        (d6).bind fun r_11 =>
                        bif r_11 then
                          bif (r_9.2 == r_10.2) then
                            (d15 r_9.1 r_10.1).bind fun r_12 =>
                            bif r_12 then
                              (d16 t8_2 t1_2 t2_2).bind fun r_13 =>
                              (d17 t8_2 t1_2 t2_2).bind fun r_14 =>
                              some (r_13 == r_14)
                            else
                              some false
                          else
                            some false
                        else
                          some false
                      else none
                    else none) fun j__2 =>
              bif (decide (5 < (t8_1.2.1.length : Int))) then
                j__2 (t1_1, t2_1, (t8_1.2.1.length : Int), t8_1, ([0] ++ t1_1), (decide ((t8_1.2.1.length : Int) ≤ 7)))
              else
                j__2 (t1_1, t2_1, (t8_1.2.1.length : Int), t8_1, ([0] ++ t1_1), false)
            else none) fun j__1 =>
        bif !t3 then
          (d7 t4 4).bind fun r_2 =>
          (d8 t8.2.2.1 (w (1 + r_2)) t8.2.2.2.1 0 t8.2.2.2.2.2.2.1).bind fun r_3 =>
          (d9 (w (1 + r_2)) t1).bind fun r_4 =>
          bif (cutOK 0 (bif (decide (r_3.2.2.2.1 < (r_4.length : Int))) then r_3.2.2.2.1 else (r_4.length : Int)) r_4.length) then
            (d12 t5 24).bind fun r_5 =>
            (d11 (w (1 + r_2)) r_5 24).bind fun r_6 =>
            bif (cutOK 0 (bif (decide (3 < (t6.length : Int))) then 3 else (t6.length : Int)) t6.length) then
              (d10 r_3 (w (1 + r_2)) r_6 (List.take (Int.toNat (bif (decide (r_3.2.2.2.1 < (r_4.length : Int))) then r_3.2.2.2.1 else (r_4.length : Int))) r_4) (List.drop 0 (List.take (Int.toNat (bif (decide (3 < (t6.length : Int))) then 3 else (t6.length : Int))) t6)) t7).bind fun r_7 =>
              j__1 ((List.take (Int.toNat (bif (decide (r_3.2.2.2.1 < (r_4.length : Int))) then r_3.2.2.2.1 else (r_4.length : Int))) r_4), r_7, r_3)
            else none
          else none
        else
          j__1 (t1, t2, t8)) fun j_ =>
  (d5 p2).bind fun r =>
  bif !(!r) then
    bif !(decide (9 < (p1.length : Int))) then
      j_ (p1, p2, p3, p4, p5, p6, p7, p0, (decide (9 < (p0.2.1.length : Int))))
    else
      j_ (p1, p2, p3, p4, p5, p6, p7, p0, true)
  else
    j_ (p1, p2, p3, p4, p5, p6, p7, p0, true)
def sg3 : Sig := ⟨[(y23, .bw), (y25, .sh), (y26, .sh), (y4, .sh), (y2, .sh), (y27, .sh), (y27, .bw), (y2, .sh)], [(y4, .sh)]⟩
def plan3 : Plan := (.seq (.reg [] []) (.seq (.join (.reg [] []) [(1, .v y25 .sh), (2, .v y26 .sh), (3, .v y4 .sh), (4, .v y2 .sh), (5, .v y27 .sh), (6, .v y27 .bw), (7, .v y2 .sh), (8, .v (.ptr y23) (.own 0 .bw)), (35, .v y4 .sh)] (.cond (.seq (.reg [] []) .nil) .nil)) (.join (.post (.seq (.reg [] []) (.cond (.seq (.reg [] []) (.seq (.reg [] []) (.seq (.reg [] []) (.seq (.reg [] []) (.reg [] []))))) .nil)) [(1, []), (2, [])]) [(1, .v y25 .sh), (2, .v y26 .sh), (8, .v (.ptr y23) (.own 0 .bw))] (.seq (.reg [] []) (.seq (.reg [] []) (.seq (.join (.reg [] []) [(1, .v y25 .sh), (2, .v y26 .sh), (4, .v y2 .sh), (8, .v (.ptr y23) (.own 0 .bw)), (17, .v y25 (.own 3 .sh)), (85, .v y4 .sh)] (.cond (.seq (.reg [] []) .nil) .nil)) (.seq (.reg [] [{}, {}, {}, {}, {}, {}, {}, {}, {}, { fl := 1 }]) (.seq (.reg [] [{}, {}, {}, {}, {}, {}, {}, {}, {}, { fl := 1 }]) (.seq (.reg [] []) .nil)))))))))
theorem ev3 (xs : Vals (ptys sg3.ps)) : evF (P := Tryz.prog) tab [.fn E5, .fn E6, .fn E7, .fn E8, .fn E9, .fn E12, .fn E11, .fn E10, .fn E13, .fn E14, .fn E15, .fn E16, .fn E17] sg3 Tryz.f3.results.toList (code Tryz.f3) plan3 xs = d3 xs.1 xs.2.1 xs.2.2.1 xs.2.2.2.1 xs.2.2.2.2.1 xs.2.2.2.2.2.1 xs.2.2.2.2.2.2.1 xs.2.2.2.2.2.2.2.1 := by kernel_rfl
theorem sim3 : Sim Tryz.prog 3 sg3 d3 := sim_ev mixd tabOK Tryz.func3 (code_of rfl) Tryz.call3 (Nat.le_of_ble_eq_true (by kernel_rfl)) (by kernel_rfl) plan3 _ fun xs y h => (ev3 xs).trans h
noncomputable def E3 : FnE Tryz.prog := ⟨3, sg3, d3, sim3⟩

/-- election/electionlaw35.SufficeFewer -/
noncomputable def d4 (p0 : Int) (p1 : Int) (p2 : Int) (p3 : Int) (p4 : List (List Int)) (p5 : List (List Int)) (p6 : List Int) (p7 : Int) : Option Bool :=
  (d7 p0 3).bind fun r =>
  (d8 p1 (w (2 + r)) p2 0 p3).bind fun r_1 =>
  (d18 p6 9).bind fun r_2 =>
  (d9 (w (2 + r)) r_2).bind fun r_3 =>
  bif (cutOK 0 (bif (decide (r_1.2.2.2.1 < (r_3.length : Int))) then r_1.2.2.2.1 else (r_3.length : Int)) r_3.length) then
    (d12 p4 24).bind fun r_4 =>
    (d11 (w (2 + r)) r_4 24).bind fun r_5 =>
    (d10 r_1 (w (2 + r)) r_5 (List.take (Int.toNat (bif (decide (r_1.2.2.2.1 < (r_3.length : Int))) then r_1.2.2.2.1 else (r_3.length : Int))) r_3) p5 (-1)).bind fun r_6 =>
    bif (decide ((r_6.length : Int) = 0)) then
      (d6).bind fun r_7 =>
      some r_7
    else
      (d7 p7 (r_6.length : Int)).bind fun r_8 =>
      bif (cutOK 0 r_8 r_6.length) then
        bif (decide ((([] : List (Int × (Int × (Int × (List Int × Int))))).length : Int) + ((List.drop 0 (List.take (Int.toNat r_8) r_6)).length : Int) ≤ LIM)) then
          bif (cutOK (w (r_8 + 1)) (r_6.length : Int) r_6.length) then
            bif (decide (((List.drop 0 (List.take (Int.toNat r_8) r_6)).length : Int) + ((List.drop (Int.toNat (w (r_8 + 1))) (List.take (Int.toNat (r_6.length : Int)) r_6)).length : Int) ≤ LIM)) then
              (d16 r_1 (List.take (Int.toNat (bif (decide (r_1.2.2.2.1 < (r_3.length : Int))) then r_1.2.2.2.1 else (r_3.length : Int))) r_3) ((List.drop 0 (List.take (Int.toNat r_8) r_6)) ++ (List.drop (Int.toNat (w (r_8 + 1))) (List.take (Int.toNat (r_6.length : Int)) r_6)))).bind fun r_9 =>
              (d16 r_1 (List.take (Int.toNat (bif (decide (r_1.2.2.2.1 < (r_3.length : Int))) then r_1.2.2.2.1 else (r_3.length : Int))) r_3) r_6).bind fun r_10 =>
              (d6).bind fun r_11 =>
              bif r_11 then
                bif !(!r_9) then
                  bif r_10 then
                    (d17 r_1 (List.take (Int.toNat (bif (decide (r_1.2.2.2.1 < (r_3.length : Int))) then r_1.2.2.2.1 else (r_3.length : Int))) r_3) r_6).bind fun r_12 =>
                    some (r_10 == r_12)
                  else
                    some false
                else
                  (d17 r_1 (List.take (Int.toNat (bif (decide (r_1.2.2.2.1 < (r_3.length : Int))) then r_1.2.2.2.1 else (r_3.length : Int))) r_3) r_6).bind fun r_13 =>
                  some (r_10 == r_13)
              else
                some false
            else none
          else none
        else none
      else none
  else none
def sg4 : Sig := ⟨[(y2, .sh), (y2, .sh), (y2, .sh), (y2, .sh), (y27, .sh), (y27, .bw), (y25, .sh), (y2, .sh)], [(y4, .sh)]⟩
def plan4 : Plan := (.seq (.reg [] []) (.seq (.reg [] []) (.seq (.reg [] []) (.seq (.reg [] []) (.seq (.reg [] []) (.seq (.reg [] []) (.seq (.seq (.reg [] []) (.cond (.seq (.reg [] []) .nil) .nil)) (.seq (.reg [] []) (.seq (.reg [(18, [])] []) (.seq (.reg [] []) (.seq (.reg [] []) .nil)))))))))))
theorem ev4 (xs : Vals (ptys sg4.ps)) : evF (P := Tryz.prog) tab [.fn E7, .fn E8, .fn E18, .fn E9, .fn E12, .fn E11, .fn E10, .fn E6, .fn E16, .fn E17] sg4 Tryz.f4.results.toList (code Tryz.f4) plan4 xs = d4 xs.1 xs.2.1 xs.2.2.1 xs.2.2.2.1 xs.2.2.2.2.1 xs.2.2.2.2.2.1 xs.2.2.2.2.2.2.1 xs.2.2.2.2.2.2.2.1 := by kernel_rfl
theorem sim4 : Sim Tryz.prog 4 sg4 d4 := sim_ev mixd tabOK Tryz.func4 (code_of rfl) Tryz.call4 (Nat.le_of_ble_eq_true (by kernel_rfl)) (by kernel_rfl) plan4 _ fun xs y h => (ev4 xs).trans h
noncomputable def E4 : FnE Tryz.prog := ⟨4, sg4, d4, sim4⟩

end Go.Proofs.YthlgoakkgmabaaaGreat