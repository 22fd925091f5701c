/- Plain laws: SufficeWitness. -/
import Derived.Test.YthlgoakkgmabaaaGreatS3
set_option linter.unusedSimpArgs false
set_option linter.unusedVariables false
open Go Go.Proofs Go.X
namespace Go.Proofs.YthlgoakkgmabaaaGreat
/- CONTESTS -/
def nms (n : Nat) : List (List Int) := (List.range n).map fun (i : Nat) => [97 + (i : Int)]
theorem nms_succ (n : Nat) : nms (n + 1) = nms n ++ [[97 + (n : Int)]] := by simp [nms, List.range_succ]
theorem nms_len (n : Nat) : (nms n).length = n := by simp [nms]
theorem d19_eq {n : Nat} (hn : n ≤ 100) : d19 (n : Int) = some (nms n) := by
  unfold d19
  refine while_bind (b := nms n) (fun i => ((n : Int), nms i, (i : Int))) n rfl (fun i hi => ?_) ?_ rfl
  · have e1 : (i : Int) < (n : Int) := by omega
    have e2 : w ((i : Int) + 1) = ((i + 1 : Nat) : Int) := by rw [w_id (by omega) (by omega)]; omega
    have e3 : wu8 (w (97 + (i : Int))) = 97 + (i : Int) := by rw [w_id (by omega) (by omega)]; exact w8_id (by omega) (by omega)
    simp only [e1, e2, e3, decide_true, cond_true, lim_small (nms i) [97 + (i : Int)] (by rw [nms_len]; omega), nms_succ]
  · have : ¬ ((n : Int) < (n : Int)) := by omega
    simp only [this, decide_false, cond_false]
def conB (m : Int) (n : Nat) (s dg ti : Int) : Con := ([99], nms n, 1 + m % 3, (if 1 + m % 3 = 1 then 1 else 1 + s % 5), 0, (if 1 + m % 3 = 2 then 1 + dg % 6 else 0), 1 + ti % 3, 0, 0)
theorem d8_eq {m s dg ti : Int} {n : Nat} (hn : n ≤ 100) (hm : WT (.int .i64) m) (hs : WT (.int .i64) s) (hd : WT (.int .i64) dg) (ht : WT (.int .i64) ti) : d8 m (n : Int) s dg ti = some (conB m n s dg ti) := by
  unfold d8 letJ
  rw [d19_eq hn, Option.bind_some, d7_eq hm (by omega) (by omega), Option.bind_some, d7_eq hs (by omega) (by omega), Option.bind_some, d7_eq ht (by omega) (by omega), Option.bind_some, d7_eq hd (by omega) (by omega)]
  have b1 := mod_bounds m (n := 3) (by omega)
  have b2 := mod_bounds s (n := 5) (by omega)
  have b3 := mod_bounds ti (n := 3) (by omega)
  have b4 := mod_bounds dg (n := 6) (by omega)
  have w1 : w (1 + m % 3) = 1 + m % 3 := w_id (by omega) (by omega)
  have w2 : w (1 + s % 5) = 1 + s % 5 := w_id (by omega) (by omega)
  have w3 : w (1 + ti % 3) = 1 + ti % 3 := w_id (by omega) (by omega)
  have w4 : w (1 + dg % 6) = 1 + dg % 6 := w_id (by omega) (by omega)
  simp only [w1, w2, w3, w4, Option.bind_some]
  unfold conB
  generalize 1 + m % 3 = M
  by_cases h1 : M = 1
  · have h2 : ¬ M = 2 := by omega
    simp only [h1, h2, decide_true, decide_false, cond_true, cond_false, if_true, if_false, show ¬ (1 : Int) = 2 by omega]
  · by_cases h2 : M = 2
    · simp only [h1, h2, decide_true, decide_false, cond_true, cond_false, if_true, if_false, show ¬ (2 : Int) = 1 by omega]
    · simp only [h1, h2, decide_true, decide_false, cond_true, cond_false, if_true, if_false]
theorem wt_small {x : Int} (h : -1000000 ≤ x ∧ x ≤ 1000000) : WT (.int .i64) x := wt_of (by omega) (by omega)
theorem d6_eq : d6 = some true := by
  have hl : LOK [((1 : Int), (0 : Int), (1 : Int), ([] : List Int), (0 : Int))] := ⟨by decide, by decide⟩
  unfold d6
  rw [d13_eq hl]
  have e1 : witA 3 [((1 : Int), (0 : Int), (1 : Int), ([] : List Int), (0 : Int))] 0 = some [1, 0, 2] := by decide +kernel
  rw [if_neg (by unfold badW; decide), e1]
  have e2 := d8_eq (m := 0) (s := 0) (dg := 0) (ti := 0) (n := 2) (by omega) (wt_small (by omega)) (wt_small (by omega)) (wt_small (by omega)) (wt_small (by omega))
  have e3 := d8_eq (m := 0) (s := 0) (dg := 0) (ti := 0) (n := 3) (by omega) (wt_small (by omega)) (wt_small (by omega)) (wt_small (by omega)) (wt_small (by omega))
  have e4 : sufB (conB 0 2 0 0 0) [0] [((1 : Int), (0 : Int), (1 : Int), ([] : List Int), (0 : Int))] = true := by decide +kernel
  have e5 : sufB (conB 0 3 0 0 0) [0] [((1 : Int), (0 : Int), (1 : Int), ([] : List Int), (0 : Int))] = false := by decide +kernel
  rw [Option.bind_some]
  rw [show (2 : Int) = ((2 : Nat) : Int) from rfl, e2, Option.bind_some, d16_eq (by decide) (by decide) hl, e4, Option.bind_some, cond_true]
  rw [show (3 : Int) = ((3 : Nat) : Int) from rfl, e3, Option.bind_some, d16_eq (by decide) (by decide) hl, e5, Option.bind_some]
  simp only [Bool.not_false, cond_true]
  rw [d15_eq (by decide) (by decide)]
  rfl
/- THE LAW -/
theorem d55_eq (n : Int) {l : List Int} (hl : l.length ≤ 281474976710656) : d55 n l = some (decide ((l.length : Int) = n) && decide (isB n l)) := by
  unfold d55
  by_cases h : (l.length : Int) = n
  · rw [d37_eq n hl]
    simp only [h, decide_true, cond_true, Option.bind_some, Bool.true_and]
  · simp only [h, decide_false, cond_false, Bool.false_and]
theorem any_range {g : Nat → Bool} {n : Nat} : (List.range n).any g = true ↔ ∃ k, k < n ∧ g k = true := by
  rw [List.any_eq_true]
  exact ⟨fun ⟨k, h1, h2⟩ => ⟨k, List.mem_range.1 h1, h2⟩, fun ⟨k, h1, h2⟩ => ⟨k, List.mem_range.2 h1, h2⟩⟩
def contrAll (n : Int) (o : List Int) (a : Asn) : Bool := (List.range n.toNat).any fun k => contr n a (o.drop k)
theorem d48_eq {n : Int} {o : List Int} {l : List Asn} (hn : 0 ≤ n ∧ n ≤ 100) (ho : (o.length : Int) = n) (hl : LOK l) : d48 n o l = some (l.any (contrAll n o)) := by
  unfold d48
  refine while_first (fun i => (n, o, l, (i : Int))) (fun i => contrAll n o (l.getD i (0, 0, 0, [], 0))) l.length (fun _ => .inr true) (.inl ()) rfl (fun i hi => ?_) ?_ (fun i hi hp hj => ?_) (fun hall => ?_)
  · have h2 : (i : Int) < (l.length : Int) := by omega
    have h3 : (0 : Int) ≤ (i : Int) := by omega
    have hw : w ((i : Int) + 1) = ((i + 1 : Nat) : Int) := by rw [w_id (by have := hl.1; omega) (by have := hl.1; omega)]; omega
    have hm : l.getD i (0, 0, 0, [], 0) ∈ l := by rw [getD_get _ _ hi]; exact List.getElem_mem _
    simp only [h2, decide_true, cond_true]
    refine while_first (fun k => (n, o, l, (i : Int), (k : Int))) (fun k => contr n (l.getD i (0, 0, 0, [], 0)) (o.drop k)) n.toNat (fun _ => .inr true) (.inl (n, o, l, (i : Int))) rfl (fun k hk => ?_) ?_ (fun k hk hp hj => ?_) (fun hall => ?_)
    · have k2 : (k : Int) < n := by omega
      have kw : w ((k : Int) + 1) = ((k + 1 : Nat) : Int) := by rw [w_id (by omega) (by omega)]; omega
      have hcut : cutOK (k : Int) (o.length : Int) o.length = true := cutOK_drop (by omega)
      simp only [h2, h3, k2, kw, hcut, decide_true, cond_true, Bool.and_self, Int.toNat_natCast, List.take_length, d63_eq n (a := l.getD i (0, 0, 0, [], 0)) (t := o.drop k) (hl.2 _ hm) (by rw [List.length_drop]; omega), Option.bind_some]
      cases contr n (l.getD i (0, 0, 0, [], 0)) (o.drop k)
      · simp only [cond_false, Bool.false_eq_true, if_false]
      · simp only [cond_true, if_true]
    · have : ¬ ((n.toNat : Int) < n) := by omega
      simp only [this, decide_false, cond_false]
    · have : contrAll n o (l.getD i (0, 0, 0, [], 0)) = true := any_range.2 ⟨k, hk, hp⟩
      simp only [this, if_true]
    · have : contrAll n o (l.getD i (0, 0, 0, [], 0)) = false := by
        cases h : contrAll n o (l.getD i (0, 0, 0, [], 0)) with
        | false => rfl
        | true =>
          obtain ⟨k, h1, h2⟩ := any_range.1 h
          rw [hall k h1] at h2
          cases h2
      simp only [this, Bool.false_eq_true, if_false, hw]
  · simp
  · simp only [any_true hi hp]
  · simp only [any_false hall]
theorem alls_valid {n : Int} (hn : 2 ≤ n) (hn' : n ≤ 7) (l : List (List Int)) : ∀ a ∈ alls n l, validB n a = true := fun a ha => by
  obtain ⟨x, _, rfl⟩ := List.mem_map.1 ha
  exact mk_valid hn hn'
theorem alls_lok {n : Int} (hn : 2 ≤ n) (hn' : n ≤ 7) (l : List (List Int)) : LOK (alls n l) :=
  ⟨by have := (alls_ok hn hn' l).1; omega, fun a ha => by have := valid_short (alls_valid hn hn' l a ha); omega⟩
theorem contr_quota {n : Int} {a : Asn} (h1 : a.1 ≠ 1) (h2 : a.1 ≠ 2) (t : List Int) : contr n a t = false := by
  unfold contr
  simp [h1, h2]
end Go.Proofs.YthlgoakkgmabaaaGreat
