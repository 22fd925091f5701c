/- Plain laws: SufficeTells, SufficeFewer. -/
import Derived.Test.YthlgoakkgmabaaaGreatS7
set_option linter.unusedSimpArgs false
set_option linter.unusedVariables false
open Go Go.Proofs Go.X
namespace Go.Proofs.YthlgoakkgmabaaaGreat
def witR (n wn : Int) (l : List Asn) : List Int × Bool := if badW n wn l then ([], false) else match witA n l wn with | none => ([], false) | some o => (o, true)
theorem witR_len (n wn : Int) (l : List Asn) : (witR n wn l).1.length ≤ 7 := by
  unfold witR
  by_cases hb : badW n wn l
  · rw [if_pos hb]; simp
  · rw [if_neg hb]
    have hg := good_of hb
    have hs := witP_spec (n := n.toNat) (by omega) (anyC n l) wn
    unfold witA
    cases hw : witP n.toNat (anyC n l) wn with
    | none => simp
    | some o =>
      rw [hw] at hs
      have := hs.1.2.1
      simp only
      omega
theorem short_eq {l : List Asn} (hl : l.length ≤ 281474976710656) : d5 l = some ((l.all fun a => decide (a.2.2.2.1.length ≤ 9)) && decide (l.length ≤ 30)) := by
  unfold d5
  refine while_first (fun i => (l, (i : Int))) (fun i => !decide ((l.getD i (0, 0, 0, [], 0)).2.2.2.1.length ≤ 9)) l.length (fun _ => .inr false) (.inl l) rfl (fun i hi => ?_) ?_ (fun i hi hp hj => ?_) (fun hall => ?_)
  · have h2 : (i : Int) < (l.length : Int) := by omega
    have h3 : (0 : Int) ≤ (i : Int) := by omega
    have hw : w ((i : Int) + 1) = ((i + 1 : Nat) : Int) := by rw [w_id (by omega) (by omega)]; omega
    simp only [h2, h3, hw, decide_true, cond_true, Bool.and_self, Int.toNat_natCast]
    by_cases c : (l.getD i (0, 0, 0, [], 0)).2.2.2.1.length ≤ 9
    · have c' : ¬ (9 : Int) < ((l.getD i (0, 0, 0, [], 0)).2.2.2.1.length : Int) := by omega
      simp only [c, c', decide_true, decide_false, cond_false, Bool.not_true, Bool.false_eq_true, if_false]
    · have c' : (9 : Int) < ((l.getD i (0, 0, 0, [], 0)).2.2.2.1.length : Int) := by omega
      simp only [c, c', decide_true, decide_false, cond_true, Bool.not_false, if_true]
  · have : ¬ ((l.length : Int) < (l.length : Int)) := by omega
    simp only [this, decide_false, cond_false]
  · rw [all_false (g := fun a : Asn => decide (a.2.2.2.1.length ≤ 9)) hi (by simpa using hp)]
    rfl
  · rw [all_true (g := fun a : Asn => decide (a.2.2.2.1.length ≤ 9)) (z := (0, 0, 0, [], 0)) fun i hi => by simpa using hall i hi]
    simp only [Bool.true_and]
    rw [decide_eq_decide.2 (show ((l.length : Int) ≤ 30) ↔ l.length ≤ 30 by omega)]
theorem conB_n (m : Int) (n : Nat) (s dg ti : Int) : (conB m n s dg ti).2.1.length = n := nms_len n
theorem conB_s {m : Int} {n : Nat} {s dg ti : Int} : 1 ≤ (conB m n s dg ti).2.2.2.1 ∧ (conB m n s dg ti).2.2.2.1 ≤ 5 := by
  have b2 := mod_bounds s (n := 5) (by omega)
  show 1 ≤ (if 1 + m % 3 = 1 then (1 : Int) else 1 + s % 5) ∧ (if 1 + m % 3 = 1 then (1 : Int) else 1 + s % 5) ≤ 5
  split <;> omega
/-- The winners of a statement: the first of a ballot. -/
def winP (n s : Int) (ws : List Int) : List Int := (bal n ws).take (if s < ((bal n ws).length : Int) then s else ((bal n ws).length : Int)).toNat
theorem win_min {s : Int} {b : List Int} (hs : 1 ≤ s) : (bif decide (s < (b.length : Int)) then s else (b.length : Int)) = (if s < (b.length : Int) then s else (b.length : Int)) ∧ cutOK 0 (if s < (b.length : Int) then s else (b.length : Int)) b.length = true := by
  constructor
  · by_cases c : s < (b.length : Int) <;> simp [c]
  · have := cutOK_take (i := (if s < (b.length : Int) then s else (b.length : Int)).toNat) (n := b.length) (by split <;> omega)
    rwa [show (((if s < (b.length : Int) then s else (b.length : Int)).toNat : Nat) : Int) = (if s < (b.length : Int) then s else (b.length : Int)) by split <;> omega] at this
theorem winP_len {n s : Int} (hn : 0 < n) (hn' : n ≤ 7) (ws : List Int) : (winP n s ws).length ≤ 7 := by
  unfold winP
  have := isB_len (bal_isB hn ws) hn'
  rw [List.length_take]
  omega
theorem pile_of {n : Int} (h1 : 1 ≤ n) (hn : n ≤ 7) {x : List (List Int)} (hx : x.length ≤ 281474976710656) (hw : ∀ y ∈ x, WT (.slice (.int .i64)) y) : ∃ gs, ((d12 x 24).bind fun r => d11 n r 24) = some gs ∧ GsOK gs := by
  have e12 : d12 x 24 = some (cuts x 24) := d12_eq hx hw (k := 24) (by omega)
  obtain ⟨cl, cw⟩ := cuts_wt (k := 24) hw
  have e11 : d11 n (cuts x 24) 24 = some (pileOf (bals n (cuts x 24) 24)) := d11_eq (n := n) h1 hn (by omega) cw (most := 24) (by omega)
  have hbl := bals_len (n := n) (l := cuts x 24) (most := 24)
  have hbb := bals_isB (n := n) (by omega) (l := cuts x 24) (most := 24)
  have hp := (pileOf_ok (bals n (cuts x 24) 24) hbb (by omega)).1
  refine ⟨_, ?_, hp.gs hn⟩
  rw [e12, Option.bind_some, e11]
theorem d3_true {c : Con} {ws : List Int} {l : List Asn} {raw : Bool} {n drop : Int} {x more : List (List Int)} (hc : c.2.1.length ≤ 281474976710656) (hm : WT (.int .i64) c.2.2.1) (hs : WT (.int .i64) c.2.2.2.1) (ht : WT (.int .i64) c.2.2.2.2.2.2.1) (hws : WT (.slice (.int .i64)) ws)
    (hl : l.length ≤ 281474976710656) (hn : WT (.int .i64) n) (hx : x.length ≤ 281474976710656) (hw : ∀ y ∈ x, WT (.slice (.int .i64)) y) (hx2 : more.length ≤ 281474976710656) (hw2 : ∀ y ∈ more, WT (.slice (.int .i64)) y) (hd : WT (.int .i64) drop) : d3 c ws l raw n x more drop = some true := by
  have hwl := wt_len hws
  -- what is examined at last
  have fin : ∀ (c : Con) (ws : List Int) (l : List Asn), c.2.1.length ≤ 100000 → ws.length ≤ 1000 → LOK l →
      (bif decide (5 < (c.2.1.length : Int)) then (bif decide ((c.2.1.length : Int) ≤ 7) then d6.bind fun r => some r else
        (bif (decide (0 ≤ (w (((([0] ++ ws).length : Nat) : Int) - 1))) && decide ((w (((([0] ++ ws).length : Nat) : Int) - 1)) < ((([0] ++ ws).length : Nat) : Int))) then
          (d13 (c.2.1.length : Int) (List.getD ([0] ++ ws) (Int.toNat (w (((([0] ++ ws).length : Nat) : Int) - 1))) 0) l).bind fun r_9 =>
          bif (decide (0 ≤ (w (((([0] ++ ws).length : Nat) : Int) - 1))) && decide ((w (((([0] ++ ws).length : Nat) : Int) - 1)) < ((([0] ++ ws).length : Nat) : Int))) then
            (d14 (c.2.1.length : Int) (List.getD ([0] ++ ws) (Int.toNat (w (((([0] ++ ws).length : Nat) : Int) - 1))) 0) l).bind fun r_10 =>
            (d6).bind fun r_11 =>
            bif r_11 then bif (r_9.2 == r_10.2) then (d15 r_9.1 r_10.1).bind fun r_12 => bif r_12 then (d16 c ws l).bind fun r_13 => (d17 c ws l).bind fun r_14 => some (r_13 == r_14) else some false else some false else some false
          else none
        else none)) else
        (bif (decide (0 ≤ (w (((([0] ++ ws).length : Nat) : Int) - 1))) && decide ((w (((([0] ++ ws).length : Nat) : Int) - 1)) < ((([0] ++ ws).length : Nat) : Int))) then
          (d13 (c.2.1.length : Int) (List.getD ([0] ++ ws) (Int.toNat (w (((([0] ++ ws).length : Nat) : Int) - 1))) 0) l).bind fun r_9 =>
          bif (decide (0 ≤ (w (((([0] ++ ws).length : Nat) : Int) - 1))) && decide ((w (((([0] ++ ws).length : Nat) : Int) - 1)) < ((([0] ++ ws).length : Nat) : Int))) then
            (d14 (c.2.1.length : Int) (List.getD ([0] ++ ws) (Int.toNat (w (((([0] ++ ws).length : Nat) : Int) - 1))) 0) l).bind fun r_10 =>
            (d6).bind fun r_11 =>
            bif r_11 then bif (r_9.2 == r_10.2) then (d15 r_9.1 r_10.1).bind fun r_12 => bif r_12 then (d16 c ws l).bind fun r_13 => (d17 c ws l).bind fun r_14 => some (r_13 == r_14) else some false else some false else some false
          else none
        else none)) = some true := by
    intro c ws l hc hws hl
    have hL : ((([0] ++ ws).length : Nat) : Int) = (ws.length : Int) + 1 := by simp
    have hwv : w (((([0] ++ ws).length : Nat) : Int) - 1) = (ws.length : Int) := by rw [w_id (by omega) (by omega)]; omega
    have i1 : (0 : Int) ≤ (ws.length : Int) := by omega
    have i2 : (ws.length : Int) < ((([0] ++ ws).length : Nat) : Int) := by omega
    have e13 : ∀ v : Int, d13 (c.2.1.length : Int) v l = some (witR (c.2.1.length : Int) v l) := fun v => d13_eq hl
    have e14 : ∀ v : Int, d14 (c.2.1.length : Int) v l = some (witR (c.2.1.length : Int) v l) := fun v => d14_eq hl
    have e15 : ∀ v : Int, d15 (witR (c.2.1.length : Int) v l).1 (witR (c.2.1.length : Int) v l).1 = some true := fun v => by
      have := witR_len (c.2.1.length : Int) v l
      rw [d15_eq (by omega) (by omega)]
      simp
    simp only [hwv, i1, i2, decide_true, Bool.and_self, cond_true, e13, e14, e15, Option.bind_some, d6_eq, beq_self_eq_true, d16_eq (c := c) (ws := ws) (by omega) (by omega) hl, d17_eq (c := c) (ws := ws) hc (by omega) hl, Bool.cond_self]
  unfold d3 letJ
  simp only
  rw [short_eq hl]
  simp only [Option.bind_some, Bool.not_not]
  cases hsh : ((l.all fun a => decide (a.2.2.2.1.length ≤ 9)) && decide (l.length ≤ 30))
  · simp only [cond_false, d6_eq, Option.bind_some, cond_true]
  simp only [cond_true]
  simp only [Bool.and_eq_true, decide_eq_true_eq, List.all_eq_true] at hsh
  have hlok : LOK l := ⟨by omega, fun a ha => by have := hsh.1 a ha; omega⟩
  by_cases c1 : (9 : Int) < (ws.length : Int)
  · simp only [c1, decide_true, Bool.not_true, cond_false, cond_true, d6_eq, Option.bind_some]
  by_cases c2 : (9 : Int) < (c.2.1.length : Int)
  · simp only [c1, c2, decide_true, decide_false, Bool.not_false, cond_false, cond_true, d6_eq, Option.bind_some]
  have lim0 : ∀ ws : List Int, ws.length ≤ 1000 → ((([0] : List Int).length : Int) + (ws.length : Int) ≤ LIM) := fun ws h => by rw [LIM_eq]; simp; omega
  simp only [c1, c2, decide_true, decide_false, Bool.not_false, cond_false, cond_true]
  cases raw
  · simp only [Bool.not_false, cond_true]
    rw [d7_eq hn (by omega) (by omega)]
    have b := mod_bounds n (n := 4) (by omega)
    have w1 : w (1 + n % 4) = 1 + n % 4 := w_id (by omega) (by omega)
    simp only [Option.bind_some, w1]
    obtain ⟨N, hN⟩ : ∃ N : Nat, 1 + n % 4 = (N : Int) := ⟨(1 + n % 4).toNat, by omega⟩
    rw [hN]
    rw [d8_eq (n := N) (by omega) hm hs (wt_small (by omega)) ht, Option.bind_some, d9_eq (n := (N : Int)) (by omega) (by omega) hws, Option.bind_some]
    obtain ⟨s1, s2⟩ := conB_s (m := c.2.2.1) (n := N) (s := c.2.2.2.1) (dg := 0) (ti := c.2.2.2.2.2.2.1)
    have hcn := conB_n c.2.2.1 N c.2.2.2.1 0 c.2.2.2.2.2.2.1
    generalize conB c.2.2.1 N c.2.2.2.1 0 c.2.2.2.2.2.2.1 = cc at s1 s2 hcn ⊢
    obtain ⟨m1, m2⟩ := win_min (s := cc.2.2.2.1) (b := bal (N : Int) ws) s1
    have hwin : (bal (N : Int) ws).take (if cc.2.2.2.1 < ((bal (N : Int) ws).length : Int) then cc.2.2.2.1 else ((bal (N : Int) ws).length : Int)).toNat = winP (N : Int) cc.2.2.2.1 ws := rfl
    rw [m1, m2]
    simp only [cond_true, hwin]
    obtain ⟨gs, hgs, hg⟩ := pile_of (n := (N : Int)) (by omega) (by omega) hx hw
    rw [← Option.bind_assoc, hgs, Option.bind_some]
    have hmin : (bif decide (3 < (more.length : Int)) then (3 : Int) else (more.length : Int)) = ((min 3 more.length : Nat) : Int) := by
      by_cases h : (3 : Int) < (more.length : Int)
      · simp only [h, decide_true, cond_true]; omega
      · simp only [h, decide_false, cond_false]; omega
    rw [hmin, cutOK_take (show min 3 more.length ≤ more.length by omega)]
    simp only [cond_true, Int.toNat_natCast, List.drop_zero]
    have hwp := winP_len (n := (N : Int)) (s := cc.2.2.2.1) (by omega) (by omega) ws
    rw [d10_eq (c := cc) (n := (N : Int)) (gs := gs) (by omega) hg (by omega) (by omega) (by simp; omega) (fun y hy => hw2 y (List.mem_of_mem_take hy)) hd, Option.bind_some]
    obtain ⟨q1, q2⟩ := mixP_ok (c := cc) (n := (N : Int)) (by omega) (by omega) gs (winP (N : Int) cc.2.2.2.1 ws) (more.take (min 3 more.length)) drop
    simp only [lim0 _ (show (winP (N : Int) cc.2.2.2.1 ws).length ≤ 1000 by omega), decide_true, cond_true]
    exact fin cc _ _ (by omega) (by omega) (lok_of (by omega) q2)
  · simp only [Bool.not_true, cond_false, lim0 ws (by omega), decide_true, cond_true]
    exact fin c ws l (by omega) (by omega) hlok
/- FEWER -/
theorem suf_more {c : Con} {ws : List Int} {l l' : List Asn} (hsub : ∀ a ∈ l', a ∈ l) (hv : ∀ a ∈ l, validB (c.2.1.length : Int) a = true) (hl : l.length ≤ 1400) (h : sufB c ws l' = true) : sufB c ws l = true := by
  unfold sufB at h ⊢
  simp only [Bool.and_eq_true] at h ⊢
  obtain ⟨⟨⟨⟨h1, h2⟩, h3⟩, h4⟩, h5⟩ := h
  refine ⟨⟨⟨⟨h1, decide_eq_true hl⟩, h3⟩, List.all_eq_true.2 hv⟩, ?_⟩
  obtain ⟨f1, f2, f3, f4, f5, f6, f7⟩ := fit_n h1
  by_cases c1 : (c.2.1.length : Int) ≤ c.2.2.2.1
  · rw [if_pos c1] at h5 ⊢; exact h5
  · rw [if_neg c1] at h5 ⊢
    simp only [Bool.and_eq_true] at h5 ⊢
    refine ⟨h5.1, ?_⟩
    have h5' := h5.2
    by_cases c2 : c.2.2.1 = 1
    · rw [if_pos c2] at h5' ⊢
      unfold witA at h5' ⊢
      have s1 := witP_spec (n := (c.2.1.length : Int).toNat) (by omega) (anyC (c.2.1.length : Int) l') (ws.getD 0 0)
      have s2 := witP_spec (n := (c.2.1.length : Int).toNat) (by omega) (anyC (c.2.1.length : Int) l) (ws.getD 0 0)
      cases e1 : witP (c.2.1.length : Int).toNat (anyC (c.2.1.length : Int) l) (ws.getD 0 0) with
      | none => rfl
      | some o =>
        exfalso
        rw [e1] at s2
        cases e2 : witP (c.2.1.length : Int).toNat (anyC (c.2.1.length : Int) l') (ws.getD 0 0) with
        | some o' => rw [e2] at h5'; cases h5'
        | none =>
          rw [e2] at s1
          obtain ⟨⟨o1, o2, o3, o4⟩, _⟩ := s2
          refine s1 o ⟨o1, o2, o3, fun j hj => ?_⟩
          have := o4 j hj
          unfold anyC at this ⊢
          rw [List.any_eq_false] at this ⊢
          exact fun a ha => this a (hsub a ha)
    · rw [if_neg c2] at h5' ⊢
      rw [List.all_eq_true] at h5' ⊢
      intro x hx
      have := h5' x hx
      rw [List.any_eq_true] at this ⊢
      obtain ⟨a, ha, hp⟩ := this
      exact ⟨a, hsub a ha, hp⟩
theorem d4_true {n m s ti drop : Int} {x more : List (List Int)} {ws : List Int} (hn : WT (.int .i64) n) (hm : WT (.int .i64) m) (hs : WT (.int .i64) s) (ht : WT (.int .i64) ti) (hx : x.length ≤ 281474976710656) (hw : ∀ y ∈ x, WT (.slice (.int .i64)) y) (hx2 : more.length ≤ 281474976710656) (hw2 : ∀ y ∈ more, WT (.slice (.int .i64)) y) (hws : WT (.slice (.int .i64)) ws) (hd : WT (.int .i64) drop) :
    d4 n m s ti x more ws drop = some true := by
  unfold d4
  rw [d7_eq hn (by omega) (by omega)]
  have b := mod_bounds n (n := 3) (by omega)
  have w1 : w (2 + n % 3) = 2 + n % 3 := w_id (by omega) (by omega)
  simp only [Option.bind_some, w1]
  obtain ⟨N, hN⟩ : ∃ N : Nat, 2 + n % 3 = (N : Int) := ⟨(2 + n % 3).toNat, by omega⟩
  rw [hN]
  have hws9 : WT (.slice (.int .i64)) (ws.take 9) := ⟨Nat.le_trans (by rw [List.length_take]; exact Nat.min_le_right _ _) hws.1, fun y hy => hws.2 y (List.mem_of_mem_take hy)⟩
  rw [d8_eq (n := N) (by omega) hm hs (wt_small (by omega)) ht, Option.bind_some, d18_eq hws, Option.bind_some, d9_eq (n := (N : Int)) (by omega) (by omega) hws9, Option.bind_some]
  obtain ⟨s1, s2⟩ := conB_s (m := m) (n := N) (s := s) (dg := 0) (ti := ti)
  have hcn := conB_n m N s 0 ti
  generalize conB m N s 0 ti = cc at s1 s2 hcn ⊢
  generalize ws.take 9 = ws
  obtain ⟨m1, m2⟩ := win_min (s := cc.2.2.2.1) (b := bal (N : Int) ws) s1
  have hwin : (bal (N : Int) ws).take (if cc.2.2.2.1 < ((bal (N : Int) ws).length : Int) then cc.2.2.2.1 else ((bal (N : Int) ws).length : Int)).toNat = winP (N : Int) cc.2.2.2.1 ws := rfl
  rw [m1, m2]
  simp only [cond_true, hwin]
  obtain ⟨gs, hgs, hg⟩ := pile_of (n := (N : Int)) (by omega) (by omega) hx hw
  rw [← Option.bind_assoc, hgs, Option.bind_some]
  have hwp := winP_len (n := (N : Int)) (s := cc.2.2.2.1) (by omega) (by omega) ws
  rw [d10_eq (c := cc) (n := (N : Int)) (gs := gs) (by omega) hg (by omega) (by omega) hx2 hw2 (wt_small (by omega)), Option.bind_some]
  obtain ⟨q1, q2⟩ := mixP_ok (c := cc) (n := (N : Int)) (by omega) (by omega) gs (winP (N : Int) cc.2.2.2.1 ws) more (-1)
  generalize mixP cc (N : Int) gs (winP (N : Int) cc.2.2.2.1 ws) more (-1) = l at q1 q2
  generalize winP (N : Int) cc.2.2.2.1 ws = wn at hwp
  have hlok := lok_of (show l.length ≤ 100000 by omega) q2
  by_cases c1 : (l.length : Int) = 0
  · simp only [c1, decide_true, cond_true, d6_eq, Option.bind_some]
  simp only [c1, decide_false, cond_false]
  rw [d7_eq hd (by omega) (by omega)]
  have bk := mod_bounds drop (n := (l.length : Int)) (by omega)
  obtain ⟨k, hk⟩ : ∃ k : Nat, drop % (l.length : Int) = (k : Int) := ⟨(drop % (l.length : Int)).toNat, by omega⟩
  rw [hk] at bk
  have wk : w ((k : Int) + 1) = ((k + 1 : Nat) : Int) := by rw [w_id (by omega) (by omega)]; omega
  have hcut : cutOK ((k + 1 : Nat) : Int) (l.length : Int) l.length = true := cutOK_drop (by omega)
  have l1 : ((([] : List Asn).length : Int) + ((List.take k l).length : Int) ≤ LIM) := by rw [LIM_eq]; simp; omega
  have l2 : (((List.take k l).length : Int) + ((List.drop (k + 1) l).length : Int) ≤ LIM) := by rw [LIM_eq]; simp; omega
  simp only [hk, wk, hcut, Option.bind_some, cutOK_take (show k ≤ l.length by omega), cond_true, Int.toNat_natCast, List.drop_zero, List.take_length, l1, l2, decide_true]
  have hsub : ∀ a ∈ List.take k l ++ List.drop (k + 1) l, a ∈ l := fun a ha => by
    rcases List.mem_append.1 ha with h | h
    · exact List.mem_of_mem_take h
    · exact List.mem_of_mem_drop h
  have hlok' : LOK (List.take k l ++ List.drop (k + 1) l) := lok_of (n := (N : Int)) (by simp; omega) fun a ha => q2 a (hsub a ha)
  rw [d16_eq (by omega) (by omega) hlok', d16_eq (by omega) (by omega) hlok]
  simp only [Option.bind_some, d6_eq, cond_true]
  rw [d17_eq (by omega) (by omega) hlok]
  simp only [Option.bind_some]
  have hmore : sufB cc wn (List.take k l ++ List.drop (k + 1) l) = true → sufB cc wn l = true := suf_more hsub (by rw [hcn]; exact q2) (by omega)
  cases h1 : sufB cc wn (List.take k l ++ List.drop (k + 1) l)
  · simp only [Bool.not_false, Bool.not_true, cond_false, beq_self_eq_true]
  · rw [hmore h1]
    simp
end Go.Proofs.YthlgoakkgmabaaaGreat
