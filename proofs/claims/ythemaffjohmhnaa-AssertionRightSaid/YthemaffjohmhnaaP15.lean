/- Plain laws: tallies of assertions are what the document prescribes (AssertionTells). -/
import Derived.Test.YthemaffjohmhnaaP14
set_option linter.unusedSimpArgs false
set_option linter.unusedVariables false
open Go Go.Proofs Go.X
namespace Go.Proofs.Ythemaffjohmhnaa
/-- For and against. -/
def fav (a : Asn) (gs : List Grp) : Int × Int :=
  if a.1 = 1 then (wsum (isFirst a.2.1) gs, wsum (isBefore a.2.2.1 a.2.1) gs)
  else if a.1 = 2 then (wsum (isTopM a.2.2.2.1 a.2.1) gs, wsum (isTopM a.2.2.2.1 a.2.2.1) gs)
  else (a.2.2.2.2 * wsum (isFirst a.2.1) gs, wsum isMarked gs)
theorem isFirst01 (c : Int) (p : List Int) : 0 ≤ isFirst c p ∧ isFirst c p ≤ 1 := by unfold isFirst; split <;> omega
theorem quota_bounds {n : Int} {gs : List Grp} {N : Int} (h : PileOK n gs N) {a : Asn} (ha : validB n a = true) (k : a.1 = 3) : 0 ≤ a.2.2.2.2 * wsum (isFirst a.2.1) gs ∧ a.2.2.2.2 * wsum (isFirst a.2.1) gs ≤ 600000 := by
  have hq := valid_quota ha k
  have hfb := wsum_pos (n := n) h.ballots (isFirst01 a.2.1)
  have ht := h.total
  have hN := h.most
  have b1 : 0 ≤ a.2.2.2.2 * wsum (isFirst a.2.1) gs := Int.mul_nonneg (by omega) hfb.1
  have b2 : a.2.2.2.2 * wsum (isFirst a.2.1) gs ≤ 6 * wsum (isFirst a.2.1) gs := Int.mul_le_mul_of_nonneg_right (by omega) hfb.1
  omega
theorem PileOK.d23 {n : Int} {gs : List Grp} {N : Int} (h : PileOK n gs N) (h1 : 1 ≤ n) (hn : n ≤ 7) {a : Asn} (ha : validB n a = true) (hl : a.2.2.2.1.length ≤ 1000) : d23 n gs a = some (fav a gs) := by
  have hw := valid_who ha
  unfold Go.Proofs.Ythemaffjohmhnaa.d23 fav
  rw [d25_eq n (by omega), ha, h.d66 h1 hn]
  simp only [Option.bind_some, Bool.not_true, Bool.not_false, cond_true, cond_false, letJ]
  rcases valid_kinds ha with k | k | k
  · have hne := valid_12 ha (.inl k)
    simp only [k, decide_true, cond_true, if_true, h.d67 hn, h.d68 hn (Ne.symm hne), Option.bind_some]
  · obtain ⟨v, hv, hvl, hvg⟩ := h.d69 h1 hn (valid_among ha k) hl
    have c1 : a.2.1 < (v.length : Int) := by omega
    have c2 : a.2.2.1 < (v.length : Int) := by omega
    simp only [k, show ¬ (2 : Int) = 1 by omega, decide_true, decide_false, cond_true, cond_false, if_true, if_false, hv, Option.bind_some, hw.1, hw.2.2.1, c1, c2, Bool.and_self, hvg _ hw.1 hw.2.1, hvg _ hw.2.2.1 hw.2.2.2.1]
  · have hq := quota_bounds h ha k
    simp only [k, show ¬ (3 : Int) = 1 by omega, show ¬ (3 : Int) = 2 by omega, decide_false, cond_false, if_false, h.d67 hn, h.d70 hn, Option.bind_some]
    rw [w_id (by omega) (by omega)]
theorem PileOK.d24 {n : Int} {gs : List Grp} {N : Int} (h : PileOK n gs N) (h1 : 1 ≤ n) (hn : n ≤ 7) {a : Asn} (ha : validB n a = true) (hl : a.2.2.2.1.length ≤ 1000) : d24 n gs a = some (fav a gs) := by
  have hw := valid_who ha
  have hal := allOf_len n.toNat n.toNat
  unfold Go.Proofs.Ythemaffjohmhnaa.d24 fav
  rw [d26_eq n (by omega), ha, d71_eq (h.gs hn), h.pileB h1 hn]
  simp only [Option.bind_some, Bool.not_true, Bool.not_false, cond_true, cond_false, letJ]
  rw [d73_eq (by omega) hn]
  simp only [Option.bind_some]
  rw [h.d72 hn (by omega)]
  simp only [Option.bind_some]
  have vl : (votesAt (allOf n.toNat n.toNat) gs).length = n.toNat := by rw [votesAt_len, hal]
  have vg : ∀ c : Int, 0 ≤ c → c < n → (votesAt (allOf n.toNat n.toNat) gs).getD c.toNat 0 = wsum (isFirst c) gs := fun c hc hc' => by
    rw [votesAt_get _ _ (by rw [hal]; omega), show ((c.toNat : Nat) : Int) = c by omega]
    exact wsum_congr fun g hg => top_all (by omega) (h.ballots g hg).1 c
  have c1 : a.2.1 < ((votesAt (allOf n.toNat n.toNat) gs).length : Int) := by omega
  rcases valid_kinds ha with k | k | k
  · simp only [k, decide_true, cond_true, if_true, hw.1, c1, Bool.and_self, h.d74 hn, Option.bind_some, vg _ hw.1 hw.2.1]
  · have hm := valid_among ha k
    have hrl := remOf_len n.toNat a.2.2.2.1 a.2.2.2.1.length
    have vl2 : (votesAt (remOf n.toNat a.2.2.2.1 a.2.2.2.1.length) gs).length = n.toNat := by rw [votesAt_len, hrl]
    have vg2 : ∀ c : Int, 0 ≤ c → c < n → (votesAt (remOf n.toNat a.2.2.2.1 a.2.2.2.1.length) gs).getD c.toNat 0 = wsum (isTopM a.2.2.2.1 c) gs := fun c hc hc' => by
      rw [votesAt_get _ _ (by rw [hrl]; omega), show ((c.toNat : Nat) : Int) = c by omega]
      refine wsum_congr fun x hx => ?_
      have hb := (h.ballots x hx).1
      have : firstAt (rem (remOf n.toNat a.2.2.2.1 a.2.2.2.1.length)) x.1 = firstAt (fun y => decide (y ∈ a.2.2.2.1)) x.1 := firstAt_congr fun y hy => by
        rw [rem_remOf n.toNat a.2.2.2.1 (fun z hz => by have := hm z hz; omega) (by have := hb.2 y hy; omega) a.2.2.2.1.length (Nat.le_refl _), List.take_length]
      unfold isTop isTopM
      rw [this]
    have c2 : a.2.1 < ((votesAt (remOf n.toNat a.2.2.2.1 a.2.2.2.1.length) gs).length : Int) := by omega
    have c3 : a.2.2.1 < ((votesAt (remOf n.toNat a.2.2.2.1 a.2.2.2.1.length) gs).length : Int) := by omega
    simp only [k, show ¬ (2 : Int) = 1 by omega, decide_true, decide_false, cond_true, cond_false, if_true, if_false]
    rw [d75_eq (by omega) hn hm hl]
    simp only [Option.bind_some]
    rw [h.d72 hn (by omega)]
    simp only [Option.bind_some, hw.1, hw.2.2.1, c2, c3, decide_true, Bool.and_self, cond_true, vg2 _ hw.1 hw.2.1, vg2 _ hw.2.2.1 hw.2.2.2.1]
  · have hq := quota_bounds h ha k
    simp only [k, show ¬ (3 : Int) = 1 by omega, show ¬ (3 : Int) = 2 by omega, decide_true, decide_false, cond_true, cond_false, if_false, hw.1, c1, Bool.and_self, h.d76 hn, Option.bind_some, vg _ hw.1 hw.2.1]
    rw [w_id (by omega) (by omega)]
theorem fav_bounds {n : Int} {gs : List Grp} {N : Int} (h : PileOK n gs N) {a : Asn} (ha : validB n a = true) : 0 ≤ (fav a gs).1 ∧ (fav a gs).1 ≤ 600000 ∧ 0 ≤ (fav a gs).2 ∧ (fav a gs).2 ≤ 600000 := by
  have ht := h.total
  have hN := h.most
  have hb := fun f hf => wsum_pos (n := n) h.ballots (f := f) hf
  have p1 := hb (isFirst a.2.1) (isFirst01 _)
  have p2 := hb (isBefore a.2.2.1 a.2.1) fun p => by unfold isBefore; simp only; split <;> omega
  have p3 := fun c => hb (isTopM a.2.2.2.1 c) fun p => by unfold isTopM; split <;> omega
  have p4 := hb isMarked fun p => by unfold isMarked; split <;> omega
  have p5 := p3 a.2.1
  have p6 := p3 a.2.2.1
  unfold fav
  rcases valid_kinds ha with k | k | k
  · simp only [k, if_true]; omega
  · simp only [k, if_true, if_false, show ¬ (2 : Int) = 1 by omega]; omega
  · have hq := quota_bounds h ha k
    simp only [k, if_false, show ¬ (3 : Int) = 1 by omega, show ¬ (3 : Int) = 2 by omega]; omega
def tal (n : Int) (gs : List Grp) (a : Asn) : Int × Int := if validB n a && pileB n gs then fav a gs else (0, 0)
theorem d23_eq {n : Int} {gs : List Grp} (h : GsOK gs) {a : Asn} (hl : a.2.2.2.1.length ≤ 1000) : d23 n gs a = some (tal n gs a) := by
  unfold tal
  cases ha : validB n a
  · unfold d23
    rw [d25_eq n (by omega), ha]
    rfl
  · cases hp : pileB n gs
    · unfold d23
      rw [d25_eq n (by omega), ha, d66_eq h, hp]
      rfl
    · obtain ⟨h1, h2, h3⟩ := pileB_ok hp
      rw [h3.d23 h1 h2 ha hl]
      rfl
theorem d24_eq {n : Int} {gs : List Grp} (h : GsOK gs) {a : Asn} (hl : a.2.2.2.1.length ≤ 1000) : d24 n gs a = some (tal n gs a) := by
  unfold tal
  cases ha : validB n a
  · unfold d24
    rw [d26_eq n (by omega), ha]
    rfl
  · cases hp : pileB n gs
    · unfold d24
      rw [d26_eq n (by omega), ha, d71_eq h, hp]
      rfl
    · obtain ⟨h1, h2, h3⟩ := pileB_ok hp
      rw [h3.d24 h1 h2 ha hl]
      rfl
theorem tal_bounds (n : Int) (gs : List Grp) (a : Asn) : 0 ≤ (tal n gs a).1 ∧ (tal n gs a).1 ≤ 600000 ∧ 0 ≤ (tal n gs a).2 ∧ (tal n gs a).2 ≤ 600000 := by
  unfold tal
  cases ha : validB n a
  · simp
  · cases hp : pileB n gs
    · simp
    · obtain ⟨_, _, h3⟩ := pileB_ok hp
      simp only [Bool.and_self, if_true]
      exact fav_bounds h3 ha
theorem d27_eq {n : Int} {gs : List Grp} (h : GsOK gs) {a : Asn} (hl : a.2.2.2.1.length ≤ 1000) : d27 n gs a = some ((tal n gs a).1 - (tal n gs a).2) := by
  have hb := tal_bounds n gs a
  unfold d27
  rw [d23_eq h hl]
  simp only [Option.bind_some]
  rw [w_id (by omega) (by omega)]
theorem d28_eq {n : Int} {gs : List Grp} (h : GsOK gs) {a : Asn} (hl : a.2.2.2.1.length ≤ 1000) : d28 n gs a = some (decide ((tal n gs a).2 < (tal n gs a).1)) := by
  unfold d28
  rw [d27_eq h hl]
  simp only [Option.bind_some, Option.some.injEq, decide_eq_decide]
  omega
/- THE EXAMPLE -/
theorem d81_eq (n : Int) {l : List Int} (hl : l.length ≤ 281474976710656) : d81 n l = some (decide (isB n l) && decide (0 < l.length)) := by
  unfold d81
  refine while_first (fun i => (n, l, l, (l.length : Int), (i : Int))) (fun i => decide (l.getD i 0 < 0) || (decide (n ≤ l.getD i 0) || decide (l.getD i 0 ∈ l.take i))) l.length (fun _ => .inr false) (.inl l) rfl (fun i hi => ?_) ?_ (fun i hi hp hj => ?_) (fun hall => ?_)
  · have h2 : (i : Int) < (l.length : Int) := by omega
    have h3 : (0 : Int) ≤ (i : Int) := by omega
    have hw : w ((i : Int) + 1) = ((i + 1 : Nat) : Int) := by rw [w_id (by omega) (by omega)]; omega
    simp only [h2, h3, letJ, decide_true, cond_true, Bool.and_self, Int.toNat_natCast, hw, cutOK_take (Nat.le_of_lt hi), List.drop_zero, d78_eq (s := l.take i) _ (by simp; omega), Option.bind_some]
    by_cases c1 : l.getD i 0 < 0
    · simp only [c1]; rfl
    · by_cases c2 : n ≤ l.getD i 0
      · simp only [c1, c2]; rfl
      · by_cases c3 : l.getD i 0 ∈ l.take i
        · simp only [c1, c2, c3]; rfl
        · simp only [c1, c2, c3]; rfl
  · simp
  · have : ¬ isB n l := fun h => by
      have := (isB_iff n l).1 h i hi
      simp only [Bool.or_eq_true, decide_eq_true_eq] at hp
      rcases hp with hp | hp | hp
      · omega
      · omega
      · exact this.2.2 hp
    simp [this]
  · have : isB n l := (isB_iff n l).2 fun i hi => by
      have := hall i hi
      simp only [Bool.or_eq_false_iff, decide_eq_false_iff_not] at this
      exact ⟨by omega, by omega, this.2.2⟩
    simp [this]
theorem cutOK_drop {i n : Nat} (h : i ≤ n) : cutOK (i : Int) (n : Int) n = true := by
  unfold cutOK
  simp only [Bool.and_eq_true, decide_eq_true_eq]
  omega
theorem d30_beats {n A B q : Int} {m t : List Int} (hv : validB n (1, A, B, m, q) = true) (hm : m.length ≤ 1000) (ht : isB n t) (hn : n ≤ 7) (h0 : 0 < t.length) :
    d30 n (1, A, B, m, q) t = some (decide (firstAt (fun z => decide (B = z)) t < t.length) && !decide (A ∈ t.drop (firstAt (fun z => decide (B = z)) t))) := by
  have htl := isB_len ht hn
  unfold d30
  rw [d25_eq n (by show m.length ≤ _; omega), hv, d81_eq n (by omega), decide_eq_true ht, decide_eq_true h0]
  simp only [d82_eq (s := t) B (by omega), Option.bind_some, Bool.not_true, Bool.not_false, Bool.and_self, cond_true, cond_false, letJ, decide_true]
  by_cases c : firstAt (fun z => decide (B = z)) t < t.length
  · have c1 : (0 : Int) ≤ (firstAt (fun z => decide (B = z)) t : Int) := by omega
    simp only [c, c1, if_true, decide_true, cond_true, cutOK_drop (Nat.le_of_lt c), Int.toNat_natCast, List.take_length, Bool.true_and]
    rw [d78_eq A (by simp; omega)]
    rfl
  · have c1 : ¬ (0 : Int) ≤ -1 := by omega
    simp only [c, c1, if_false, decide_false, cond_false, Bool.false_and]
theorem d17_eq : d17 = some true := by
  have hb : ∀ b ∈ [[(0 : Int), 1], [0, 1], [0, 1], [1, 0], [1, 0]], isB 2 b := by decide
  have hp := (pileOf_ok (n := 2) [[(0 : Int), 1], [0, 1], [0, 1], [1, 0], [1, 0]] hb (by decide)).1
  have e : pileOf [[(0 : Int), 1], [0, 1], [0, 1], [1, 0], [1, 0]] = [([0, 1], 3), ([1, 0], 2)] := by decide
  rw [e] at hp
  have hv : validB 2 (1, 0, 1, [], 0) = true := by decide
  unfold d17
  rw [d64_eq (by omega) (by omega) hb (by decide), e]
  simp only [Option.bind_some]
  rw [hp.d23 (by omega) (by omega) hv (by simp), d28_eq (hp.gs (by omega)) (by simp), d27_eq (hp.gs (by omega)) (by simp), d30_beats hv (by simp) (by decide) (by omega) (by decide), d30_beats hv (by simp) (by decide) (by omega) (by decide)]
  have ht : tal 2 [([0, 1], 3), ([1, 0], 2)] (1, 0, 1, [], 0) = fav (1, 0, 1, [], 0) [([0, 1], 3), ([1, 0], 2)] := by
    unfold tal
    rw [hv, hp.pileB (by omega) (by omega)]
    rfl
  have hf : fav (1, 0, 1, [], 0) [([0, 1], 3), ([1, 0], 2)] = (3, 2) := by decide
  rw [ht, hf]
  decide
/- THE LAW -/
theorem d16_eq {gs : List Grp} (h : GsOK gs) : ∃ b : Bool, d16 gs = some b := by
  have hl := h.1
  unfold d16
  by_cases hb : ∀ i, i < gs.length → decide (12 < ((gs.getD i ([], 0)).1.length : Int)) = false
  · refine ⟨decide ((gs.length : Int) ≤ 60), ?_⟩
    refine while_bind (b := .inl gs) (fun i => (gs, (i : Int))) gs.length rfl (fun i hi => ?_) ?_ rfl
    · have h2 : (i : Int) < (gs.length : Int) := by omega
      have h3 : (0 : Int) ≤ (i : Int) := by omega
      have hw : w ((i : Int) + 1) = ((i + 1 : Nat) : Int) := by rw [w_id (by omega) (by omega)]; omega
      have := hb i hi
      simp only [h2, h3, hw, decide_true, cond_true, Bool.and_self, Int.toNat_natCast, this, cond_false]
    · have g1 : ¬ ((gs.length : Int) < (gs.length : Int)) := by omega
      simp only [g1, decide_false, cond_false]
  · refine ⟨false, ?_⟩
    refine while_first (fun i => (gs, (i : Int))) (fun i => decide (12 < ((gs.getD i ([], 0)).1.length : Int))) gs.length (fun _ => .inr false) (.inl gs) rfl (fun i hi => ?_) ?_ (fun i hi hp hj => rfl) (fun hall => absurd hall hb)
    · have h2 : (i : Int) < (gs.length : Int) := by omega
      have h3 : (0 : Int) ≤ (i : Int) := by omega
      have hw : w ((i : Int) + 1) = ((i + 1 : Nat) : Int) := by rw [w_id (by omega) (by omega)]; omega
      simp only [h2, h3, hw, decide_true, cond_true, Bool.and_self, Int.toNat_natCast]
      cases decide (12 < ((gs.getD i ([], 0)).1.length : Int)) <;> rfl
    · have g1 : ¬ ((gs.length : Int) < (gs.length : Int)) := by omega
      simp only [g1, decide_false, cond_false]
def cuts (l : List (List Int)) (k : Nat) : List (List Int) := (l.take k).map fun x => x.take 8
theorem d20_eq {l : List (List Int)} (hl : l.length ≤ 281474976710656) (hw : ∀ x ∈ l, WT y23 x) {k : Nat} (hk : k ≤ 100) : d20 l (k : Int) = some (cuts l k) := by
  unfold d20
  refine while_bind (b := cuts l k) (fun i => (l, (k : Int), (l.take i).map fun x => x.take 8, (i : Int))) (min l.length k) rfl (fun i hi => ?_) ?_ rfl
  · have h1 : (i : Int) < (l.length : Int) := by omega
    have h2 : (i : Int) < (k : Int) := by omega
    have h3 : (0 : Int) ≤ (i : Int) := by omega
    have hwi : w ((i : Int) + 1) = ((i + 1 : Nat) : Int) := by rw [w_id (by omega) (by omega)]; omega
    have hx := hw (l.getD i []) (by rw [getD_get l [] (by omega)]; exact List.getElem_mem _)
    have ht := take_get l [] (by omega : i < l.length)
    simp only [h1, h2, h3, hwi, letJ, decide_true, cond_true, Bool.and_self, Int.toNat_natCast]
    obtain ⟨x, hxd⟩ : ∃ x, l.getD i [] = x := ⟨_, rfl⟩
    simp only [hxd] at hx ht ⊢
    have hc : cutOK 0 (bif decide (8 < (x.length : Int)) then 8 else (x.length : Int)) x.length = true ∧ List.drop 0 (List.take (Int.toNat (bif decide (8 < (x.length : Int)) then 8 else (x.length : Int))) x) = x.take 8 := by
      by_cases c : 8 < x.length
      · have c' : (8 : Int) < (x.length : Int) := by omega
        simp only [c', decide_true, cond_true, List.drop_zero]
        exact ⟨cutOK_take (i := 8) (by omega), rfl⟩
      · have c' : ¬ (8 : Int) < (x.length : Int) := by omega
        simp only [c', decide_false, cond_false, List.drop_zero, Int.toNat_natCast]
        exact ⟨cutOK_take (Nat.le_refl _), by rw [List.take_of_length_le (Nat.le_refl _), List.take_of_length_le (by omega)]⟩
    have hlim := fun z : List Int => lim_small ((l.take i).map fun x => x.take 8) z (by simp; omega)
    simp only [hc.1, hc.2, cond_true, hlim, decide_true, ht, List.map_append, List.map_cons, List.map_nil]
  · have hb : (l.take (min l.length k)).map (fun x => x.take 8) = cuts l k := by
      unfold cuts
      congr 1
      by_cases c : l.length ≤ k
      · rw [Nat.min_eq_left c, List.take_of_length_le (Nat.le_refl _), List.take_of_length_le c]
      · rw [Nat.min_eq_right (by omega)]
    simp only [letJ, hb]
    by_cases c : l.length ≤ k
    · have h1 : ¬ ((min l.length k : Nat) : Int) < (l.length : Int) := by omega
      simp only [h1, decide_false, cond_false]
    · have h1 : ((min l.length k : Nat) : Int) < (l.length : Int) := by omega
      have h2 : ¬ ((min l.length k : Nat) : Int) < (k : Int) := by omega
      simp only [h1, h2, decide_true, decide_false, cond_true, cond_false]
theorem cuts_wt {l : List (List Int)} (hw : ∀ x ∈ l, WT y23 x) {k : Nat} : (cuts l k).length ≤ k ∧ ∀ x ∈ cuts l k, WT y23 x := by
  refine ⟨by simp [cuts]; omega, fun x hx => ?_⟩
  obtain ⟨y, hy, rfl⟩ := List.mem_map.1 hx
  exact wt_part (hw y (List.mem_of_mem_take hy)) 8
theorem d3_true {n : Int} {gs : List Grp} {a : Asn} {raw : Bool} {x : List (List Int)} {kind who whom among quota u v : Int} (hgs : GsOK gs) (hx : x.length ≤ 281474976710656) (hw : ∀ y ∈ x, WT y23 y)
    (hn : WT y2 n) (h1 : WT y2 kind) (h2 : WT y2 who) (h3 : WT y2 whom) (h4 : WT y2 among) (h5 : WT y2 quota) (h6 : WT y2 u) (h7 : WT y2 v) : d3 n gs a raw x kind who whom among quota u v = some true := by
  have main : ∀ (n : Int) (gs : List Grp) (a : Asn), GsOK gs → a.2.2.2.1.length ≤ 1001 → 
      ((d23 n gs a).bind fun r_7 => (d24 n gs a).bind fun r_8 => (d17).bind fun r_9 => bif r_9 then (d25 n a).bind fun r_10 => (d26 n a).bind fun r_11 =>
        bif (r_10 == r_11) then bif (decide (r_7.1 = r_8.1)) then bif (decide (r_7.2 = r_8.2)) then (d27 n gs a).bind fun r_12 => bif (decide (r_12 = (w (r_8.1 - r_8.2)))) then
          (d28 n gs a).bind fun r_13 => some (r_13 == (decide (r_8.2 < r_8.1))) else some false else some false else some false else some false else some false) = some true := by
    intro n gs a hg hl
    have hb := tal_bounds n gs a
    rcases Nat.lt_or_ge 1000 a.2.2.2.1.length with hll | hll
    · have hasc : asc n a.2.2.2.1 = false ∨ 7 < n := by
        rcases Int.lt_or_le 7 n with h | h
        · exact .inr h
        · refine .inl ?_
          cases hA : asc n a.2.2.2.1 with
          | false => rfl
          | true =>
            obtain ⟨q1, q2⟩ := (asc_iff _ _).1 hA
            have := isB_len (n := n) (l := a.2.2.2.1) ⟨q1.imp fun hh e => by omega, q2⟩ h
            omega
      have hv : validB n a = false := by
        unfold validB
        rcases hasc with h | h
        · by_cases k1 : a.1 = 1
          · have : ¬ a.2.2.2.1.length = 0 := by omega
            simp only [k1, if_true, this, decide_false, Bool.and_false, Bool.false_and]
          · by_cases k2 : a.1 = 2
            · simp only [k2, if_true, if_false, show ¬ (2 : Int) = 1 by omega, h, Bool.and_false, Bool.false_and]
            · by_cases k3 : a.1 = 3
              · have : ¬ a.2.2.2.1.length = 0 := by omega
                simp only [k3, if_true, if_false, show ¬ (3 : Int) = 1 by omega, show ¬ (3 : Int) = 2 by omega, this, decide_false, Bool.and_false, Bool.false_and]
              · simp only [k1, k2, k3, if_false, Bool.and_false]
        · have : decide (7 < n) = true := decide_eq_true h
          simp only [this, Bool.not_true, Bool.and_false, Bool.false_and]
      have e23 : d23 n gs a = some (0, 0) := by unfold d23; rw [d25_eq n (by omega), hv]; rfl
      have e24 : d24 n gs a = some (0, 0) := by unfold d24; rw [d26_eq n (by omega), hv]; rfl
      have e27 : d27 n gs a = some 0 := by unfold d27; rw [e23]; simp only [Option.bind_some]; rw [w_id (by omega) (by omega)]; rfl
      have e28 : d28 n gs a = some false := by unfold d28; rw [e27]; rfl
      have w0 : w ((0 : Int) - 0) = 0 := w_id (n := 0) (by omega) (by omega)
      simp only [e23, e24, e27, e28, d17_eq, d25_eq n (show a.2.2.2.1.length ≤ 281474976710656 by omega), d26_eq n (show a.2.2.2.1.length ≤ 281474976710656 by omega), Option.bind_some, cond_true, beq_self_eq_true, decide_true, w0]
      rfl
    · have w0 : w ((tal n gs a).1 - (tal n gs a).2) = (tal n gs a).1 - (tal n gs a).2 := w_id (by omega) (by omega)
      simp only [d23_eq hg hll, d24_eq hg hll, d27_eq hg hll, d28_eq hg hll, d17_eq, d25_eq n (show a.2.2.2.1.length ≤ 281474976710656 by omega), d26_eq n (show a.2.2.2.1.length ≤ 281474976710656 by omega), Option.bind_some, cond_true, beq_self_eq_true, decide_true, w0]
  obtain ⟨sb, hsb⟩ := d16_eq hgs
  unfold d3
  rw [hsb]
  simp only [d17_eq, Option.bind_some, letJ] at main ⊢
  cases sb
  · simp
  · simp only [Bool.not_true, Bool.not_false, cond_true]
    cases h9 : decide (9 < (a.2.2.2.1.length : Int))
    · have h9' := of_decide_eq_false h9
      simp only [cond_false]
      cases raw
      · simp only [Bool.not_false, cond_true]
        rw [d18_eq hn (by omega) (by omega)]
        simp only [Option.bind_some]
        have b := mod_bounds n (n := 6) (by omega)
        have w1 : w (2 + n % 6) = 2 + n % 6 := w_id (by omega) (by omega)
        rw [w1]
        have hN : 2 ≤ 2 + n % 6 := by omega
        have hN' : 2 + n % 6 ≤ 7 := by omega
        generalize 2 + n % 6 = N at hN hN'
        have e20 : d20 x 40 = some (cuts x 40) := d20_eq hx hw (k := 40) (by omega)
        obtain ⟨cl, cw⟩ := cuts_wt (k := 40) hw
        have e19 : d19 N (cuts x 40) 40 = some (pileOf (bals N (cuts x 40) 40)) := d19_eq (n := N) (by omega) hN' (by omega) cw (most := 40) (by omega)
        have hbl := bals_len (n := N) (l := cuts x 40) (most := 40)
        have hbb := bals_isB (n := N) (by omega) (l := cuts x 40) (most := 40)
        have hp := (pileOf_ok (bals N (cuts x 40) 40) hbb (by omega)).1
        have hml := mk_len (n := N) (k := kind) (a := who) (b := whom) (m := among) (q := quota) hN'
        obtain ⟨b', e, hbl'⟩ := d21_eq (a := mk N kind who whom among quota) (by omega) h6 h7
        simp only [e20, e19, d22_eq hN hN' h1 h2 h3 h4 h5, e, Option.bind_some]
        exact main N _ b' (hp.gs hN') (by omega)
      · simp only [Bool.not_true, cond_false]
        exact main n gs a hgs (by omega)
    · simp
end Go.Proofs.Ythemaffjohmhnaa
