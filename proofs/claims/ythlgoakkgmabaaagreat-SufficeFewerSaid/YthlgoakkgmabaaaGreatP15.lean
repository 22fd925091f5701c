/- Plain laws: tallies of assertions are what the document prescribes (AssertionTells). -/
import Derived.Test.YthlgoakkgmabaaaGreatP14
set_option linter.unusedSimpArgs false
set_option linter.unusedVariables false
open Go Go.Proofs Go.X
namespace Go.Proofs.YthlgoakkgmabaaaGreat
/-- For and against. -/
def fav (a : Asn) (gs : List Grp) : Int × Int :=
  if a.1 = 1 then (wsum (isFirst a.2.1) gs, wsum (isBefore a.2.2.1 a.2.1) gs)
  else if a.1 = 2 then (wsum (isTopM a.2.2.2.1 a.2.1) gs, wsum (isTopM a.2.2.2.1 a.2.2.1) gs)
  else (a.2.2.2.2 * wsum (isFirst a.2.1) gs, wsum isMarked gs)
theorem isFirst01 (c : Int) (p : List Int) : 0 ≤ isFirst c p ∧ isFirst c p ≤ 1 := by unfold isFirst; split <;> omega
theorem quota_bounds {n : Int} {gs : List Grp} {N : Int} (h : PileOK n gs N) {a : Asn} (ha : validB n a = true) (k : a.1 = 3) : 0 ≤ a.2.2.2.2 * wsum (isFirst a.2.1) gs ∧ a.2.2.2.2 * wsum (isFirst a.2.1) gs ≤ 600000 := by
  have hq := valid_quota ha k
  have hfb := wsum_pos (n := n) h.ballots (isFirst01 a.2.1)
  have ht := h.total
  have hN := h.most
  have b1 : 0 ≤ a.2.2.2.2 * wsum (isFirst a.2.1) gs := Int.mul_nonneg (by omega) hfb.1
  have b2 : a.2.2.2.2 * wsum (isFirst a.2.1) gs ≤ 6 * wsum (isFirst a.2.1) gs := Int.mul_le_mul_of_nonneg_right (by omega) hfb.1
  omega
theorem PileOK.d59 {n : Int} {gs : List Grp} {N : Int} (h : PileOK n gs N) (h1 : 1 ≤ n) (hn : n ≤ 7) {a : Asn} (ha : validB n a = true) (hl : a.2.2.2.1.length ≤ 1000) : d59 n gs a = some (fav a gs) := by
  have hw := valid_who ha
  have hal := allOf_len n.toNat n.toNat
  unfold Go.Proofs.YthlgoakkgmabaaaGreat.d59 fav
  rw [d38_eq n (by omega), ha, d54_eq (h.gs hn), h.pileB h1 hn]
  simp only [Option.bind_some, Bool.not_true, Bool.not_false, cond_true, cond_false, letJ]
  rw [d69_eq (by omega) hn]
  simp only [Option.bind_some]
  rw [h.d68 hn (by omega)]
  simp only [Option.bind_some]
  have vl : (votesAt (allOf n.toNat n.toNat) gs).length = n.toNat := by rw [votesAt_len, hal]
  have vg : ∀ c : Int, 0 ≤ c → c < n → (votesAt (allOf n.toNat n.toNat) gs).getD c.toNat 0 = wsum (isFirst c) gs := fun c hc hc' => by
    rw [votesAt_get _ _ (by rw [hal]; omega), show ((c.toNat : Nat) : Int) = c by omega]
    exact wsum_congr fun g hg => top_all (by omega) (h.ballots g hg).1 c
  have c1 : a.2.1 < ((votesAt (allOf n.toNat n.toNat) gs).length : Int) := by omega
  rcases valid_kinds ha with k | k | k
  · simp only [k, decide_true, cond_true, if_true, hw.1, c1, Bool.and_self, h.d70 hn, Option.bind_some, vg _ hw.1 hw.2.1]
  · have hm := valid_among ha k
    have hrl := remOf_len n.toNat a.2.2.2.1 a.2.2.2.1.length
    have vl2 : (votesAt (remOf n.toNat a.2.2.2.1 a.2.2.2.1.length) gs).length = n.toNat := by rw [votesAt_len, hrl]
    have vg2 : ∀ c : Int, 0 ≤ c → c < n → (votesAt (remOf n.toNat a.2.2.2.1 a.2.2.2.1.length) gs).getD c.toNat 0 = wsum (isTopM a.2.2.2.1 c) gs := fun c hc hc' => by
      rw [votesAt_get _ _ (by rw [hrl]; omega), show ((c.toNat : Nat) : Int) = c by omega]
      refine wsum_congr fun x hx => ?_
      have hb := (h.ballots x hx).1
      have : firstAt (rem (remOf n.toNat a.2.2.2.1 a.2.2.2.1.length)) x.1 = firstAt (fun y => decide (y ∈ a.2.2.2.1)) x.1 := firstAt_congr fun y hy => by
        rw [rem_remOf n.toNat a.2.2.2.1 (fun z hz => by have := hm z hz; omega) (by have := hb.2 y hy; omega) a.2.2.2.1.length (Nat.le_refl _), List.take_length]
      unfold isTop isTopM
      rw [this]
    have c2 : a.2.1 < ((votesAt (remOf n.toNat a.2.2.2.1 a.2.2.2.1.length) gs).length : Int) := by omega
    have c3 : a.2.2.1 < ((votesAt (remOf n.toNat a.2.2.2.1 a.2.2.2.1.length) gs).length : Int) := by omega
    simp only [k, show ¬ (2 : Int) = 1 by omega, decide_true, decide_false, cond_true, cond_false, if_true, if_false]
    rw [d71_eq (by omega) hn hm hl]
    simp only [Option.bind_some]
    rw [h.d68 hn (by omega)]
    simp only [Option.bind_some, hw.1, hw.2.2.1, c2, c3, decide_true, Bool.and_self, cond_true, vg2 _ hw.1 hw.2.1, vg2 _ hw.2.2.1 hw.2.2.2.1]
  · have hq := quota_bounds h ha k
    simp only [k, show ¬ (3 : Int) = 1 by omega, show ¬ (3 : Int) = 2 by omega, decide_true, decide_false, cond_true, cond_false, if_false, hw.1, c1, Bool.and_self, h.d72 hn, Option.bind_some, vg _ hw.1 hw.2.1]
    rw [w_id (by omega) (by omega)]
theorem fav_bounds {n : Int} {gs : List Grp} {N : Int} (h : PileOK n gs N) {a : Asn} (ha : validB n a = true) : 0 ≤ (fav a gs).1 ∧ (fav a gs).1 ≤ 600000 ∧ 0 ≤ (fav a gs).2 ∧ (fav a gs).2 ≤ 600000 := by
  have ht := h.total
  have hN := h.most
  have hb := fun f hf => wsum_pos (n := n) h.ballots (f := f) hf
  have p1 := hb (isFirst a.2.1) (isFirst01 _)
  have p2 := hb (isBefore a.2.2.1 a.2.1) fun p => by unfold isBefore; simp only; split <;> omega
  have p3 := fun c => hb (isTopM a.2.2.2.1 c) fun p => by unfold isTopM; split <;> omega
  have p4 := hb isMarked fun p => by unfold isMarked; split <;> omega
  have p5 := p3 a.2.1
  have p6 := p3 a.2.2.1
  unfold fav
  rcases valid_kinds ha with k | k | k
  · simp only [k, if_true]; omega
  · simp only [k, if_true, if_false, show ¬ (2 : Int) = 1 by omega]; omega
  · have hq := quota_bounds h ha k
    simp only [k, if_false, show ¬ (3 : Int) = 1 by omega, show ¬ (3 : Int) = 2 by omega]; omega
def tal (n : Int) (gs : List Grp) (a : Asn) : Int × Int := if validB n a && pileB n gs then fav a gs else (0, 0)
theorem d59_eq {n : Int} {gs : List Grp} (h : GsOK gs) {a : Asn} (hl : a.2.2.2.1.length ≤ 1000) : d59 n gs a = some (tal n gs a) := by
  unfold tal
  cases ha : validB n a
  · unfold d59
    rw [d38_eq n (by omega), ha]
    rfl
  · cases hp : pileB n gs
    · unfold d59
      rw [d38_eq n (by omega), ha, d54_eq h, hp]
      rfl
    · obtain ⟨h1, h2, h3⟩ := pileB_ok hp
      rw [h3.d59 h1 h2 ha hl]
      rfl
theorem tal_bounds (n : Int) (gs : List Grp) (a : Asn) : 0 ≤ (tal n gs a).1 ∧ (tal n gs a).1 ≤ 600000 ∧ 0 ≤ (tal n gs a).2 ∧ (tal n gs a).2 ≤ 600000 := by
  unfold tal
  cases ha : validB n a
  · simp
  · cases hp : pileB n gs
    · simp
    · obtain ⟨_, _, h3⟩ := pileB_ok hp
      simp only [Bool.and_self, if_true]
      exact fav_bounds h3 ha
/- THE EXAMPLE -/
theorem d73_eq (n : Int) {l : List Int} (hl : l.length ≤ 281474976710656) : d73 n l = some (decide (isB n l) && decide (0 < l.length)) := by
  unfold d73
  refine while_first (fun i => (n, l, l, (l.length : Int), (i : Int))) (fun i => decide (l.getD i 0 < 0) || (decide (n ≤ l.getD i 0) || decide (l.getD i 0 ∈ l.take i))) l.length (fun _ => .inr false) (.inl l) rfl (fun i hi => ?_) ?_ (fun i hi hp hj => ?_) (fun hall => ?_)
  · have h2 : (i : Int) < (l.length : Int) := by omega
    have h3 : (0 : Int) ≤ (i : Int) := by omega
    have hw : w ((i : Int) + 1) = ((i + 1 : Nat) : Int) := by rw [w_id (by omega) (by omega)]; omega
    simp only [h2, h3, letJ, decide_true, cond_true, Bool.and_self, Int.toNat_natCast, hw, cutOK_take (Nat.le_of_lt hi), List.drop_zero, d30_eq (s := l.take i) _ (by simp; omega), Option.bind_some]
    by_cases c1 : l.getD i 0 < 0
    · simp only [c1]; rfl
    · by_cases c2 : n ≤ l.getD i 0
      · simp only [c1, c2]; rfl
      · by_cases c3 : l.getD i 0 ∈ l.take i
        · simp only [c1, c2, c3]; rfl
        · simp only [c1, c2, c3]; rfl
  · simp
  · have : ¬ isB n l := fun h => by
      have := (isB_iff n l).1 h i hi
      simp only [Bool.or_eq_true, decide_eq_true_eq] at hp
      rcases hp with hp | hp | hp
      · omega
      · omega
      · exact this.2.2 hp
    simp [this]
  · have : isB n l := (isB_iff n l).2 fun i hi => by
      have := hall i hi
      simp only [Bool.or_eq_false_iff, decide_eq_false_iff_not] at this
      exact ⟨by omega, by omega, this.2.2⟩
    simp [this]
theorem cutOK_drop {i n : Nat} (h : i ≤ n) : cutOK (i : Int) (n : Int) n = true := by
  unfold cutOK
  simp only [Bool.and_eq_true, decide_eq_true_eq]
  omega
theorem d61_beats {n A B q : Int} {m t : List Int} (hv : validB n (1, A, B, m, q) = true) (hm : m.length ≤ 1000) (ht : isB n t) (hn : n ≤ 7) (h0 : 0 < t.length) :
    d61 n (1, A, B, m, q) t = some (decide (firstAt (fun z => decide (B = z)) t < t.length) && !decide (A ∈ t.drop (firstAt (fun z => decide (B = z)) t))) := by
  have htl := isB_len ht hn
  unfold d61
  rw [d31_eq n (by show m.length ≤ _; omega), hv, d73_eq n (by omega), decide_eq_true ht, decide_eq_true h0]
  simp only [d50_eq (s := t) B (by omega), Option.bind_some, Bool.not_true, Bool.not_false, Bool.and_self, cond_true, cond_false, letJ, decide_true]
  by_cases c : firstAt (fun z => decide (B = z)) t < t.length
  · have c1 : (0 : Int) ≤ (firstAt (fun z => decide (B = z)) t : Int) := by omega
    simp only [c, c1, if_true, decide_true, cond_true, cutOK_drop (Nat.le_of_lt c), Int.toNat_natCast, List.take_length, Bool.true_and]
    rw [d30_eq A (by simp; omega)]
    rfl
  · have c1 : ¬ (0 : Int) ≤ -1 := by omega
    simp only [c, c1, if_false, decide_false, cond_false, Bool.false_and]
def cuts (l : List (List Int)) (k : Nat) : List (List Int) := (l.take k).map fun x => x.take 8
theorem d12_eq {l : List (List Int)} (hl : l.length ≤ 281474976710656) (hw : ∀ x ∈ l, WT (.slice (.int .i64)) x) {k : Nat} (hk : k ≤ 100) : d12 l (k : Int) = some (cuts l k) := by
  unfold d12
  refine while_bind (b := cuts l k) (fun i => (l, (k : Int), (l.take i).map fun x => x.take 8, (i : Int))) (min l.length k) rfl (fun i hi => ?_) ?_ rfl
  · have h1 : (i : Int) < (l.length : Int) := by omega
    have h2 : (i : Int) < (k : Int) := by omega
    have h3 : (0 : Int) ≤ (i : Int) := by omega
    have hwi : w ((i : Int) + 1) = ((i + 1 : Nat) : Int) := by rw [w_id (by omega) (by omega)]; omega
    have hx := hw (l.getD i []) (by rw [getD_get l [] (by omega)]; exact List.getElem_mem _)
    have ht := take_get l [] (by omega : i < l.length)
    simp only [h1, h2, h3, hwi, letJ, decide_true, cond_true, Bool.and_self, Int.toNat_natCast]
    obtain ⟨x, hxd⟩ : ∃ x, l.getD i [] = x := ⟨_, rfl⟩
    simp only [hxd] at hx ht ⊢
    have hc : cutOK 0 (bif decide (8 < (x.length : Int)) then 8 else (x.length : Int)) x.length = true ∧ List.drop 0 (List.take (Int.toNat (bif decide (8 < (x.length : Int)) then 8 else (x.length : Int))) x) = x.take 8 := by
      by_cases c : 8 < x.length
      · have c' : (8 : Int) < (x.length : Int) := by omega
        simp only [c', decide_true, cond_true, List.drop_zero]
        exact ⟨cutOK_take (i := 8) (by omega), rfl⟩
      · have c' : ¬ (8 : Int) < (x.length : Int) := by omega
        simp only [c', decide_false, cond_false, List.drop_zero, Int.toNat_natCast]
        exact ⟨cutOK_take (Nat.le_refl _), by rw [List.take_of_length_le (Nat.le_refl _), List.take_of_length_le (by omega)]⟩
    have hlim := fun z : List Int => lim_small ((l.take i).map fun x => x.take 8) z (by simp; omega)
    simp only [hc.1, hc.2, cond_true, hlim, decide_true, ht, List.map_append, List.map_cons, List.map_nil]
  · have hb : (l.take (min l.length k)).map (fun x => x.take 8) = cuts l k := by
      unfold cuts
      congr 1
      by_cases c : l.length ≤ k
      · rw [Nat.min_eq_left c, List.take_of_length_le (Nat.le_refl _), List.take_of_length_le c]
      · rw [Nat.min_eq_right (by omega)]
    simp only [letJ, hb]
    by_cases c : l.length ≤ k
    · have h1 : ¬ ((min l.length k : Nat) : Int) < (l.length : Int) := by omega
      simp only [h1, decide_false, cond_false]
    · have h1 : ((min l.length k : Nat) : Int) < (l.length : Int) := by omega
      have h2 : ¬ ((min l.length k : Nat) : Int) < (k : Int) := by omega
      simp only [h1, h2, decide_true, decide_false, cond_true, cond_false]
theorem cuts_wt {l : List (List Int)} (hw : ∀ x ∈ l, WT (.slice (.int .i64)) x) {k : Nat} : (cuts l k).length ≤ k ∧ ∀ x ∈ cuts l k, WT (.slice (.int .i64)) x := by
  refine ⟨by simp [cuts]; omega, fun x hx => ?_⟩
  obtain ⟨y, hy, rfl⟩ := List.mem_map.1 hx
  exact wt_part (hw y (List.mem_of_mem_take hy)) 8
end Go.Proofs.YthlgoakkgmabaaaGreat
