/- Plain laws: the document's own answers on piles and tallies; the example of the chapter on assertions. -/
import Derived.Test.YthlgoakkgmabaaaGreatP11
set_option linter.unusedSimpArgs false
set_option linter.unusedVariables false
open Go Go.Proofs Go.X
namespace Go.Proofs.YthlgoakkgmabaaaGreat
/-- What may be read as groups. -/
def GsOK (gs : List Grp) : Prop := gs.length ≤ 281474976710656 ∧ ∀ g ∈ gs, g.1.length ≤ 281474976710656 ∧ -9223372036854775808 ≤ g.2 ∧ g.2 ≤ 9223372036854775807
theorem GsOK.at {gs : List Grp} (h : GsOK gs) {i : Nat} (hi : i < gs.length) : (gs.getD i ([], 0)).1.length ≤ 281474976710656 ∧ -9223372036854775808 ≤ (gs.getD i ([], 0)).2 ∧ (gs.getD i ([], 0)).2 ≤ 9223372036854775807 := by
  rw [getD_get gs _ hi]
  exact h.2 _ (List.getElem_mem _)
def goodP (n : Int) (gs : List Grp) : Bool := decide (∀ i, i < gs.length → badG n gs i = false)
def pileB (n : Int) (gs : List Grp) : Bool := decide (1 ≤ n ∧ n ≤ 7) && goodP n gs
theorem cmpL_lt (a b : List Int) : decide (0 ≤ cmpL a b) = !decide (a < b) := by
  unfold cmpL
  by_cases h : a < b
  · simp [h]
  · by_cases h' : b < a
    · simp [h, h']
    · simp [h, h']
theorem d54_eq {n : Int} {gs : List Grp} (h : GsOK gs) : d54 n gs = some (pileB n gs) := by
  unfold d54 pileB
  simp only [letJ]
  by_cases h1 : n < 1
  · have : ¬ (1 ≤ n ∧ n ≤ 7) := by omega
    simp [h1, this]
  · by_cases h2 : 7 < n
    · have : ¬ (1 ≤ n ∧ n ≤ 7) := by omega
      simp [h1, h2, this]
    · have hn : 1 ≤ n ∧ n ≤ 7 := by omega
      simp only [h1, h2, hn, and_self, decide_true, decide_false, Bool.not_false, cond_true, cond_false, Bool.true_and]
      refine while_first' (fun i => (n, gs, 100000 - tot gs i, (i : Int))) (badG n gs) gs.length (fun _ => .inr false) (.inl ()) rfl (fun i hi hj => ?_) (fun _ => ?_) (fun i hi hp hj => ?_) (fun hall => ?_)
      · have hl := h.1
        have g2 : (i : Int) < (gs.length : Int) := by omega
        have g3 : (0 : Int) ≤ (i : Int) := by omega
        have hw : w ((i : Int) + 1) = ((i + 1 : Nat) : Int) := by rw [w_id (by omega) (by omega)]; omega
        have ht := tot_bounds (n := n) (gs := gs) (i := i) (by omega) hj
        have hgl := (h.at hi).1
        have hgp := (h.at (show i - 1 < gs.length by omega)).1
        have hts : tot gs (i + 1) = tot gs i + (gs.getD i ([], 0)).2 * 1 := wsum_take _ gs (by omega)
        have hw3 : 1 ≤ (gs.getD i ([], 0)).2 → (gs.getD i ([], 0)).2 ≤ 100000 - tot gs i → w (100000 - tot gs i - (gs.getD i ([], 0)).2) = 100000 - tot gs (i + 1) := fun a b => by rw [w_id (by omega) (by omega)]; omega
        have hb : badG n gs i = (decide ((gs.getD i ([], 0)).2 < 1) || (decide (100000 - tot gs i < (gs.getD i ([], 0)).2) || (!decide (isB n (gs.getD i ([], 0)).1) || (decide (0 < i) && decide (0 ≤ cmpL (gs.getD (i - 1) ([], 0)).1 (gs.getD i ([], 0)).1))))) := rfl
        rw [hb]
        simp only [g2, g3, decide_true, cond_true, Bool.and_self, Int.toNat_natCast, hw]
        obtain ⟨g, hgd⟩ : ∃ g, gs.getD i ([], 0) = g := ⟨_, rfl⟩
        simp only [hgd] at hgl hts hw3 ⊢
        rw [d37_eq n hgl]
        simp only [Option.bind_some, cmpL_lt]
        by_cases c3 : isB n g.1
        · by_cases c1 : g.2 < 1
          · simp only [c1, c3]; rfl
          · by_cases c2 : 100000 - tot gs i < g.2
            · simp only [c1, c2, c3]; rfl
            · rw [hw3 (by omega) (by omega)]
              by_cases c4 : 0 < i
              · have c5 : (0 : Int) < (i : Int) := by omega
                have hwp : w ((i : Int) - 1) = ((i - 1 : Nat) : Int) := by rw [w_id (by omega) (by omega)]; omega
                have h5 : (0 : Int) ≤ ((i - 1 : Nat) : Int) := by omega
                have h6 : ((i - 1 : Nat) : Int) < (gs.length : Int) := by omega
                simp only [c1, c2, c3, c4, c5, hwp, h5, h6, Int.toNat_natCast, d28_eq hgp hgl, Option.bind_some, decide_true, decide_false, Bool.not_true, Bool.not_false, cond_true, cond_false, Bool.and_self, Bool.true_and, Bool.false_or]
                cases decide ((gs.getD (i - 1) ([], 0)).1 < g.1) <;> rfl
              · have c5 : ¬ (0 : Int) < (i : Int) := by omega
                simp only [c1, c2, c3, c4, c5]; rfl
        · have hor : (decide (g.2 < 1) || (decide (100000 - tot gs i < g.2) || (!decide (isB n g.1) || (decide (0 < i) && !decide ((gs.getD (i - 1) ([], 0)).1 < g.1))))) = true := by simp [c3]
          rw [hor]
          simp only [c3]; rfl
      · have g1 : ¬ ((gs.length : Int) < (gs.length : Int)) := by omega
        simp only [g1, decide_false, cond_false]
      · have : goodP n gs = false := decide_eq_false fun hh => by rw [hh i hi] at hp; cases hp
        simp [this]
      · have : goodP n gs = true := decide_eq_true hall
        simp [this]
theorem good_tot {n : Int} {gs : List Grp} (h : ∀ i, i < gs.length → badG n gs i = false) : PileOK n gs (wsum (fun _ => 1) gs) where
  ballots := fun g hg => by
    obtain ⟨i, hi, rfl⟩ := List.getElem_of_mem hg
    have := h i hi
    unfold badG at this
    rw [getD_get gs _ hi] at this
    simp only [Bool.or_eq_false_iff, decide_eq_false_iff_not, Bool.not_eq_false', decide_eq_true_eq] at this
    exact ⟨this.2.2.1, by omega⟩
  sorted := by
    have step : ∀ i, i + 1 < gs.length → (gs.getD i ([], 0)).1 < (gs.getD (i + 1) ([], 0)).1 := fun i hi => by
      have := h (i + 1) hi
      unfold badG at this
      simp only [Bool.or_eq_false_iff] at this
      have := this.2.2.2
      rw [cmpL_lt] at this
      simpa using this
    refine List.pairwise_iff_getElem.2 fun i j hi hj hij => ?_
    have key : ∀ k, i + k + 1 < gs.length → (gs.getD i ([], 0)).1 < (gs.getD (i + k + 1) ([], 0)).1 := by
      intro k
      induction k with
      | zero => intro hk; exact step i hk
      | succ k ih =>
        intro hk
        exact lex_trans (ih (by omega)) (step (i + k + 1) (by omega))
    have := key (j - i - 1) (by omega)
    rw [show i + (j - i - 1) + 1 = j by omega, getD_get gs _ hi, getD_get gs _ hj] at this
    exact this
  total := rfl
  most := by
    have := (tot_bounds (n := n) (gs := gs) (i := gs.length) (Nat.le_refl _) fun j hj => h j hj).2
    unfold tot at this
    rwa [List.take_length] at this
theorem pileB_ok {n : Int} {gs : List Grp} (h : pileB n gs = true) : 1 ≤ n ∧ n ≤ 7 ∧ PileOK n gs (wsum (fun _ => 1) gs) := by
  unfold pileB at h
  simp only [Bool.and_eq_true, decide_eq_true_eq] at h
  exact ⟨h.1.1, h.1.2, good_tot (of_decide_eq_true h.2)⟩
theorem PileOK.gs {n : Int} {gs : List Grp} {N : Int} (h : PileOK n gs N) (hn : n ≤ 7) : GsOK gs := by
  obtain ⟨h1, h2⟩ := h.sizes hn
  exact ⟨by omega, fun g hg => by have := h2 g hg; omega⟩
theorem PileOK.pileB {n : Int} {gs : List Grp} {N : Int} (h : PileOK n gs N) (h1 : 1 ≤ n) (hn : n ≤ 7) : pileB n gs = true := by
  unfold Go.Proofs.YthlgoakkgmabaaaGreat.pileB goodP
  simp only [Bool.and_eq_true, decide_eq_true_eq]
  exact ⟨⟨h1, hn⟩, h.good⟩
theorem PileOK.d81 {n : Int} {gs : List Grp} {N : Int} (h : PileOK n gs N) (hn : n ≤ 7) : d81 gs = some true := by
  unfold Go.Proofs.YthlgoakkgmabaaaGreat.d81
  rw [d54_eq (h.gs hn), (h.wide hn).pileB (by omega) (by omega)]
  rfl
/- FIRST -/
theorem d87_eq (r : List Bool) {c : Int} (hc : 0 ≤ c) : d87 r c = some (rem r c) := by
  unfold d87 rem
  by_cases h : c < (r.length : Int)
  · simp only [h, hc, if_true, decide_true, cond_true, Bool.and_self]
  · simp only [h, hc, if_false, decide_true, decide_false, cond_true, cond_false]
theorem d82_eq {p : List Int} {r : List Bool} (hp : p.length ≤ 1000) (h0 : ∀ x ∈ p, 0 ≤ x) : d82 p r = some (p.filter (rem r)) := by
  unfold d82
  refine while_bind (b := p.filter (rem r)) (fun i => (p, r, (p.take i).filter (rem r), (i : Int))) p.length rfl (fun i hi => ?_) ?_ rfl
  · have g2 : (i : Int) < (p.length : Int) := by omega
    have g3 : (0 : Int) ≤ (i : Int) := by omega
    have hw : w ((i : Int) + 1) = ((i + 1 : Nat) : Int) := by rw [w_id (by omega) (by omega)]; omega
    have hx := h0 (p.getD i 0) (by rw [getD_get p 0 hi]; exact List.getElem_mem _)
    have ht := take_get p 0 hi
    have hfl : ((p.take i).filter (rem r)).length ≤ 1000 := by
      have := List.length_filter_le (rem r) (p.take i)
      simp at this
      omega
    have hlim : ((((p.take i).filter (rem r)).length : Int) + (([p.getD i 0] : List Int).length : Int) ≤ LIM) := by rw [LIM_eq]; simp; omega
    simp only [g2, g3, hw, letJ, decide_true, cond_true, Bool.and_self, Int.toNat_natCast, hlim, ht, d87_eq r hx, Option.bind_some, List.filter_append]
    cases hr : rem r (p.getD i 0)
    · rw [List.filter_cons_of_neg (by rw [hr]; simp)]
      simp
    · rw [List.filter_cons_of_pos hr]
      simp
  · have g1 : ¬ ((p.length : Int) < (p.length : Int)) := by omega
    simp only [g1, decide_false, cond_false, List.take_length]
theorem filter_first (q : Int → Bool) : ∀ p : List Int, (0 < (p.filter q).length ↔ firstAt q p < p.length) ∧ (0 < (p.filter q).length → (p.filter q).getD 0 0 = p.getD (firstAt q p) 0)
  | [] => by simp [firstAt]
  | x :: p => by
    have ih := filter_first q p
    unfold firstAt
    cases hx : q x
    · rw [List.filter_cons_of_neg (by rw [hx]; simp)]
      simp only [Bool.false_eq_true, if_false, List.length_cons]
      refine ⟨by rw [ih.1]; omega, fun h => ?_⟩
      rw [ih.2 h]
      simp
    · rw [List.filter_cons_of_pos hx]
      simp
theorem PileOK.d68 {n : Int} {gs : List Grp} {N : Int} (h : PileOK n gs N) (hn : n ≤ 7) {r : List Bool} (hr : r.length ≤ 7) : d68 gs r = some (votesAt r gs, wsum (none1 r) gs) := by
  obtain ⟨hl, hg⟩ := h.sizes hn
  have hf : ∀ c p, 0 ≤ isTop r c p ∧ isTop r c p ≤ 1 := fun c p => by unfold isTop; split <;> omega
  have hf0 : ∀ p, 0 ≤ none1 r p ∧ none1 r p ≤ 1 := fun p => by unfold none1; split <;> omega
  unfold Go.Proofs.YthlgoakkgmabaaaGreat.d68
  rw [h.d81 hn]
  have hr1 : ¬ (7 : Int) < (r.length : Int) := by omega
  have hr2 : (r.length : Int) ≤ LIM := by rw [LIM_eq]; omega
  have hr3 : (0 : Int) ≤ (r.length : Int) := by omega
  simp only [Option.bind_some, Bool.not_true, Bool.not_false, cond_true, hr1, hr2, hr3, decide_true, decide_false, letJ, cond_false, Bool.and_self, Int.toNat_natCast]
  refine while_bind (b := (votesAt r gs, wsum (none1 r) gs)) (fun i => (gs, r, votesAt r (gs.take i), wsum (none1 r) (gs.take i), (i : Int))) gs.length ?_ (fun i hi => ?_) ?_ rfl
  · have : votesAt r (gs.take 0) = List.replicate r.length 0 := by
      apply List.ext_getElem
      · simp [votesAt]
      · intro i h1 h2
        simp [votesAt, wsum]
    simp only [this]
    rfl
  · have h2 : (i : Int) < (gs.length : Int) := by omega
    have h3 : (0 : Int) ≤ (i : Int) := by omega
    have hw : w ((i : Int) + 1) = ((i + 1 : Nat) : Int) := by rw [w_id (by omega) (by omega)]; omega
    have e : ∀ f, wsum f (gs.take (i + 1)) = wsum f (gs.take i) + (gs.getD i ([], 0)).2 * f (gs.getD i ([], 0)).1 := fun f => wsum_take f gs hi
    have b0 := h.part hf0 i
    have b1 := h.part hf0 (i + 1)
    have b2 := fun c => h.part (hf c) i
    have b3 := fun c => h.part (hf c) (i + 1)
    have hm : gs.getD i ([], 0) ∈ gs := by rw [getD_get gs _ hi]; exact List.getElem_mem _
    have hgl := (hg _ hm).1
    have hgb := (h.ballots _ hm).1
    simp only [h2, h3, hw, decide_true, cond_true, Bool.and_self, Int.toNat_natCast]
    obtain ⟨g, hgd⟩ : ∃ g, gs.getD i ([], 0) = g := ⟨_, rfl⟩
    simp only [hgd] at e hgl hgb ⊢
    obtain ⟨p, k⟩ := g
    simp only at e hgl hgb ⊢
    rw [d82_eq (by omega) fun x hx => (hgb.2 x hx).1]
    obtain ⟨hff, hfg⟩ := filter_first (rem r) p
    simp only [Option.bind_some]
    by_cases c1 : firstAt (rem r) p < p.length
    · have c0 := hff.2 c1
      have hx := firstAt_at (rem r) p c1
      have c4 : (0 : Int) < ((p.filter (rem r)).length : Int) := by omega
      have c5 : (0 : Int) ≤ 0 := by omega
      have hxm : p.getD (firstAt (rem r) p) 0 ∈ p := by rw [getD_get p 0 c1]; exact List.getElem_mem _
      have hx0 := (hgb.2 _ hxm).1
      simp only [c4, hfg c0, decide_true, cond_true]
      have ht : ∀ c, isTop r c p = if p.getD (firstAt (rem r) p) 0 = c then 1 else 0 := fun c => by unfold isTop; simp only [c1, true_and]
      have hn0 : none1 r p = 0 := by unfold none1; rw [if_pos c1]
      generalize p.getD (firstAt (rem r) p) 0 = x at *
      have hxr : x < (r.length : Int) := by
        unfold rem at hx
        split at hx
        · assumption
        · cases hx
      have hv : (votesAt r (gs.take i)).getD (Int.toNat x) 0 = wsum (isTop r x) (gs.take i) := by
        rw [votesAt_get r _ (by omega), show ((Int.toNat x : Nat) : Int) = x by omega]
      have ex := e (isTop r x)
      rw [ht x, if_pos rfl] at ex
      have bx0 := b2 x
      have bx1 := b3 x
      have hw2 : w (wsum (isTop r x) (gs.take i) + k) = wsum (isTop r x) (gs.take (i + 1)) := by rw [w_id (by omega) (by omega)]; omega
      have hset : (votesAt r (gs.take i)).set (Int.toNat x) (wsum (isTop r x) (gs.take (i + 1))) = votesAt r (gs.take (i + 1)) := by
        apply List.ext_getElem
        · simp [votesAt]
        · intro j h1 h2
          rw [List.getElem_set]
          by_cases hj : Int.toNat x = j
          · rw [if_pos hj]
            simp only [votesAt, List.getElem_map, List.getElem_range]
            rw [show (j : Int) = x by omega]
          · rw [if_neg hj]
            simp only [votesAt, List.getElem_map, List.getElem_range]
            have ej := e (isTop r (j : Int))
            rw [ht (j : Int), if_neg (by omega)] at ej
            omega
      have e0 := e (none1 r)
      rw [hn0] at e0
      have e0' : wsum (none1 r) (gs.take (i + 1)) = wsum (none1 r) (gs.take i) := by omega
      simp only [votesAt_len, hx0, hxr, decide_true, cond_true, Bool.and_self, hv, hw2, hset, e0']
      rfl
    · have c0 : ¬ 0 < (p.filter (rem r)).length := fun hh => c1 (hff.1 hh)
      have c4 : ¬ (0 : Int) < ((p.filter (rem r)).length : Int) := by omega
      have hn1 : none1 r p = 1 := by unfold none1; rw [if_neg c1]
      have e0 := e (none1 r)
      rw [hn1] at e0
      have hw2 : w (wsum (none1 r) (gs.take i) + k) = wsum (none1 r) (gs.take (i + 1)) := by rw [w_id (by omega) (by omega)]; omega
      have hv : votesAt r (gs.take (i + 1)) = votesAt r (gs.take i) := by
        unfold votesAt
        refine List.map_congr_left fun c _ => ?_
        have ec := e (isTop r (c : Int))
        have : isTop r (c : Int) p = 0 := by unfold isTop; simp only [c1, false_and, if_false]
        rw [this] at ec
        omega
      simp only [c4, decide_false, cond_false, hw2, hv]
  · have h1 : ¬ ((gs.length : Int) < (gs.length : Int)) := by omega
    simp only [h1, decide_false, cond_false, List.take_length]
theorem d71_eq {n : Int} (h1 : 0 ≤ n) (hn : n ≤ 7) {m : List Int} (hm : ∀ x ∈ m, 0 ≤ x ∧ x < n) (hml : m.length ≤ 1000) : d71 n m = some (remOf n.toNat m m.length) := by
  have hnn : ((n.toNat : Nat) : Int) = n := by omega
  unfold d71
  have l1 : n ≤ LIM := by rw [LIM_eq]; omega
  simp only [l1, h1, decide_true, Bool.and_self, cond_true]
  refine while_bind (b := remOf n.toNat m m.length) (fun i => (m, remOf n.toNat m i, (i : Int))) m.length rfl (fun i hi => ?_) ?_ rfl
  · have h2 : (i : Int) < (m.length : Int) := by omega
    have h3 : (0 : Int) ≤ (i : Int) := by omega
    have hw : w ((i : Int) + 1) = ((i + 1 : Nat) : Int) := by rw [w_id (by omega) (by omega)]; omega
    have hx := hm (m.getD i 0) (by rw [getD_get m 0 hi]; exact List.getElem_mem _)
    simp only [h2, h3, hw, decide_true, cond_true, Bool.and_self, Int.toNat_natCast, remOf_len, hnn, hx.1, hx.2]
    rfl
  · have h1 : ¬ ((m.length : Int) < (m.length : Int)) := by omega
    simp only [h1, decide_false, cond_false]
def allOf (n : Nat) : Nat → List Bool
  | 0 => List.replicate n false
  | i + 1 => (allOf n i).set i true
theorem allOf_len (n : Nat) : ∀ i, (allOf n i).length = n
  | 0 => by simp [allOf]
  | i + 1 => by unfold allOf; rw [List.length_set]; exact allOf_len n i
theorem allOf_get (n : Nat) {c : Nat} (hc : c < n) : ∀ i, i ≤ n → (allOf n i).getD c false = decide (c < i)
  | 0, _ => by
    unfold allOf
    rw [getD_get _ _ (by simp; omega)]
    simp
  | i + 1, hi => by
    have ih := allOf_get n hc i (by omega)
    have hl := allOf_len n i
    rw [show allOf n (i + 1) = (allOf n i).set i true from rfl, List.getD_eq_getElem?_getD, List.getElem?_set, hl]
    by_cases e : i = c
    · rw [if_pos e, if_pos (by omega)]
      have : c < i + 1 := by omega
      simp [this]
    · rw [if_neg e, ← List.getD_eq_getElem?_getD, ih]
      rw [decide_eq_decide]
      omega
theorem d69_eq {n : Int} (h1 : 0 ≤ n) (hn : n ≤ 7) : d69 n = some (allOf n.toNat n.toNat) := by
  have hnn : ((n.toNat : Nat) : Int) = n := by omega
  unfold d69
  have l1 : n ≤ LIM := by rw [LIM_eq]; omega
  simp only [l1, h1, decide_true, Bool.and_self, cond_true]
  refine while_bind (b := allOf n.toNat n.toNat) (fun i => (n, allOf n.toNat i, (i : Int))) n.toNat rfl (fun i hi => ?_) ?_ rfl
  · have h2 : (i : Int) < n := by omega
    have h3 : (0 : Int) ≤ (i : Int) := by omega
    have h4 : (i : Int) < (n.toNat : Int) := by omega
    have hw : w ((i : Int) + 1) = ((i + 1 : Nat) : Int) := by rw [w_id (by omega) (by omega)]; omega
    simp only [h2, h3, h4, hw, decide_true, cond_true, Bool.and_self, Int.toNat_natCast, allOf_len]
    rfl
  · have h1 : ¬ (((n.toNat : Nat) : Int) < n) := by omega
    simp only [h1, decide_false, cond_false]
theorem rem_all {n : Int} (hn : 0 ≤ n) {c : Int} (hc : 0 ≤ c ∧ c < n) : rem (allOf n.toNat n.toNat) c = true := by
  unfold rem
  rw [allOf_len, if_pos (by omega), allOf_get n.toNat (by omega) n.toNat (Nat.le_refl _)]
  simp
  omega
theorem top_all {n : Int} (hn : 0 ≤ n) {p : List Int} (hp : isB n p) (c : Int) : isTop (allOf n.toNat n.toNat) c p = isFirst c p := by
  unfold isTop isFirst
  match p, hp with
  | [], _ => simp [firstAt]
  | y :: p, hp =>
    have hy := rem_all hn (hp.2 y (by simp))
    unfold firstAt
    simp [hy]
theorem PileOK.d70 {n : Int} {gs : List Grp} {N : Int} (h : PileOK n gs N) (hn : n ≤ 7) (a b : Int) : d70 gs a b = some (wsum (isBefore a b) gs) := by
  obtain ⟨hl, hg⟩ := h.sizes hn
  have hf : ∀ p, 0 ≤ isBefore a b p ∧ isBefore a b p ≤ 1 := fun p => by unfold isBefore; simp only; split <;> omega
  unfold Go.Proofs.YthlgoakkgmabaaaGreat.d70
  refine while_bind (b := wsum (isBefore a b) gs) (fun i => (gs, a, b, wsum (isBefore a b) (gs.take i), (i : Int))) gs.length rfl (fun i hi => ?_) ?_ rfl
  · have h2 : (i : Int) < (gs.length : Int) := by omega
    have h3 : (0 : Int) ≤ (i : Int) := by omega
    have hw : w ((i : Int) + 1) = ((i + 1 : Nat) : Int) := by rw [w_id (by omega) (by omega)]; omega
    have e := wsum_take (isBefore a b) gs hi
    have b0 := h.part hf i
    have b1 := h.part hf (i + 1)
    have hm : gs.getD i ([], 0) ∈ gs := by rw [getD_get gs _ hi]; exact List.getElem_mem _
    have hgl := (hg _ hm).1
    simp only [h.d81 hn, h2, h3, hw, letJ, decide_true, cond_true, Bool.and_self, Int.toNat_natCast, Option.bind_some]
    obtain ⟨g, hgd⟩ : ∃ g, gs.getD i ([], 0) = g := ⟨_, rfl⟩
    simp only [hgd] at e hgl ⊢
    obtain ⟨p, k⟩ := g
    simp only at e hgl ⊢
    rw [d78_eq a (by omega), d78_eq b (by omega)]
    simp only [Option.bind_some]
    have hbf : isBefore a b p = if firstAt (fun z => decide (a = z)) p < p.length ∧ (p.length ≤ firstAt (fun z => decide (b = z)) p ∨ firstAt (fun z => decide (a = z)) p < firstAt (fun z => decide (b = z)) p) then 1 else 0 := rfl
    have l1 := firstAt_le (fun z => decide (a = z)) p
    have l2 := firstAt_le (fun z => decide (b = z)) p
    generalize firstAt (fun z => decide (a = z)) p = x at *
    generalize firstAt (fun z => decide (b = z)) p = y at *
    by_cases c1 : x < y
    · have c1' : (x : Int) < (y : Int) := by omega
      rw [if_pos (by omega)] at hbf
      rw [hbf] at e
      have hw2 : w (wsum (isBefore a b) (gs.take i) + k) = wsum (isBefore a b) (gs.take (i + 1)) := by rw [w_id (by omega) (by omega)]; omega
      simp only [c1', decide_true, cond_true, hw2]
    · have c1' : ¬ (x : Int) < (y : Int) := by omega
      rw [if_neg (by omega)] at hbf
      rw [hbf] at e
      have e' : wsum (isBefore a b) (gs.take (i + 1)) = wsum (isBefore a b) (gs.take i) := by omega
      simp only [c1', decide_false, cond_false, e']
  · have h1 : ¬ ((gs.length : Int) < (gs.length : Int)) := by omega
    simp only [h1, letJ, decide_false, cond_false, List.take_length]
theorem PileOK.d83 {n : Int} {gs : List Grp} {N : Int} (h : PileOK n gs N) (hn : n ≤ 7) : d83 gs = some (wsum (fun _ => 1) gs) := by
  obtain ⟨hl, hg⟩ := h.sizes hn
  have hf : ∀ p : List Int, 0 ≤ (1 : Int) ∧ (1 : Int) ≤ 1 := fun p => by omega
  unfold Go.Proofs.YthlgoakkgmabaaaGreat.d83
  refine while_bind (b := wsum (fun _ => 1) gs) (fun i => (gs, wsum (fun _ => 1) (gs.take i), (i : Int))) gs.length rfl (fun i hi => ?_) ?_ rfl
  · have h2 : (i : Int) < (gs.length : Int) := by omega
    have h3 : (0 : Int) ≤ (i : Int) := by omega
    have hw : w ((i : Int) + 1) = ((i + 1 : Nat) : Int) := by rw [w_id (by omega) (by omega)]; omega
    have e := wsum_take (fun _ => 1) gs hi
    have b0 := h.part hf i
    have b1 := h.part hf (i + 1)
    have hw2 : w (wsum (fun _ => 1) (gs.take i) + (gs.getD i ([], 0)).2) = wsum (fun _ => 1) (gs.take (i + 1)) := by rw [w_id (by omega) (by omega)]; omega
    simp only [h.d81 hn, h2, h3, hw, letJ, decide_true, cond_true, Bool.and_self, Int.toNat_natCast, Option.bind_some, hw2]
  · have h1 : ¬ ((gs.length : Int) < (gs.length : Int)) := by omega
    simp only [h1, letJ, decide_false, cond_false, List.take_length]
theorem marked_rest : ∀ {gs : List Grp}, sortedG gs → (∀ g ∈ gs, g.1 ≠ []) → wsum isMarked gs = wsum (fun _ => 1) gs
  | [], _, _ => rfl
  | g :: gs, hs, h => by
    have ih := marked_rest (gs := gs) (List.pairwise_cons.1 hs).2 fun x hx => h x (List.mem_cons_of_mem _ hx)
    have : isMarked g.1 = 1 := by unfold isMarked; rw [if_neg (h g (by simp))]
    simp only [wsum, ih, this]
theorem nil_first {a b : List Int} (h : a < b) : b ≠ [] := by
  rintro rfl
  cases a <;> simp at h
theorem PileOK.d72 {n : Int} {gs : List Grp} {N : Int} (h : PileOK n gs N) (hn : n ≤ 7) : d72 gs = some (wsum isMarked gs) := by
  unfold Go.Proofs.YthlgoakkgmabaaaGreat.d72
  rw [h.d83 hn]
  have hN := h.most
  have ht := h.total
  have hp := wsum_pos (n := n) h.ballots (f := isMarked) fun p => by unfold isMarked; split <;> omega
  have hl := pile_len h.ballots
  match gs, h with
  | [], h => simp [wsum, letJ]
  | g :: gs, h =>
    have hg := h.ballots g (by simp)
    have h0 := (wsum_pos (n := n) (gs := gs) (fun x hx => h.ballots x (List.mem_cons_of_mem _ hx)) (f := fun _ => 1) (fun _ => by omega)).1
    have hsort := List.pairwise_cons.1 h.sorted
    have hm := marked_rest hsort.2 fun x hx => nil_first (hsort.1 x hx)
    have c1 : 0 < wsum (fun _ => 1) (g :: gs) := by simp only [wsum]; omega
    have c2 : (0 : Int) < (((g :: gs).length : Nat) : Int) := by simp
    simp only [Option.bind_some, letJ, c1, c2, decide_true, cond_true, List.getD_cons_zero]
    obtain ⟨p, k⟩ := g
    match p with
    | [] =>
      have e : wsum isMarked ((([] : List Int), k) :: gs) = wsum (fun _ => 1) ((([] : List Int), k) :: gs) - k := by
        have : isMarked [] = 0 := rfl
        simp only [wsum, hm, this]
        omega
      rw [e]
      rw [w_id (by simp only at hg; omega) (by simp only at hg; omega)]
      rfl
    | y :: p =>
      have e : wsum isMarked ((y :: p, k) :: gs) = wsum (fun _ => 1) ((y :: p, k) :: gs) := by
        have : isMarked (y :: p) = 1 := rfl
        simp only [wsum, hm, this]
      have c3 : ¬ ((((y :: p).length : Nat) : Int) = 0) := by simp; omega
      rw [e]
      simp only [c3, decide_false]
      rfl
end Go.Proofs.YthlgoakkgmabaaaGreat
