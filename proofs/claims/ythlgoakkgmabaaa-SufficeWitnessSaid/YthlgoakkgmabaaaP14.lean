/- Plain laws: the document's own answers on piles and tallies; the example of the chapter on assertions. -/
import Derived.Test.YthlgoakkgmabaaaP11
set_option linter.unusedSimpArgs false
set_option linter.unusedVariables false
open Go Go.Proofs Go.X
namespace Go.Proofs.Ythlgoakkgmabaaa
/-- What may be read as groups. -/
def GsOK (gs : List Grp) : Prop := gs.length ≤ 281474976710656 ∧ ∀ g ∈ gs, g.1.length ≤ 281474976710656 ∧ -9223372036854775808 ≤ g.2 ∧ g.2 ≤ 9223372036854775807
theorem GsOK.at {gs : List Grp} (h : GsOK gs) {i : Nat} (hi : i < gs.length) : (gs.getD i ([], 0)).1.length ≤ 281474976710656 ∧ -9223372036854775808 ≤ (gs.getD i ([], 0)).2 ∧ (gs.getD i ([], 0)).2 ≤ 9223372036854775807 := by
  rw [getD_get gs _ hi]
  exact h.2 _ (List.getElem_mem _)
def goodP (n : Int) (gs : List Grp) : Bool := decide (∀ i, i < gs.length → badG n gs i = false)
def pileB (n : Int) (gs : List Grp) : Bool := decide (1 ≤ n ∧ n ≤ 7) && goodP n gs
theorem cmpL_lt (a b : List Int) : decide (0 ≤ cmpL a b) = !decide (a < b) := by
  unfold cmpL
  by_cases h : a < b
  · simp [h]
  · by_cases h' : b < a
    · simp [h, h']
    · simp [h, h']
theorem d26_eq {n : Int} {gs : List Grp} (h : GsOK gs) : d26 n gs = some (pileB n gs) := by
  unfold d26 pileB
  by_cases h1 : 1 ≤ n
  · by_cases h2 : n ≤ 7
    · rw [d45_eq h2 h.1 h.2]
      simp [h1, h2, goodP]
    · simp [h1, h2]
  · simp [h1]
theorem good_tot {n : Int} {gs : List Grp} (h : ∀ i, i < gs.length → badG n gs i = false) : PileOK n gs (wsum (fun _ => 1) gs) where
  ballots := fun g hg => by
    obtain ⟨i, hi, rfl⟩ := List.getElem_of_mem hg
    have := h i hi
    unfold badG at this
    rw [getD_get gs _ hi] at this
    simp only [Bool.or_eq_false_iff, decide_eq_false_iff_not, Bool.not_eq_false', decide_eq_true_eq] at this
    exact ⟨this.2.2.1, by omega⟩
  sorted := by
    have step : ∀ i, i + 1 < gs.length → (gs.getD i ([], 0)).1 < (gs.getD (i + 1) ([], 0)).1 := fun i hi => by
      have := h (i + 1) hi
      unfold badG at this
      simp only [Bool.or_eq_false_iff] at this
      have := this.2.2.2
      rw [cmpL_lt] at this
      simpa using this
    refine List.pairwise_iff_getElem.2 fun i j hi hj hij => ?_
    have key : ∀ k, i + k + 1 < gs.length → (gs.getD i ([], 0)).1 < (gs.getD (i + k + 1) ([], 0)).1 := by
      intro k
      induction k with
      | zero => intro hk; exact step i hk
      | succ k ih =>
        intro hk
        exact lex_trans (ih (by omega)) (step (i + k + 1) (by omega))
    have := key (j - i - 1) (by omega)
    rw [show i + (j - i - 1) + 1 = j by omega, getD_get gs _ hi, getD_get gs _ hj] at this
    exact this
  total := rfl
  most := by
    have := (tot_bounds (n := n) (gs := gs) (i := gs.length) (Nat.le_refl _) fun j hj => h j hj).2
    unfold tot at this
    rwa [List.take_length] at this
theorem pileB_ok {n : Int} {gs : List Grp} (h : pileB n gs = true) : 1 ≤ n ∧ n ≤ 7 ∧ PileOK n gs (wsum (fun _ => 1) gs) := by
  unfold pileB at h
  simp only [Bool.and_eq_true, decide_eq_true_eq] at h
  exact ⟨h.1.1, h.1.2, good_tot (of_decide_eq_true h.2)⟩
theorem PileOK.gs {n : Int} {gs : List Grp} {N : Int} (h : PileOK n gs N) (hn : n ≤ 7) : GsOK gs := by
  obtain ⟨h1, h2⟩ := h.sizes hn
  exact ⟨by omega, fun g hg => by have := h2 g hg; omega⟩
theorem PileOK.pileB {n : Int} {gs : List Grp} {N : Int} (h : PileOK n gs N) (h1 : 1 ≤ n) (hn : n ≤ 7) : pileB n gs = true := by
  unfold Go.Proofs.Ythlgoakkgmabaaa.pileB goodP
  simp only [Bool.and_eq_true, decide_eq_true_eq]
  exact ⟨⟨h1, hn⟩, h.good⟩
theorem filter_first (q : Int → Bool) : ∀ p : List Int, (0 < (p.filter q).length ↔ firstAt q p < p.length) ∧ (0 < (p.filter q).length → (p.filter q).getD 0 0 = p.getD (firstAt q p) 0)
  | [] => by simp [firstAt]
  | x :: p => by
    have ih := filter_first q p
    unfold firstAt
    cases hx : q x
    · rw [List.filter_cons_of_neg (by rw [hx]; simp)]
      simp only [Bool.false_eq_true, if_false, List.length_cons]
      refine ⟨by rw [ih.1]; omega, fun h => ?_⟩
      rw [ih.2 h]
      simp
    · rw [List.filter_cons_of_pos hx]
      simp
def allOf (n : Nat) : Nat → List Bool
  | 0 => List.replicate n false
  | i + 1 => (allOf n i).set i true
theorem allOf_len (n : Nat) : ∀ i, (allOf n i).length = n
  | 0 => by simp [allOf]
  | i + 1 => by unfold allOf; rw [List.length_set]; exact allOf_len n i
theorem allOf_get (n : Nat) {c : Nat} (hc : c < n) : ∀ i, i ≤ n → (allOf n i).getD c false = decide (c < i)
  | 0, _ => by
    unfold allOf
    rw [getD_get _ _ (by simp; omega)]
    simp
  | i + 1, hi => by
    have ih := allOf_get n hc i (by omega)
    have hl := allOf_len n i
    rw [show allOf n (i + 1) = (allOf n i).set i true from rfl, List.getD_eq_getElem?_getD, List.getElem?_set, hl]
    by_cases e : i = c
    · rw [if_pos e, if_pos (by omega)]
      have : c < i + 1 := by omega
      simp [this]
    · rw [if_neg e, ← List.getD_eq_getElem?_getD, ih]
      rw [decide_eq_decide]
      omega
theorem rem_all {n : Int} (hn : 0 ≤ n) {c : Int} (hc : 0 ≤ c ∧ c < n) : rem (allOf n.toNat n.toNat) c = true := by
  unfold rem
  rw [allOf_len, if_pos (by omega), allOf_get n.toNat (by omega) n.toNat (Nat.le_refl _)]
  simp
  omega
theorem top_all {n : Int} (hn : 0 ≤ n) {p : List Int} (hp : isB n p) (c : Int) : isTop (allOf n.toNat n.toNat) c p = isFirst c p := by
  unfold isTop isFirst
  match p, hp with
  | [], _ => simp [firstAt]
  | y :: p, hp =>
    have hy := rem_all hn (hp.2 y (by simp))
    unfold firstAt
    simp [hy]
theorem marked_rest : ∀ {gs : List Grp}, sortedG gs → (∀ g ∈ gs, g.1 ≠ []) → wsum isMarked gs = wsum (fun _ => 1) gs
  | [], _, _ => rfl
  | g :: gs, hs, h => by
    have ih := marked_rest (gs := gs) (List.pairwise_cons.1 hs).2 fun x hx => h x (List.mem_cons_of_mem _ hx)
    have : isMarked g.1 = 1 := by unfold isMarked; rw [if_neg (h g (by simp))]
    simp only [wsum, ih, this]
theorem nil_first {a b : List Int} (h : a < b) : b ≠ [] := by
  rintro rfl
  cases a <;> simp at h
end Go.Proofs.Ythlgoakkgmabaaa
