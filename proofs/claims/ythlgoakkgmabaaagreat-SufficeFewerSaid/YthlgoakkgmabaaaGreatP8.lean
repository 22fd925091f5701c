/- Plain laws on piles of ballots: what a pile must be, first preferences, comparisons of two candidates, votes. -/
import Derived.Test.YthlgoakkgmabaaaGreatP7
set_option linter.unusedSimpArgs false
set_option linter.unusedVariables false
open Go Go.Proofs Go.X
namespace Go.Proofs.YthlgoakkgmabaaaGreat
theorem d79_eq {n : Int} (hn : n ≤ 7) {l : List Int} (hl : l.length ≤ 281474976710656) : d79 n l = some (decide (isB n l)) := by
  unfold d79
  refine while_first (fun i => (n, seenAt l i, l, (l.length : Int), (i : Int))) (fun i => decide (l.getD i 0 < 0) || (decide (n ≤ l.getD i 0) || (seenAt l i).getD (Int.toNat (l.getD i 0)) false)) l.length (fun _ => .inr false) (.inl ()) rfl (fun i hi => ?_) ?_ (fun i hi hp hj => ?_) (fun hall => ?_)
  · have h2 : (i : Int) < (l.length : Int) := by omega
    have h3 : (0 : Int) ≤ (i : Int) := by omega
    have hw : w ((i : Int) + 1) = ((i + 1 : Nat) : Int) := by rw [w_id (by omega) (by omega)]; omega
    simp only [h2, h3, letJ, decide_true, cond_true, Bool.and_self, Int.toNat_natCast, hw]
    by_cases c1 : l.getD i 0 < 0
    · simp only [c1]; rfl
    · by_cases c2 : n ≤ l.getD i 0
      · simp only [c1, c2]; rfl
      · have c3 : 0 ≤ l.getD i 0 := by omega
        have c4 : l.getD i 0 < 7 := by omega
        simp only [c1, c2, c3, c4]
        cases (seenAt l i).getD (Int.toNat (l.getD i 0)) false <;> rfl
  · simp
  · have : ¬ isB n l := fun h => by
      have hb := (isB_iff n l).1 h
      have h1 := hb i hi
      have h2 := seenAt_eq l i (by omega) (fun j hj => by have := hb j (by omega); omega) (Int.toNat (l.getD i 0)) (by omega)
      rw [show ((l.getD i 0).toNat : Int) = l.getD i 0 by omega] at h2
      rw [h2] at hp
      simp only [Bool.or_eq_true, decide_eq_true_eq] at hp
      rcases hp with hp | hp | hp
      · omega
      · omega
      · exact h1.2.2 hp
    simp [this]
  · have hb : ∀ i, i < l.length → 0 ≤ l.getD i 0 ∧ l.getD i 0 < n := fun i hi => by
      have := hall i hi
      simp only [Bool.or_eq_false_iff, decide_eq_false_iff_not] at this
      omega
    have : isB n l := (isB_iff n l).2 fun i hi => by
      have h1 := hb i hi
      have h0 := hall i hi
      simp only [Bool.or_eq_false_iff, decide_eq_false_iff_not] at h0
      have h2 := seenAt_eq l i (by omega) (fun j hj => by have := hb j (by omega); omega) (Int.toNat (l.getD i 0)) (by omega)
      rw [show ((l.getD i 0).toNat : Int) = l.getD i 0 by omega, h0.2.2] at h2
      exact ⟨h1.1, h1.2, fun hm => of_decide_eq_false h2.symm hm⟩
    simp [this]
/-- The groups ahead of the i-th. -/
def tot (gs : List Grp) (i : Nat) : Int := wsum (fun _ => 1) (gs.take i)
def badG (n : Int) (gs : List Grp) (i : Nat) : Bool := decide ((gs.getD i ([], 0)).2 < 1) || (decide (100000 - tot gs i < (gs.getD i ([], 0)).2) || (!decide (isB n (gs.getD i ([], 0)).1) || (decide (0 < i) && decide (0 ≤ cmpL (gs.getD (i - 1) ([], 0)).1 (gs.getD i ([], 0)).1))))
theorem wsum_take (f : List Int → Int) (gs : List Grp) {i : Nat} (h : i < gs.length) : wsum f (gs.take (i + 1)) = wsum f (gs.take i) + (gs.getD i ([], 0)).2 * f (gs.getD i ([], 0)).1 := by
  rw [take_get gs ([], 0) h, wsum_app]
  simp [wsum]
theorem tot_bounds {n : Int} {gs : List Grp} : ∀ {i : Nat}, i ≤ gs.length → (∀ j, j < i → badG n gs j = false) → 0 ≤ tot gs i ∧ tot gs i ≤ 100000
  | 0, _, _ => by simp [tot, wsum]
  | i + 1, h, hb => by
    have ih := tot_bounds (n := n) (gs := gs) (i := i) (by omega) fun j hj => hb j (by omega)
    have h1 := hb i (by omega)
    unfold badG at h1
    simp only [Bool.or_eq_false_iff, decide_eq_false_iff_not] at h1
    have h2 : tot gs (i + 1) = tot gs i + (gs.getD i ([], 0)).2 * 1 := wsum_take _ gs (by omega)
    omega
theorem d64_eq {n : Int} (hn : n ≤ 7) {gs : List Grp} (hl : gs.length ≤ 281474976710656) (hg : ∀ g ∈ gs, g.1.length ≤ 281474976710656 ∧ -9223372036854775808 ≤ g.2 ∧ g.2 ≤ 9223372036854775807) : d64 n gs = some (decide (∀ i, i < gs.length → badG n gs i = false)) := by
  unfold d64
  have hgi : ∀ i, i < gs.length → (gs.getD i ([], 0)).1.length ≤ 281474976710656 := fun i hi => by
    rw [getD_get gs _ hi]
    exact (hg _ (List.getElem_mem _)).1
  refine while_first' (fun i => (n, gs, tot gs i, gs, (gs.length : Int), (i : Int))) (badG n gs) gs.length (fun _ => .inr false) (.inl ()) rfl (fun i hi hj => ?_) (fun _ => ?_) (fun i hi hp hj => ?_) (fun hall => ?_)
  · have h2 : (i : Int) < (gs.length : Int) := by omega
    have h3 : (0 : Int) ≤ (i : Int) := by omega
    have hw : w ((i : Int) + 1) = ((i + 1 : Nat) : Int) := by rw [w_id (by omega) (by omega)]; omega
    have ht := tot_bounds (n := n) (gs := gs) (i := i) (by omega) hj
    have hw2 : w (100000 - tot gs i) = 100000 - tot gs i := w_id (by omega) (by omega)
    have hgl := hgi i hi
    have hgp := hgi (i - 1) (by omega)
    have hts : tot gs (i + 1) = tot gs i + (gs.getD i ([], 0)).2 * 1 := wsum_take _ gs (by omega)
    have hw3 : 1 ≤ (gs.getD i ([], 0)).2 → (gs.getD i ([], 0)).2 ≤ 100000 - tot gs i → w (tot gs i + (gs.getD i ([], 0)).2) = tot gs (i + 1) := fun a b => by rw [w_id (by omega) (by omega)]; omega
    have hb : badG n gs i = (decide ((gs.getD i ([], 0)).2 < 1) || (decide (100000 - tot gs i < (gs.getD i ([], 0)).2) || (!decide (isB n (gs.getD i ([], 0)).1) || (decide (0 < i) && decide (0 ≤ cmpL (gs.getD (i - 1) ([], 0)).1 (gs.getD i ([], 0)).1))))) := rfl
    rw [hb]
    simp only [h2, h3, letJ, decide_true, cond_true, Bool.and_self, Int.toNat_natCast, hw, hw2]
    rw [d79_eq hn hgl]
    obtain ⟨g, hgd⟩ : ∃ g, gs.getD i ([], 0) = g := ⟨_, rfl⟩
    simp only [hgd] at hgl hts hw3 ⊢
    by_cases c1 : g.2 < 1
    · simp only [c1]; rfl
    · by_cases c2 : 100000 - tot gs i < g.2
      · simp only [c1, c2]; rfl
      · rw [hw3 (by omega) (by omega)]
        by_cases c3 : isB n g.1
        · by_cases c4 : 0 < i
          · have c5 : (0 : Int) < (i : Int) := by omega
            have hwp : w ((i : Int) - 1) = ((i - 1 : Nat) : Int) := by rw [w_id (by omega) (by omega)]; omega
            have h5 : (0 : Int) ≤ ((i - 1 : Nat) : Int) := by omega
            have h6 : ((i - 1 : Nat) : Int) < (gs.length : Int) := by omega
            simp only [c1, c2, c3, c4, c5, hwp, h5, h6, Int.toNat_natCast, d26_eq hgp hgl, Option.bind_some, decide_true, decide_false, Bool.not_true, Bool.not_false, cond_true, cond_false, Bool.and_self, Bool.true_and, Bool.false_or]
            cases decide (0 ≤ cmpL (gs.getD (i - 1) ([], 0)).1 g.1) <;> rfl
          · have c5 : ¬ (0 : Int) < (i : Int) := by omega
            simp only [c1, c2, c3, c4, c5]; rfl
        · simp only [c1, c2, c3]; rfl
  · simp
  · have : ¬ ∀ i, i < gs.length → badG n gs i = false := fun h => by rw [h i hi] at hp; cases hp
    simp [this]
  · have : ∀ i, i < gs.length → badG n gs i = false := hall
    simp only [decide_eq_true this]
theorem PileOK.good {n : Int} {gs : List Grp} {N : Int} (h : PileOK n gs N) : ∀ i, i < gs.length → badG n gs i = false := fun i hi => by
  have hm : gs.getD i ([], 0) ∈ gs := by rw [getD_get gs _ hi]; exact List.getElem_mem _
  have h1 := h.ballots _ hm
  have h2 : tot gs (i + 1) = tot gs i + (gs.getD i ([], 0)).2 * 1 := wsum_take _ gs hi
  have h3 : wsum (fun _ => 1) gs = tot gs (i + 1) + wsum (fun _ => 1) (gs.drop (i + 1)) := by
    unfold tot
    rw [← wsum_app, List.take_append_drop]
  have h4 := (wsum_pos (n := n) (gs := gs.drop (i + 1)) (fun x hx => h.ballots x (List.mem_of_mem_drop hx)) (f := fun _ => 1) (fun _ => by omega)).1
  have h5 := h.total
  have h6 := h.most
  unfold badG
  have c1 : ¬ (gs.getD i ([], 0)).2 < 1 := by omega
  have c2 : ¬ 100000 - tot gs i < (gs.getD i ([], 0)).2 := by omega
  simp only [c1, c2, h1.1, decide_true, decide_false, Bool.not_true, Bool.false_or]
  by_cases c3 : 0 < i
  · have h7 : (gs.getD (i - 1) ([], 0)).1 < (gs.getD i ([], 0)).1 := by
      rw [getD_get gs _ hi, getD_get gs _ (by omega : i - 1 < gs.length)]
      exact List.pairwise_iff_getElem.1 h.sorted (i - 1) i (by omega) hi (by omega)
    have c4 : cmpL (gs.getD (i - 1) ([], 0)).1 (gs.getD i ([], 0)).1 = -1 := if_pos h7
    rw [c4]
    simp
  · simp [c3]
theorem PileOK.sizes {n : Int} {gs : List Grp} {N : Int} (h : PileOK n gs N) (hn : n ≤ 7) : gs.length ≤ 100000 ∧ ∀ g ∈ gs, g.1.length ≤ 7 ∧ 1 ≤ g.2 ∧ g.2 ≤ 100000 := by
  have h1 := pile_len h.ballots
  have h2 := h.total
  have h3 := h.most
  refine ⟨by omega, fun g hg => ?_⟩
  have h4 := pile_cnt h.ballots g hg
  have h5 := h.ballots g hg
  exact ⟨isB_len h5.1 hn, by omega, by omega⟩
theorem PileOK.d64 {n : Int} {gs : List Grp} {N : Int} (h : PileOK n gs N) (hn : n ≤ 7) : d64 n gs = some true := by
  obtain ⟨h1, h2⟩ := h.sizes hn
  rw [d64_eq hn (by omega) fun g hg => by have := h2 g hg; omega]
  rw [decide_eq_true h.good]
theorem PileOK.wide {n : Int} {gs : List Grp} {N : Int} (h : PileOK n gs N) (hn : n ≤ 7) : PileOK 7 gs N where
  ballots := fun g hg => by
    have := h.ballots g hg
    exact ⟨⟨this.1.1, fun x hx => by have := this.1.2 x hx; omega⟩, this.2⟩
  sorted := h.sorted
  total := h.total
  most := h.most
/-- The sum over the first groups of a pile. -/
theorem PileOK.part {n : Int} {gs : List Grp} {N : Int} (h : PileOK n gs N) {f : List Int → Int} (hf : ∀ p, 0 ≤ f p ∧ f p ≤ 1) (i : Nat) : 0 ≤ wsum f (gs.take i) ∧ wsum f (gs.take i) ≤ 100000 := by
  have h1 := wsum_pos (n := n) (gs := gs.take i) (fun x hx => h.ballots x (List.mem_of_mem_take hx)) hf
  have h2 := wsum_pos (n := n) (gs := gs.drop i) (fun x hx => h.ballots x (List.mem_of_mem_drop hx)) (f := fun _ => 1) (fun _ => by omega)
  have h3 : wsum (fun _ => 1) gs = wsum (fun _ => 1) (gs.take i) + wsum (fun _ => 1) (gs.drop i) := by rw [← wsum_app, List.take_append_drop]
  have h4 := h.total
  have h5 := h.most
  omega
def isFirst (c : Int) (p : List Int) : Int := if p ≠ [] ∧ p.getD 0 0 = c then 1 else 0
/-- a before b, or b not there. -/
def isBefore (a b : Int) (p : List Int) : Int :=
  let x := firstAt (fun z => decide (a = z)) p
  let y := firstAt (fun z => decide (b = z)) p
  if x < p.length ∧ (p.length ≤ y ∨ x < y) then 1 else 0
def isMarked (p : List Int) : Int := if p = [] then 0 else 1
end Go.Proofs.YthlgoakkgmabaaaGreat
