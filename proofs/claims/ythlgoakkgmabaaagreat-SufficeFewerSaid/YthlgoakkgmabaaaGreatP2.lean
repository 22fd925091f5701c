/- Plain laws on the functions that the statements of the assorter reach: second part. -/
import Derived.Test.YthlgoakkgmabaaaGreatP1
set_option linter.unusedSimpArgs false
set_option linter.unusedVariables false
open Go Go.Proofs Go.X
namespace Go.Proofs.YthlgoakkgmabaaaGreat
/-- The first index below n where p holds, or n. -/
def firstN (p : Nat → Bool) : Nat → Nat
  | 0 => 0
  | n + 1 => if firstN p n < n then firstN p n else if p n then n else n + 1
theorem firstN_le (p : Nat → Bool) : ∀ n, firstN p n ≤ n
  | 0 => Nat.le_refl 0
  | n + 1 => by
    unfold firstN
    have := firstN_le p n
    split
    · omega
    · split <;> omega
theorem firstN_lt (p : Nat → Bool) : ∀ n i, i < firstN p n → p i = false
  | 0, i, h => by simp [firstN] at h
  | n + 1, i, h => by
    unfold firstN at h
    have hle := firstN_le p n
    split at h
    · exact firstN_lt p n i h
    · split at h
      · rename_i h1 h2
        exact firstN_lt p n i (by omega)
      · rename_i h1 h2
        rcases Nat.lt_or_ge i n with h3 | h3
        · exact firstN_lt p n i (by omega)
        · have : i = n := by omega
          subst this
          simpa using h2
theorem firstN_at (p : Nat → Bool) : ∀ n, firstN p n < n → p (firstN p n) = true
  | 0, h => by simp at h
  | n + 1, h => by
    unfold firstN at h ⊢
    have hle := firstN_le p n
    split
    · rename_i h1; exact firstN_at p n h1
    · rename_i h1
      rw [if_neg h1] at h
      split
      · rename_i h2; exact h2
      · rename_i h2; rw [if_neg h2] at h; omega
theorem firstN_end (p : Nat → Bool) (n : Nat) : ¬ firstN p n < n ↔ ∀ i, i < n → p i = false := by
  constructor
  · intro h i hi
    have := firstN_le p n
    exact firstN_lt p n i (by omega)
  · intro h hlt
    have := firstN_at p n hlt
    rw [h _ hlt] at this
    cases this
/- ASCENDING -/
def badAt (n : Int) (l : List Int) (i : Nat) : Bool := decide (l.getD i 0 < 0) || decide (n ≤ l.getD i 0) || (decide (0 < i) && decide (l.getD i 0 ≤ l.getD (i - 1) 0))
theorem d51_eq (n : Int) {l : List Int} (hl : l.length ≤ 281474976710656) : d51 n l = some (decide (¬ firstN (badAt n l) l.length < l.length)) := by
  unfold d51
  have hle := firstN_le (badAt n l) l.length
  have hstep : ∀ i : Nat, i < l.length → w ((i : Int) + 1) = ((i + 1 : Nat) : Int) := fun i hi => by rw [w_id (by omega) (by omega)]; omega
  have hpre : ∀ i : Nat, i < l.length → 0 < i → w ((i : Int) - 1) = ((i - 1 : Nat) : Int) := fun i hi h0 => by rw [w_id (by omega) (by omega)]; omega
  have body : ∀ i : Nat, i < l.length → (fun ((n_1, l_1, t7, t8, t9) : Int × (List Int) × (List Int) × Int × Int) =>
      bif (decide (t9 < t8)) then
        bif (decide (0 ≤ t9) && decide (t9 < (t7.length : Int))) then
          letJ (fun ((n_2, l_2, t7_1, t8_1, t9_1, t33) : Int × (List Int) × (List Int) × Int × Int × Bool) =>
              bif t33 then
                some (Sum.inr (Sum.inr false))
              else
                some (Sum.inl (n_2, l_2, t7_1, t8_1, (w (t9_1 + 1))))) fun j_ =>
          bif !(decide ((List.getD t7 (Int.toNat t9) 0) < 0)) then
            bif !(decide (n_1 ≤ (List.getD t7 (Int.toNat t9) 0))) then
              bif (decide (0 < t9)) then
                bif (decide (0 ≤ (w (t9 - 1))) && decide ((w (t9 - 1)) < (l_1.length : Int))) then
                  j_ (n_1, l_1, t7, t8, t9, (decide ((List.getD t7 (Int.toNat t9) 0) ≤ (List.getD l_1 (Int.toNat (w (t9 - 1))) 0))))
                else none
              else
                j_ (n_1, l_1, t7, t8, t9, false)
            else
              j_ (n_1, l_1, t7, t8, t9, true)
          else
            j_ (n_1, l_1, t7, t8, t9, true)
        else none
      else
        some (Sum.inr (Sum.inl ())) : Int × (List Int) × (List Int) × Int × Int → Option ((Int × (List Int) × (List Int) × Int × Int) ⊕ (Unit ⊕ Bool))) (n, l, l, (l.length : Int), (i : Int)) = if badAt n l i then some (.inr (.inr false)) else some (.inl (n, l, l, (l.length : Int), ((i + 1 : Nat) : Int))) := fun i hi => by
    have h2 : (i : Int) < (l.length : Int) := by omega
    have h3 : (0 : Int) ≤ (i : Int) := by omega
    unfold badAt letJ
    simp only [h2, h3, decide_true, cond_true, Bool.and_self, Int.toNat_natCast, hstep i hi]
    by_cases c1 : l.getD i 0 < 0
    · simp only [c1]; rfl
    · by_cases c2 : n ≤ l.getD i 0
      · simp only [c1, c2]; rfl
      · by_cases c3 : 0 < i
        · have h4 : (0 : Int) < (i : Int) := by omega
          have h5 : (0 : Int) ≤ ((i - 1 : Nat) : Int) := by omega
          have h6 : ((i - 1 : Nat) : Int) < (l.length : Int) := by omega
          simp only [c1, c2, c3, h4, hpre i hi c3, h5, h6, Int.toNat_natCast]
          by_cases c4 : l.getD i 0 ≤ l.getD (i - 1) 0
          · simp only [c4]; rfl
          · simp only [c4]; rfl
        · have h4 : ¬ (0 : Int) < (i : Int) := by omega
          simp only [c1, c2, c3, h4]; rfl
  by_cases h : firstN (badAt n l) l.length < l.length
  · refine while_bind (b := .inr false) (fun i => (n, l, l, (l.length : Int), (i : Int))) (firstN (badAt n l) l.length) rfl (fun i hi => ?_) ?_ (by simp [h])
    · have := body i (by omega)
      rw [firstN_lt _ _ i hi] at this
      exact this
    · have := body _ h
      rw [firstN_at _ _ h] at this
      exact this
  · have hall := (firstN_end (badAt n l) l.length).1 h
    refine while_bind (b := .inl ()) (fun i => (n, l, l, (l.length : Int), (i : Int))) l.length rfl (fun i hi => ?_) ?_ (by simp [h])
    · have := body i hi
      rw [hall i hi] at this
      exact this
    · simp
/-- What an assertion must be. -/
def asc (n : Int) (l : List Int) : Bool := decide (¬ firstN (badAt n l) l.length < l.length)
def validB (n : Int) (a : Int × (Int × (Int × (List Int × Int)))) : Bool :=
  !(decide (n < 1)) && !(decide (7 < n)) && !(decide (a.2.1 < 0)) && !(decide (n ≤ a.2.1)) && !(decide (a.2.2.1 < 0)) && !(decide (n ≤ a.2.2.1)) &&
  (if a.1 = 1 then decide (a.2.1 ≠ a.2.2.1) && decide (a.2.2.2.1.length = 0) && decide (a.2.2.2.2 = 0)
   else if a.1 = 2 then decide (a.2.1 ≠ a.2.2.1) && decide (a.2.2.2.2 = 0) && asc n a.2.2.2.1 && decide (a.2.1 ∈ a.2.2.2.1) && decide (a.2.2.1 ∈ a.2.2.2.1)
   else if a.1 = 3 then decide (a.2.2.1 = 0) && decide (a.2.2.2.1.length = 0) && decide (2 ≤ a.2.2.2.2) && decide (a.2.2.2.2 ≤ 6) else false)
theorem d31_eq (n : Int) {a : Int × (Int × (Int × (List Int × Int)))} (hl : a.2.2.2.1.length ≤ 281474976710656) : d31 n a = some (validB n a) := by
  obtain ⟨k, A, B, l, q⟩ := a
  simp only at hl
  unfold d31 validB letJ
  simp only
  by_cases c1 : n < 1
  · simp [c1]
  by_cases c2 : 7 < n
  · simp [c2]
  by_cases c3 : A < 0
  · simp [c1, c2, c3]
  by_cases c4 : n ≤ A
  · simp [c1, c2, c3, c4]
  by_cases c5 : B < 0
  · simp [c1, c2, c3, c4, c5]
  by_cases c6 : n ≤ B
  · simp [c1, c2, c3, c4, c5, c6]
  simp only [c1, c2, c3, c4, c5, c6, decide_false, Bool.not_false, cond_true, cond_false, Bool.true_and, Bool.and_true]
  by_cases k1 : k = 1
  · subst k1
    by_cases d1 : A = B
    · simp [d1]
    · by_cases d2 : l.length = 0
      · have : l = [] := List.eq_nil_of_length_eq_zero d2
        simp [d1, this]
      · have : l ≠ [] := fun h => d2 (by simp [h])
        have h' : ¬ ((l.length : Int) = 0) := by omega
        simp [d1, this]
  · by_cases k2 : k = 2
    · subst k2
      by_cases d1 : A = B
      · simp [d1]
      · by_cases d2 : q = 0
        · simp only [d1, d2, d51_eq n hl, d30_eq _ hl]
          show _ = some _
          have hasc : asc n l = decide (¬ firstN (badAt n l) l.length < l.length) := rfl
          rw [hasc]
          cases decide (¬ firstN (badAt n l) l.length < l.length)
          · simp
          · by_cases d3 : A ∈ l
            · simp [d1, d3]
            · simp [d3]
        · simp [d1, d2]
    · by_cases k3 : k = 3
      · subst k3
        by_cases d1 : B = 0
        · by_cases d2 : l.length = 0
          · have : l = [] := List.eq_nil_of_length_eq_zero d2
            by_cases d3 : 2 ≤ q
            · simp [d1, this, d3]
            · simp [d1, this, d3]
          · have : l ≠ [] := fun h => d2 (by simp [h])
            simp [d1, this]
        · simp [d1]
      · simp [k1, k2, k3]
end Go.Proofs.YthlgoakkgmabaaaGreat
