/- Plain laws on the functions that the statements of the assorter reach: first part. -/
import Derived.Test.YthlgoakkgmabaaaGreatG1
set_option linter.unusedSimpArgs false
set_option linter.unusedVariables false
open Go Go.Proofs Go.X
namespace Go.Proofs.YthlgoakkgmabaaaGreat
theorem w_id {n : Int} (h0 : -9223372036854775808 ≤ n) (h1 : n ≤ 9223372036854775807) : w n = n := IntWalk.i64_in n ⟨h0, h1⟩
theorem wt_int {n : Int} (h : WT (.int .i64) n) : -9223372036854775808 ≤ n ∧ n ≤ 9223372036854775807 := by
  have h' : IntKind.i64.wrap n = n := h
  rw [IntKind.wrap_i64] at h'
  omega
theorem wt_len {l : List Int} (h : WT (.slice (.int .i64)) l) : l.length ≤ 281474976710656 := h.1
/-- A loop that counts up and leaves at n. -/
theorem while_up {α β : Type} {f : α → Option (α ⊕ β)} (st : Nat → α) {b : β} : ∀ (n : Nat), (∀ i, i < n → f (st i) = some (.inl (st (i + 1)))) → f (st n) = some (.inr b) → whileO f (st 0) = some b := by
  intro n hs he
  have key : ∀ k, k ≤ n → whileO f (st (n - k)) = some b := by
    intro k
    induction k with
    | zero => intro _; exact whileO_inr he
    | succ k ih =>
      intro hk
      have h1 := hs (n - (k + 1)) (by omega)
      rw [show n - (k + 1) + 1 = n - k by omega] at h1
      exact whileO_inl h1 (ih (by omega))
  have := key n (Nat.le_refl n)
  rwa [Nat.sub_self] at this
theorem while_bind {α β γ : Type} {f : α → Option (α ⊕ β)} {k : β → Option γ} {a0 : α} {b : β} {r : Option γ} (st : Nat → α) (n : Nat) (h0 : st 0 = a0) (hs : ∀ i, i < n → f (st i) = some (.inl (st (i + 1)))) (he : f (st n) = some (.inr b)) (hk : k b = r) : (whileO f a0).bind k = r := by
  rw [← h0, while_up st n hs he]
  exact hk
/-- The first place where p holds, or the length. -/
def firstAt (p : Int → Bool) : List Int → Nat
  | [] => 0
  | x :: l => if p x then 0 else firstAt p l + 1
theorem firstAt_le (p : Int → Bool) : ∀ l, firstAt p l ≤ l.length
  | [] => Nat.le_refl 0
  | x :: l => by
    unfold firstAt
    split
    · exact Nat.zero_le _
    · have := firstAt_le p l; simp; omega
theorem firstAt_lt (p : Int → Bool) : ∀ l (i : Nat), i < firstAt p l → p (l.getD i 0) = false
  | [], i, h => by simp [firstAt] at h
  | x :: l, i, h => by
    unfold firstAt at h
    split at h
    · omega
    · rename_i hx
      cases i with
      | zero => simpa using hx
      | succ i =>
        have := firstAt_lt p l i (by omega)
        simpa using this
theorem firstAt_at (p : Int → Bool) : ∀ l, firstAt p l < l.length → p (l.getD (firstAt p l) 0) = true
  | [], h => by simp at h
  | x :: l, h => by
    unfold firstAt at h ⊢
    split at h
    · rename_i hx; rw [if_pos hx]; simpa using hx
    · rename_i hx
      rw [if_neg hx]
      have := firstAt_at p l (by simp at h; omega)
      simpa using this
theorem firstAt_mem (p : Int → Bool) : ∀ l, firstAt p l < l.length ↔ ∃ x ∈ l, p x = true
  | [] => by simp [firstAt]
  | x :: l => by
    unfold firstAt
    by_cases hx : p x = true
    · rw [if_pos hx]; simp [hx]
    · rw [if_neg hx]
      have := firstAt_mem p l
      simp [hx] at this ⊢
      exact this
theorem d7_eq {x n : Int} (hx : WT (.int .i64) x) (hn : 0 < n) (hn' : n ≤ 4611686018427387904) : d7 x n = some (x % n) := by
  have hx' := wt_int hx
  unfold d7
  have h0 : n ≠ 0 := by omega
  have h1 : -n < Int.tmod x n := Int.lt_tmod_of_pos x hn
  have h2 : Int.tmod x n < n := Int.tmod_lt_of_pos x hn
  have h3 : w (Int.tmod x n) = Int.tmod x n := w_id (by omega) (by omega)
  have h4 : w (Int.tmod x n + n) = Int.tmod x n + n := w_id (by omega) (by omega)
  have h5 : Int.tmod (Int.tmod x n + n) n = x % n := by
    have h6 : 0 ≤ Int.tmod x n + n := by omega
    rw [Int.tmod_eq_emod_of_nonneg h6, Int.add_emod_right]
    rw [Int.tmod_eq_emod]
    split
    · simp
    · have : ((n.natAbs : Int)) = n := Int.natAbs_of_nonneg (by omega)
      rw [this, Int.sub_emod_right]
      exact Int.emod_emod_of_dvd x (Int.dvd_refl n)
  have h7 : w (x % n) = x % n := w_id (by have := Int.emod_nonneg x h0; omega) (by have := Int.emod_lt_of_pos x hn; omega)
  simp [h0, h3, h4, h5, h7]
theorem mod_bounds (x : Int) {n : Int} (hn : 0 < n) : 0 ≤ x % n ∧ x % n < n := ⟨Int.emod_nonneg x (by omega), Int.emod_lt_of_pos x hn⟩
theorem d18_eq {l : List Int} (hl : WT (.slice (.int .i64)) l) : d18 l 9 = some (l.take 9) := by
  have h := wt_len hl
  unfold d18 cutOK
  by_cases h9 : 9 < l.length
  · have : (9 : Int) < (l.length : Int) := by omega
    have h9' : (9 : Int) ≤ (l.length : Int) := by omega
    simp [this, h9']
  · have : ¬ (9 : Int) < (l.length : Int) := by omega
    simp [this]
    rw [List.take_of_length_le (by omega)]
theorem d50_eq {s : List Int} (v : Int) (hs : s.length ≤ 281474976710656) : d50 s v = some (if firstAt (fun x => decide (v = x)) s < s.length then (firstAt (fun x => decide (v = x)) s : Int) else -1) := by
  unfold d50
  have hle := firstAt_le (fun x => decide (v = x)) s
  have hstep : ∀ i, i < firstAt (fun x => decide (v = x)) s → w ((i : Int) + 1) = ((i + 1 : Nat) : Int) := fun i hi => by rw [w_id (by omega) (by omega)]; omega
  by_cases h : firstAt (fun x => decide (v = x)) s < s.length
  · have hat := firstAt_at _ s h
    refine while_bind (b := .inr (firstAt (fun x => decide (v = x)) s : Int)) (fun i => (s, v, (s.length : Int), (i : Int))) (firstAt (fun x => decide (v = x)) s) rfl ?_ ?_ (by simp [h])
    · intro i hi
      have h1 := firstAt_lt _ s i hi
      have h2 : (i : Int) < (s.length : Int) := by omega
      have h3 : (0 : Int) ≤ (i : Int) := by omega
      simp only [decide_eq_false_iff_not, List.getD_eq_getElem?_getD] at h1
      simp [h2, h3, h1, hstep i hi]
    · have h2 : (firstAt (fun x => decide (v = x)) s : Int) < (s.length : Int) := by omega
      have h3 : (0 : Int) ≤ (firstAt (fun x => decide (v = x)) s : Int) := by omega
      simp only [decide_eq_true_eq, List.getD_eq_getElem?_getD] at hat
      simp [h2, h3, ← hat]
  · refine while_bind (b := .inl ()) (fun i => (s, v, (s.length : Int), (i : Int))) s.length rfl ?_ ?_ (by simp [h])
    · intro i hi
      have h1 := firstAt_lt (fun x => decide (v = x)) s i (by omega)
      have h2 : (i : Int) < (s.length : Int) := by omega
      have h3 : (0 : Int) ≤ (i : Int) := by omega
      simp only [decide_eq_false_iff_not, List.getD_eq_getElem?_getD] at h1
      simp [h2, h3, h1, hstep i (by omega)]
    · simp
theorem d30_eq {s : List Int} (v : Int) (hs : s.length ≤ 281474976710656) : d30 s v = some (decide (v ∈ s)) := by
  unfold d30
  rw [d50_eq v hs]
  have hm := firstAt_mem (fun x => decide (v = x)) s
  by_cases h : firstAt (fun x => decide (v = x)) s < s.length
  · have : v ∈ s := by obtain ⟨x, h1, h2⟩ := hm.1 h; have := of_decide_eq_true h2; rw [this]; exact h1
    simp [h, this]
  · have : v ∉ s := fun hv => h (hm.2 ⟨v, hv, by simp⟩)
    simp [h, this]
theorem d20_eq {l : List Int} (x : Int) (hs : l.length ≤ 281474976710656) : d20 l x = some (decide (x ∈ l)) := by
  unfold d20
  have hle := firstAt_le (fun y => decide (y = x)) l
  have hm := firstAt_mem (fun y => decide (y = x)) l
  have hstep : ∀ i, i < firstAt (fun y => decide (y = x)) l → w ((i : Int) + 1) = ((i + 1 : Nat) : Int) := fun i hi => by rw [w_id (by omega) (by omega)]; omega
  by_cases h : firstAt (fun y => decide (y = x)) l < l.length
  · have hat := firstAt_at _ l h
    have hx : x ∈ l := by obtain ⟨z, h1, h2⟩ := hm.1 h; have := of_decide_eq_true h2; rw [← this]; exact h1
    refine while_bind (b := .inr true) (fun i => (l, x, (i : Int))) (firstAt (fun y => decide (y = x)) l) rfl ?_ ?_ (by simp [hx])
    · intro i hi
      have h1 := firstAt_lt _ l i hi
      have h2 : (i : Int) < (l.length : Int) := by omega
      have h3 : (0 : Int) ≤ (i : Int) := by omega
      simp only [decide_eq_false_iff_not, List.getD_eq_getElem?_getD] at h1
      simp [h2, h3, h1, hstep i hi]
    · have h2 : (firstAt (fun y => decide (y = x)) l : Int) < (l.length : Int) := by omega
      have h3 : (0 : Int) ≤ (firstAt (fun y => decide (y = x)) l : Int) := by omega
      simp only [decide_eq_true_eq, List.getD_eq_getElem?_getD] at hat
      simp [h2, h3, hat]
  · have hx : x ∉ l := fun hv => h (hm.2 ⟨x, hv, by simp⟩)
    refine while_bind (b := .inl ()) (fun i => (l, x, (i : Int))) l.length rfl ?_ ?_ (by simp [hx])
    · intro i hi
      have h1 := firstAt_lt (fun y => decide (y = x)) l i (by omega)
      have h2 : (i : Int) < (l.length : Int) := by omega
      have h3 : (0 : Int) ≤ (i : Int) := by omega
      simp only [decide_eq_false_iff_not, List.getD_eq_getElem?_getD] at h1
      simp [h2, h3, h1, hstep i (by omega)]
    · simp
end Go.Proofs.YthlgoakkgmabaaaGreat
