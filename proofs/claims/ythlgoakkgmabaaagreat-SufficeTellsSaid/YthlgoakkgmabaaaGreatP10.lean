/- Plain laws on assertions and piles: the margin of an assertion is the sum of the ballots' values less one each. -/
import Derived.Test.YthlgoakkgmabaaaGreatP9
set_option linter.unusedSimpArgs false
set_option linter.unusedVariables false
open Go Go.Proofs Go.X
namespace Go.Proofs.YthlgoakkgmabaaaGreat
theorem wsum_sub (f g : List Int → Int) : ∀ gs : List Grp, wsum (fun p => f p - g p) gs = wsum f gs - wsum g gs
  | [] => by simp [wsum]
  | a :: gs => by
    have := wsum_sub f g gs
    simp only [wsum, this, Int.mul_sub]
    omega
theorem wsum_mul (q : Int) (f : List Int → Int) : ∀ gs : List Grp, wsum (fun p => q * f p) gs = q * wsum f gs
  | [] => by simp [wsum]
  | a :: gs => by
    have := wsum_mul q f gs
    simp only [wsum, this, Int.mul_add]
    rw [Int.mul_left_comm]
theorem isFirst_eq (c : Int) (p : List Int) : isFirst c p = if firstAt (fun z => decide (c = z)) p = 0 ∧ 0 < p.length then 1 else 0 := by
  unfold isFirst
  match p with
  | [] => simp
  | y :: p =>
    unfold firstAt
    by_cases h : c = y
    · subst h; simp
    · have : ¬ y = c := fun e => h e.symm
      simp [h, this]
theorem vBeats_sub (A B : Int) (hAB : A ≠ B) (p : List Int) : vBeats A B p - 1 = isFirst A p - isBefore B A p := by
  rw [isFirst_eq]
  unfold vBeats isBefore
  have hne : firstAt (fun z => decide (A = z)) p < p.length → firstAt (fun z => decide (A = z)) p ≠ firstAt (fun z => decide (B = z)) p := fun h e => by
    have h1 := firstAt_at (fun z => decide (A = z)) p h
    rw [e] at h h1
    have h2 := firstAt_at (fun z => decide (B = z)) p h
    have h3 := of_decide_eq_true h1
    have h4 := of_decide_eq_true h2
    exact hAB (h3.trans h4.symm)
  have l1 := firstAt_le (fun z => decide (A = z)) p
  have l2 := firstAt_le (fun z => decide (B = z)) p
  generalize firstAt (fun z => decide (A = z)) p = x at *
  generalize firstAt (fun z => decide (B = z)) p = y at *
  generalize p.length = n at *
  simp only
  by_cases c1 : x < n
  · have := hne c1
    rw [if_pos c1]
    by_cases c2 : x = 0
    · have e1 : (x : Int) = 0 := by omega
      rw [if_pos e1, if_pos (by omega), if_neg (by omega)]
      omega
    · have e1 : ¬ (x : Int) = 0 := by omega
      rw [if_neg e1]
      by_cases c3 : y < n
      · rw [if_pos c3]
        by_cases c4 : y < x
        · rw [if_pos (by omega), if_neg (by omega), if_pos (by omega)]; try omega
        · rw [if_neg (by omega), if_neg (by omega), if_neg (by omega)]; omega
      · rw [if_neg c3, if_neg (by omega), if_neg (by omega), if_neg (by omega)]; omega
  · rw [if_neg c1, if_neg (by omega : ¬ (-1 : Int) = 0)]
    by_cases c3 : y < n
    · rw [if_pos c3, if_pos (by omega), if_neg (by omega), if_pos (by omega)]; try omega
    · rw [if_neg c3, if_neg (by omega), if_neg (by omega), if_neg (by omega)]; omega
theorem vNext_sub (A B : Int) (hAB : A ≠ B) (m p : List Int) : vNext A B m p - 1 = isTopM m A p - isTopM m B p := by
  unfold vNext isTopM
  simp only
  by_cases c1 : firstAt (fun c => decide (c ∈ m)) p < p.length
  · generalize p.getD (firstAt (fun c => decide (c ∈ m)) p) 0 = x
    simp only [c1, if_true, true_and]
    by_cases c2 : x = A
    · have c3 : ¬ x = B := fun e => hAB (c2.symm.trans e)
      rw [if_pos c2, if_pos c2, if_neg c3]; omega
    · rw [if_neg c2, if_neg c2]
      by_cases c3 : x = B
      · rw [if_pos c3, if_pos c3]; try omega
      · rw [if_neg c3, if_neg c3]; omega
  · simp only [c1, if_false, false_and]
    omega
theorem vQuota_sub (A q : Int) (p : List Int) : vQuota A q p - 1 = q * isFirst A p - isMarked p := by
  unfold vQuota isFirst isMarked
  match p with
  | [] => simp
  | y :: p =>
    by_cases c : y = A
    · simp [c]
    · simp [c]
theorem valid_wide {n : Int} (hn : n ≤ 7) {a : Asn} (h : validB n a = true) : validB 7 a = true := by
  have hw := valid_who h
  have hk := valid_kinds h
  unfold validB at h ⊢
  simp only [Bool.and_eq_true, Bool.not_eq_true', decide_eq_false_iff_not] at h ⊢
  obtain ⟨_, h⟩ := h
  refine ⟨by omega, ?_⟩
  rcases hk with k | k | k
  · simp only [k, if_true] at h ⊢; exact h
  · simp only [k, if_true, if_false, show ¬ (2 : Int) = 1 by omega, Bool.and_eq_true] at h ⊢
    obtain ⟨⟨⟨h1, h2⟩, h3⟩, h4⟩ := h
    refine ⟨⟨⟨h1, ?_⟩, h3⟩, h4⟩
    rw [asc_iff] at h2 ⊢
    exact ⟨h2.1, fun x hx => by have := h2.2 x hx; omega⟩
  · simp only [k, if_true, if_false, show ¬ (3 : Int) = 1 by omega, show ¬ (3 : Int) = 2 by omega] at h ⊢
    exact h
theorem valid_12 {n : Int} {a : Asn} (h : validB n a = true) (k : a.1 = 1 ∨ a.1 = 2) : a.2.1 ≠ a.2.2.1 := by
  unfold validB at h
  rcases k with k | k
  · simp [k] at h; exact h.2.1.1
  · simp [k] at h; exact h.2.1.1.1.1
theorem valid_among {n : Int} {a : Asn} (h : validB n a = true) (k : a.1 = 2) : ∀ x ∈ a.2.2.2.1, 0 ≤ x ∧ x < n := by
  unfold validB at h
  simp only [k, if_true, if_false, show ¬ (2 : Int) = 1 by omega, Bool.and_eq_true] at h
  exact ((asc_iff _ _).1 h.2.1.1.2).2
theorem val_valid {a : Asn} (h : validB 7 a = true) {p : List Int} (hp : isB 7 p) : val a p = if a.1 = 1 then vBeats a.2.1 a.2.2.1 p else if a.1 = 2 then vNext a.2.1 a.2.2.1 a.2.2.2.1 p else vQuota a.2.1 a.2.2.2.2 p := by
  unfold val
  rw [ballotB_eq, decide_eq_true hp]
  simp only [h, if_true]
theorem val_bounds {a : Asn} (h : validB 7 a = true) {p : List Int} (hp : isB 7 p) : 0 ≤ val a p ∧ val a p ≤ upper a := by
  rw [val_valid h hp]
  unfold upper
  simp only [h, if_true]
  rcases valid_kinds h with k | k | k
  · simp only [k, if_true]
    unfold vBeats
    simp only
    split
    · omega
    · split <;> omega
  · simp only [k, if_true, if_false, show ¬ (2 : Int) = 1 by omega]
    unfold vNext
    simp only
    split
    · split
      · omega
      · split <;> omega
    · omega
  · have := valid_quota h k
    simp only [k, if_false, show ¬ (3 : Int) = 1 by omega, show ¬ (3 : Int) = 2 by omega]
    unfold vQuota
    split
    · omega
    · split <;> omega
theorem upper_bounds {a : Asn} (h : validB 7 a = true) : 2 ≤ upper a ∧ upper a ≤ 6 := by
  unfold upper
  simp only [h, if_true]
  rcases valid_kinds h with k | k | k
  · simp [k]
  · simp [k]
  · have := valid_quota h k
    simp [k]; omega
theorem isB_wide {n : Int} (hn : n ≤ 7) {p : List Int} (h : isB n p) : isB 7 p := ⟨h.1, fun x hx => by have := h.2 x hx; omega⟩
def marg (a : Asn) (gs : List Grp) : Int := wsum (fun p => val a p - 1) gs
theorem marg_bounds {a : Asn} (h : validB 7 a = true) : ∀ {gs : List Grp}, (∀ g ∈ gs, isB 7 g.1 ∧ 1 ≤ g.2) → -(wsum (fun _ => 1) gs) ≤ marg a gs ∧ marg a gs ≤ 5 * wsum (fun _ => 1) gs
  | [], _ => by simp [marg, wsum]
  | g :: gs, hg => by
    have ih := marg_bounds h (gs := gs) fun x hx => hg x (List.mem_cons_of_mem _ hx)
    have h1 := hg g (by simp)
    have h2 := val_bounds h h1.1
    have h3 := upper_bounds h
    unfold marg at ih ⊢
    simp only [wsum]
    have h4 : g.2 * (-1) ≤ g.2 * (val a g.1 - 1) := Int.mul_le_mul_of_nonneg_left (by omega) (by omega)
    have h5 : g.2 * (val a g.1 - 1) ≤ g.2 * 5 := Int.mul_le_mul_of_nonneg_left (by omega) (by omega)
    omega
/-- A made assertion is valid. -/
theorem mk_valid {n k a b m q : Int} (hn : 2 ≤ n) (hn' : n ≤ 7) : validB n (mk n k a b m q) = true := by
  have b1 := mod_bounds k (n := 3) (by omega)
  have b2 := mod_bounds a (n := n) (by omega)
  have b3 := mod_bounds q (n := 5) (by omega)
  have b4 := mod_bounds b (n := n - 1) (by omega)
  have b6 := mod_bounds (a % n + 1 + b % (n - 1)) (n := n) (by omega)
  have hne : a % n ≠ (a % n + 1 + b % (n - 1)) % n := by
    generalize a % n = A at *
    generalize b % (n - 1) = B at *
    rcases Int.lt_or_le (A + 1 + B) n with h | h
    · rw [Int.emod_eq_of_lt (by omega) h]; omega
    · have : (A + 1 + B) % n = A + 1 + B - n := by
        rw [← Int.sub_emod_right, Int.emod_eq_of_lt (by omega) (by omega)]
      rw [this]; omega
  unfold mk
  generalize a % n = A at *
  generalize (A + 1 + b % (n - 1)) % n = B at *
  have c0 : ¬ n < 1 := by omega
  have c0' : ¬ 7 < n := by omega
  have c1 : ¬ A < 0 := by omega
  have c2 : ¬ n ≤ A := by omega
  have c3 : ¬ B < 0 := by omega
  have c4 : ¬ n ≤ B := by omega
  have c5 : ¬ n ≤ 0 := by omega
  by_cases k3 : 1 + k % 3 = 3
  · rw [if_pos k3]
    unfold validB
    have d1 : 2 ≤ 2 + q % 5 := by omega
    have d2 : 2 + q % 5 ≤ 6 := by omega
    simp [c0, c0', c1, c2, c5, d2]
    omega
  · rw [if_neg k3]
    by_cases k2 : 1 + k % 3 = 2
    · rw [if_pos k2]
      have hl := amL_lt A B (m % 128) n.toNat
      have hA : A ∈ amL A B (m % 128) n.toNat := by
        have := amL_mem A B (m % 128) n.toNat A.toNat (by omega) (.inl (by omega))
        rwa [show ((A.toNat : Nat) : Int) = A by omega] at this
      have hB : B ∈ amL A B (m % 128) n.toNat := by
        have := amL_mem A B (m % 128) n.toNat B.toNat (by omega) (.inr (by omega))
        rwa [show ((B.toNat : Nat) : Int) = B by omega] at this
      have hs : asc n (amL A B (m % 128) n.toNat) = true := asc_of_sorted (amL_sorted A B (m % 128) n.toNat) fun x hx => by have := hl.2 x hx; omega
      unfold validB
      simp [c0, c0', c1, c2, c3, c4, hne, hs, hA, hB]
    · have k1 : 1 + k % 3 = 1 := by omega
      rw [if_neg k2, k1]
      unfold validB
      simp [c0, c0', c1, c2, c3, c4, hne]
end Go.Proofs.YthlgoakkgmabaaaGreat
