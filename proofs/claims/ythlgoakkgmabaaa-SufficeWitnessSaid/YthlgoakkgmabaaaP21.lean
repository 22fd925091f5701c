/- Plain laws: orders of exclusion that are possible; an assertion that holds contradicts none of them (AssertionRight). -/
import Derived.Test.YthlgoakkgmabaaaP20
set_option linter.unusedSimpArgs false
set_option linter.unusedVariables false
open Go Go.Proofs Go.X
namespace Go.Proofs.Ythlgoakkgmabaaa
/- THE LOWEST -/
def lowAt (v : List Int) (r : List Bool) (i : Nat) : Nat → Bool
  | 0 => rem r (i : Int)
  | k + 1 => lowAt v r i k && !(rem r (k : Int) && decide (v.getD k 0 < v.getD i 0))
theorem lowAt_iff (v : List Int) (r : List Bool) (i : Nat) : ∀ k, lowAt v r i k = true ↔ rem r (i : Int) = true ∧ ∀ j, j < k → rem r (j : Int) = true → v.getD i 0 ≤ v.getD j 0
  | 0 => by simp [lowAt]
  | k + 1 => by
    have ih := lowAt_iff v r i k
    unfold lowAt
    rw [Bool.and_eq_true, ih]
    constructor
    · rintro ⟨⟨h1, h2⟩, h3⟩
      refine ⟨h1, fun j hj hr => ?_⟩
      rcases Nat.lt_or_ge j k with h | h
      · exact h2 j h hr
      · obtain rfl : j = k := by omega
        simp only [hr, Bool.true_and, Bool.not_eq_true', decide_eq_false_iff_not] at h3
        omega
    · rintro ⟨h1, h2⟩
      refine ⟨⟨h1, fun j hj hr => h2 j (by omega) hr⟩, ?_⟩
      cases hr : rem r (k : Int)
      · rfl
      · have := h2 k (by omega) hr
        have h3 : ¬ v.getD k 0 < v.getD i 0 := by omega
        simp only [h3, decide_false, Bool.and_false, Bool.not_false]
def lowTo (v : List Int) (r : List Bool) (i : Nat) : List Int := ((List.range i).filter fun j => lowAt v r j v.length).map fun (j : Nat) => (j : Int)
def lowL (v : List Int) (r : List Bool) : List Int := lowTo v r v.length
theorem lowTo_succ (v : List Int) (r : List Bool) (i : Nat) : lowTo v r (i + 1) = if lowAt v r i v.length then lowTo v r i ++ [(i : Int)] else lowTo v r i := by
  unfold lowTo
  rw [List.range_succ, List.filter_append, List.map_append]
  cases h : lowAt v r i v.length
  · simp [List.filter, h]
  · simp [List.filter, h]
theorem lowTo_len (v : List Int) (r : List Bool) (i : Nat) : (lowTo v r i).length ≤ i := by
  unfold lowTo
  rw [List.length_map]
  exact Nat.le_trans (List.length_filter_le _ _) (by simp)
theorem lowL_mem {v : List Int} {r : List Bool} {c : Int} (h : c ∈ lowL v r) : ∃ i : Nat, c = (i : Int) ∧ i < v.length ∧ lowAt v r i v.length = true := by
  unfold lowL lowTo at h
  obtain ⟨i, h1, h2⟩ := List.mem_map.1 h
  obtain ⟨h3, h4⟩ := List.mem_filter.1 h1
  exact ⟨i, h2.symm, List.mem_range.1 h3, h4⟩
/- THE ORDERS -/
theorem nodup_len_le : ∀ (m l : List Int), m.Nodup → (∀ c ∈ m, c ∈ l) → m.length ≤ l.length
  | [], l, _, _ => by simp
  | c :: m, l, hd, h => by
    have hc : c ∈ l := h c List.mem_cons_self
    have hd' := List.nodup_cons.1 hd
    have ih := nodup_len_le m (l.erase c) hd'.2 fun x hx => (List.mem_erase_of_ne (fun e => hd'.1 (by rw [← e]; exact hx))).2 (h x (List.mem_cons_of_mem _ hx))
    rw [List.length_erase_of_mem hc] at ih
    have : 0 < l.length := List.length_pos_of_mem hc
    simp
    omega
theorem full_isB {n : Int} (hn : 0 ≤ n) {o : List Int} (h : isB n o) (hl : o.length = n.toNat) {x : Int} (hx : 0 ≤ x ∧ x < n) : x ∈ o := by
  have hp := perm_of_sub o ((List.range n.toNat).map fun (i : Nat) => (i : Int)) h.1 (fun c hc => by
    have := h.2 c hc
    exact List.mem_map.2 ⟨c.toNat, List.mem_range.2 (by omega), by omega⟩) (by simp; omega)
  exact hp.mem_iff.2 (List.mem_map.2 ⟨x.toNat, List.mem_range.2 (by omega), by omega⟩)
/-- At every step from i on the candidate that goes has the fewest votes of those that remain. -/
def lowest (gs : List Grp) (o : List Int) (i : Nat) : Prop := ∀ j, i ≤ j → j < o.length → ∀ c ∈ o.drop j, wsum (isTopM (o.drop j) (o.getD j 0)) gs ≤ wsum (isTopM (o.drop j) c) gs
theorem flat_len {f : Int → List (List Int)} {B : Nat} : ∀ {l : List Int}, (∀ x ∈ l, (f x).length ≤ B) → (l.flatMap f).length ≤ l.length * B
  | [], _ => by simp
  | x :: l, h => by
    have ih := flat_len (l := l) fun y hy => h y (List.mem_cons_of_mem _ hy)
    have h1 := h x List.mem_cons_self
    rw [List.flatMap_cons, List.length_append, List.length_cons, Nat.add_mul]
    omega
theorem take_flat {f : Int → List (List Int)} (l : List Int) {i : Nat} (hi : i < l.length) : (l.take (i + 1)).flatMap f = (l.take i).flatMap f ++ f (l.getD i 0) := by
  rw [getD_get _ _ hi, ← List.take_append_getElem hi, List.flatMap_append]
  simp
theorem rem_set {r : List Bool} {c x : Int} (hc : 0 ≤ c ∧ c < (r.length : Int)) (hx : 0 ≤ x) : rem (r.set c.toNat false) x = (rem r x && decide (x ≠ c)) := by
  unfold rem
  rw [List.length_set]
  by_cases h : x < (r.length : Int)
  · simp only [h, if_true]
    by_cases e : x = c
    · subst e
      have : x.toNat < r.length := by omega
      simp [List.getD_eq_getElem?_getD, this]
    · have : c.toNat ≠ x.toNat := by omega
      simp [List.getD_eq_getElem?_getD, List.getElem?_set_ne this, e]
  · simp only [h, if_false, Bool.false_and]
/- NONE OF THEM IS CONTRADICTED -/
theorem wsum_mono {n : Int} : ∀ {gs : List Grp}, (∀ g ∈ gs, isB n g.1 ∧ 1 ≤ g.2) → ∀ {f h : List Int → Int}, (∀ g ∈ gs, f g.1 ≤ h g.1) → wsum f gs ≤ wsum h gs
  | [], _, f, h, _ => Int.le_refl _
  | g :: gs, hg, f, h, hf => by
    have ih := wsum_mono (fun x hx => hg x (List.mem_cons_of_mem _ hx)) fun x hx => hf x (List.mem_cons_of_mem _ hx)
    have h1 := (hg g (by simp)).2
    have h2 := hf g (by simp)
    have h3 := Int.mul_le_mul_of_nonneg_left h2 (show 0 ≤ g.2 by omega)
    unfold wsum
    omega
theorem firstAt_min (p : Int → Bool) {l : List Int} {i : Nat} (hi : i < l.length) (hp : p (l.getD i 0) = true) : firstAt p l ≤ i := by
  rcases Nat.lt_or_ge i (firstAt p l) with h | h
  · have := firstAt_lt p l i h
    rw [hp] at this
    cases this
  · exact h
theorem first_le_top {R : List Int} {A : Int} (hA : A ∈ R) (p : List Int) : isFirst A p ≤ isTopM R A p := by
  unfold isFirst isTopM
  by_cases c : p ≠ [] ∧ p.getD 0 0 = A
  · obtain ⟨c1, c2⟩ := c
    have hl : 0 < p.length := List.length_pos_iff.2 c1
    have h0 : firstAt (fun x => decide (x ∈ R)) p = 0 := by
      have := firstAt_min (fun x => decide (x ∈ R)) hl (by rw [c2]; exact decide_eq_true hA)
      omega
    rw [if_pos ⟨c1, c2⟩, if_pos (by rw [h0]; exact ⟨hl, c2⟩)]
    exact Int.le_refl _
  · rw [if_neg c]
    split <;> omega
theorem top_le_before {R : List Int} {A B : Int} (hA : A ∈ R) (hne : B ≠ A) (p : List Int) : isTopM R B p ≤ isBefore B A p := by
  unfold isTopM isBefore
  simp only
  by_cases c : firstAt (fun x => decide (x ∈ R)) p < p.length ∧ p.getD (firstAt (fun x => decide (x ∈ R)) p) 0 = B
  · obtain ⟨c1, c2⟩ := c
    have h1 := firstAt_min (fun z => decide (B = z)) c1 (by rw [c2]; simp)
    have h2 : p.length ≤ firstAt (fun z => decide (A = z)) p ∨ firstAt (fun z => decide (B = z)) p < firstAt (fun z => decide (A = z)) p := by
      rcases Nat.lt_or_ge (firstAt (fun z => decide (A = z)) p) p.length with h | h
      · refine .inr ?_
        have ha := firstAt_at _ _ h
        simp only [decide_eq_true_eq] at ha
        have h3 := firstAt_min (fun x => decide (x ∈ R)) h (by rw [← ha]; exact decide_eq_true hA)
        rcases Nat.lt_or_ge (firstAt (fun x => decide (x ∈ R)) p) (firstAt (fun z => decide (A = z)) p) with h4 | h4
        · omega
        · have h5 : firstAt (fun x => decide (x ∈ R)) p = firstAt (fun z => decide (A = z)) p := by omega
          rw [h5] at c2
          exact absurd (c2.symm.trans ha.symm) hne
      · exact .inl h
    rw [if_pos ⟨c1, c2⟩, if_pos ⟨by omega, h2⟩]
    exact Int.le_refl _
  · rw [if_neg c]
    split <;> omega
theorem topM_perm {M R : List Int} (h : M.Perm R) (c : Int) (p : List Int) : isTopM M c p = isTopM R c p := by
  unfold isTopM
  rw [firstAt_congr (p := fun x => decide (x ∈ M)) (q := fun x => decide (x ∈ R)) fun x _ => decide_eq_decide.2 h.mem_iff]
theorem right_none {n : Int} {gs : List Grp} {N : Int} (h : PileOK n gs N) (h1 : 1 ≤ n) {a : Asn} (hv : validB n a = true) (hk : a.1 = 1 ∨ a.1 = 2) (hf : (fav a gs).2 < (fav a gs).1) {o : List Int} (ho : isB n o) (hol : o.length = n.toNat) (hlow : lowest gs o 0) (j : Nat) :
    contr n a (o.drop j) = false := by
  cases hc : contr n a (o.drop j) with
  | false => rfl
  | true =>
    exfalso
    unfold contr at hc
    simp only [Bool.and_eq_true] at hc
    obtain ⟨_, hc⟩ := hc
    have hw := valid_who hv
    rcases hk with k | k
    · unfold fav at hf
      simp only [k, if_true, Bool.and_eq_true, decide_eq_true_eq, Bool.not_eq_true', decide_eq_false_iff_not] at hc hf
      obtain ⟨c1, c2⟩ := hc
      have hne : a.2.1 ≠ a.2.2.1 := by
        unfold validB at hv
        simp only [k, if_true, Bool.and_eq_true, decide_eq_true_eq] at hv
        exact hv.2.1.1
      obtain ⟨x, hx⟩ : ∃ x, firstAt (fun z => decide (a.2.2.1 = z)) (o.drop j) = x := ⟨_, rfl⟩
      have hat := firstAt_at _ _ c1
      rw [hx] at c1 c2 hat
      simp only [decide_eq_true_eq] at hat
      rw [List.length_drop] at c1
      rw [List.drop_drop] at c2
      have hB : o.getD (j + x) 0 = a.2.2.1 := by
        rw [hat]
        simp [List.getD_eq_getElem?_getD]
      have hA := full_isB (by omega) ho hol ⟨hw.1, hw.2.1⟩
      obtain ⟨i, hi, hie⟩ := List.getElem_of_mem hA
      have hil : i < j + x := by
        rcases Nat.lt_or_ge i (j + x) with h | h
        · exact h
        · refine absurd ?_ c2
          rw [← hie]
          refine List.mem_iff_getElem.2 ⟨i - (j + x), by simp; omega, ?_⟩
          rw [List.getElem_drop]
          congr 1
          omega
      have hAi : o.getD i 0 = a.2.1 := by rw [getD_get _ _ hi]; exact hie
      have hBm : a.2.2.1 ∈ o.drop i := by
        refine List.mem_iff_getElem.2 ⟨j + x - i, by simp; omega, ?_⟩
        rw [List.getElem_drop, ← hB, getD_get _ _ (by omega)]
        congr 1
        omega
      have hAm : a.2.1 ∈ o.drop i := by
        refine List.mem_iff_getElem.2 ⟨0, by simp; omega, ?_⟩
        rw [List.getElem_drop, ← hie]
        congr 1
      have h3 := hlow i (Nat.zero_le _) hi _ hBm
      rw [hAi] at h3
      have h4 := wsum_mono h.ballots (f := isFirst a.2.1) (h := isTopM (o.drop i) a.2.1) fun g _ => first_le_top hAm g.1
      have h5 := wsum_mono h.ballots (f := isTopM (o.drop i) a.2.2.1) (h := isBefore a.2.2.1 a.2.1) fun g _ => top_le_before hAm (Ne.symm hne) g.1
      omega
    · obtain ⟨m1, m2, m3, m4⟩ := valid_next hv k
      unfold fav at hf
      simp only [k, if_true, if_false, show ¬ (2 : Int) = 1 by omega, Bool.and_eq_true, decide_eq_true_eq] at hc hf
      obtain ⟨c1, c2, c3⟩ := hc
      have hpos : 0 < a.2.2.2.1.length := List.length_pos_of_mem m3
      unfold lastOf at c3
      rw [List.length_drop] at c1 c2 c3
      rw [List.drop_drop] at c3
      obtain ⟨i, hi⟩ : ∃ i, j + (o.length - j - a.2.2.2.1.length) = i := ⟨_, rfl⟩
      rw [hi] at c3
      have hA : o.getD i 0 = a.2.1 := by
        rw [← c2, ← hi]
        simp [List.getD_eq_getElem?_getD]
      have hp : a.2.2.2.1.Perm (o.drop i) := perm_of_sub _ _ (nodup_of_lt m1) c3 (by rw [List.length_drop]; omega)
      have h3 := hlow i (Nat.zero_le _) (by omega) _ (c3 _ m4)
      rw [hA] at h3
      have e1 : wsum (isTopM a.2.2.2.1 a.2.1) gs = wsum (isTopM (o.drop i) a.2.1) gs := wsum_congr fun g _ => topM_perm hp _ _
      have e2 : wsum (isTopM a.2.2.2.1 a.2.2.1) gs = wsum (isTopM (o.drop i) a.2.2.1) gs := wsum_congr fun g _ => topM_perm hp _ _
      omega
end Go.Proofs.Ythlgoakkgmabaaa
