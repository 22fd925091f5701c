/- Plain laws: Contradicts is what the document prescribes; longer tails (AssertionContradicts). -/
import Derived.Test.YthlgoakkgmabaaaGreatP15
set_option linter.unusedSimpArgs false
set_option linter.unusedVariables false
open Go Go.Proofs Go.X
namespace Go.Proofs.YthlgoakkgmabaaaGreat
def isTailB (n : Int) (t : List Int) : Bool := decide (isB n t) && decide (0 < t.length)
/-- The part of a tail that an assertion of the kind Next speaks of. -/
def lastOf (m t : List Int) : List Int := t.drop (t.length - m.length)
/-- No order of exclusion with this tail is possible if the assertion holds. -/
def contr (n : Int) (a : Asn) (t : List Int) : Bool :=
  validB n a && isTailB n t &&
  (if a.1 = 1 then decide (firstAt (fun z => decide (a.2.2.1 = z)) t < t.length) && !decide (a.2.1 ∈ t.drop (firstAt (fun z => decide (a.2.2.1 = z)) t))
   else if a.1 = 2 then decide (a.2.2.2.1.length ≤ t.length) && (decide (t.getD (t.length - a.2.2.2.1.length) 0 = a.2.1) && decide (∀ c ∈ a.2.2.2.1, c ∈ lastOf a.2.2.2.1 t))
   else false)
theorem nodup_of_lt {m : List Int} (h : m.Pairwise (· < ·)) : m.Nodup := h.imp fun hh e => by omega
theorem sort_sorted (l : List Int) : (sortI l).Pairwise (· ≤ ·) := by
  have := List.pairwise_mergeSort (le := fun (x y : Int) => decide (x ≤ y)) (by simp; intro a b c; omega) (by simp; intro a b; omega) l
  simpa [sortI] using this
theorem sort_perm (l : List Int) : (sortI l).Perm l := List.mergeSort_perm l _
theorem wt_of {n : Int} (h0 : -9223372036854775808 ≤ n) (h1 : n ≤ 9223372036854775807) : WT (.int .i64) n := w_id h0 h1
theorem perm_of_sub : ∀ (m l : List Int), m.Nodup → (∀ c ∈ m, c ∈ l) → l.length ≤ m.length → m.Perm l
  | [], l, _, _, h => by
    have : l = [] := List.eq_nil_of_length_eq_zero (by simpa using h)
    rw [this]
  | c :: m, l, hd, h, hl => by
    have hc : c ∈ l := h c List.mem_cons_self
    have hd' := List.nodup_cons.1 hd
    refine (List.Perm.cons c (perm_of_sub m (l.erase c) hd'.2 (fun x hx => ?_) ?_)).trans (List.perm_cons_erase hc).symm
    · exact (List.mem_erase_of_ne (fun e => hd'.1 (by rw [← e]; exact hx))).2 (h x (List.mem_cons_of_mem _ hx))
    · rw [List.length_erase_of_mem hc]; simp at hl; omega
/-- A list without repetition has as sorted list m, if all of m lie in it and it is as long. -/
theorem sort_eq_iff {m l : List Int} (hm : m.Pairwise (· < ·)) (hl : l.Nodup) (hlen : l.length = m.length) : sortI l = m ↔ ∀ c ∈ m, c ∈ l := by
  constructor
  · intro h c hc
    rw [← h] at hc
    exact sortI_mem.1 hc
  · intro h
    have hp : m.Perm l := perm_of_sub m l (nodup_of_lt hm) h (by omega)
    refine ((sort_perm l).trans hp.symm).eq_of_pairwise (le := (· ≤ ·)) (fun a b _ _ h1 h2 => by omega) (sort_sorted l) (hm.imp fun h => by omega)
theorem list_diff : ∀ (a b : List Int), a.length = b.length → (a = b ↔ ∀ i, i < a.length → a.getD i 0 = b.getD i 0)
  | [], [], _ => by simp
  | x :: a, y :: b, h => by
    have ih := list_diff a b (by simpa using h)
    constructor
    · rintro he i _; rw [he]
    · intro hall
      have h0 : x = y := by simpa using hall 0 (by simp)
      have h1 : a = b := ih.2 fun i hi => by simpa using hall (i + 1) (by simp; omega)
      rw [h0, h1]
  | [], y :: b, h => by simp at h
  | x :: a, [], h => by simp at h
theorem d74_eq {a b : List Int} (ha : a.length ≤ 1000000) : d74 a b = some (decide (a = b)) := by
  unfold d74
  by_cases c : a.length = b.length
  · have c' : (a.length : Int) = (b.length : Int) := by omega
    simp only [c', decide_true, Bool.not_true, cond_false]
    refine while_first (fun i => (a, b, (b.length : Int), (i : Int))) (fun i => decide (a.getD i 0 ≠ b.getD i 0)) a.length (fun _ => .inr false) (.inl ()) rfl (fun i hi => ?_) ?_ (fun i hi hp hj => ?_) (fun hall => ?_)
    · have h2 : (i : Int) < (b.length : Int) := by omega
      have h3 : (0 : Int) ≤ (i : Int) := by omega
      have h4 : (i : Int) < (a.length : Int) := by omega
      have hw : w ((i : Int) + 1) = ((i + 1 : Nat) : Int) := by rw [w_id (by omega) (by omega)]; omega
      simp only [h2, h3, h4, decide_true, cond_true, Bool.and_self, Int.toNat_natCast, hw]
      by_cases e : a.getD i 0 = b.getD i 0
      · simp [e]
      · simp [e]
    · simp [c]
    · have : a ≠ b := fun e => by simp [e] at hp
      simp [this]
    · have : a = b := (list_diff a b c).2 fun i hi => by have := hall i hi; simpa using this
      simp [this]
  · have c' : ¬ (a.length : Int) = (b.length : Int) := by omega
    have : a ≠ b := fun e => c (by rw [e])
    simp [c', this]
theorem valid_next {n : Int} {a : Asn} (h : validB n a = true) (k : a.1 = 2) : a.2.2.2.1.Pairwise (· < ·) ∧ (∀ x ∈ a.2.2.2.1, 0 ≤ x ∧ x < n) ∧ a.2.1 ∈ a.2.2.2.1 ∧ a.2.2.1 ∈ a.2.2.2.1 := by
  unfold validB at h
  simp only [k, Bool.and_eq_true, if_true, if_false, show ¬ (2 : Int) = 1 by omega, decide_eq_true_eq] at h
  obtain ⟨_, ⟨⟨⟨_, _⟩, h1⟩, h2⟩, h3⟩ := h
  obtain ⟨h4, h5⟩ := (asc_iff _ _).1 h1
  exact ⟨h4, h5, h2, h3⟩
theorem d61_eq (n : Int) {a : Asn} {t : List Int} (hm : a.2.2.2.1.length ≤ 1001) (ht : t.length ≤ 1000) : d61 n a t = some (contr n a t) := by
  unfold d61 contr
  rw [d31_eq n (by omega)]
  simp only [Option.bind_some, letJ]
  cases hv : validB n a
  · simp
  rw [d73_eq n (by omega)]
  simp only [Option.bind_some, Bool.not_true, Bool.not_false, cond_true, Bool.true_and]
  cases hT : isTailB n t
  · have : (decide (isB n t) && decide (0 < t.length)) = false := hT
    simp [this]
  have hT' : (decide (isB n t) && decide (0 < t.length)) = true := hT
  have hb : isB n t := by simp only [Bool.and_eq_true, decide_eq_true_eq] at hT'; exact hT'.1
  simp only [hT', Bool.not_true, cond_false, Bool.true_and]
  rcases valid_kinds hv with k | k | k
  · simp only [k, if_true, decide_true, cond_true, d50_eq (s := t) a.2.2.1 (by omega), Option.bind_some]
    by_cases c : firstAt (fun z => decide (a.2.2.1 = z)) t < t.length
    · have c1 : (0 : Int) ≤ (firstAt (fun z => decide (a.2.2.1 = z)) t : Int) := by omega
      simp only [c, c1, if_true, decide_true, cond_true, cutOK_drop (Nat.le_of_lt c), Int.toNat_natCast, List.take_length, Bool.true_and]
      rw [d30_eq a.2.1 (by simp; omega)]
      rfl
    · have c1 : ¬ (0 : Int) ≤ -1 := by omega
      simp only [c, c1, if_false, decide_false, cond_false, Bool.false_and]
  · obtain ⟨h1, h2, h3, h4⟩ := valid_next hv k
    have hpos : 0 < a.2.2.2.1.length := List.length_pos_of_mem h3
    simp only [k, if_true, if_false, show ¬ (2 : Int) = 1 by omega, decide_true, decide_false, cond_true, cond_false]
    have hw : w ((t.length : Int) - (a.2.2.2.1.length : Int)) = (t.length : Int) - (a.2.2.2.1.length : Int) := w_id (by omega) (by omega)
    rw [hw]
    by_cases c : a.2.2.2.1.length ≤ t.length
    · have e : (t.length : Int) - (a.2.2.2.1.length : Int) = ((t.length - a.2.2.2.1.length : Nat) : Int) := by omega
      have c1 : (0 : Int) ≤ ((t.length - a.2.2.2.1.length : Nat) : Int) := by omega
      have c2 : ((t.length - a.2.2.2.1.length : Nat) : Int) < (t.length : Int) := by omega
      rw [e]
      simp only [c, c1, c2, decide_true, cond_true, Bool.and_self, Int.toNat_natCast, Bool.true_and]
      by_cases c3 : t.getD (t.length - a.2.2.2.1.length) 0 = a.2.1
      · have hlen : (t.drop (t.length - a.2.2.2.1.length)).length = a.2.2.2.1.length := by simp; omega
        have hlim : ((t.drop (t.length - a.2.2.2.1.length)).length : Int) ≤ LIM := by rw [LIM_eq]; omega
        simp only [c3, decide_true, cond_true, cutOK_drop (Nat.sub_le _ _), List.take_length, hlim, Option.bind_some, Bool.true_and]
        rw [d74_eq (by rw [sortI_length]; omega)]
        simp only [Option.bind_some, Option.some.injEq]
        exact decide_eq_decide.2 (sort_eq_iff h1 (hb.1.sublist (List.drop_sublist _ _)) hlen)
      · simp only [c3, decide_false, cond_false, Bool.false_and]
    · have c1 : ¬ (0 : Int) ≤ (t.length : Int) - (a.2.2.2.1.length : Int) := by omega
      simp only [c, c1, decide_false, cond_false, Bool.false_and]
  · simp only [k, if_false, show ¬ (3 : Int) = 1 by omega, show ¬ (3 : Int) = 2 by omega, decide_false, cond_false]
theorem d77_eq (n : Int) {l : List Int} (hl : l.length ≤ 281474976710656) : d77 n l = some (isTailB n l) := by
  unfold d77 isTailB
  rw [d37_eq n hl]
  by_cases c : 0 < l.length
  · have c' : (0 : Int) < (l.length : Int) := by omega
    simp [c, c']
  · have c' : ¬ (0 : Int) < (l.length : Int) := by omega
    simp only [c, c', decide_false, cond_false, Bool.and_false]
theorem d63_eq (n : Int) {a : Asn} {t : List Int} (hm : a.2.2.2.1.length ≤ 1001) (ht : t.length ≤ 1000) : d63 n a t = some (contr n a t) := by
  unfold d63 contr
  rw [d38_eq n (by omega)]
  simp only [Option.bind_some, letJ]
  cases hv : validB n a
  · simp
  rw [d77_eq n (by omega)]
  simp only [Option.bind_some, Bool.not_true, Bool.not_false, cond_true, Bool.true_and]
  cases hT : isTailB n t
  · simp
  have hT' : (decide (isB n t) && decide (0 < t.length)) = true := hT
  have hb : isB n t := by simp only [Bool.and_eq_true, decide_eq_true_eq] at hT'; exact hT'.1
  simp only [Bool.not_true, cond_false, Bool.true_and]
  rcases valid_kinds hv with k | k | k
  · simp only [k, if_true, decide_true, cond_true, d78_eq (l := t) a.2.2.1 (by omega), Option.bind_some]
    by_cases c : firstAt (fun z => decide (a.2.2.1 = z)) t < t.length
    · have c1 : (firstAt (fun z => decide (a.2.2.1 = z)) t : Int) < (t.length : Int) := by omega
      simp only [c, c1, decide_true, cond_true, cutOK_drop (Nat.le_of_lt c), Int.toNat_natCast, List.take_length, Bool.true_and]
      rw [d20_eq a.2.1 (by simp; omega)]
      rfl
    · have c1 : ¬ (firstAt (fun z => decide (a.2.2.1 = z)) t : Int) < (t.length : Int) := by omega
      simp only [c, c1, decide_false, cond_false, Bool.false_and]
  · obtain ⟨h1, h2, h3, h4⟩ := valid_next hv k
    have hpos : 0 < a.2.2.2.1.length := List.length_pos_of_mem h3
    simp only [k, if_true, if_false, show ¬ (2 : Int) = 1 by omega, decide_true, decide_false, cond_true, cond_false]
    have hw : w ((t.length : Int) - (a.2.2.2.1.length : Int)) = (t.length : Int) - (a.2.2.2.1.length : Int) := w_id (by omega) (by omega)
    rw [hw]
    by_cases c : a.2.2.2.1.length ≤ t.length
    · have e : (t.length : Int) - (a.2.2.2.1.length : Int) = ((t.length - a.2.2.2.1.length : Nat) : Int) := by omega
      have c1 : (0 : Int) ≤ ((t.length - a.2.2.2.1.length : Nat) : Int) := by omega
      have c0 : ¬ ((t.length - a.2.2.2.1.length : Nat) : Int) < 0 := by omega
      have c2 : ((t.length - a.2.2.2.1.length : Nat) : Int) < (t.length : Int) := by omega
      rw [e]
      simp only [c, c0, c1, c2, decide_true, decide_false, Bool.not_false, cond_true, Bool.and_self, Int.toNat_natCast, Bool.true_and]
      by_cases c3 : t.getD (t.length - a.2.2.2.1.length) 0 = a.2.1
      · simp only [c3, decide_true, Bool.not_true, cond_false, Bool.true_and]
        refine while_first (fun i => (t, a, ((t.length - a.2.2.2.1.length : Nat) : Int), (i : Int))) (fun i => decide (a.2.2.2.1.getD i 0 ∉ lastOf a.2.2.2.1 t)) a.2.2.2.1.length (fun _ => .inr false) (.inl ()) rfl (fun i hi => ?_) ?_ (fun i hi hp hj => ?_) (fun hall => ?_)
        · have h5 : (i : Int) < (a.2.2.2.1.length : Int) := by omega
          have h6 : (0 : Int) ≤ (i : Int) := by omega
          have hw : w ((i : Int) + 1) = ((i + 1 : Nat) : Int) := by rw [w_id (by omega) (by omega)]; omega
          have h7 : (t.drop (t.length - a.2.2.2.1.length)).length ≤ 281474976710656 := by simp; omega
          simp only [h5, h6, decide_true, cond_true, Bool.and_self, Int.toNat_natCast, hw, cutOK_drop (Nat.sub_le _ _), List.take_length, d20_eq _ h7, Option.bind_some]
          by_cases c5 : a.2.2.2.1.getD i 0 ∈ lastOf a.2.2.2.1 t
          · have c6 : a.2.2.2.1.getD i 0 ∈ t.drop (t.length - a.2.2.2.1.length) := c5
            simp only [c5, c6, decide_true, Bool.not_true, cond_false, not_true, decide_false, Bool.false_eq_true, if_false]
          · have c6 : ¬ a.2.2.2.1.getD i 0 ∈ t.drop (t.length - a.2.2.2.1.length) := c5
            simp only [c5, c6, decide_false, Bool.not_false, cond_true, not_false_eq_true, decide_true, if_true]
        · simp
        · have : ¬ ∀ c ∈ a.2.2.2.1, c ∈ lastOf a.2.2.2.1 t := fun hA => by
            have := hA (a.2.2.2.1.getD i 0) (by rw [getD_get _ _ hi]; exact List.getElem_mem hi)
            simp only [decide_eq_true_eq] at hp
            exact hp this
          simp only [this, decide_false]
        · have : ∀ c ∈ a.2.2.2.1, c ∈ lastOf a.2.2.2.1 t := fun c hc => by
            obtain ⟨i, hi, rfl⟩ := List.getElem_of_mem hc
            have := hall i hi
            rw [getD_get _ _ hi] at this
            simpa using this
          simp only [decide_eq_true this]
      · simp only [c3, decide_false, Bool.not_false, cond_true, Bool.false_and]
    · have c1 : (t.length : Int) - (a.2.2.2.1.length : Int) < 0 := by omega
      simp only [c, c1, decide_true, decide_false, Bool.not_true, cond_false, cond_true, Bool.false_and]
  · simp only [k, if_false, show ¬ (3 : Int) = 1 by omega, show ¬ (3 : Int) = 2 by omega, decide_false, cond_false]
theorem contr_longer {n : Int} {a : Asn} {t : List Int} {c : Int} (h : contr n a t = true) (hc : 0 ≤ c ∧ c < n) (hn : c ∉ t) : contr n a (c :: t) = true := by
  unfold contr at h ⊢
  simp only [Bool.and_eq_true] at h ⊢
  obtain ⟨⟨hv, hT⟩, h⟩ := h
  have hT' : isB n t ∧ 0 < t.length := by unfold isTailB at hT; simpa using hT
  refine ⟨⟨hv, ?_⟩, ?_⟩
  · unfold isTailB
    simp only [Bool.and_eq_true, decide_eq_true_eq]
    exact ⟨⟨List.nodup_cons.2 ⟨hn, hT'.1.1⟩, fun x hx => by
      rcases List.mem_cons.1 hx with rfl | hx
      · exact hc
      · exact hT'.1.2 x hx⟩, by simp⟩
  · by_cases k1 : a.1 = 1
    · simp only [k1, if_true, Bool.and_eq_true, decide_eq_true_eq] at h ⊢
      obtain ⟨h1, h2⟩ := h
      have hne : ¬ a.2.2.1 = c := fun e => by
        have := (firstAt_mem _ _).1 h1
        obtain ⟨x, hx, he⟩ := this
        simp only [decide_eq_true_eq] at he
        exact hn (by rw [← e, he]; exact hx)
      have hf : firstAt (fun z => decide (a.2.2.1 = z)) (c :: t) = firstAt (fun z => decide (a.2.2.1 = z)) t + 1 := by
        simp [firstAt, hne]
      rw [hf]
      exact ⟨by simp; omega, by simpa using h2⟩
    · by_cases k2 : a.1 = 2
      · simp only [k2, if_true, if_false, show ¬ (2 : Int) = 1 by omega, Bool.and_eq_true, decide_eq_true_eq] at h ⊢
        obtain ⟨h1, h2, h3⟩ := h
        have e : (c :: t).length - a.2.2.2.1.length = (t.length - a.2.2.2.1.length) + 1 := by simp; omega
        refine ⟨by simp; omega, by rw [e]; simpa using h2, fun x hx => ?_⟩
        unfold lastOf
        rw [e]
        exact h3 x hx
      · simp only [k1, k2, if_false] at h
        cases h
end Go.Proofs.YthlgoakkgmabaaaGreat
