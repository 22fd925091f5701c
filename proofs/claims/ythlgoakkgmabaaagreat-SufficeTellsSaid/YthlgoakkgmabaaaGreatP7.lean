/- Plain laws on piles of ballots: the order of ballots, what is added to a pile, sums over a pile. -/
import Derived.Test.YthlgoakkgmabaaaGreatP6
set_option linter.unusedSimpArgs false
set_option linter.unusedVariables false
open Go Go.Proofs Go.X
namespace Go.Proofs.YthlgoakkgmabaaaGreat
/-- A loop that counts up and leaves early at the first index where p holds; each round may lean on the rounds before. -/
theorem while_first' {α β γ : Type} {f : α → Option (α ⊕ β)} {k : β → Option γ} {a0 : α} {r : Option γ} (st : Nat → α) (p : Nat → Bool) (n : Nat) (bx : Nat → β) (e : β) (h0 : st 0 = a0)
    (hs : ∀ i, i < n → (∀ j, j < i → p j = false) → f (st i) = if p i then some (.inr (bx i)) else some (.inl (st (i + 1)))) (he : (∀ j, j < n → p j = false) → f (st n) = some (.inr e))
    (h1 : ∀ i, i < n → p i = true → (∀ j, j < i → p j = false) → k (bx i) = r) (h2 : (∀ i, i < n → p i = false) → k e = r) : (whileO f a0).bind k = r := by
  have hle := firstN_le p n
  by_cases h : firstN p n < n
  · refine while_bind (b := bx (firstN p n)) st (firstN p n) h0 (fun i hi => ?_) ?_ (h1 _ h (firstN_at p n h) (firstN_lt p n))
    · have := hs i (by omega) (fun j hj => firstN_lt p n j (by omega))
      rw [firstN_lt p n i hi] at this
      exact this
    · have := hs _ h (firstN_lt p n)
      rw [firstN_at p n h] at this
      exact this
  · have hall := (firstN_end p n).1 h
    refine while_bind (b := e) st n h0 (fun i hi => ?_) (he hall) (h2 hall)
    have := hs i hi (fun j hj => hall j (by omega))
    rw [hall i hi] at this
    exact this
/- THE ORDER OF BALLOTS -/
theorem lt_at : ∀ (i : Nat) (a b : List Int), i < a.length → i < b.length → (∀ j, j < i → a.getD j 0 = b.getD j 0) → a.getD i 0 ≠ b.getD i 0 → (a < b ↔ a.getD i 0 < b.getD i 0)
  | _, [], _, h, _, _, _ => by simp at h
  | _, _ :: _, [], _, h, _, _ => by simp at h
  | 0, x :: a, y :: b, _, _, _, hne => by
    rw [List.cons_lt_cons_iff]
    simp only [List.getD_cons_zero] at hne ⊢
    constructor
    · rintro (h | ⟨h, _⟩)
      · exact h
      · exact absurd h hne
    · exact .inl
  | i + 1, x :: a, y :: b, h1, h2, h3, hne => by
    rw [List.cons_lt_cons_iff]
    have h0 := h3 0 (by omega)
    simp only [List.getD_cons_zero] at h0
    subst h0
    simp only [List.getD_cons_succ] at hne ⊢
    have := lt_at i a b (by simp at h1; omega) (by simp at h2; omega) (fun j hj => by have := h3 (j + 1) (by omega); simpa using this) hne
    constructor
    · rintro (h | ⟨_, h⟩)
      · omega
      · exact this.1 h
    · exact fun h => .inr ⟨by first | rfl | trivial, this.2 h⟩
theorem lt_end : ∀ (a b : List Int), (∀ j, j < a.length → j < b.length → a.getD j 0 = b.getD j 0) → (a < b ↔ a.length < b.length)
  | [], [], _ => by simp
  | [], y :: b, _ => by simp
  | x :: a, [], _ => by simp
  | x :: a, y :: b, h => by
    have h0 := h 0 (by simp) (by simp)
    simp only [List.getD_cons_zero] at h0
    subst h0
    have := lt_end a b fun j h1 h2 => by have := h (j + 1) (by simp; omega) (by simp; omega); simpa using this
    rw [List.cons_lt_cons_iff]
    simp only [List.length_cons, Nat.add_lt_add_iff_right]
    rw [← this]
    constructor
    · rintro (h | ⟨_, h⟩)
      · omega
      · exact h
    · exact fun h => .inr ⟨by first | rfl | trivial, h⟩
theorem lex_tri : ∀ (a b : List Int), a < b ∨ a = b ∨ b < a
  | [], [] => .inr (.inl rfl)
  | [], y :: b => .inl (by simp)
  | x :: a, [] => .inr (.inr (by simp))
  | x :: a, y :: b => by
    simp only [List.cons_lt_cons_iff]
    rcases Int.lt_trichotomy x y with h | h | h
    · exact .inl (.inl h)
    · subst h
      rcases lex_tri a b with h | h | h
      · exact .inl (.inr ⟨rfl, h⟩)
      · subst h; exact .inr (.inl rfl)
      · exact .inr (.inr (.inr ⟨rfl, h⟩))
    · exact .inr (.inr (.inl h))
theorem lex_irrefl : ∀ (a : List Int), ¬ a < a
  | [] => by simp
  | x :: a => by
    rw [List.cons_lt_cons_iff]
    rintro (h | ⟨_, h⟩)
    · omega
    · exact lex_irrefl a h
theorem lex_trans : ∀ {a b c : List Int}, a < b → b < c → a < c
  | [], _, [], _, h => by simp at h
  | [], _, z :: c, _, _ => by simp
  | x :: a, [], _, h, _ => by simp at h
  | x :: a, y :: b, [], _, h => by simp at h
  | x :: a, y :: b, z :: c, h1, h2 => by
    rw [List.cons_lt_cons_iff] at *
    rcases h1 with h1 | ⟨h1, h3⟩
    · rcases h2 with h2 | ⟨h2, _⟩
      · exact .inl (by omega)
      · exact .inl (by omega)
    · rcases h2 with h2 | ⟨h2, h4⟩
      · exact .inl (by omega)
      · exact .inr ⟨by omega, lex_trans h3 h4⟩
theorem lex_asymm {a b : List Int} (h : a < b) : ¬ b < a := fun h' => lex_irrefl a (lex_trans h h')
theorem d28_eq {a b : List Int} (ha : a.length ≤ 281474976710656) (hb : b.length ≤ 281474976710656) : d28 a b = some (decide (a < b)) := by
  unfold d28
  refine while_first (fun i => (a, b, (i : Int))) (fun i => !decide (a.getD i 0 = b.getD i 0)) (min a.length b.length) (fun i => .inr (decide (a.getD i 0 < b.getD i 0))) (.inl (a, b)) rfl (fun i hi => ?_) ?_ (fun i hi hp hj => ?_) (fun hall => ?_)
  · have h1 : (i : Int) < (a.length : Int) := by omega
    have h2 : (i : Int) < (b.length : Int) := by omega
    have h3 : (0 : Int) ≤ (i : Int) := by omega
    have hw : w ((i : Int) + 1) = ((i + 1 : Nat) : Int) := by rw [w_id (by omega) (by omega)]; omega
    simp only [h1, h2, h3, hw, letJ, decide_true, cond_true, Bool.and_self, Int.toNat_natCast]
    by_cases c : a.getD i 0 = b.getD i 0
    · simp only [c]; rfl
    · simp only [c]; rfl
  · simp only [letJ]
    by_cases c : a.length ≤ b.length
    · have h1 : ¬ ((min a.length b.length : Nat) : Int) < (a.length : Int) := by omega
      simp only [h1, decide_false, cond_false]
    · have h1 : ((min a.length b.length : Nat) : Int) < (a.length : Int) := by omega
      have h2 : ¬ ((min a.length b.length : Nat) : Int) < (b.length : Int) := by omega
      simp only [h1, h2, decide_true, decide_false, cond_true, cond_false]
  · have hne : a.getD i 0 ≠ b.getD i 0 := by simpa using hp
    have := lt_at i a b (by omega) (by omega) (fun j hj' => by have := hj j hj'; simpa using this) hne
    simp [this]
  · have := lt_end a b fun j h1 h2 => by have := hall j (by omega); simpa using this
    have e : ((a.length : Int) < (b.length : Int)) ↔ a < b := by rw [this]; omega
    simp [e]
theorem d15_eq {a b : List Int} (ha : a.length ≤ 281474976710656) (hb : b.length ≤ 281474976710656) : d15 a b = some (decide (a = b)) := by
  unfold d15
  rw [d28_eq ha hb, d28_eq hb ha]
  simp only [Option.bind_some]
  rcases lex_tri a b with h | h | h
  · have : a ≠ b := fun e => lex_irrefl a (by rw [← e] at h; exact h)
    simp [h, this]
  · subst h
    simp [lex_irrefl a]
  · have : a ≠ b := fun e => lex_irrefl a (by rw [← e] at h; exact h)
    have h' := lex_asymm h
    simp [h, h', this]
theorem d47_eq (x y : Int) : d47 x y = some (if x < y then -1 else if y < x then 1 else 0) := by
  unfold d47 d62
  by_cases h : x < y
  · simp [h]
  · by_cases h' : y < x
    · simp [h, h']
    · simp [h, h']
def cmpL (a b : List Int) : Int := if a < b then -1 else if b < a then 1 else 0
theorem d26_eq {a b : List Int} (ha : a.length ≤ 281474976710656) (hb : b.length ≤ 281474976710656) : d26 a b = some (cmpL a b) := by
  unfold d26 cmpL
  refine while_first (fun i => (a, b, a, (a.length : Int), (i : Int))) (fun i => decide (b.length ≤ i) || !decide (a.getD i 0 = b.getD i 0)) a.length (fun i => .inr (if b.length ≤ i then 1 else if a.getD i 0 < b.getD i 0 then -1 else 1)) (.inl (a, b)) rfl (fun i hi => ?_) ?_ (fun i hi hp hj => ?_) (fun hall => ?_)
  · have h1 : (i : Int) < (a.length : Int) := by omega
    have h3 : (0 : Int) ≤ (i : Int) := by omega
    have hw : w ((i : Int) + 1) = ((i + 1 : Nat) : Int) := by rw [w_id (by omega) (by omega)]; omega
    simp only [h1, h3, hw, decide_true, cond_true, Bool.and_self, Int.toNat_natCast, d47_eq, Option.bind_some]
    by_cases c0 : b.length ≤ i
    · have h2 : (b.length : Int) ≤ (i : Int) := by omega
      simp [h2, c0]
    · have h2 : ¬ (b.length : Int) ≤ (i : Int) := by omega
      have h4 : (i : Int) < (b.length : Int) := by omega
      simp only [h2, h4, c0, decide_true, decide_false, cond_true, cond_false, if_false, Bool.false_or]
      rcases Int.lt_trichotomy (a.getD i 0) (b.getD i 0) with h | h | h
      · have h5 : ¬ a.getD i 0 = b.getD i 0 := by omega
        simp only [h, h5, if_true]; rfl
      · have h5 : ¬ a.getD i 0 < b.getD i 0 := by omega
        have h6 : ¬ b.getD i 0 < a.getD i 0 := by omega
        simp only [h, if_false]; simp
      · have h5 : ¬ a.getD i 0 = b.getD i 0 := by omega
        have h6 : ¬ a.getD i 0 < b.getD i 0 := by omega
        simp only [h, h5, h6, if_true, if_false]; rfl
  · simp
  · simp only [Option.some.injEq]
    by_cases c0 : b.length ≤ i
    · have h1 := lt_end b a fun j h1 h2 => by
        have := hj j (by omega)
        simp only [Bool.or_eq_false_iff, decide_eq_false_iff_not, Bool.not_eq_false', decide_eq_true_eq] at this
        exact this.2.symm
      have h2 : b < a := h1.2 (by omega)
      simp [c0, h2, lex_asymm h2]
    · have heq : ∀ j, j < i → a.getD j 0 = b.getD j 0 := fun j hj' => by
        have := hj j hj'
        simp only [Bool.or_eq_false_iff, decide_eq_false_iff_not, Bool.not_eq_false', decide_eq_true_eq] at this
        exact this.2
      have hne : a.getD i 0 ≠ b.getD i 0 := by simpa [c0] using hp
      have h1 := lt_at i a b hi (by omega) heq hne
      have h2 := lt_at i b a (by omega) hi (fun j hj' => (heq j hj').symm) (Ne.symm hne)
      simp only [c0, if_false, h1, h2]
      by_cases c : a.getD i 0 < b.getD i 0
      · simp only [c, if_true]
      · have : b.getD i 0 < a.getD i 0 := by omega
        simp only [c, this, if_true, if_false]
  · have key : ∀ j, j < a.length → j < b.length ∧ a.getD j 0 = b.getD j 0 := fun j h1 => by
      have := hall j h1
      simp only [Bool.or_eq_false_iff, decide_eq_false_iff_not, Bool.not_eq_false', decide_eq_true_eq] at this
      omega
    have h1 := lt_end a b fun j h1 h2 => (key j h1).2
    have h2 := lt_end b a fun j h1 h2 => (key j h2).2.symm
    have h3 : a.length ≤ b.length := by
      rcases Nat.eq_zero_or_pos a.length with h | h
      · omega
      · have := (key (a.length - 1) (by omega)).1; omega
    have h4 : ¬ b < a := by rw [h2]; omega
    simp only [h4, if_false]
    by_cases c : a < b
    · have : (a.length : Int) < (b.length : Int) := by have := h1.1 c; omega
      simp [c, this]
    · have : ¬ (a.length : Int) < (b.length : Int) := by rw [h1] at c; omega
      simp [c, this]
/- WHAT IS ADDED TO A PILE -/
abbrev Grp := List Int × Int
def addG : List Grp → List Int → Int → List Grp
  | [], p, k => [(p, k)]
  | g :: gs, p, k => if g.1 < p then g :: addG gs p k else if g.1 = p then (g.1, g.2 + k) :: gs else (p, k) :: g :: gs
def allLt (gs : List Grp) (p : List Int) : Bool := gs.all fun g => decide (g.1 < p)
theorem addG_app : ∀ (gs : List Grp) (g : Grp) (p : List Int) (k : Int), addG (gs ++ [g]) p k = if allLt gs p then gs ++ addG [g] p k else addG gs p k ++ [g]
  | [], g, p, k => by simp [allLt]
  | h :: gs, g, p, k => by
    have ih := addG_app gs g p k
    unfold allLt at ih ⊢
    rw [List.cons_append]
    unfold addG
    by_cases c : h.1 < p
    · simp only [c, if_true, ih, List.all_cons, decide_true, Bool.true_and]
      by_cases c2 : (gs.all fun g => decide (g.1 < p)) = true
      · rw [if_pos c2, if_pos c2]
        simp [addG]
      · rw [if_neg c2, if_neg c2]
        simp
    · by_cases c2 : h.1 = p
      · have : ¬ h.1 < h.1 := lex_irrefl _
        subst c2
        simp [this]
      · simp [c, c2]
theorem addG_all {gs : List Grp} {p : List Int} (k : Int) (h : allLt gs p = true) : addG gs p k = gs ++ [(p, k)] := by
  induction gs with
  | nil => rfl
  | cons g gs ih =>
    unfold allLt at h ih
    simp only [List.all_cons, Bool.and_eq_true, decide_eq_true_eq] at h
    unfold addG
    simp only [h.1, if_true, ih h.2, List.cons_append]
theorem take_get {α : Type} (l : List α) (d : α) {i : Nat} (h : i < l.length) : l.take (i + 1) = l.take i ++ [l.getD i d] := by
  rw [List.take_add_one, List.getElem?_eq_getElem h, getD_get l d h]
  rfl
theorem addG_len : ∀ (gs : List Grp) (p : List Int) (k : Int), (addG gs p k).length ≤ gs.length + 1
  | [], p, k => by simp [addG]
  | g :: gs, p, k => by
    have := addG_len gs p k
    unfold addG
    split
    · simp; omega
    · split <;> simp
theorem d44_eq {gs : List Grp} {p : List Int} {k : Int} (hl : gs.length ≤ 1000000) (hp : p.length ≤ 281474976710656) (hk : 0 ≤ k ∧ k ≤ 1000000) (hg : ∀ g ∈ gs, g.1.length ≤ 281474976710656 ∧ 0 ≤ g.2 ∧ g.2 ≤ 1000000) : d44 gs p k = some (addG gs p k) := by
  unfold d44
  refine while_bind (b := (p, k, (if allLt gs p then gs else addG gs p k), !allLt gs p)) (fun i => (gs, p, k, (if allLt (gs.take i) p then gs.take i else addG (gs.take i) p k), !allLt (gs.take i) p, (i : Int))) gs.length rfl (fun i hi => ?_) ?_ ?_
  · have h1 : (i : Int) < (gs.length : Int) := by omega
    have h3 : (0 : Int) ≤ (i : Int) := by omega
    have hw : w ((i : Int) + 1) = ((i + 1 : Nat) : Int) := by rw [w_id (by omega) (by omega)]; omega
    have hm : gs.getD i ([], 0) ∈ gs := by rw [getD_get gs _ hi]; exact List.getElem_mem _
    obtain ⟨g1, g2, g3⟩ := hg _ hm
    have ht := take_get gs ([], 0) hi
    have hw2 : w ((gs.getD i ([], 0)).2 + k) = (gs.getD i ([], 0)).2 + k := w_id (by omega) (by omega)
    simp only [h1, h3, hw, letJ, decide_true, cond_true, Bool.and_self, Int.toNat_natCast]
    generalize gs.getD i ([], 0) = g at *
    have hl1 : (gs.take i).length ≤ 1000000 := by simp; omega
    have hl2 := addG_len (gs.take i) p k
    have hlim : ∀ (l : List Grp) (z : Grp), l.length ≤ 1000002 → ((l.length : Int) + (([z] : List Grp).length : Int) ≤ LIM) := fun l z h => by rw [LIM_eq]; simp; omega
    have happ := addG_app (gs.take i) g p k
    have hall : allLt (gs.take i ++ [g]) p = (allLt (gs.take i) p && decide (g.1 < p)) := by simp [allLt]
    rw [ht, hall, happ]
    generalize gs.take i = T at *
    have e1 : ∀ z, ((T.length : Int) + (([z] : List Grp).length : Int) ≤ LIM) := fun z => hlim T z (by omega)
    have e2 : ∀ z, (((addG T p k).length : Int) + (([z] : List Grp).length : Int) ≤ LIM) := fun z => hlim _ z (by omega)
    have e3 : ∀ z z', (((T ++ [z']).length : Int) + (([z] : List Grp).length : Int) ≤ LIM) := fun z z' => hlim _ z (by simp; omega)
    simp only [d28_eq g1 hp, d15_eq g1 hp, Option.bind_some, hw2]
    cases hT : allLt T p
    · simp only [Bool.false_eq_true, if_false, e2, Bool.not_false, Bool.not_true, cond_false, Bool.false_and, decide_true, cond_true]
    · simp only [Bool.not_true, Bool.not_false, cond_true, Bool.true_and, if_true]
      by_cases c : g.1 < p
      · simp only [c, e1, decide_true, Bool.not_true, cond_false, cond_true, if_true]
      · by_cases c2 : g.1 = p
        · subst c2
          simp only [c, e1, decide_true, decide_false, Bool.not_false, cond_true, addG, if_true, if_false]
          simp
        · simp only [c, c2, e1, e3, decide_true, decide_false, Bool.not_false, cond_true, cond_false, addG, if_false]
          simp
  · have h1 : ¬ ((gs.length : Int) < (gs.length : Int)) := by omega
    simp only [h1, decide_false, cond_false, List.take_length]
  · cases hT : allLt gs p
    · simp [letJ]
    · have hlim : ((gs.length : Int) + (([(p, k)] : List Grp).length : Int) ≤ LIM) := by rw [LIM_eq]; simp; omega
      simp only [Bool.not_true, Bool.not_false, cond_true, letJ, if_true, hlim, decide_true, addG_all k hT]
/- SUMS OVER A PILE -/
def wsum (f : List Int → Int) : List Grp → Int
  | [] => 0
  | g :: gs => g.2 * f g.1 + wsum f gs
theorem wsum_app (f : List Int → Int) : ∀ (a b : List Grp), wsum f (a ++ b) = wsum f a + wsum f b
  | [], b => by simp [wsum]
  | g :: a, b => by
    have := wsum_app f a b
    simp only [List.cons_append, wsum, this]
    omega
theorem wsum_addG (f : List Int → Int) : ∀ (gs : List Grp) (p : List Int) (k : Int), wsum f (addG gs p k) = wsum f gs + k * f p
  | [], p, k => by simp [addG, wsum]
  | g :: gs, p, k => by
    have ih := wsum_addG f gs p k
    unfold addG
    split
    · simp only [wsum, ih]; omega
    · split
      · rename_i h
        simp only [wsum, h, Int.add_mul]; omega
      · simp only [wsum]; omega
theorem addG_mem : ∀ {gs : List Grp} {p : List Int} {k : Int} {g : Grp}, g ∈ addG gs p k → (g.1 = p ∧ (g.2 = k ∨ ∃ h ∈ gs, h.1 = p ∧ g.2 = h.2 + k)) ∨ g ∈ gs
  | [], p, k, g, h => by
    simp [addG] at h
    exact .inl ⟨by rw [h], .inl (by rw [h])⟩
  | a :: gs, p, k, g, h => by
    unfold addG at h
    split at h
    · rcases List.mem_cons.1 h with h | h
      · exact .inr (by simp [h])
      · rcases addG_mem h with ⟨h1, h2⟩ | h1
        · refine .inl ⟨h1, h2.imp id fun ⟨x, h3, h4⟩ => ⟨x, List.mem_cons_of_mem _ h3, h4⟩⟩
        · exact .inr (List.mem_cons_of_mem _ h1)
    · split at h
      · rename_i hp
        rcases List.mem_cons.1 h with h | h
        · exact .inl ⟨by rw [h]; exact hp, .inr ⟨a, by simp, hp, by rw [h]⟩⟩
        · exact .inr (List.mem_cons_of_mem _ h)
      · rcases List.mem_cons.1 h with h | h
        · exact .inl ⟨by rw [h], .inl (by rw [h])⟩
        · exact .inr h
def sortedG (gs : List Grp) : Prop := gs.Pairwise fun g h => g.1 < h.1
theorem addG_sorted : ∀ {gs : List Grp} (p : List Int) (k : Int), sortedG gs → sortedG (addG gs p k)
  | [], p, k, _ => by simp [addG, sortedG]
  | a :: gs, p, k, h => by
    unfold sortedG at h
    rw [List.pairwise_cons] at h
    unfold addG
    split
    · rename_i hlt
      refine List.pairwise_cons.2 ⟨fun g hg => ?_, addG_sorted p k h.2⟩
      rcases addG_mem hg with ⟨h1, _⟩ | h1
      · rw [h1]; exact hlt
      · exact h.1 g h1
    · rename_i hlt
      split
      · exact List.pairwise_cons.2 ⟨fun g hg => h.1 g hg, h.2⟩
      · rename_i hne
        have hp : p < a.1 := by
          rcases lex_tri a.1 p with h | h | h
          · exact absurd h hlt
          · exact absurd h hne
          · exact h
        refine List.pairwise_cons.2 ⟨fun g hg => ?_, List.pairwise_cons.2 h⟩
        rcases List.mem_cons.1 hg with rfl | hg
        · exact hp
        · exact lex_trans hp (h.1 g hg)
/-- What a pile of N ballots is. -/
structure PileOK (n : Int) (gs : List Grp) (N : Int) : Prop where
  ballots : ∀ g ∈ gs, isB n g.1 ∧ 1 ≤ g.2
  sorted : sortedG gs
  total : wsum (fun _ => 1) gs = N
  most : N ≤ 100000
theorem wsum_pos {n : Int} : ∀ {gs : List Grp}, (∀ g ∈ gs, isB n g.1 ∧ 1 ≤ g.2) → ∀ {f : List Int → Int}, (∀ p, 0 ≤ f p ∧ f p ≤ 1) → 0 ≤ wsum f gs ∧ wsum f gs ≤ wsum (fun _ => 1) gs
  | [], _, f, _ => by simp [wsum]
  | g :: gs, h, f, hf => by
    have ih := wsum_pos (gs := gs) (fun x hx => h x (List.mem_cons_of_mem _ hx)) hf
    have h1 := (h g (by simp)).2
    have h2 := hf g.1
    have h3 : 0 ≤ g.2 * f g.1 := Int.mul_nonneg (by omega) h2.1
    have h4 : g.2 * f g.1 ≤ g.2 * 1 := Int.mul_le_mul_of_nonneg_left h2.2 (by omega)
    simp only [wsum]
    omega
theorem pile_cnt {n : Int} : ∀ {gs : List Grp}, (∀ g ∈ gs, isB n g.1 ∧ 1 ≤ g.2) → ∀ g ∈ gs, g.2 ≤ wsum (fun _ => 1) gs
  | [], _, g, hg => by cases hg
  | a :: gs, h, g, hg => by
    have h0 := (wsum_pos (n := n) (gs := gs) (fun x hx => h x (List.mem_cons_of_mem _ hx)) (f := fun _ => 1) (fun _ => by omega)).1
    have h1 := (h a (by simp)).2
    simp only [wsum]
    rcases List.mem_cons.1 hg with rfl | hg
    · omega
    · have := pile_cnt (n := n) (gs := gs) (fun x hx => h x (List.mem_cons_of_mem _ hx)) g hg
      omega
theorem pile_len {n : Int} : ∀ {gs : List Grp}, (∀ g ∈ gs, isB n g.1 ∧ 1 ≤ g.2) → (gs.length : Int) ≤ wsum (fun _ => 1) gs
  | [], _ => by simp [wsum]
  | a :: gs, h => by
    have h1 := (h a (by simp)).2
    have := pile_len (n := n) (gs := gs) (fun x hx => h x (List.mem_cons_of_mem _ hx))
    simp only [wsum, List.length_cons]
    omega
theorem nodup_len : ∀ (n : Nat) (l : List Int), l.Nodup → (∀ x ∈ l, 0 ≤ x ∧ x < (n : Int)) → l.length ≤ n
  | 0, l, _, h => by
    cases l with
    | nil => simp
    | cons x l => have := h x (by simp); omega
  | n + 1, l, hd, h => by
    by_cases hm : (n : Int) ∈ l
    · have h1 := nodup_len n (l.erase (n : Int)) (hd.erase _) fun x hx => by
        have h2 := (hd.mem_erase_iff).1 hx
        have := h x h2.2
        have := h2.1
        omega
      rw [List.length_erase_of_mem hm] at h1
      omega
    · have := nodup_len n l hd fun x hx => by
        have h1 := h x hx
        have : x ≠ (n : Int) := fun e => hm (e ▸ hx)
        omega
      omega
theorem isB_len {n : Int} {l : List Int} (h : isB n l) (hn : n ≤ 7) : l.length ≤ 7 := nodup_len 7 l h.1 fun x hx => by have := h.2 x hx; omega
theorem PileOK.add {n : Int} {gs : List Grp} {N : Int} (h : PileOK n gs N) {p : List Int} (hp : isB n p) (hN : N + 1 ≤ 100000) : PileOK n (addG gs p 1) (N + 1) where
  ballots := fun g hg => by
    rcases addG_mem hg with ⟨h1, h2⟩ | h1
    · refine ⟨by rw [h1]; exact hp, ?_⟩
      rcases h2 with h2 | ⟨x, hx, _, h2⟩
      · omega
      · have := (h.ballots x hx).2; omega
    · exact h.ballots g h1
  sorted := addG_sorted _ _ h.sorted
  total := by rw [wsum_addG, h.total]; omega
  most := hN
theorem PileOK.nil (n : Int) : PileOK n [] 0 := ⟨fun _ hg => absurd hg (by simp), List.Pairwise.nil, rfl, by omega⟩
theorem PileOK.d44 {n : Int} {gs : List Grp} {N : Int} (h : PileOK n gs N) (hn : n ≤ 7) {p : List Int} (hp : isB n p) : d44 gs p 1 = some (addG gs p 1) := by
  have h1 := pile_len h.ballots
  have h2 := h.total
  have h3 := h.most
  refine d44_eq (by omega) (by have := isB_len hp hn; omega) (by omega) fun g hg => ?_
  have h4 := pile_cnt h.ballots g hg
  have h5 := h.ballots g hg
  have := isB_len h5.1 hn
  omega
end Go.Proofs.YthlgoakkgmabaaaGreat
