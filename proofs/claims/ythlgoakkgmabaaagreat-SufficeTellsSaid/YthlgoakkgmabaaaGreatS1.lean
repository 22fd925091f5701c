/- Complete orders that no assertion contradicts: found from the end, and found from the beginning; the first of them. -/
import Derived.Test.YthlgoakkgmabaaaGreatP20
set_option linter.unusedSimpArgs false
set_option linter.unusedVariables false
open Go Go.Proofs Go.X
namespace Go.Proofs.YthlgoakkgmabaaaGreat
def cands (n : Nat) : List Int := (List.range n).map fun (i : Nat) => (i : Int)
theorem mem_cands {n : Nat} {c : Int} : c ∈ cands n ↔ 0 ≤ c ∧ c < (n : Int) := by
  unfold cands
  constructor
  · intro h
    obtain ⟨i, h1, rfl⟩ := List.mem_map.1 h
    have := List.mem_range.1 h1
    omega
  · intro h
    exact List.mem_map.2 ⟨c.toNat, List.mem_range.2 (by omega), by omega⟩
/-- A complete order none of whose tails from length m on is contradicted. -/
def FullO (n : Nat) (C : List Int → Bool) (o : List Int) : Prop := isB n o ∧ o.length = n ∧ ∀ j, j < n → C (o.drop j) = false
/-- The complete orders that end with the tail (k: enough). -/
def ordersT (n : Nat) (C : List Int → Bool) : Nat → List Int → List (List Int)
  | 0, _ => []
  | k + 1, t => if C t then [] else if t.length = n then [t] else (cands n).flatMap fun c => if c ∈ t then [] else ordersT n C k (c :: t)
theorem ordersT_succ (n : Nat) (C : List Int → Bool) (k : Nat) (t : List Int) : ordersT n C (k + 1) t = if C t then [] else if t.length = n then [t] else (cands n).flatMap fun c => if c ∈ t then [] else ordersT n C k (c :: t) := rfl
theorem ordersT_suf {n : Nat} {C : List Int → Bool} : ∀ {k : Nat} {t o : List Int}, o ∈ ordersT n C k t → ∃ s, o = s ++ t
  | 0, t, o, h => by simp [ordersT] at h
  | k + 1, t, o, h => by
    unfold ordersT at h
    split at h
    · simp at h
    · split at h
      · simp only [List.mem_singleton] at h; exact ⟨[], by simp [h]⟩
      · obtain ⟨c, h1, h2⟩ := List.mem_flatMap.1 h
        split at h2
        · simp at h2
        · obtain ⟨s, rfl⟩ := ordersT_suf h2
          exact ⟨s ++ [c], by simp⟩
theorem ordersT_mem {n : Nat} {C : List Int → Bool} : ∀ {k : Nat} {t o : List Int}, isB n t → n < k + t.length → (o ∈ ordersT n C k t ↔ isB n o ∧ o.length = n ∧ (∃ s, o = s ++ t) ∧ ∀ j, j ≤ n - t.length → C (o.drop j) = false)
  | 0, t, o, ht, hk => by
    have := nodup_len n t ht.1 ht.2
    omega
  | k + 1, t, o, ht, hk => by
    have htl := nodup_len n t ht.1 ht.2
    unfold ordersT
    by_cases hC : C t = true
    · rw [if_pos hC]
      constructor
      · intro h; simp at h
      · rintro ⟨h1, h2, ⟨s, rfl⟩, h4⟩
        have hs : s.length = n - t.length := by rw [List.length_append] at h2; omega
        have := h4 s.length (by omega)
        rw [List.drop_append_of_le_length (Nat.le_refl _), List.drop_length, List.nil_append, hC] at this
        cases this
    · rw [if_neg hC]
      by_cases hl : t.length = n
      · rw [if_pos hl]
        simp only [List.mem_singleton]
        constructor
        · rintro rfl
          refine ⟨ht, hl, ⟨[], rfl⟩, fun j hj => ?_⟩
          have : j = 0 := by omega
          subst this
          simpa using hC
        · rintro ⟨h1, h2, ⟨s, rfl⟩, h4⟩
          have : s = [] := List.eq_nil_of_length_eq_zero (by rw [List.length_append] at h2; omega)
          simp [this]
      · rw [if_neg hl]
        rw [List.mem_flatMap]
        constructor
        · rintro ⟨c, h1, h2⟩
          split at h2
          · simp at h2
          · rename_i hc
            have hct : isB n (c :: t) := ⟨List.nodup_cons.2 ⟨hc, ht.1⟩, fun x hx => by
              rcases List.mem_cons.1 hx with rfl | hx
              · exact mem_cands.1 h1
              · exact ht.2 x hx⟩
            obtain ⟨h3, h4, ⟨s, rfl⟩, h6⟩ := (ordersT_mem hct (by simp; omega)).1 h2
            refine ⟨h3, h4, ⟨s ++ [c], by simp⟩, fun j hj => ?_⟩
            rcases Nat.lt_or_ge j (n - t.length) with hlt | hge
            · exact h6 j (by simp only [List.length_cons]; omega)
            · have hj' : j = n - t.length := by omega
              have hs : (s ++ [c]).length = n - t.length := by rw [List.length_append, List.length_cons] at h4; simp; omega
              have e : s ++ c :: t = (s ++ [c]) ++ t := by simp
              rw [e, hj', ← hs, List.drop_append_of_le_length (Nat.le_refl _), List.drop_length, List.nil_append]
              simpa using hC
        · rintro ⟨h1, h2, ⟨s, rfl⟩, h4⟩
          have hs : s.length = n - t.length := by rw [List.length_append] at h2; omega
          have hne : s ≠ [] := fun e => by rw [e] at hs; simp at hs; omega
          obtain ⟨s', c, rfl⟩ : ∃ s' c, s = s' ++ [c] := ⟨s.dropLast, s.getLast hne, (List.dropLast_concat_getLast hne).symm⟩
          have hcm : c ∈ (s' ++ [c]) ++ t := by simp
          have hct : c ∉ t := fun hm => (List.nodup_append.1 h1.1).2.2 c (by simp) c hm rfl
          refine ⟨c, mem_cands.2 (h1.2 c hcm), ?_⟩
          rw [if_neg hct]
          have hctB : isB n (c :: t) := ⟨List.nodup_cons.2 ⟨hct, ht.1⟩, fun x hx => by
            rcases List.mem_cons.1 hx with rfl | hx
            · exact h1.2 _ hcm
            · exact ht.2 x hx⟩
          refine (ordersT_mem hctB (by simp; omega)).2 ⟨h1, h2, ⟨s', by simp⟩, fun j hj => h4 j ?_⟩
          simp only [List.length_cons] at hj
          omega
/-- The first in order. -/
def least2 (b : Option (List Int)) (o : List Int) : Option (List Int) :=
  match b with
  | none => some o
  | some f => if o < f then some o else some f
def bestO (b : Option (List Int)) (L : List (List Int)) : Option (List Int) := L.foldl least2 b
theorem bestO_app (b : Option (List Int)) (L M : List (List Int)) : bestO b (L ++ M) = bestO (bestO b L) M := List.foldl_append
theorem bestO_snoc (b : Option (List Int)) (L : List (List Int)) (o : List Int) : bestO b (L ++ [o]) = least2 (bestO b L) o := by rw [bestO_app]; rfl
theorem bestO_some : ∀ (L : List (List Int)) (f : List Int), ∃ o, bestO (some f) L = some o ∧ (o = f ∨ o ∈ L) ∧ ¬ f < o ∧ ∀ x ∈ L, ¬ x < o
  | [], f => ⟨f, rfl, .inl rfl, lex_irrefl f, fun _ h => absurd h (by simp)⟩
  | x :: L, f => by
    show ∃ o, bestO (least2 (some f) x) L = some o ∧ _
    unfold least2
    by_cases h : x < f
    · simp only [h, if_true]
      obtain ⟨o, h1, h2, h3, h4⟩ := bestO_some L x
      refine ⟨o, h1, ?_, fun hf => h3 (lex_trans h hf), fun y hy => ?_⟩
      · rcases h2 with rfl | h2
        · exact .inr (by simp)
        · exact .inr (List.mem_cons_of_mem _ h2)
      · rcases List.mem_cons.1 hy with rfl | hy
        · exact h3
        · exact h4 y hy
    · simp only [h, if_false]
      obtain ⟨o, h1, h2, h3, h4⟩ := bestO_some L f
      refine ⟨o, h1, h2.imp id (List.mem_cons_of_mem _), h3, fun y hy => ?_⟩
      rcases List.mem_cons.1 hy with rfl | hy
      · intro hyo
        rcases lex_tri f o with h5 | h5 | h5
        · exact h3 h5
        · rw [h5] at h; exact h hyo
        · exact h (lex_trans hyo h5)
      · exact h4 y hy
theorem bestO_spec (L : List (List Int)) : match bestO none L with
    | none => L = []
    | some o => o ∈ L ∧ ∀ x ∈ L, ¬ x < o := by
  cases L with
  | nil => rfl
  | cons x L =>
    show match bestO (some x) L with | none => x :: L = [] | some o => _
    obtain ⟨o, h1, h2, h3, h4⟩ := bestO_some L x
    rw [h1]
    refine ⟨?_, fun y hy => ?_⟩
    · rcases h2 with rfl | h2
      · exact List.mem_cons_self
      · exact List.mem_cons_of_mem _ h2
    · rcases List.mem_cons.1 hy with rfl | hy
      · exact h3
      · exact h4 y hy
/-- All orders with another winner, in the order in which they come. -/
def othersT (n : Nat) (C : List Int → Bool) (w : Int) (l : List Int) : List (List Int) := l.flatMap fun c => if c = w then [] else ordersT n C (n + 1) [c]
def witP (n : Nat) (C : List Int → Bool) (w : Int) : Option (List Int) := bestO none (othersT n C w (cands n))
/-- The orders with another winner. -/
def Others (n : Nat) (C : List Int → Bool) (w : Int) (o : List Int) : Prop := isB n o ∧ o.length = n ∧ o.getD (n - 1) 0 ≠ w ∧ ∀ j, j < n → C (o.drop j) = false
theorem others_mem {n : Nat} (hn : 1 ≤ n) {C : List Int → Bool} {w : Int} {o : List Int} : o ∈ othersT n C w (cands n) ↔ Others n C w o := by
  unfold othersT Others
  rw [List.mem_flatMap]
  constructor
  · rintro ⟨c, h1, h2⟩
    split at h2
    · simp at h2
    · rename_i hc
      have hcb : isB n [c] := ⟨by simp, fun x hx => by rw [List.mem_singleton.1 hx]; exact mem_cands.1 h1⟩
      obtain ⟨h3, h4, ⟨s, rfl⟩, h6⟩ := (ordersT_mem hcb (by simp; omega)).1 h2
      refine ⟨h3, h4, ?_, fun j hj => h6 j (by simp; omega)⟩
      rw [List.length_append, List.length_singleton] at h4
      have hs : s.length = n - 1 := by omega
      rw [← hs, List.getD_eq_getElem?_getD, List.getElem?_append_right (Nat.le_refl _)]
      simpa using hc
  · rintro ⟨h1, h2, h3, h4⟩
    have hne : o ≠ [] := fun e => by rw [e] at h2; simp at h2; omega
    obtain ⟨s, c, rfl⟩ : ∃ s c, o = s ++ [c] := ⟨o.dropLast, o.getLast hne, (List.dropLast_concat_getLast hne).symm⟩
    have hs : s.length = n - 1 := by rw [List.length_append, List.length_singleton] at h2; omega
    rw [← hs, List.getD_eq_getElem?_getD, List.getElem?_append_right (Nat.le_refl _)] at h3
    have hc : c ≠ w := by simpa using h3
    have hcm := h1.2 c (by simp)
    refine ⟨c, mem_cands.2 hcm, ?_⟩
    rw [if_neg hc]
    have hcb : isB n [c] := ⟨by simp, fun x hx => by rw [List.mem_singleton.1 hx]; exact hcm⟩
    exact (ordersT_mem hcb (by simp; omega)).2 ⟨h1, h2, ⟨s, rfl⟩, fun j hj => h4 j (by simp at hj; omega)⟩
theorem witP_spec {n : Nat} (hn : 1 ≤ n) (C : List Int → Bool) (w : Int) : match witP n C w with
    | none => ∀ o, ¬ Others n C w o
    | some o => Others n C w o ∧ ∀ x, Others n C w x → ¬ x < o := by
  have h := bestO_spec (othersT n C w (cands n))
  unfold witP
  cases hb : bestO none (othersT n C w (cands n)) with
  | none =>
    rw [hb] at h
    intro o ho
    have := (others_mem hn).2 ho
    rw [h] at this
    simp at this
  | some o =>
    rw [hb] at h
    exact ⟨(others_mem hn).1 h.1, fun x hx => h.2 x ((others_mem hn).2 hx)⟩
/- FROM THE BEGINNING -/
def okO (n : Nat) (C : List Int → Bool) (w : Int) (o : List Int) : Bool := !decide (o.getD (n - 1) 0 = w) && (List.range n).all fun j => !C (o.drop j)
/-- Goes through the candidates; the first that leads to an order. -/
def firstS {α β : Type} (f : α → Option β) : List α → Option β
  | [] => none
  | x :: l => match f x with
    | some y => some y
    | none => firstS f l
def extO (n : Nat) (C : List Int → Bool) (w : Int) : Nat → List Int → Option (List Int)
  | 0, _ => none
  | k + 1, b => if b.length = n then (if okO n C w b then some b else none) else firstS (fun c => if c ∈ b then none else extO n C w k (b ++ [c])) (cands n)
theorem firstS_none {α β : Type} {f : α → Option β} : ∀ {l : List α}, firstS f l = none → ∀ x ∈ l, f x = none
  | [], _, x, hx => absurd hx (by simp)
  | y :: l, h, x, hx => by
    unfold firstS at h
    cases hy : f y with
    | some z => rw [hy] at h; cases h
    | none =>
      rw [hy] at h
      rcases List.mem_cons.1 hx with rfl | hx
      · exact hy
      · exact firstS_none h x hx
theorem firstS_some {α β : Type} {f : α → Option β} : ∀ {l : List α} {y : β}, firstS f l = some y → ∃ a x b, l = a ++ x :: b ∧ f x = some y ∧ ∀ z ∈ a, f z = none
  | [], y, h => by cases h
  | x :: l, y, h => by
    unfold firstS at h
    cases hx : f x with
    | some z =>
      rw [hx] at h
      cases h
      exact ⟨[], x, l, rfl, hx, fun _ h => absurd h (by simp)⟩
    | none =>
      rw [hx] at h
      obtain ⟨a, u, b, h1, h2, h3⟩ := firstS_some h
      refine ⟨x :: a, u, b, by simp [h1], h2, fun z hz => ?_⟩
      rcases List.mem_cons.1 hz with rfl | hz
      · exact hx
      · exact h3 z hz
theorem okO_iff {n : Nat} {C : List Int → Bool} {w : Int} {o : List Int} (h : isB n o) (hl : o.length = n) : okO n C w o = true ↔ Others n C w o := by
  unfold okO Others
  simp only [Bool.and_eq_true, Bool.not_eq_true', decide_eq_false_iff_not, List.all_eq_true, List.mem_range]
  exact ⟨fun ⟨h1, h2⟩ => ⟨h, hl, h1, h2⟩, fun ⟨_, _, h1, h2⟩ => ⟨h1, h2⟩⟩
theorem lt_pre : ∀ (b : List Int) {c d : Int} {s t : List Int}, c < d → b ++ c :: s < b ++ d :: t
  | [], c, d, s, t, h => List.Lex.rel h
  | x :: b, c, d, s, t, h => List.Lex.cons (lt_pre b h)
theorem cands_split {n : Nat} {a b : List Int} {c d : Int} (h : cands n = a ++ c :: b) (hd : 0 ≤ d ∧ d < c) : d ∈ a := by
  have hs : (cands n).Pairwise (· < ·) := by
    unfold cands
    rw [List.pairwise_map]
    exact List.pairwise_lt_range.imp fun h => by omega
  have hc : c ∈ cands n := by rw [h]; simp
  have hdm : d ∈ cands n := mem_cands.2 ⟨hd.1, by have := mem_cands.1 hc; omega⟩
  rw [h] at hs hdm
  rcases List.mem_append.1 hdm with h1 | h1
  · exact h1
  · exfalso
    rcases List.mem_cons.1 h1 with h2 | h2
    · omega
    · have := (List.pairwise_cons.1 (List.pairwise_append.1 hs).2.1).1 d h2
      omega
theorem extO_spec {n : Nat} {C : List Int → Bool} {w : Int} : ∀ (k : Nat) (b : List Int), isB n b → n < k + b.length → match extO n C w k b with
    | none => ∀ s, ¬ Others n C w (b ++ s)
    | some o => Others n C w o ∧ (∃ s, o = b ++ s) ∧ ∀ s, Others n C w (b ++ s) → ¬ b ++ s < o
  | 0, b, hb, hk => by
    have := nodup_len n b hb.1 hb.2
    omega
  | k + 1, b, hb, hk => by
    have hbl := nodup_len n b hb.1 hb.2
    unfold extO
    by_cases hl : b.length = n
    · rw [if_pos hl]
      have hs : ∀ s, Others n C w (b ++ s) → s = [] := fun s h => List.eq_nil_of_length_eq_zero (by have := h.2.1; rw [List.length_append] at this; omega)
      by_cases ho : okO n C w b = true
      · rw [if_pos ho]
        refine ⟨(okO_iff hb hl).1 ho, ⟨[], by simp⟩, fun s h => ?_⟩
        rw [hs s h, List.append_nil]
        exact lex_irrefl b
      · rw [if_neg ho]
        intro s h
        rw [hs s h, List.append_nil] at h
        exact ho ((okO_iff hb hl).2 h)
    · rw [if_neg hl]
      have hext : ∀ c, c ∈ cands n → c ∉ b → isB n (b ++ [c]) := fun c hc hcb => ⟨List.nodup_append.2 ⟨hb.1, by simp, fun x hx y hy e => by rw [List.mem_singleton.1 hy] at e; rw [e] at hx; exact hcb hx⟩, fun x hx => by
        rcases List.mem_append.1 hx with h | h
        · exact hb.2 x h
        · rw [List.mem_singleton.1 h]; exact mem_cands.1 hc⟩
      have hcase : ∀ s, Others n C w (b ++ s) → ∃ c s', s = c :: s' ∧ c ∈ cands n ∧ c ∉ b := fun s h => by
        cases s with
        | nil => have := h.2.1; rw [List.append_nil] at this; exact absurd this hl
        | cons c s' => exact ⟨c, s', rfl, mem_cands.2 (h.1.2 c (by simp)), fun hm => (List.nodup_append.1 h.1.1).2.2 c hm c (by simp) rfl⟩
      cases hf : firstS (fun c => if c ∈ b then none else extO n C w k (b ++ [c])) (cands n) with
      | none =>
        intro s h
        obtain ⟨c, s', rfl, h1, h2⟩ := hcase s h
        have h3 := firstS_none hf c h1
        rw [if_neg h2] at h3
        have h4 := extO_spec (C := C) (w := w) k (b ++ [c]) (hext c h1 h2) (by simp; omega)
        rw [h3] at h4
        exact h4 s' (by rw [List.append_assoc]; exact h)
      | some o =>
        obtain ⟨a, c, r, h1, h2, h3⟩ := firstS_some hf
        have hc : c ∈ cands n := by rw [h1]; simp
        have hcb : c ∉ b := fun hm => by rw [if_pos hm] at h2; cases h2
        rw [if_neg hcb] at h2
        have h4 := extO_spec (C := C) (w := w) k (b ++ [c]) (hext c hc hcb) (by simp; omega)
        rw [h2] at h4
        obtain ⟨h5, ⟨s0, h6⟩, h7⟩ := h4
        refine ⟨h5, ⟨c :: s0, by rw [h6]; simp⟩, fun s h hlt => ?_⟩
        obtain ⟨d, s', rfl, h8, h9⟩ := hcase s h
        rcases Int.lt_trichotomy d c with hdc | rfl | hdc
        · have hda := cands_split h1 ⟨(mem_cands.1 h8).1, hdc⟩
          have h10 := h3 d hda
          rw [if_neg h9] at h10
          have h11 := extO_spec (C := C) (w := w) k (b ++ [d]) (hext d h8 h9) (by simp; omega)
          rw [h10] at h11
          exact h11 s' (by rw [List.append_assoc]; exact h)
        · exact h7 s' (by rw [List.append_assoc]; exact h) (by rw [List.append_assoc]; exact hlt)
        · have : o < b ++ d :: s' := by
            rw [h6, List.append_assoc]
            exact lt_pre b hdc
          exact lex_asymm this hlt
theorem ext_wit {n : Nat} (hn : 1 ≤ n) (C : List Int → Bool) (w : Int) : extO n C w (n + 1) [] = witP n C w := by
  have h1 := extO_spec (n := n) (C := C) (w := w) (n + 1) [] ⟨by simp, by simp⟩ (by simp)
  have h2 := witP_spec hn C w
  cases he : extO n C w (n + 1) [] with
  | none =>
    rw [he] at h1
    cases hw : witP n C w with
    | none => rfl
    | some o => rw [hw] at h2; exact absurd h2.1 (h1 o)
  | some o =>
    rw [he] at h1
    cases hw : witP n C w with
    | none => rw [hw] at h2; exact absurd h1.1 (h2 o)
    | some o' =>
      rw [hw] at h2
      rcases lex_tri o o' with h | h | h
      · exact absurd h (h2.2 o h1.1)
      · rw [h]
      · exact absurd h (h1.2.2 o' h2.1)
end Go.Proofs.YthlgoakkgmabaaaGreat
