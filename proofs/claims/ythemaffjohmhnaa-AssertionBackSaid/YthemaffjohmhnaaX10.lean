/- Paths put together; the table of types; constants and zero values; fields of a struct. -/
import Derived.Test.YthemaffjohmhnaaX9
namespace Go.X
open Go Go.RowKit
/- PATHS PUT TOGETHER -/
theorem getP_app : ∀ {π ρ : List Nat} {t : Ty} {x : t.den} {u : Ty} {y : u.den}, getP π t x = some ⟨u, y⟩ → getP (π ++ ρ) t x = getP ρ u y
  | [], ρ, t, x, u, y, h => by simp only [getP, Option.some.injEq] at h; cases h; rfl
  | i :: π, ρ, .pair a b, x, u, y, h => by
    match i with
    | 0 => simp only [getP] at h; exact getP_app (t := a) h
    | 1 => simp only [getP] at h; exact getP_app (t := b) h
    | i + 2 => simp [getP] at h
  | i :: π, ρ, .arr n t, x, u, y, h => by rw [getP_arr] at h; rw [List.cons_append, getP_arr]; exact getP_app h
  | i :: π, ρ, .slice t, x, u, y, h => by rw [getP_slice] at h; rw [List.cons_append, getP_slice]; exact getP_app h
  | i :: π, ρ, .ptr t, x, u, y, h => by
    match i with
    | 0 => simp only [getP] at h; exact getP_app (t := t) h
    | i + 1 => simp [getP] at h
  | _ :: _, _, .int _, _, _, _, h => by simp [getP] at h
  | _ :: _, _, .bool, _, _, _, h => by simp [getP] at h
  | _ :: _, _, .str, _, _, _, h => by simp [getP] at h
  | _ :: _, _, .unit, _, _, _, h => by simp [getP] at h
  | _ :: _, _, .fn1 _ _, _, _, _, h => by simp [getP] at h
  | _ :: _, _, .fn2 _ _ _, _, _, _, h => by simp [getP] at h
  | _ :: _, _, .alt _ _ _, _, _, _, h => by simp [getP] at h
  | _ :: _, _, .nilI, _, _, _, h => by simp [getP] at h
theorem okP_app {S : St} : ∀ {π ρ : List Nat} {t : Ty} {x : t.den} {u : Ty} {y : u.den} {p : Place}, getP π t x = some ⟨u, y⟩ → okP S π t p → okP S ρ u (pa p π) → okP S (π ++ ρ) t p
  | [], ρ, t, x, u, y, p, h, _, h2 => by simp only [getP, Option.some.injEq] at h; cases h; rw [pa_nil] at h2; exact h2
  | i :: π, ρ, .pair a b, x, u, y, p, h, h1, h2 => by
    rw [← pa_px] at h2
    match i with
    | 0 => simp only [getP] at h; exact okP_app (t := a) h h1 h2
    | 1 => simp only [getP] at h; exact okP_app (t := b) h h1 h2
    | i + 2 => simp [getP] at h
  | i :: π, ρ, .arr n t, x, u, y, p, h, h1, h2 => by
    rw [← pa_px] at h2
    rw [getP_arr] at h
    rw [okP_arr] at h1
    rw [List.cons_append, okP_arr]
    exact ⟨h1.1, okP_app h h1.2 h2⟩
  | i :: π, ρ, .slice t, x, u, y, p, h, h1, h2 => by
    rw [← pa_px] at h2
    rw [getP_slice] at h
    rw [okP_slice] at h1
    rw [List.cons_append, okP_slice]
    exact ⟨h1.1, okP_app h h1.2 h2⟩
  | i :: π, ρ, .ptr t, x, u, y, p, h, h1, h2 => by
    rw [← pa_px] at h2
    match i with
    | 0 => simp only [getP] at h; exact okP_app (t := t) h h1 h2
    | i + 1 => simp [getP] at h
  | _ :: _, _, .int _, _, _, _, _, h, _, _ => by simp [getP] at h
  | _ :: _, _, .bool, _, _, _, _, h, _, _ => by simp [getP] at h
  | _ :: _, _, .str, _, _, _, _, h, _, _ => by simp [getP] at h
  | _ :: _, _, .unit, _, _, _, _, h, _, _ => by simp [getP] at h
  | _ :: _, _, .fn1 _ _, _, _, _, _, h, _, _ => by simp [getP] at h
  | _ :: _, _, .fn2 _ _ _, _, _, _, _, h, _, _ => by simp [getP] at h
  | _ :: _, _, .alt _ _ _, _, _, _, _, h, _, _ => by simp [getP] at h
  | _ :: _, _, .nilI, _, _, _, _, h, _, _ => by simp [getP] at h
/-- Where a part of a part lies. -/
def addL (π : List Nat) (l l2 : Option (List Nat) × Nat) : Option (List Nat) × Nat :=
  match l2 with
  | (some q, o) => (some (π ++ q), o)
  | (none, o) => (l.1, l.2 + o)
theorem locP_app : ∀ {π ρ : List Nat} {t : Ty} {x : t.den} {u : Ty} {y : u.den} {l l2 : Option (List Nat) × Nat}, getP π t x = some ⟨u, y⟩ → locP π t = some l → locP ρ u = some l2 → locP (π ++ ρ) t = some (addL π l l2)
  | [], ρ, t, x, u, y, l, l2, h, h1, h2 => by
    simp only [getP, Option.some.injEq] at h
    cases h
    simp only [locP, Option.some.injEq] at h1
    subst h1
    rw [List.nil_append, h2]
    obtain ⟨q, o⟩ := l2
    cases q <;> simp [addL]
  | i :: π, ρ, .pair a b, x, u, y, l, l2, h, h1, h2 => by
    match i with
    | 0 =>
      simp only [getP] at h
      simp only [locP, Option.map_eq_some_iff] at h1
      obtain ⟨l', h3, rfl⟩ := h1
      have := locP_app (t := a) h h3 h2
      rw [List.cons_append]
      simp only [locP, this, Option.map_some]
      obtain ⟨q, o⟩ := l2
      cases q <;> simp [addL]
    | 1 =>
      simp only [getP] at h
      simp only [locP, Option.map_eq_some_iff] at h1
      obtain ⟨l', h3, rfl⟩ := h1
      have := locP_app (t := b) h h3 h2
      rw [List.cons_append]
      simp only [locP, this, Option.map_some]
      obtain ⟨q, o⟩ := l2
      obtain ⟨q', o'⟩ := l'
      cases q <;> cases q' <;> simp [addL, Nat.add_assoc]
    | i + 2 => simp [getP] at h
  | i :: π, ρ, .arr n t, x, u, y, l, l2, h, h1, h2 => by
    rw [getP_arr] at h
    rw [locP_arr] at h1
    simp only [Option.map_eq_some_iff] at h1
    obtain ⟨l', h3, rfl⟩ := h1
    have := locP_app h h3 h2
    rw [List.cons_append, locP_arr, this, Option.map_some]
    obtain ⟨q, o⟩ := l2
    obtain ⟨q', o'⟩ := l'
    cases q <;> cases q' <;> simp [addL, Nat.add_assoc]
  | i :: π, ρ, .slice t, x, u, y, l, l2, h, h1, h2 => by
    rw [getP_slice] at h
    rw [locP_slice] at h1
    simp only [Option.map_eq_some_iff] at h1
    obtain ⟨l', h3, rfl⟩ := h1
    have := locP_app h h3 h2
    rw [List.cons_append, locP_slice, this, Option.map_some]
    obtain ⟨q, o⟩ := l2
    obtain ⟨q', o'⟩ := l'
    cases q <;> cases q' <;> simp [addL, Nat.add_assoc]
  | i :: π, ρ, .ptr t, x, u, y, l, l2, h, h1, h2 => by
    match i with
    | 0 =>
      simp only [getP] at h
      simp only [locP, Option.map_eq_some_iff] at h1
      obtain ⟨l', h3, rfl⟩ := h1
      have := locP_app (t := t) h h3 h2
      rw [List.cons_append]
      simp only [locP, this, Option.map_some]
      obtain ⟨q, o⟩ := l2
      obtain ⟨q', o'⟩ := l'
      cases q <;> cases q' <;> simp [addL]
    | i + 1 => simp [getP] at h
  | _ :: _, _, .int _, _, _, _, _, _, h, _, _ => by simp [getP] at h
  | _ :: _, _, .bool, _, _, _, _, _, h, _, _ => by simp [getP] at h
  | _ :: _, _, .str, _, _, _, _, _, h, _, _ => by simp [getP] at h
  | _ :: _, _, .unit, _, _, _, _, _, h, _, _ => by simp [getP] at h
  | _ :: _, _, .fn1 _ _, _, _, _, _, _, h, _, _ => by simp [getP] at h
  | _ :: _, _, .fn2 _ _ _, _, _, _, _, _, h, _, _ => by simp [getP] at h
  | _ :: _, _, .alt _ _ _, _, _, _, _, _, h, _, _ => by simp [getP] at h
  | _ :: _, _, .nilI, _, _, _, _, _, h, _, _ => by simp [getP] at h
/- FIELDS -/
def flds : Nat → Ty → Option (List Ty)
  | 1, .pair a .unit => some [a]
  | 2, .pair a b => some [a, b]
  | n + 3, .pair a b => (flds (n + 2) b).map (a :: ·)
  | _, _ => none
/-- The path to field f of n. -/
def fpath : Nat → Nat → Option (List Nat)
  | 1, 0 => some [0]
  | 2, 0 => some [0]
  | 2, 1 => some [1]
  | _ + 3, 0 => some [0]
  | n + 3, f + 1 => (fpath (n + 2) f).map (1 :: ·)
  | _, _ => none
def offsFrom (o : Nat) : List Ty → List (Nat × Nat)
  | [] => []
  | t :: ts => (o, t.size) :: offsFrom (o + t.size) ts
theorem fpath_loc {S : St} : ∀ {n f : Nat} {t : Ty} {fs : List Ty} {ρ : List Nat} {o0 : Nat} {x : t.den} {p : Place}, flds n t = some fs → fpath n f = some ρ → ∃ (u : Ty) (y : u.den) (o : Nat), fs[f]? = some u ∧ getP ρ t x = some ⟨u, y⟩ ∧ locP ρ t = some (none, o) ∧ okP S ρ t p ∧ (offsFrom o0 fs)[f]? = some (o0 + o, u.size)
  | 0, f, t, fs, ρ, o0, x, p, h, _ => by cases t <;> simp [flds] at h
  | 1, f, t, fs, ρ, o0, x, p, h, hf => by
    cases t with
    | pair a b =>
      cases b <;> first | (simp [flds] at h; done) | skip
      simp only [flds, Option.some.injEq] at h
      subst h
      match f with
      | 0 =>
        simp only [fpath, Option.some.injEq] at hf
        subst hf
        exact ⟨a, x.1, 0, rfl, rfl, rfl, trivial, by simp [offsFrom]⟩
      | f + 1 => simp [fpath] at hf
    | _ => simp [flds] at h
  | 2, f, t, fs, ρ, o0, x, p, h, hf => by
    cases t with
    | pair a b =>
      simp only [flds, Option.some.injEq] at h
      subst h
      match f with
      | 0 =>
        simp only [fpath, Option.some.injEq] at hf
        subst hf
        exact ⟨a, x.1, 0, rfl, rfl, rfl, trivial, by simp [offsFrom]⟩
      | 1 =>
        simp only [fpath, Option.some.injEq] at hf
        subst hf
        exact ⟨b, x.2, a.size, rfl, rfl, by simp [locP], trivial, by simp [offsFrom]⟩
      | f + 2 => simp [fpath] at hf
    | _ => simp [flds] at h
  | n + 3, f, t, fs, ρ, o0, x, p, h, hf => by
    cases t with
    | pair a b =>
      simp only [flds, Option.map_eq_some_iff] at h
      obtain ⟨fs', h1, rfl⟩ := h
      match f with
      | 0 =>
        simp only [fpath, Option.some.injEq] at hf
        subst hf
        exact ⟨a, x.1, 0, rfl, rfl, rfl, trivial, by simp [offsFrom]⟩
      | f + 1 =>
        simp only [fpath, Option.map_eq_some_iff] at hf
        obtain ⟨ρ', h2, rfl⟩ := hf
        obtain ⟨u, y, o, h3, h4, h5, h6, h7⟩ := fpath_loc (S := S) (o0 := o0 + a.size) (x := x.2) (p := px p 1) h1 h2
        exact ⟨u, y, a.size + o, by simpa using h3, h4, by simp [locP, h5], h6, by rw [← Nat.add_assoc]; simpa [offsFrom] using h7⟩
    | _ => simp [flds] at h
/- CONSTANTS -/
def kdec (a b : IntKind) : Bool := decide (a = b)
/-- A constant's cells, read as a value of a type; what is left of them. -/
def cden : (t : Ty) → List Value → Option (t.den × List Value)
  | .int k, .int k' n :: r => if k = k' ∧ k.wrap n = n then some (n, r) else none
  | .bool, .bool b :: r => some (b, r)
  | .str, .string s :: r => if s.data.toList.length ≤ maxL then some (s.data.toList.map (fun c => (c.toNat : Int)), r) else none
  | .unit, r => some ((), r)
  | .pair a b, r => match cden a r with
    | some (x, r) => match cden b r with
      | some (y, r) => some ((x, y), r)
      | none => none
    | none => none
  | .arr n t, r => cdenA (cden t) n r
  | .slice t, .slice none 0 0 :: r => if 0 < t.size then some ([], r) else none
  | .alt _ _ b, r => if b.size = 1 then match cden b r with
    | some (z, r) => some (.inr z, r)
    | none => none else none
  | .nilI, .nilIface :: r => some ((), r)
  | _, _ => none
where
  cdenA {α : Type} (f : List Value → Option (α × List Value)) : Nat → List Value → Option (List α × List Value)
    | 0, r => some ([], r)
    | n + 1, r => match f r with
      | some (x, r) => match cdenA f n r with
        | some (xs, r) => some (x :: xs, r)
        | none => none
      | none => none
section
variable {P : Program}
theorem cden_sound {S : St} : ∀ {t : Ty} {l r : List Value} {x : t.den} {p : Place} {cs : Cs}, cden t l = some (x, r) → (∀ i, i < t.size → cs i = l[i]?) → r = l.drop t.size ∧ t.size ≤ l.length ∧ Rel P t S .sh p x cs := by
  intro t
  induction t with
  | int k =>
    intro l r x p cs h hc
    cases l with
    | nil => simp [cden] at h
    | cons v l =>
      have h0 := hc 0 Nat.one_pos
      cases v <;> simp only [cden] at h <;> first | (cases h; done) | skip
      split at h
      · rename_i hk
        obtain ⟨rfl, hk⟩ := hk
        cases h
        exact ⟨rfl, by simp [Ty.size], h0, hk⟩
      · cases h
  | bool =>
    intro l r x p cs h hc
    cases l with
    | nil => simp [cden] at h
    | cons v l =>
      have h0 := hc 0 Nat.one_pos
      cases v <;> simp only [cden] at h <;> first | (cases h; done) | skip
      cases h
      exact ⟨rfl, by simp [Ty.size], h0⟩
  | str =>
    intro l r x p cs h hc
    cases l with
    | nil => simp [cden] at h
    | cons v l =>
      have h0 := hc 0 Nat.one_pos
      cases v <;> simp only [cden] at h <;> first | (cases h; done) | skip
      split at h
      · rename_i s hs
        cases h
        exact ⟨rfl, by simp [Ty.size], s, h0, rfl, by simpa using hs⟩
      · cases h
  | unit => intro l r x p cs h hc; simp only [cden] at h; cases h; exact ⟨rfl, Nat.zero_le _, trivial⟩
  | nilI =>
    intro l r x p cs h hc
    cases l with
    | nil => simp [cden] at h
    | cons v l =>
      have h0 := hc 0 Nat.one_pos
      cases v <;> simp only [cden] at h <;> first | (cases h; done) | skip
      cases h
      exact ⟨rfl, by simp [Ty.size], h0⟩
  | slice t ih =>
    intro l r x p cs h hc
    have h0 := hc 0 Nat.one_pos
    match l with
    | [] => simp [cden] at h
    | .slice none 0 0 :: l =>
      simp only [cden] at h
      split at h
      · rename_i hs
        cases h
        exact ⟨rfl, by simp [Ty.size], Nat.zero_le _, hs, none, 0, 0, h0, rfl, Nat.le_refl _, .inl ⟨rfl, rfl⟩⟩
      · cases h
    | .slice (some _) _ _ :: l => simp [cden] at h
    | .slice none (_ + 1) _ :: l => simp [cden] at h
    | .slice none 0 (_ + 1) :: l => simp [cden] at h
    | .bool _ :: l => simp [cden] at h
    | .int _ _ :: l => simp [cden] at h
    | .float _ _ :: l => simp [cden] at h
    | .complex _ _ _ :: l => simp [cden] at h
    | .string _ :: l => simp [cden] at h
    | .pointer _ :: l => simp [cden] at h
    | .map _ :: l => simp [cden] at h
    | .chan _ :: l => simp [cden] at h
    | .func _ _ _ :: l => simp [cden] at h
    | .nilFunc :: l => simp [cden] at h
    | .iface _ _ :: l => simp [cden] at h
    | .nilIface :: l => simp [cden] at h
    | .agg _ :: l => simp [cden] at h
    | .tuple _ :: l => simp [cden] at h
  | pair a b iha ihb =>
    intro l r x p cs h hc
    simp only [Ty.size] at hc
    simp only [cden] at h
    split at h
    · rename_i y r1 h1
      split at h
      · rename_i z r2 h2
        cases h
        obtain ⟨h3, h4, h5⟩ := iha (p := px p 0) (cs := cs) h1 fun i hi => hc i (by omega)
        subst h3
        obtain ⟨h6, h7, h8⟩ := ihb (p := px p 1) (cs := fun i => cs (a.size + i)) h2 fun i hi => by rw [List.getElem?_drop]; exact hc _ (by omega)
        simp only [List.length_drop] at h7
        exact ⟨by rw [h6, List.drop_drop]; rfl, by simp only [Ty.size]; omega, h5, h8⟩
      · cases h
    · cases h
  | arr n t ih =>
    intro l r x p cs h hc
    have key : ∀ (n : Nat) (l r : List Value) (x : List t.den) (k : Nat), cden.cdenA (cden t) n l = some (x, r) → (∀ i, i < n * t.size → cs (k * t.size + i) = l[i]?) → x.length = n ∧ r = l.drop (n * t.size) ∧ n * t.size ≤ l.length ∧ ∀ (i : Nat) (h : i < x.length), Rel P t S .sh (px p (k + i)) x[i] (fun j => cs ((k + i) * t.size + j)) := by
      intro n
      induction n with
      | zero =>
        intro l r x k h hc
        simp only [cden.cdenA] at h
        cases h
        exact ⟨rfl, by simp, by simp, fun i hi => by simp at hi⟩
      | succ n ihn =>
        intro l r x k h hc
        simp only [cden.cdenA] at h
        split at h
        · rename_i y r1 h1
          split at h
          · rename_i ys r2 h2
            cases h
            have hs : (n + 1) * t.size = t.size + n * t.size := by rw [Nat.add_mul]; omega
            obtain ⟨h3, h4, h5⟩ := ih (p := px p k) (cs := fun j => cs (k * t.size + j)) h1 fun i hi => hc i (by omega)
            subst h3
            obtain ⟨h6, h7, h8, h9⟩ := ihn _ _ _ (k + 1) h2 fun i hi => by
              rw [List.getElem?_drop, ← hc (t.size + i) (by omega)]
              congr 1
              rw [Nat.add_mul]
              omega
            simp only [List.length_drop] at h8
            refine ⟨by simp [h6], by rw [h7, List.drop_drop, hs], by omega, fun i hi => ?_⟩
            cases i with
            | zero => exact h5
            | succ i =>
              have := h9 i (by simpa using hi)
              rw [show k + 1 + i = k + (i + 1) from by omega] at this
              exact this
          · cases h
        · cases h
    simp only [cden] at h
    obtain ⟨h1, h2, h3, h4⟩ := key n l r x 0 h fun i hi => by rw [Nat.zero_mul, Nat.zero_add]; exact hc i hi
    refine ⟨h2, h3, h1, fun i hi => ?_⟩
    have := h4 i hi
    rw [Nat.zero_add] at this
    exact this
  | alt tid a b iha ihb =>
    intro l r x p cs h hc
    simp only [cden] at h
    split at h
    case isFalse => cases h
    rename_i hb
    split at h
    · rename_i z r1 h1
      cases h
      obtain ⟨h2, h3, h4⟩ := ihb (p := px p 1) (cs := cs) h1 fun i hi => hc i (by simp only [Ty.size]; omega)
      rw [hb] at h2 h3
      exact ⟨h2, h3, hb, h4⟩
    · cases h
  | ptr t => intro l r x p cs h hc; cases l <;> simp [cden] at h
  | fn1 a r => intro l r x p cs h hc; cases l <;> simp [cden] at h
  | fn2 a b r => intro l r x p cs h hc; cases l <;> simp [cden] at h
/-- A constant as a value of a type. -/
def cval (t : Ty) (v : Value) : Option t.den :=
  match cden t v.cells.toList with
  | some (x, []) => if t.agg then (match v with | .agg _ => some x | _ => none) else match v with | .agg _ => none | _ => some x
  | _ => none
theorem cval_sound {S : St} {t : Ty} {v : Value} {x : t.den} {p : Place} (h : cval t v = some x) : SR P t S .sh p x v := by
  unfold cval at h
  split at h
  · rename_i x' hx
    split at h
    · rename_i hag
      split at h
      · rename_i cs
        cases h
        obtain ⟨h1, h2, h3⟩ := cden_sound (P := P) (S := S) (p := p) (cs := fun i => cs[i]?) hx fun i _ => by simp [Value.cells]
        refine ⟨?_, fun _ => ⟨cs, rfl, ?_⟩⟩
        · unfold vcells; rw [if_pos hag]; exact h3
        · have := congrArg List.length h1
          simp only [Value.cells, List.length_nil, List.length_drop, Array.length_toList] at this h2
          omega
      · cases h
    · rename_i hag
      have hs : t.size = 1 := by cases t <;> first | rfl | exact absurd rfl hag
      have key : v.cells = #[v] → SR P t S .sh p x' v := fun hv => by
        rw [hv] at hx
        obtain ⟨h1, h2, h3⟩ := cden_sound (P := P) (S := S) (p := p) (cs := fun i => if i = 0 then some v else none) hx fun i hi => by
          have : i = 0 := by omega
          subst this; rfl
        refine ⟨?_, fun h => absurd h hag⟩
        unfold vcells; rw [if_neg hag]; exact h3
      split at h
      · cases h
      · rename_i hv
        cases h
        exact key (by cases v <;> first | rfl | exact absurd rfl (hv _))
  · cases h
end
end Go.X
