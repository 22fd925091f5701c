/- Paths into a typed value: parts, their modes, where they lie; the relation at a part, and after a part has been replaced. -/
import Derived.Test.YthemaffjohmhnaaX2
namespace Go.X
open Go Go.RowKit
structure TV where
  t : Ty
  x : t.den
def TV.to (y : TV) (t : Ty) : Option t.den := if h : y.t = t then some (h ▸ y.x) else none
theorem TV.to_some {y : TV} {t : Ty} {x : t.den} (h : y.to t = some x) : y = ⟨t, x⟩ := by
  obtain ⟨s, y⟩ := y
  unfold TV.to at h
  split at h
  · rename_i he; simp only at he; subst he; simp at h; subst h; rfl
  · cases h
/-- The part at a path. -/
def getP : (π : List Nat) → (t : Ty) → t.den → Option TV
  | [], t, x => some ⟨t, x⟩
  | i :: π, .pair a b, x => match i with
    | 0 => getP π a x.1
    | 1 => getP π b x.2
    | _ => none
  | i :: π, .arr _ t, xs => getP π t (xs.getD i t.dflt)
  | i :: π, .slice t, xs => getP π t (xs.getD i t.dflt)
  | i :: π, .ptr t, x => match i with
    | 0 => getP π t x
    | _ => none
  | _, _, _ => none
/-- The value with another part at a path. -/
def setP : (π : List Nat) → (t : Ty) → t.den → TV → Option t.den
  | [], t, _, y => y.to t
  | i :: π, .pair a b, x, y => match i with
    | 0 => (setP π a x.1 y).map fun z => (z, x.2)
    | 1 => (setP π b x.2 y).map fun z => (x.1, z)
    | _ => none
  | i :: π, .arr _ t, xs, y => (setP π t (xs.getD i t.dflt) y).map fun z => xs.set i z
  | i :: π, .slice t, xs, y => (setP π t (xs.getD i t.dflt) y).map fun z => xs.set i z
  | i :: π, .ptr t, x, y => match i with
    | 0 => setP π t x y
    | _ => none
  | _, _, _, _ => none
/-- The mode of a part that is reached through owned memory. -/
def modeP : (π : List Nat) → Ty → Md → Option Md
  | [], _, m => some m
  | i :: π, .pair a b, m => match i with
    | 0 => modeP π a m.l
    | 1 => modeP π b m.r
    | _ => none
  | _ :: π, .arr _ t, m => modeP π t m
  | _ :: π, .slice t, .own _ k => modeP π t k
  | i :: π, .ptr t, .own _ k => match i with
    | 0 => modeP π t k
    | _ => none
  | _, _, _ => none
def setM : (π : List Nat) → Ty → Md → Md → Option Md
  | [], _, _, m' => some m'
  | i :: π, .pair a b, m, m' => match i with
    | 0 => (setM π a m.l m').map fun k => .pr k m.r
    | 1 => (setM π b m.r m').map fun k => .pr m.l k
    | _ => none
  | _ :: π, .arr _ t, m, m' => (setM π t m m').bind fun k => if leM t k m then some m else none
  | _ :: π, .slice t, .own e k, m' => (setM π t k m').bind fun j => if leM t j k then some (.own e k) else none
  | i :: π, .ptr t, .own e k, m' => match i with
    | 0 => (setM π t k m').map fun j => .own e j
    | _ => none
  | _, _, _, _ => none
/-- The place whose header leads to the part's block (none: it lies in the cells themselves), and where in it. -/
def locP : (π : List Nat) → Ty → Option (Option (List Nat) × Nat)
  | [], _ => some (none, 0)
  | i :: π, .pair a b => match i with
    | 0 => (locP π a).map fun l => (l.1.map (0 :: ·), l.2)
    | 1 => (locP π b).map fun l => match l with | (none, o) => (none, a.size + o) | (some q, o) => (some (1 :: q), o)
    | _ => none
  | i :: π, .arr _ t => (locP π t).map fun l => match l with | (none, o) => (none, i * t.size + o) | (some q, o) => (some (i :: q), o)
  | i :: π, .slice t => (locP π t).map fun l => match l with | (none, o) => (some [], i * t.size + o) | (some q, o) => (some (i :: q), o)
  | i :: π, .ptr t => match i with
    | 0 => (locP π t).map fun l => match l with | (none, o) => (some [], o) | (some q, o) => (some (0 :: q), o)
    | _ => none
  | _, _ => none
/-- Within bounds, by the headers. -/
def okP (S : St) : (π : List Nat) → Ty → Place → Prop
  | [], _, _ => True
  | i :: π, .pair a b, p => match i with
    | 0 => okP S π a (px p 0)
    | 1 => okP S π b (px p 1)
    | _ => False
  | i :: π, .arr n t, p => i < n ∧ okP S π t (px p i)
  | i :: π, .slice t, p => (∃ b len cap, S.hv p = .slice (some ⟨b, 0, none⟩) len cap ∧ i < len) ∧ okP S π t (px p i)
  | i :: π, .ptr t, p => match i with
    | 0 => okP S π t (px p 0)
    | _ => False
  | _, _, _ => False
/-- The block to which a header leads. -/
def hvB : Value → Option Nat
  | .pointer (some ⟨b, 0, none⟩) => some b
  | .slice (some ⟨b, 0, none⟩) _ _ => some b
  | _ => none
section
variable {P : Program}
theorem getD_of_lt {α : Type} {xs : List α} {i : Nat} (h : i < xs.length) (d : α) : xs.getD i d = xs[i] := by simp [List.getD_eq_getElem?_getD, h]
/-- The relation at a part. -/
theorem Rel.at {S : St} : ∀ {π : List Nat} {t : Ty} {m k : Md} {p : Place} {x : t.den} {cs : Cs}, Rel P t S m p x cs → modeP π t m = some k → okP S π t p →
    ∃ (s : Ty) (y : s.den) (l : Option (List Nat) × Nat) (cs' : Cs), getP π t x = some ⟨s, y⟩ ∧ locP π t = some l ∧ Rel P s S k (pa p π) y cs' ∧
      match l with
      | (none, o) => cs' = fun i => cs (o + i)
      | (some q, o) => ∃ b, hvB (S.hv (pa p q)) = some b ∧ S.own b = some (pa p q) ∧ cs' = blk S.w b o ∧ ∃ cur e, S.w.heap[b]? = some (.cells cur e (0, 0))
  | [], t, m, k, p, x, cs, h, hm, _ => by
    simp only [modeP, Option.some.injEq] at hm
    subst hm
    exact ⟨t, x, (none, 0), cs, rfl, rfl, by rw [pa_nil]; exact h, by simp⟩
  | i :: π, .pair a b, m, k, p, x, cs, h, hm, ho => by
    match i with
    | 0 =>
      simp only [modeP] at hm
      obtain ⟨s, y, l, cs', h1, h2, h3, h4⟩ := Rel.at h.1 hm ho
      refine ⟨s, y, (l.1.map (0 :: ·), l.2), cs', by simpa [getP] using h1, by simp [locP, h2], by rw [← pa_px]; exact h3, ?_⟩
      obtain ⟨q, o⟩ := l
      cases q with
      | none => exact h4
      | some q => simp only [pa_px] at h4; exact h4
    | 1 =>
      simp only [modeP] at hm
      obtain ⟨s, y, l, cs', h1, h2, h3, h4⟩ := Rel.at h.2 hm ho
      obtain ⟨q, o⟩ := l
      cases q with
      | none => exact ⟨s, y, (none, a.size + o), cs', by simpa [getP] using h1, by simp [locP, h2], by rw [← pa_px]; exact h3, by rw [h4]; funext i; rw [Nat.add_assoc]⟩
      | some q => exact ⟨s, y, (some (1 :: q), o), cs', by simpa [getP] using h1, by simp [locP, h2], by rw [← pa_px]; exact h3, by simpa only [pa_px] using h4⟩
    | i + 2 => simp [modeP] at hm
  | i :: π, .arr n t, m, k, p, x, cs, h, hm, ho => by
    have hm' : modeP π t m = some k := by cases i <;> (try rename_i j; cases j) <;> exact hm
    have ho' : i < n ∧ okP S π t (px p i) := by cases i <;> (try rename_i j; cases j) <;> exact ho
    have hi : i < x.length := by rw [h.1]; exact ho'.1
    obtain ⟨s, y, l, cs', h1, h2, h3, h4⟩ := Rel.at (h.2 i hi) hm' ho'.2
    have hg : getP (i :: π) (.arr n t) x = getP π t x[i] := by
      have : getP (i :: π) (.arr n t) x = getP π t (x.getD i t.dflt) := by cases i <;> (try rename_i j; cases j) <;> rfl
      rw [this, getD_of_lt hi]
    have hl : locP (i :: π) (.arr n t) = (locP π t).map fun l => match l with | (none, o) => (none, i * t.size + o) | (some q, o) => (some (i :: q), o) := by cases i <;> (try rename_i j; cases j) <;> rfl
    obtain ⟨q, o⟩ := l
    cases q with
    | none => exact ⟨s, y, (none, i * t.size + o), cs', by rw [hg]; exact h1, by rw [hl, h2]; rfl, by rw [← pa_px]; exact h3, by rw [h4]; funext i; rw [Nat.add_assoc]⟩
    | some q => exact ⟨s, y, (some (i :: q), o), cs', by rw [hg]; exact h1, by rw [hl, h2]; rfl, by rw [← pa_px]; exact h3, by simpa only [pa_px] using h4⟩
  | i :: π, .slice t, m, k, p, x, cs, h, hm, ho => by
    have ho' : (∃ b len cap, S.hv p = .slice (some ⟨b, 0, none⟩) len cap ∧ i < len) ∧ okP S π t (px p i) := by cases i <;> (try rename_i j; cases j) <;> exact ho
    have hm0 : ∃ e k', m = .own e k' ∧ modeP π t k' = some k := by
      cases m <;> first | (cases i <;> (try rename_i j; cases j) <;> simp [modeP] at hm; done) | skip
      rename_i e k'
      exact ⟨e, k', rfl, by cases i <;> (try rename_i j; cases j) <;> exact hm⟩
    obtain ⟨e, k', rfl, hm'⟩ := hm0
    obtain ⟨hml, hsz, h1, h2⟩ := h
    obtain ⟨⟨b, len, cap, hb, hi⟩, ho'⟩ := ho'
    rcases h2 with ⟨h2, _⟩ | ⟨g, cap', cur, h2, h3, h4, h5, h6, h7, h8⟩
    · rw [h2] at hb; cases hb
    rw [h2] at hb
    cases hb
    obtain ⟨s, y, l, cs', h9, h10, h11, h12⟩ := Rel.at (h8 i hi) hm' ho'
    have hg : getP (i :: π) (.slice t) x = getP π t x[i] := by
      have : getP (i :: π) (.slice t) x = getP π t (x.getD i t.dflt) := by cases i <;> (try rename_i j; cases j) <;> rfl
      rw [this, getD_of_lt hi]
    have hl : locP (i :: π) (.slice t) = (locP π t).map fun l => match l with | (none, o) => (some [], i * t.size + o) | (some q, o) => (some (i :: q), o) := by cases i <;> (try rename_i j; cases j) <;> rfl
    obtain ⟨q, o⟩ := l
    cases q with
    | none =>
      refine ⟨s, y, (some [], i * t.size + o), cs', by rw [hg]; exact h9, by rw [hl, h10]; rfl, by rw [← pa_px]; exact h11, b, by rw [pa_nil, h2]; rfl, by rw [pa_nil]; exact h3, ?_, cur, e, h4⟩
      rw [h12]
      funext j
      show _ = S.w.cell? ⟨b, i * t.size + o + j, none⟩
      rw [cell_of_row S.w b _ cur e (0, 0) h4, Nat.add_assoc]
    | some q => exact ⟨s, y, (some (i :: q), o), cs', by rw [hg]; exact h9, by rw [hl, h10]; rfl, by rw [← pa_px]; exact h11, by simpa only [pa_px] using h12⟩
  | i :: π, .ptr t, m, k, p, x, cs, h, hm, ho => by
    match i with
    | i + 1 => cases m <;> simp [modeP] at hm
    | 0 =>
      cases m <;> first | (simp [modeP] at hm; done) | skip
      rename_i e0 k'
      simp only [modeP] at hm
      obtain ⟨h1, g, cur, e, h2, h3, h4, h5, h6⟩ := h
      obtain ⟨s, y, l, cs', h9, h10, h11, h12⟩ := Rel.at h6 hm ho
      obtain ⟨q, o⟩ := l
      cases q with
      | none =>
        refine ⟨s, y, (some [], o), cs', by simpa [getP] using h9, by simp [locP, h10], by rw [← pa_px]; exact h11, g, by rw [pa_nil, h2]; rfl, by rw [pa_nil]; exact h3, ?_, cur, e, h4⟩
        rw [h12]
        funext j
        show _ = S.w.cell? ⟨g, o + j, none⟩
        rw [cell_of_row S.w g _ cur e (0, 0) h4]
      | some q => exact ⟨s, y, (some (0 :: q), o), cs', by simpa [getP] using h9, by simp [locP, h10], by rw [← pa_px]; exact h11, by simpa only [pa_px] using h12⟩
  | _ :: _, .int _, _, _, _, _, _, _, hm, _ => by simp [modeP] at hm
  | _ :: _, .bool, _, _, _, _, _, _, hm, _ => by simp [modeP] at hm
  | _ :: _, .str, _, _, _, _, _, _, hm, _ => by simp [modeP] at hm
  | _ :: _, .unit, _, _, _, _, _, _, hm, _ => by simp [modeP] at hm
  | _ :: _, .fn1 _ _, _, _, _, _, _, _, hm, _ => by simp [modeP] at hm
  | _ :: _, .fn2 _ _ _, _, _, _, _, _, _, hm, _ => by simp [modeP] at hm
  | _ :: _, .alt _ _ _, _, _, _, _, _, _, hm, _ => by simp [modeP] at hm
  | _ :: _, .nilI, _, _, _, _, _, _, hm, _ => by simp [modeP] at hm
end
end Go.X
