/- Environments of typed entries, and the invariant between an environment and a frame and a world. -/
import Derived.Test.YthemaffjohmhnaaX5
namespace Go.X
open Go Go.RowKit
/-- A pointer crosses a header on its way. -/
def crossB : List Nat → Ty → Bool
  | [], _ => false
  | i :: π, .pair a b => match i with
    | 0 => crossB π a
    | 1 => crossB π b
    | _ => false
  | _ :: π, .arr _ t => crossB π t
  | _ :: _, .slice _ => true
  | _ :: _, .ptr _ => true
  | _, _ => false
/-- It crosses more than the root's own header. -/
def deepP : List Nat → Ty → Bool
  | _ :: π, .slice t => crossB π t
  | i :: π, .ptr t => match i with
    | 0 => crossB π t
    | _ => true
  | _, _ => true
theorem crossB_arr (i : Nat) (π : List Nat) (n : Nat) (t : Ty) : crossB (i :: π) (.arr n t) = crossB π t := by cases i <;> (try rename_i j; cases j) <;> rfl
theorem crossB_slice (i : Nat) (π : List Nat) (t : Ty) : crossB (i :: π) (.slice t) = true := by cases i <;> (try rename_i j; cases j) <;> rfl
theorem crossB_ptr (i : Nat) (π : List Nat) (t : Ty) : crossB (i :: π) (.ptr t) = true := by cases i <;> (try rename_i j; cases j) <;> rfl
theorem okP_nocross {S S' : St} : ∀ {π : List Nat} {t : Ty} {p : Place}, crossB π t = false → okP S π t p → okP S' π t p
  | [], _, _, _, _ => trivial
  | i :: π, .pair a b, p, h, ho => by
    match i with
    | 0 => exact okP_nocross (π := π) (t := a) h ho
    | 1 => exact okP_nocross (π := π) (t := b) h ho
    | i + 2 => exact ho.elim
  | i :: π, .arr n t, p, h, ho => by
    rw [crossB_arr] at h
    rw [okP_arr] at ho ⊢
    exact ⟨ho.1, okP_nocross h ho.2⟩
  | i :: π, .slice t, p, h, ho => by rw [crossB_slice] at h; cases h
  | i :: π, .ptr t, p, h, ho => by rw [crossB_ptr] at h; cases h
  | _ :: _, .int _, _, _, ho => by simp [okP] at ho
  | _ :: _, .bool, _, _, ho => by simp [okP] at ho
  | _ :: _, .str, _, _, ho => by simp [okP] at ho
  | _ :: _, .unit, _, _, ho => by simp [okP] at ho
  | _ :: _, .fn1 _ _, _, _, ho => by simp [okP] at ho
  | _ :: _, .fn2 _ _ _, _, _, ho => by simp [okP] at ho
  | _ :: _, .alt _ _ _, _, _, ho => by simp [okP] at ho
  | _ :: _, .nilI, _, _, ho => by simp [okP] at ho
theorem okP_congr {S S' : St} : ∀ {π : List Nat} {t : Ty} {p : Place}, (∀ q, S'.hv (pa p q) = S.hv (pa p q)) → okP S π t p → okP S' π t p
  | [], _, _, _, _ => trivial
  | i :: π, .pair a b, p, h, ho => by
    match i with
    | 0 => exact okP_congr (π := π) (t := a) (p := px p 0) (fun q => by rw [pa_px]; exact h _) ho
    | 1 => exact okP_congr (π := π) (t := b) (p := px p 1) (fun q => by rw [pa_px]; exact h _) ho
    | i + 2 => exact ho.elim
  | i :: π, .arr n t, p, h, ho => by
    rw [okP_arr] at ho ⊢
    exact ⟨ho.1, okP_congr (fun q => by rw [pa_px]; exact h _) ho.2⟩
  | i :: π, .slice t, p, h, ho => by
    rw [okP_slice] at ho ⊢
    have h0 := h []
    rw [pa_nil] at h0
    exact ⟨by rw [h0]; exact ho.1, okP_congr (fun q => by rw [pa_px]; exact h _) ho.2⟩
  | i :: π, .ptr t, p, h, ho => by
    match i with
    | 0 => exact okP_congr (π := π) (t := t) (p := px p 0) (fun q => by rw [pa_px]; exact h _) ho
    | i + 1 => simp [okP] at ho
  | _ :: _, .int _, _, _, ho => by simp [okP] at ho
  | _ :: _, .bool, _, _, ho => by simp [okP] at ho
  | _ :: _, .str, _, _, ho => by simp [okP] at ho
  | _ :: _, .unit, _, _, ho => by simp [okP] at ho
  | _ :: _, .fn1 _ _, _, _, ho => by simp [okP] at ho
  | _ :: _, .fn2 _ _ _, _, _, ho => by simp [okP] at ho
  | _ :: _, .alt _ _ _, _, _, ho => by simp [okP] at ho
  | _ :: _, .nilI, _, _, ho => by simp [okP] at ho
theorem locP_nocross : ∀ {π : List Nat} {t : Ty} {q : List Nat} {o : Nat}, crossB π t = false → locP π t ≠ some (some q, o)
  | [], _, _, _, _, hl => by simp [locP] at hl
  | i :: π, .pair a b, q, o, h, hl => by
    match i with
    | 0 =>
      simp only [locP, Option.map_eq_some_iff] at hl
      obtain ⟨⟨q', o'⟩, h1, h2⟩ := hl
      cases q' with
      | none => simp at h2
      | some q' => exact locP_nocross (π := π) (t := a) h h1
    | 1 =>
      simp only [locP, Option.map_eq_some_iff] at hl
      obtain ⟨⟨q', o'⟩, h1, h2⟩ := hl
      cases q' with
      | none => simp at h2
      | some q' => exact locP_nocross (π := π) (t := b) h h1
    | i + 2 => simp [locP] at hl
  | i :: π, .arr n t, q, o, h, hl => by
    rw [crossB_arr] at h
    rw [locP_arr] at hl
    simp only [Option.map_eq_some_iff] at hl
    obtain ⟨⟨q', o'⟩, h1, h2⟩ := hl
    cases q' with
    | none => simp at h2
    | some q' => exact locP_nocross h h1
  | i :: π, .slice t, _, _, h, _ => by rw [crossB_slice] at h; cases h
  | i :: π, .ptr t, _, _, h, _ => by rw [crossB_ptr] at h; cases h
  | _ :: _, .int _, _, _, _, hl => by simp [locP] at hl
  | _ :: _, .bool, _, _, _, hl => by simp [locP] at hl
  | _ :: _, .str, _, _, _, hl => by simp [locP] at hl
  | _ :: _, .unit, _, _, _, hl => by simp [locP] at hl
  | _ :: _, .fn1 _ _, _, _, _, hl => by simp [locP] at hl
  | _ :: _, .fn2 _ _ _, _, _, _, hl => by simp [locP] at hl
  | _ :: _, .alt _ _ _, _, _, _, hl => by simp [locP] at hl
  | _ :: _, .nilI, _, _, _, hl => by simp [locP] at hl
theorem locP_shallow {π : List Nat} {t : Ty} {q : List Nat} {o : Nat} (h : deepP π t = false) (hl : locP π t = some (some q, o)) : q = [] := by
  cases π with
  | nil => simp [deepP] at h
  | cons i π =>
    cases t with
    | slice t =>
      have h' : crossB π t = false := by cases i <;> (try rename_i j; cases j) <;> exact h
      rw [locP_slice] at hl
      simp only [Option.map_eq_some_iff] at hl
      obtain ⟨⟨q', o'⟩, h1, h2⟩ := hl
      cases q' with
      | none => simp at h2; exact h2.1
      | some q' => exact absurd h1 (locP_nocross h')
    | ptr t =>
      match i with
      | 0 =>
        simp only [locP, Option.map_eq_some_iff] at hl
        obtain ⟨⟨q', o'⟩, h1, h2⟩ := hl
        cases q' with
        | none => simp at h2; exact h2.1
        | some q' => exact absurd h1 (locP_nocross (t := t) (by simpa [deepP] using h))
      | i + 1 => simp [locP] at hl
    | _ => simp [deepP] at h
theorem okP_shallow {S S' : St} {π : List Nat} {t : Ty} {p : Place} (h : deepP π t = false) (hv : S'.hv p = S.hv p) (ho : okP S π t p) : okP S' π t p := by
  cases π with
  | nil => simp [deepP] at h
  | cons i π =>
    cases t with
    | slice t =>
      have h' : crossB π t = false := by cases i <;> (try rename_i j; cases j) <;> exact h
      rw [okP_slice] at ho ⊢
      exact ⟨by rw [hv]; exact ho.1, okP_nocross h' ho.2⟩
    | ptr t =>
      match i with
      | 0 => exact okP_nocross (π := π) (t := t) (by simpa [deepP] using h) ho
      | i + 1 => simp [okP] at ho
    | _ => simp [deepP] at h
/- ENTRIES -/
structure TM where
  t : Ty
  m : Md
  x : t.den
/-- A captured pointer. -/
inductive Cap where
  | ref (r : Nat) (π : List Nat) (s : Nat)
  | val (e : TM)
/-- What a slot holds: a value; a pointer to a part of what slot r holds; a copy of a slice header there; results; a function literal; nothing done; nothing. -/
inductive Ent where
  | v (t : Ty) (m : Md) (x : t.den)
  | ref (r : Nat) (π : List Nat) (s : Nat)
  | view (r : Nat) (π : List Nat) (s : Nat)
  | tup (es : List TM)
  | clo (f : Nat) (caps : List Cap)
  | mth (nm : String) (e : TM)
  | skip
  | dead
  deriving Inhabited
structure Slot where
  e : Ent
  g : Nat
  h : Nat
abbrev Env := Nat → Slot
def SR (P : Program) (t : Ty) (S : St) (m : Md) (p : Place) (x : t.den) (v : Value) : Prop := Rel P t S m p x (vcells t v) ∧ AggOK t v
/-- Is a pointer of stamp s still good? -/
def gen (c : Slot) (t : Ty) (π : List Nat) (s : Nat) : Prop := if deepP π t then c.h = s else c.g = s
def RefOK (S : St) (σ : Env) (r : Nat) (π : List Nat) (s : Nat) (v : Value) : Prop :=
  s ≤ (σ r).h ∧ ∀ t m x, (σ r).e = .v t m x → gen (σ r) t π s → ∃ q o b, locP π t = some (some q, o) ∧ okP S π t (r, []) ∧ hvB (S.hv (r, q)) = some b ∧ v = .pointer (some ⟨b, o, none⟩)
def ViewOK (S : St) (σ : Env) (r : Nat) (π : List Nat) (s : Nat) (v : Value) : Prop :=
  s ≤ (σ r).h ∧ ∀ t m x, (σ r).e = .v t m x → (σ r).h = s → okP S π t (r, []) ∧ v = S.hv (r, π)
def CapOK (P : Program) (S : St) (σ : Env) (v : Value) : Cap → Prop
  | .ref r π s => RefOK S σ r π s v
  | .val e => SR P e.t S .bw (0, []) e.x v
def SlotOK (P : Program) (S : St) (σ : Env) (tm : Nat → Value) (t : Nat) : Prop :=
  match (σ t).e with
  | .v ty m x => SR P ty S m (t, []) x (tm t)
  | .ref r π s => RefOK S σ r π s (tm t)
  | .view r π s => ViewOK S σ r π s (tm t)
  | .tup es => ∃ vs, tm t = .tuple vs ∧ vs.size = es.length ∧ ∀ (k : Nat) (e : TM), es[k]? = some e → ∃ u, vs[k]? = some u ∧ SR P e.t S e.m (t, [k]) e.x u
  | .clo f caps => ∃ ps : List Value, tm t = .func (.func f) #[] ps.toArray ∧ ps.length = caps.length ∧ ∀ (k : Nat) (c : Cap), caps[k]? = some c → ∃ u, ps[k]? = some u ∧ CapOK P S σ u c
  | .mth nm e => ∃ u, tm t = .func (.method nm) #[u] #[] ∧ SR P e.t S .bw (0, []) e.x u
  | .skip => tm t = .tuple #[]
  | .dead => True
structure Ctx where
  w0 : World
  F0 : Nat → Prop
  B : Nat → Prop
  O : Nat → Prop
  N : Nat
  K : Nat → Option Value
structure InvOf (P : Program) (c : Ctx) (σ : Env) (a : Act) (S : St) : Prop where
  defers : a.defers = []
  size : a.tmps.size = c.N
  slots : ∀ t, SlotOK P S σ (tmv a) t
  gens : ∀ t, (σ t).g ≤ (σ t).h
  lent : S.B = c.B
  shared : ∀ b, S.F b → S.own b = none ∧ b < S.w.heap.size ∧ (c.F0 b ∨ c.w0.heap.size ≤ b ∨ c.O b)
  shared0 : ∀ b, c.F0 b → S.F b
  borrowed : ∀ b, c.B b → S.own b = none ∧ b < c.w0.heap.size ∧ ¬ c.O b
  owned : ∀ b p, S.own b = some p → b < S.w.heap.size ∧ (c.w0.heap.size ≤ b ∨ c.O b)
  os : S.w.os = c.w0.os
  tape : S.w.tape = c.w0.tape
  output : S.w.output = c.w0.output
  grown : c.w0.heap.size ≤ S.w.heap.size
  kept : ∀ b, b < c.w0.heap.size → ¬ c.O b → S.w.heap[b]? = c.w0.heap[b]?
def Inv (P : Program) (c : Ctx) (σ : Env) (a : Act) (w : World) : Prop := ∃ S, S.w = w ∧ InvOf P c σ a S
/- ENVIRONMENTS THAT CHANGE -/
/-- Slot r's change: replaced; its tree turned; values in it turned. -/
def Chg (S S' : St) (σ σ' : Env) (r : Nat) : Prop :=
  (σ' r).g ≤ (σ' r).h ∧ ((σ r).h < (σ' r).g ∨
  ((σ' r).g = (σ r).g ∧ (∀ t m x, (σ' r).e = .v t m x → ∃ m' x', (σ r).e = .v t m' x') ∧
    ((σ r).h < (σ' r).h ∧ S'.hv (r, []) = S.hv (r, []) ∨ (σ' r).h = (σ r).h ∧ ∀ q, S'.hv (r, q) = S.hv (r, q))))
theorem Chg.refl {S S' : St} {σ σ' : Env} {r : Nat} (hg : (σ r).g ≤ (σ r).h) (h : σ' r = σ r) (hv : ∀ q, S'.hv (r, q) = S.hv (r, q)) : Chg S S' σ σ' r := by
  unfold Chg
  rw [h]
  exact ⟨hg, .inr ⟨rfl, fun t m x h => ⟨m, x, h⟩, .inr ⟨rfl, hv⟩⟩⟩
theorem Chg.le {S S' : St} {σ σ' : Env} {r : Nat} (h : Chg S S' σ σ' r) : (σ r).h ≤ (σ' r).h := by
  rcases h with ⟨h0, h | ⟨_, _, h | h⟩⟩ <;> omega
theorem RefOK.keep {S S' : St} {σ σ' : Env} {r : Nat} {π : List Nat} {s : Nat} {v : Value} (h : RefOK S σ r π s v) (hc : Chg S S' σ σ' r) : RefOK S' σ' r π s v := by
  refine ⟨Nat.le_trans h.1 hc.le, fun t m x hx hg => ?_⟩
  have hs := h.1
  rcases hc with ⟨h0, h1 | ⟨h1, h2, h3⟩⟩
  · unfold gen at hg; split at hg <;> omega
  · obtain ⟨m', x', hx'⟩ := h2 t m x hx
    by_cases hd : deepP π t = true
    · unfold gen at hg
      rw [if_pos hd] at hg
      rcases h3 with ⟨h3, _⟩ | ⟨h3, h4⟩
      · omega
      · obtain ⟨q, o, b, h5, h6, h7, h8⟩ := h.2 t m' x' hx' (by unfold gen; rw [if_pos hd, ← h3]; exact hg)
        exact ⟨q, o, b, h5, okP_congr (fun q => by simpa [pa] using h4 q) h6, by rw [h4]; exact h7, h8⟩
    · unfold gen at hg
      rw [if_neg hd] at hg
      obtain ⟨q, o, b, h5, h6, h7, h8⟩ := h.2 t m' x' hx' (by unfold gen; rw [if_neg hd, ← h1]; exact hg)
      have hd' : deepP π t = false := by simpa using hd
      have hq := locP_shallow hd' h5
      subst hq
      have hv : S'.hv (r, []) = S.hv (r, []) := h3.elim (·.2) fun h => h.2 []
      exact ⟨[], o, b, h5, okP_shallow hd' hv h6, by rw [hv]; exact h7, h8⟩
theorem ViewOK.keep {S S' : St} {σ σ' : Env} {r : Nat} {π : List Nat} {s : Nat} {v : Value} (h : ViewOK S σ r π s v) (hc : Chg S S' σ σ' r) : ViewOK S' σ' r π s v := by
  refine ⟨Nat.le_trans h.1 hc.le, fun t m x hx hg => ?_⟩
  have hs := h.1
  rcases hc with ⟨h0, h1 | ⟨h1, h2, h3⟩⟩
  · omega
  · obtain ⟨m', x', hx'⟩ := h2 t m x hx
    rcases h3 with ⟨h3, _⟩ | ⟨h3, h4⟩
    · omega
    · obtain ⟨h5, h6⟩ := h.2 t m' x' hx' (by rw [← h3]; exact hg)
      exact ⟨okP_congr (fun q => by simpa [pa] using h4 q) h5, by rw [h4]; exact h6⟩
section
variable {P : Program}
theorem SR.mono {q : Bool} {t : Ty} {S S' : St} {m : Md} {p p' : Place} {x : t.den} {v : Value} (h : SR P t S m p x v) (hm : q = true ∨ m.nobw = true) (hT : Tr q S S' p p') : SR P t S' m p' x v := ⟨h.1.mono hm hT fun _ _ => rfl, h.2⟩
theorem SlotOK.keep {S S' : St} {σ σ' : Env} {tm tm' : Nat → Value} {t : Nat} (h : SlotOK P S σ tm t) (hx : (σ' t).e = (σ t).e) (ht : tm' t = tm t) (hc : ∀ r, Chg S S' σ σ' r)
    (hT : Tr true S S' (t, []) (t, [])) : SlotOK P S' σ' tm' t := by
  unfold SlotOK at *
  rw [hx, ht]
  generalize (σ t).e = e at *
  cases e with
  | v ty m x => exact h.mono (.inl rfl) hT
  | ref r π s => exact RefOK.keep h (hc r)
  | view r π s => exact ViewOK.keep h (hc r)
  | tup es =>
    obtain ⟨vs, h1, h2, h3⟩ := h
    refine ⟨vs, h1, h2, fun k e hk => ?_⟩
    obtain ⟨u, h4, h5⟩ := h3 k e hk
    exact ⟨u, h4, h5.mono (.inl rfl) (hT.px k)⟩
  | clo f caps =>
    obtain ⟨ps, h1, h2, h3⟩ := h
    refine ⟨ps, h1, h2, fun k c hk => ?_⟩
    obtain ⟨u, h4, h5⟩ := h3 k c hk
    refine ⟨u, h4, ?_⟩
    cases c with
    | ref r π s => exact RefOK.keep h5 (hc r)
    | val e =>
      exact ⟨h5.1.fut (.inr rfl) ⟨hT.F, fun b _ hb => hT.B rfl b hb, fun b hb => (hT.G (.inl rfl) hb).2⟩ fun _ _ => rfl, h5.2⟩
  | mth nm e =>
    obtain ⟨u, h1, h5⟩ := h
    exact ⟨u, h1, h5.1.fut (.inr rfl) ⟨hT.F, fun b _ hb => hT.B rfl b hb, fun b hb => (hT.G (.inl rfl) hb).2⟩ fun _ _ => rfl, h5.2⟩
  | skip => exact h
  | dead => trivial
end
end Go.X
