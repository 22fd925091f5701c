import Derived.Test.YthlgoakkgmabaaaGreatX5
/- Environments of typed entries, and the invariant between an environment and a frame and a world. -/
namespace Go.X
open Go Go.RowKit
/-- A pointer crosses a header on its way. -/
def crossB : List Nat → Ty → Bool
  | [], _ => false
  | i :: π, .pair a b => match i with
    | 0 => crossB π a
    | 1 => crossB π b
    | _ => false
  | _ :: π, .arr _ t => crossB π t
  | _ :: _, .slice _ => true
  | _ :: _, .ptr _ => true
  | _, _ => false
/-- It crosses more than the root's own header. -/
def deepP : List Nat → Ty → Bool
  | _ :: π, .slice t => crossB π t
  | i :: π, .ptr t => match i with
    | 0 => crossB π t
    | _ => true
  | _, _ => true
theorem crossB_arr (i : Nat) (π : List Nat) (n : Nat) (t : Ty) : crossB (i :: π) (.arr n t) = crossB π t := by cases i <;> (try rename_i j; cases j) <;> rfl
theorem crossB_slice (i : Nat) (π : List Nat) (t : Ty) : crossB (i :: π) (.slice t) = true := by cases i <;> (try rename_i j; cases j) <;> rfl
theorem crossB_ptr (i : Nat) (π : List Nat) (t : Ty) : crossB (i :: π) (.ptr t) = true := by cases i <;> (try rename_i j; cases j) <;> rfl
theorem okP_nocross {S S' : St} : ∀ {π : List Nat} {t : Ty} {p : Place}, crossB π t = false → okP S π t p → okP S' π t p
  | [], _, _, _, _ => trivial
  | i :: π, .pair a b, p, h, ho => by
    match i with
    | 0 => exact okP_nocross (π := π) (t := a) h ho
    | 1 => exact okP_nocross (π := π) (t := b) h ho
    | i + 2 => exact ho.elim
  | i :: π, .arr n t, p, h, ho => by
    rw [crossB_arr] at h
    rw [okP_arr] at ho ⊢
    exact ⟨ho.1, okP_nocross h ho.2⟩
  | i :: π, .slice t, p, h, ho => by rw [crossB_slice] at h; cases h
  | i :: π, .ptr t, p, h, ho => by rw [crossB_ptr] at h; cases h
  | _ :: _, .int _, _, _, ho => by simp [okP] at ho
  | _ :: _, .bool, _, _, ho => by simp [okP] at ho
  | _ :: _, .str, _, _, ho => by simp [okP] at ho
  | _ :: _, .unit, _, _, ho => by simp [okP] at ho
  | _ :: _, .fn1 _ _, _, _, ho => by simp [okP] at ho
  | _ :: _, .fn2 _ _ _, _, _, ho => by simp [okP] at ho
  | _ :: _, .alt _ _ _, _, _, ho => by simp [okP] at ho
  | _ :: _, .nilI, _, _, ho => by simp [okP] at ho
theorem okP_congr {S S' : St} : ∀ {π : List Nat} {t : Ty} {p : Place}, (∀ q, S'.hv (pa p q) = S.hv (pa p q)) → okP S π t p → okP S' π t p
  | [], _, _, _, _ => trivial
  | i :: π, .pair a b, p, h, ho => by
    match i with
    | 0 => exact okP_congr (π := π) (t := a) (p := px p 0) (fun q => by rw [pa_px]; exact h _) ho
    | 1 => exact okP_congr (π := π) (t := b) (p := px p 1) (fun q => by rw [pa_px]; exact h _) ho
    | i + 2 => exact ho.elim
  | i :: π, .arr n t, p, h, ho => by
    rw [okP_arr] at ho ⊢
    exact ⟨ho.1, okP_congr (fun q => by rw [pa_px]; exact h _) ho.2⟩
  | i :: π, .slice t, p, h, ho => by
    rw [okP_slice] at ho ⊢
    have h0 := h []
    rw [pa_nil] at h0
    exact ⟨by rw [h0]; exact ho.1, okP_congr (fun q => by rw [pa_px]; exact h _) ho.2⟩
  | i :: π, .ptr t, p, h, ho => by
    match i with
    | 0 => exact okP_congr (π := π) (t := t) (p := px p 0) (fun q => by rw [pa_px]; exact h _) ho
    | i + 1 => simp [okP] at ho
  | _ :: _, .int _, _, _, ho => by simp [okP] at ho
  | _ :: _, .bool, _, _, ho => by simp [okP] at ho
  | _ :: _, .str, _, _, ho => by simp [okP] at ho
  | _ :: _, .unit, _, _, ho => by simp [okP] at ho
  | _ :: _, .fn1 _ _, _, _, ho => by simp [okP] at ho
  | _ :: _, .fn2 _ _ _, _, _, ho => by simp [okP] at ho
  | _ :: _, .alt _ _ _, _, _, ho => by simp [okP] at ho
  | _ :: _, .nilI, _, _, ho => by simp [okP] at ho
theorem locP_nocross : ∀ {π : List Nat} {t : Ty} {q : List Nat} {o : Nat}, crossB π t = false → locP π t ≠ some (some q, o)
  | [], _, _, _, _, hl => by simp [locP] at hl
  | i :: π, .pair a b, q, o, h, hl => by
    match i with
    | 0 =>
      simp only [locP, Option.map_eq_some_iff] at hl
      obtain ⟨⟨q', o'⟩, h1, h2⟩ := hl
      cases q' with
      | none => simp at h2
      | some q' => exact locP_nocross (π := π) (t := a) h h1
    | 1 =>
      simp only [locP, Option.map_eq_some_iff] at hl
      obtain ⟨⟨q', o'⟩, h1, h2⟩ := hl
      cases q' with
      | none => simp at h2
      | some q' => exact locP_nocross (π := π) (t := b) h h1
    | i + 2 => simp [locP] at hl
  | i :: π, .arr n t, q, o, h, hl => by
    rw [crossB_arr] at h
    rw [locP_arr] at hl
    simp only [Option.map_eq_some_iff] at hl
    obtain ⟨⟨q', o'⟩, h1, h2⟩ := hl
    cases q' with
    | none => simp at h2
    | some q' => exact locP_nocross h h1
  | i :: π, .slice t, _, _, h, _ => by rw [crossB_slice] at h; cases h
  | i :: π, .ptr t, _, _, h, _ => by rw [crossB_ptr] at h; cases h
  | _ :: _, .int _, _, _, _, hl => by simp [locP] at hl
  | _ :: _, .bool, _, _, _, hl => by simp [locP] at hl
  | _ :: _, .str, _, _, _, hl => by simp [locP] at hl
  | _ :: _, .unit, _, _, _, hl => by simp [locP] at hl
  | _ :: _, .fn1 _ _, _, _, _, hl => by simp [locP] at hl
  | _ :: _, .fn2 _ _ _, _, _, _, hl => by simp [locP] at hl
  | _ :: _, .alt _ _ _, _, _, _, hl => by simp [locP] at hl
  | _ :: _, .nilI, _, _, _, hl => by simp [locP] at hl
theorem locP_shallow {π : List Nat} {t : Ty} {q : List Nat} {o : Nat} (h : deepP π t = false) (hl : locP π t = some (some q, o)) : q = [] := by
  cases π with
  | nil => simp [deepP] at h
  | cons i π =>
    cases t with
    | slice t =>
      have h' : crossB π t = false := by cases i <;> (try rename_i j; cases j) <;> exact h
      rw [locP_slice] at hl
      simp only [Option.map_eq_some_iff] at hl
      obtain ⟨⟨q', o'⟩, h1, h2⟩ := hl
      cases q' with
      | none => simp at h2; exact h2.1
      | some q' => exact absurd h1 (locP_nocross h')
    | ptr t =>
      match i with
      | 0 =>
        simp only [locP, Option.map_eq_some_iff] at hl
        obtain ⟨⟨q', o'⟩, h1, h2⟩ := hl
        cases q' with
        | none => simp at h2; exact h2.1
        | some q' => exact absurd h1 (locP_nocross (t := t) (by simpa [deepP] using h))
      | i + 1 => simp [locP] at hl
    | _ => simp [deepP] at h
theorem okP_shallow {S S' : St} {π : List Nat} {t : Ty} {p : Place} (h : deepP π t = false) (hv : S'.hv p = S.hv p) (ho : okP S π t p) : okP S' π t p := by
  cases π with
  | nil => simp [deepP] at h
  | cons i π =>
    cases t with
    | slice t =>
      have h' : crossB π t = false := by cases i <;> (try rename_i j; cases j) <;> exact h
      rw [okP_slice] at ho ⊢
      exact ⟨by rw [hv]; exact ho.1, okP_nocross h' ho.2⟩
    | ptr t =>
      match i with
      | 0 => exact okP_nocross (π := π) (t := t) (by simpa [deepP] using h) ho
      | i + 1 => simp [okP] at ho
    | _ => simp [deepP] at h
/- ENTRIES -/
structure TM where
  t : Ty
  m : Md
  x : t.den
/-- A captured pointer. -/
inductive Cap where
  | ref (r : Nat) (π : List Nat) (s : Nat)
  | val (e : TM)
/-- What a slot holds: a value; a pointer to a part of what slot r holds; a copy of a slice header there; results; a function literal; nothing done; nothing. -/
inductive Ent where
  | v (t : Ty) (m : Md) (x : t.den)
  | ref (r : Nat) (π : List Nat) (s : Nat)
  | view (r : Nat) (π : List Nat) (s : Nat)
  | tail (r : Nat) (s : Nat) (lo : Nat)
  | tup (es : List TM)
  | clo (f : Nat) (caps : List Cap)
  | mth (nm : String) (e : TM)
  | skip
  | dead
  deriving Inhabited
structure Slot where
  e : Ent
  g : Nat
  h : Nat
abbrev Env := Nat → Slot
def SR (P : Program) (t : Ty) (S : St) (m : Md) (p : Place) (x : t.den) (v : Value) : Prop := Rel P t S m p x (vcells t v) ∧ AggOK t v
/-- Is a pointer of stamp s still good? -/
def gen (c : Slot) (t : Ty) (π : List Nat) (s : Nat) : Prop := if deepP π t then c.h = s else c.g = s
def RefOK (S : St) (σ : Env) (r : Nat) (π : List Nat) (s : Nat) (v : Value) : Prop :=
  s ≤ (σ r).h ∧ ∀ t m x, (σ r).e = .v t m x → gen (σ r) t π s → ∃ q o b, locP π t = some (some q, o) ∧ okP S π t (r, []) ∧ hvB (S.hv (r, q)) = some b ∧ v = .pointer (some ⟨b, o, none⟩)
def ViewOK (S : St) (σ : Env) (r : Nat) (π : List Nat) (s : Nat) (v : Value) : Prop :=
  s ≤ (σ r).h ∧ ∀ t m x, (σ r).e = .v t m x → (σ r).h = s → okP S π t (r, []) ∧ v = S.hv (r, π)
/-- The slice behind the first lo elements of a slice. -/
def TailV (hv : Value) (lo sz : Nat) (v : Value) : Prop :=
  (∃ A A' c c', v = .slice A 0 c ∧ hv = .slice A' lo c') ∨ ∃ g n c c', hv = .slice (some ⟨g, 0, none⟩) n c ∧ lo < n ∧ v = .slice (some ⟨g, lo * sz, none⟩) (n - lo) c'
def TailOK (S : St) (σ : Env) (r : Nat) (s lo : Nat) (v : Value) : Prop :=
  s ≤ (σ r).h ∧ ∀ t m x, (σ r).e = .v t m x → (σ r).h = s → ∃ u, t = .slice u ∧ TailV (S.hv (r, [])) lo u.size v
def CapOK (P : Program) (S : St) (σ : Env) (v : Value) : Cap → Prop
  | .ref r π s => RefOK S σ r π s v
  | .val e => SR P e.t S .bw (0, []) e.x v
def SlotOK (P : Program) (S : St) (σ : Env) (tm : Nat → Value) (t : Nat) : Prop :=
  match (σ t).e with
  | .v ty m x => SR P ty S m (t, []) x (tm t)
  | .ref r π s => RefOK S σ r π s (tm t)
  | .view r π s => ViewOK S σ r π s (tm t)
  | .tail r s lo => TailOK S σ r s lo (tm t)
  | .tup es => ∃ vs, tm t = .tuple vs ∧ vs.size = es.length ∧ ∀ (k : Nat) (e : TM), es[k]? = some e → ∃ u, vs[k]? = some u ∧ SR P e.t S e.m (t, [k]) e.x u
  | .clo f caps => ∃ ps : List Value, tm t = .func (.func f) #[] ps.toArray ∧ ps.length = caps.length ∧ ∀ (k : Nat) (c : Cap), caps[k]? = some c → ∃ u, ps[k]? = some u ∧ CapOK P S σ u c
  | .mth nm e => ∃ u, tm t = .func (.method nm) #[u] #[] ∧ SR P e.t S .bw (0, []) e.x u
  | .skip => tm t = .tuple #[]
  | .dead => True
structure Ctx where
  w0 : World
  F0 : Nat → Prop
  B : Nat → Prop
  O : Nat → Prop
  N : Nat
  K : Nat → Option Value
structure InvOf (P : Program) (c : Ctx) (σ : Env) (a : Act) (S : St) : Prop where
  defers : a.defers = []
  size : a.tmps.size = c.N
  slots : ∀ t, SlotOK P S σ (tmv a) t
  gens : ∀ t, (σ t).g ≤ (σ t).h
  lent : S.B = c.B
  shared : ∀ b, S.F b → S.own b = none ∧ b < S.w.heap.size ∧ (c.F0 b ∨ c.w0.heap.size ≤ b ∨ c.O b)
  shared0 : ∀ b, c.F0 b → S.F b
  borrowed : ∀ b, c.B b → S.own b = none ∧ b < c.w0.heap.size ∧ ¬ c.O b
  owned : ∀ b p, S.own b = some p → b < S.w.heap.size ∧ (c.w0.heap.size ≤ b ∨ c.O b)
  os : S.w.os = c.w0.os
  tape : S.w.tape = c.w0.tape
  output : S.w.output = c.w0.output
  grown : c.w0.heap.size ≤ S.w.heap.size
  kept : ∀ b, b < c.w0.heap.size → ¬ c.O b → S.w.heap[b]? = c.w0.heap[b]?
def Inv (P : Program) (c : Ctx) (σ : Env) (a : Act) (w : World) : Prop := ∃ S, S.w = w ∧ InvOf P c σ a S
/- ENVIRONMENTS THAT CHANGE -/
/-- Slot r's change: replaced; its tree turned; values in it turned. -/
def Chg (S S' : St) (σ σ' : Env) (r : Nat) : Prop :=
  (σ' r).g ≤ (σ' r).h ∧ ((σ r).h < (σ' r).g ∨
  ((σ' r).g = (σ r).g ∧ (∀ t m x, (σ' r).e = .v t m x → ∃ m' x', (σ r).e = .v t m' x') ∧
    ((σ r).h < (σ' r).h ∧ S'.hv (r, []) = S.hv (r, []) ∨ (σ' r).h = (σ r).h ∧ ∀ q, S'.hv (r, q) = S.hv (r, q))))
theorem Chg.refl {S S' : St} {σ σ' : Env} {r : Nat} (hg : (σ r).g ≤ (σ r).h) (h : σ' r = σ r) (hv : ∀ q, S'.hv (r, q) = S.hv (r, q)) : Chg S S' σ σ' r := by
  unfold Chg
  rw [h]
  exact ⟨hg, .inr ⟨rfl, fun t m x h => ⟨m, x, h⟩, .inr ⟨rfl, hv⟩⟩⟩
theorem Chg.le {S S' : St} {σ σ' : Env} {r : Nat} (h : Chg S S' σ σ' r) : (σ r).h ≤ (σ' r).h := by
  rcases h with ⟨h0, h | ⟨_, _, h | h⟩⟩ <;> omega
theorem RefOK.keep {S S' : St} {σ σ' : Env} {r : Nat} {π : List Nat} {s : Nat} {v : Value} (h : RefOK S σ r π s v) (hc : Chg S S' σ σ' r) : RefOK S' σ' r π s v := by
  refine ⟨Nat.le_trans h.1 hc.le, fun t m x hx hg => ?_⟩
  have hs := h.1
  rcases hc with ⟨h0, h1 | ⟨h1, h2, h3⟩⟩
  · unfold gen at hg; split at hg <;> omega
  · obtain ⟨m', x', hx'⟩ := h2 t m x hx
    by_cases hd : deepP π t = true
    · unfold gen at hg
      rw [if_pos hd] at hg
      rcases h3 with ⟨h3, _⟩ | ⟨h3, h4⟩
      · omega
      · obtain ⟨q, o, b, h5, h6, h7, h8⟩ := h.2 t m' x' hx' (by unfold gen; rw [if_pos hd, ← h3]; exact hg)
        exact ⟨q, o, b, h5, okP_congr (fun q => by simpa [pa] using h4 q) h6, by rw [h4]; exact h7, h8⟩
    · unfold gen at hg
      rw [if_neg hd] at hg
      obtain ⟨q, o, b, h5, h6, h7, h8⟩ := h.2 t m' x' hx' (by unfold gen; rw [if_neg hd, ← h1]; exact hg)
      have hd' : deepP π t = false := by simpa using hd
      have hq := locP_shallow hd' h5
      subst hq
      have hv : S'.hv (r, []) = S.hv (r, []) := h3.elim (·.2) fun h => h.2 []
      exact ⟨[], o, b, h5, okP_shallow hd' hv h6, by rw [hv]; exact h7, h8⟩
theorem ViewOK.keep {S S' : St} {σ σ' : Env} {r : Nat} {π : List Nat} {s : Nat} {v : Value} (h : ViewOK S σ r π s v) (hc : Chg S S' σ σ' r) : ViewOK S' σ' r π s v := by
  refine ⟨Nat.le_trans h.1 hc.le, fun t m x hx hg => ?_⟩
  have hs := h.1
  rcases hc with ⟨h0, h1 | ⟨h1, h2, h3⟩⟩
  · omega
  · obtain ⟨m', x', hx'⟩ := h2 t m x hx
    rcases h3 with ⟨h3, _⟩ | ⟨h3, h4⟩
    · omega
    · obtain ⟨h5, h6⟩ := h.2 t m' x' hx' (by rw [← h3]; exact hg)
      exact ⟨okP_congr (fun q => by simpa [pa] using h4 q) h5, by rw [h4]; exact h6⟩
theorem TailOK.keep {S S' : St} {σ σ' : Env} {r s lo : Nat} {v : Value} (h : TailOK S σ r s lo v) (hc : Chg S S' σ σ' r) : TailOK S' σ' r s lo v := by
  refine ⟨Nat.le_trans h.1 hc.le, fun t m x hx hg => ?_⟩
  have hs := h.1
  rcases hc with ⟨h0, h1 | ⟨h1, h2, h3⟩⟩
  · omega
  · obtain ⟨m', x', hx'⟩ := h2 t m x hx
    rcases h3 with ⟨h3, _⟩ | ⟨h3, h4⟩
    · omega
    · obtain ⟨u, h5, h6⟩ := h.2 t m' x' hx' (by rw [← h3]; exact hg)
      exact ⟨u, h5, by rw [h4]; exact h6⟩
section
variable {P : Program}
theorem SR.mono {q : Bool} {t : Ty} {S S' : St} {m : Md} {p p' : Place} {x : t.den} {v : Value} (h : SR P t S m p x v) (hm : q = true ∨ m.nobw = true) (hT : Tr q S S' p p') : SR P t S' m p' x v := ⟨h.1.mono hm hT fun _ _ => rfl, h.2⟩
theorem SlotOK.keep {S S' : St} {σ σ' : Env} {tm tm' : Nat → Value} {t : Nat} (h : SlotOK P S σ tm t) (hx : (σ' t).e = (σ t).e) (ht : tm' t = tm t) (hc : ∀ r, Chg S S' σ σ' r)
    (hT : Tr true S S' (t, []) (t, [])) : SlotOK P S' σ' tm' t := by
  unfold SlotOK at *
  rw [hx, ht]
  generalize (σ t).e = e at *
  cases e with
  | v ty m x => exact h.mono (.inl rfl) hT
  | ref r π s => exact RefOK.keep h (hc r)
  | view r π s => exact ViewOK.keep h (hc r)
  | tail r s lo => exact TailOK.keep h (hc r)
  | tup es =>
    obtain ⟨vs, h1, h2, h3⟩ := h
    refine ⟨vs, h1, h2, fun k e hk => ?_⟩
    obtain ⟨u, h4, h5⟩ := h3 k e hk
    exact ⟨u, h4, h5.mono (.inl rfl) (hT.px k)⟩
  | clo f caps =>
    obtain ⟨ps, h1, h2, h3⟩ := h
    refine ⟨ps, h1, h2, fun k c hk => ?_⟩
    obtain ⟨u, h4, h5⟩ := h3 k c hk
    refine ⟨u, h4, ?_⟩
    cases c with
    | ref r π s => exact RefOK.keep h5 (hc r)
    | val e =>
      exact ⟨h5.1.fut (.inr rfl) ⟨hT.F, fun b _ hb => hT.B rfl b hb, fun b hb => (hT.G (.inl rfl) hb).2⟩ fun _ _ => rfl, h5.2⟩
  | mth nm e =>
    obtain ⟨u, h1, h5⟩ := h
    exact ⟨u, h1, h5.1.fut (.inr rfl) ⟨hT.F, fun b _ hb => hT.B rfl b hb, fun b hb => (hT.G (.inl rfl) hb).2⟩ fun _ _ => rfl, h5.2⟩
  | skip => exact h
  | dead => trivial
end
end Go.X
/- Rebuilding the invariant: a new value in a slot; a part replaced; memory frozen; values moved. -/
namespace Go.X
open Go Go.RowKit
/-- Updates of an environment: 0 = the slot is new, 1 = its tree turns, 2 = values in it turn. -/
def bump (k : Nat) (c : Slot) (e : Ent) : Slot :=
  match k with
  | 0 => ⟨e, c.h + 1, c.h + 1⟩
  | 1 => ⟨e, c.g, c.h + 1⟩
  | _ => ⟨e, c.g, c.h⟩
def set1 (σ : Env) (t : Nat) (e : Ent) (k : Nat) : Env := fun u => if u = t then bump k (σ t) e else σ u
theorem set1_same (σ : Env) (t : Nat) (e : Ent) (k : Nat) : set1 σ t e k t = bump k (σ t) e := by simp [set1]
theorem set1_ne (σ : Env) {t u : Nat} (e : Ent) (k : Nat) (h : u ≠ t) : set1 σ t e k u = σ u := by simp [set1, h]
theorem bump_e (k : Nat) (c : Slot) (e : Ent) : (bump k c e).e = e := by unfold bump; split <;> rfl
theorem set1_e (σ : Env) (t : Nat) (e : Ent) (k : Nat) : (set1 σ t e k t).e = e := by rw [set1_same, bump_e]
section
variable {P : Program} {c : Ctx} {σ σ' : Env} {a a' : Act} {S S' : St}
theorem InvOf.rebuild (h : InvOf P c σ a S) (D : Nat → Prop) (hd : a'.defers = []) (hsz : a'.tmps.size = c.N)
    (hkeep : ∀ t, ¬ D t → σ' t = σ t ∧ tmv a' t = tmv a t) (hchg : ∀ r, D r → Chg S S' σ σ' r) (hslots : ∀ t, D t → SlotOK P S' σ' (tmv a') t)
    (hF : ∀ b, S.F b → S'.F b) (hsF : ∀ b, S.F b → S'.w.heap[b]? = S.w.heap[b]?) (hB : S'.B = S.B) (hsB : ∀ b, S.B b → S'.w.heap[b]? = S.w.heap[b]?)
    (hhv : ∀ t, ¬ D t → ∀ q, S'.hv (t, q) = S.hv (t, q)) (hown : ∀ t, ¬ D t → ∀ b q, S.own b = some (t, q) → S'.own b = some (t, q) ∧ S'.w.heap[b]? = S.w.heap[b]?)
    (hsh : ∀ b, S'.F b → S'.own b = none ∧ b < S'.w.heap.size ∧ (c.F0 b ∨ c.w0.heap.size ≤ b ∨ c.O b)) (hbo : ∀ b, c.B b → S'.own b = none)
    (how : ∀ b p, S'.own b = some p → b < S'.w.heap.size ∧ (c.w0.heap.size ≤ b ∨ c.O b))
    (hos : S'.w.os = S.w.os) (htp : S'.w.tape = S.w.tape) (hout : S'.w.output = S.w.output) (hgr : S.w.heap.size ≤ S'.w.heap.size)
    (hk : ∀ b, b < c.w0.heap.size → ¬ c.O b → S'.w.heap[b]? = S.w.heap[b]?) : InvOf P c σ' a' S' := by
  have hall : ∀ r, Chg S S' σ σ' r := fun r => by
    by_cases hr : D r
    · exact hchg r hr
    · exact .refl (h.gens r) (hkeep r hr).1 (hhv r hr)
  refine ⟨hd, hsz, fun t => ?_, fun t => (hall t).1, by rw [hB]; exact h.lent, hsh, fun b hb => hF b (h.shared0 b hb), fun b hb => ⟨hbo b hb, (h.borrowed b hb).2⟩, how, hos.trans h.os, htp.trans h.tape, hout.trans h.output,
    Nat.le_trans h.grown hgr, fun b hb hO => (hk b hb hO).trans (h.kept b hb hO)⟩
  by_cases ht : D t
  · exact hslots t ht
  · refine (h.slots t).keep (by rw [(hkeep t ht).1]) (hkeep t ht).2 hall ⟨hF, hsF, fun _ b hb => .inr (by rw [hB]; exact hb), fun _ => hsB, fun r => ?_, fun b r hb => ?_⟩
    · simpa [pa] using hhv t ht r
    · simpa [pa] using hown t ht b r (by simpa [pa] using hb)
/-- The state in a world with more blocks. -/
theorem InvOf.wlt (h : InvOf P c σ a S) {b : Nat} (hb : S.F b ∨ S.B b ∨ ∃ p, S.own b = some p) : b < S.w.heap.size := by
  rcases hb with hb | hb | ⟨p, hb⟩
  · exact (h.shared b hb).2.1
  · rw [h.lent] at hb; exact Nat.lt_of_lt_of_le (h.borrowed b hb).2.1 h.grown
  · exact (h.owned b p hb).1
theorem InvOf.WF (h : InvOf P c σ a S) : S.WF := ⟨fun b hb => ⟨(h.shared b hb).1, (h.shared b hb).2.1⟩, fun b hb => ⟨by rw [h.lent] at hb; exact (h.borrowed b hb).1, h.wlt (.inr (.inl hb))⟩, fun b p hb => (h.owned b p hb).1⟩
/-- A new entry in slot d: whatever it is, it owns at most new blocks. -/
theorem InvOf.put (h : InvOf P c σ a S) (hw : Ext S.w S'.w) (hF : S'.F = S.F) (hB : S'.B = S.B) {d : Nat} (hd : d < c.N) {e : Ent} {v : Value}
    (hhv : ∀ t, t ≠ d → ∀ q, S'.hv (t, q) = S.hv (t, q)) (ho : ∀ b, S'.own b = S.own b ∨ (S.own b = none ∧ S.w.heap.size ≤ b ∧ b < S'.w.heap.size))
    (hx : SlotOK P S' (set1 σ d e 0) (tmv (a.put (some d) v)) d) : InvOf P c (set1 σ d e 0) (a.put (some d) v) S' := by
  have hold : ∀ b, b < S.w.heap.size → S'.own b = S.own b := fun b hb => (ho b).elim id fun h => absurd h.2.1 (by omega)
  refine h.rebuild (fun t => t = d) (by simpa [Act.put] using h.defers) (by simpa [Act.put] using h.size) (fun t ht => ⟨set1_ne σ e 0 ht, tmv_put_ne ht⟩)
    (fun r hr => ?_) (fun t ht => by subst ht; exact hx) (fun b hb => by rw [hF]; exact hb) (fun b hb => hw.block b (h.wlt (.inl hb))) hB (fun b hb => hw.block b (h.wlt (.inr (.inl hb)))) hhv
    (fun t _ b q hb => ⟨(hold b (h.owned b _ hb).1).trans hb, hw.block b (h.owned b _ hb).1⟩) (fun b hb => ?_) (fun b hb => ?_) (fun b p hb => ?_) hw.os hw.tape hw.output hw.size
    (fun b hb _ => hw.block b (Nat.lt_of_lt_of_le hb h.grown))
  · subst hr
    refine ⟨by rw [set1_same]; exact Nat.le_refl _, .inl (by rw [set1_same]; exact Nat.lt_succ_self _)⟩
  · rw [hF] at hb
    exact ⟨(hold b (h.shared b hb).2.1).trans (h.shared b hb).1, Nat.lt_of_lt_of_le (h.shared b hb).2.1 hw.size, (h.shared b hb).2.2⟩
  · exact (hold b (Nat.lt_of_lt_of_le (h.borrowed b hb).2.1 h.grown)).trans (h.borrowed b hb).1
  · rcases ho b with he | ⟨_, h1, h2⟩
    · rw [he] at hb
      exact ⟨Nat.lt_of_lt_of_le (h.owned b p hb).1 hw.size, (h.owned b p hb).2⟩
    · exact ⟨h2, .inl (Nat.le_trans h.grown h1)⟩
theorem InvOf.slot (h : InvOf P c σ a S) {r : Nat} {t : Ty} {m : Md} {x : t.den} (hr : (σ r).e = .v t m x) : SR P t S m (r, []) x (tmv a r) := by
  have := h.slots r
  unfold SlotOK at this
  rw [hr] at this
  exact this
theorem SlotOK.v {S : St} {σ : Env} {tm : Nat → Value} {r : Nat} {t : Ty} {m : Md} {x : t.den} (hr : (σ r).e = .v t m x) (h : SR P t S m (r, []) x (tm r)) : SlotOK P S σ tm r := by
  unfold SlotOK
  rw [hr]
  exact h
/-- An entry that owns nothing, in the same world. -/
theorem InvOf.putv (h : InvOf P c σ a S) {d : Nat} (hd : d < c.N) {t : Ty} {m : Md} {x : t.den} {v : Value} (hv : SR P t S m (d, []) x v) : InvOf P c (set1 σ d (.v t m x) 0) (a.put (some d) v) S :=
  h.put (.refl _) rfl rfl hd (fun _ _ _ => rfl) (fun _ => .inl rfl) (.v (set1_e σ d _ 0) (by rw [tmv_put_same (by rw [h.size]; exact hd)]; exact hv))
/-- A pointer to a part of slot r. -/
theorem InvOf.putref (h : InvOf P c σ a S) {d r : Nat} {π : List Nat} {s : Nat} (hd : d < c.N) {v : Value} (hv : RefOK S σ r π s v) : InvOf P c (set1 σ d (.ref r π s) 0) (a.put (some d) v) S := by
  refine h.put (.refl _) rfl rfl hd (fun _ _ _ => rfl) (fun _ => .inl rfl) ?_
  unfold SlotOK
  rw [set1_e]
  show RefOK S _ r π s _
  rw [tmv_put_same (by rw [h.size]; exact hd)]
  refine hv.keep ?_
  by_cases hrd : r = d
  · subst hrd
    exact ⟨by rw [set1_same]; exact Nat.le_refl _, .inl (by rw [set1_same]; exact Nat.lt_succ_self _)⟩
  · exact .refl (h.gens r) (set1_ne σ _ _ hrd) fun _ => rfl
theorem InvOf.putview (h : InvOf P c σ a S) {d r : Nat} {π : List Nat} {s : Nat} (hd : d < c.N) {v : Value} (hv : ViewOK S σ r π s v) : InvOf P c (set1 σ d (.view r π s) 0) (a.put (some d) v) S := by
  refine h.put (.refl _) rfl rfl hd (fun _ _ _ => rfl) (fun _ => .inl rfl) ?_
  unfold SlotOK
  rw [set1_e]
  show ViewOK S _ r π s _
  rw [tmv_put_same (by rw [h.size]; exact hd)]
  refine hv.keep ?_
  by_cases hrd : r = d
  · subst hrd
    exact ⟨by rw [set1_same]; exact Nat.le_refl _, .inl (by rw [set1_same]; exact Nat.lt_succ_self _)⟩
  · exact .refl (h.gens r) (set1_ne σ _ _ hrd) fun _ => rfl
theorem InvOf.puttail (h : InvOf P c σ a S) {d r : Nat} {s lo : Nat} (hd : d < c.N) {v : Value} (hv : TailOK S σ r s lo v) : InvOf P c (set1 σ d (.tail r s lo) 0) (a.put (some d) v) S := by
  refine h.put (.refl _) rfl rfl hd (fun _ _ _ => rfl) (fun _ => .inl rfl) ?_
  unfold SlotOK
  rw [set1_e]
  show TailOK S _ r s lo _
  rw [tmv_put_same (by rw [h.size]; exact hd)]
  refine hv.keep ?_
  by_cases hrd : r = d
  · subst hrd
    exact ⟨by rw [set1_same]; exact Nat.le_refl _, .inl (by rw [set1_same]; exact Nat.lt_succ_self _)⟩
  · exact .refl (h.gens r) (set1_ne σ _ _ hrd) fun _ => rfl
/-- A slot is forgotten. -/
theorem InvOf.kill (h : InvOf P c σ a S) (s : Nat) : InvOf P c (set1 σ s .dead 0) a S :=
  h.rebuild (fun t => t = s) h.defers h.size (fun t ht => ⟨set1_ne σ _ _ ht, rfl⟩) (fun r hr => by subst hr; exact ⟨by rw [set1_same]; exact Nat.le_refl _, .inl (by rw [set1_same]; exact Nat.lt_succ_self _)⟩)
    (fun t ht => by subst ht; unfold SlotOK; rw [set1_e]; trivial) (fun _ h => h) (fun _ _ => rfl) rfl (fun _ _ => rfl) (fun _ _ _ => rfl) (fun _ _ _ _ hb => ⟨hb, rfl⟩) h.shared (fun b hb => (h.borrowed b hb).1) h.owned rfl rfl rfl (Nat.le_refl _) (fun _ _ _ => rfl)
theorem Chg.bump {k : Nat} {r : Nat} {t : Ty} {m m' : Md} {x x' : t.den} (hg : (σ r).g ≤ (σ r).h) (hr : (σ r).e = .v t m x) (h' : σ' r = Go.X.bump k (σ r) (.v t m' x'))
    (h1 : k = 1 → S'.hv (r, []) = S.hv (r, [])) (h2 : k ≠ 0 → k ≠ 1 → ∀ q, S'.hv (r, q) = S.hv (r, q)) : Chg S S' σ σ' r := by
  unfold Chg
  rw [h']
  have ht : ∀ (c : Slot), c.e = .v t m' x' → ∀ t' m2 x2, c.e = .v t' m2 x2 → ∃ m' x', (σ r).e = .v t' m' x' := fun c hc t' m2 x2 h => by
    rw [hc] at h; cases h; exact ⟨m, x, hr⟩
  match k, h1, h2 with
  | 0, _, _ => exact ⟨Nat.le_refl _, .inl (Nat.lt_succ_self _)⟩
  | 1, h1, _ => exact ⟨Nat.le_succ_of_le hg, .inr ⟨rfl, ht _ rfl, .inl ⟨Nat.lt_succ_self _, h1 rfl⟩⟩⟩
  | k + 2, _, h2 => exact ⟨hg, .inr ⟨rfl, ht _ rfl, .inr ⟨rfl, h2 (by omega) (by omega)⟩⟩⟩
end
end Go.X
/- Parts of a slot's value: what they are, frozen, taken, given, written. -/
namespace Go.X
open Go Go.RowKit
theorem set_getD_self {α : Type} {xs : List α} {i : Nat} {d : α} : xs.set i (xs.getD i d) = xs := by
  apply List.ext_getElem?
  intro j
  rw [List.getElem?_set]
  split
  · rename_i h
    subst h
    split
    · rename_i h; simp [List.getD_eq_getElem?_getD, h]
    · rename_i h; rw [List.getElem?_eq_none (by omega)]
  · rfl
theorem TV.to_self (t : Ty) (x : t.den) : TV.to ⟨t, x⟩ t = some x := by simp [TV.to]
theorem setP_getP : ∀ {π : List Nat} {t : Ty} {x : t.den} {y : TV}, getP π t x = some y → setP π t x y = some x
  | [], t, x, y, h => by simp only [getP, Option.some.injEq] at h; subst h; exact TV.to_self t x
  | i :: π, .pair a b, x, y, h => by
    match i with
    | 0 => simp only [getP] at h; simp only [setP, setP_getP h]; rfl
    | 1 => simp only [getP] at h; simp only [setP, setP_getP h]; rfl
    | i + 2 => simp [getP] at h
  | i :: π, .arr n t, x, y, h => by
    rw [getP_arr] at h
    rw [setP_arr, setP_getP h]
    simp only [Option.map_some, set_getD_self]
  | i :: π, .slice t, x, y, h => by
    rw [getP_slice] at h
    rw [setP_slice, setP_getP h]
    simp only [Option.map_some, set_getD_self]
  | i :: π, .ptr t, x, y, h => by
    match i with
    | 0 => simp only [getP] at h; simp only [setP]; exact setP_getP (t := t) h
    | i + 1 => simp [getP] at h
  | _ :: _, .int _, _, _, h => by simp [getP] at h
  | _ :: _, .bool, _, _, h => by simp [getP] at h
  | _ :: _, .str, _, _, h => by simp [getP] at h
  | _ :: _, .unit, _, _, h => by simp [getP] at h
  | _ :: _, .fn1 _ _, _, _, h => by simp [getP] at h
  | _ :: _, .fn2 _ _ _, _, _, h => by simp [getP] at h
  | _ :: _, .alt _ _ _, _, _, h => by simp [getP] at h
  | _ :: _, .nilI, _, _, h => by simp [getP] at h
section
variable {P : Program} {c : Ctx} {σ σ' : Env} {a a' : Act} {S S' : St}
theorem blk_cur {w : World} {b o : Nat} {cur : Array Value} {e : TypeId} (h : w.heap[b]? = some (.cells cur e (0, 0))) : blk w b o = fun i => cur[o + i]? := funext fun i => by
  show w.cell? ⟨b, o + i, none⟩ = _
  rw [cell_of_row w b _ cur e (0, 0) h]
/-- The whole value again after its part has been replaced. -/
theorem Rel.updAt {s : Ty} {y : s.den} {k : Md} {π : List Nat} {t : Ty} {m m' : Md} {p : Place} {x x' : t.den} {cs : Cs} {l : Option (List Nat) × Nat} (h : Rel P t S m p x cs) (hl : locP π t = some l) (hm : setM π t m k = some m')
    (hs : setP π t x ⟨s, y⟩ = some x') (ho : okP S π t p)
    (hc : match l with
      | (none, o) => Fr S S' p π none ∧ Rel P s S' k (pa p π) y (fun i => cs (o + i))
      | (some q, o) => ∃ b cur cur' e, hvB (S.hv (pa p q)) = some b ∧ S.own b = some (pa p q) ∧ S.w.heap[b]? = some (.cells cur e (0, 0)) ∧ S'.w.heap[b]? = some (.cells cur' e (0, 0)) ∧ cur'.size = cur.size ∧
          (∀ i, i < o ∨ o + s.size ≤ i → cur'[i]? = cur[i]?) ∧ Fr S S' p π (some b) ∧ Rel P s S' k (pa p π) y (fun i => cur'[o + i]?)) : Rel P t S' m' p x' cs := by
  obtain ⟨q, o⟩ := l
  cases q with
  | none => exact h.updA hl hm hs ho hc.1 (fun _ _ _ => rfl) hc.2
  | some q =>
    obtain ⟨b, cur, cur', e, h1, h2, h3, h4, h5, h6, h7, h8⟩ := hc
    exact Rel.updB h3 h4 h5 rfl h6 h hl hm hs ho h1 h2 h7 (fun _ _ => rfl) h8
open Classical in
/-- The blocks behind a place of slot r become shared. -/
noncomputable def frzSt (S : St) (p : Place) : St := { S with F := fun b => S.F b ∨ ∃ ρ, S.own b = some (pa p ρ), own := fun b => if ∃ ρ, S.own b = some (pa p ρ) then none else S.own b }
theorem frz_own {S : St} {p : Place} {b : Nat} {q : Place} (h : S.own b = some q) (hn : ∀ ρ, q ≠ pa p ρ) : (frzSt S p).own b = some q := by
  unfold frzSt
  simp only
  rw [if_neg (by rintro ⟨ρ, hρ⟩; rw [h] at hρ; exact hn ρ (Option.some.inj hρ))]
  exact h
theorem frz_none {S : St} {p : Place} {b : Nat} (h : S.own b = none) : (frzSt S p).own b = none := by
  unfold frzSt
  simp only
  split
  · rfl
  · exact h
theorem pa_prefix {r : Nat} {π ρ : List Nat} {q : List Nat} (h : ((r, q) : Place) = pa (r, π) ρ) : π <+: q := by
  simp only [pa, Prod.mk.injEq, true_and] at h
  exact ⟨ρ, h.symm⟩
theorem InvOf.freeze (h : InvOf P c σ a S) {r : Nat} {t : Ty} {m m' k : Md} {x : t.den} {π : List Nat} {s : Ty} {y : s.den} (hr : (σ r).e = .v t m x) (hm : modeP π t m = some k) (hg : getP π t x = some ⟨s, y⟩) (ho : okP S π t (r, []))
    (hn : k.nobw = true) (hv : live s k = true) (hs : setM π t m .sh = some m') : ∃ S', InvOf P c (set1 σ r (.v t m' x) 2) a S' ∧ S'.w = S.w := by
  refine ⟨frzSt S (r, π), ?_, rfl⟩
  have hsr := h.slot hr
  obtain ⟨s', y', l, cs', h1, h2, h3, h4⟩ := Rel.at hsr.1 hm ho
  rw [hg] at h1
  cases h1
  have hpa : ∀ ρ, pa (r, []) ρ = (r, ρ) := fun ρ => by simp [pa]
  rw [hpa] at h3
  have hsh : Rel P s (frzSt S (r, π)) .sh (r, π) y cs' := Rel.share (q := false) (.inl rfl) h3 (.inr hn) hv
    ⟨fun b hb => ⟨.inl hb, rfl⟩, fun h => (by cases h), fun b ρ hb => ⟨.inl (.inr ⟨ρ, hb⟩), rfl⟩⟩
  have hfr : ∀ b0, Fr S (frzSt S (r, π)) (r, []) π b0 := fun b0 => ⟨fun b hb => .inl hb, fun _ _ => rfl, fun b hb => .inr hb, fun _ _ => rfl, fun _ _ => rfl, fun b ρ hρ hb => by
    rw [hpa] at hb ⊢
    exact ⟨frz_own hb fun ρ' he => hρ (pa_prefix he), fun _ => rfl⟩⟩
  have hrel : Rel P t (frzSt S (r, π)) m' (r, []) x (vcells t (tmv a r)) := by
    refine hsr.1.updAt h2 hs (setP_getP hg) ho ?_
    obtain ⟨q, o⟩ := l
    cases q with
    | none =>
      refine ⟨hfr _, ?_⟩
      rw [hpa]
      have h4' : cs' = fun i => vcells t (tmv a r) (o + i) := h4
      rw [← h4']
      exact hsh
    | some q =>
      obtain ⟨b, h5, h6, h7, cur, e, h8⟩ := h4
      refine ⟨b, cur, cur, e, h5, h6, h8, h8, rfl, fun _ _ => rfl, hfr _, ?_⟩
      rw [hpa, ← blk_cur h8, ← h7]
      exact hsh
  refine h.rebuild (fun t => t = r) h.defers h.size (fun t ht => ⟨set1_ne σ _ _ ht, rfl⟩) (fun t ht => ?_) (fun t ht => ?_) (fun b hb => .inl hb) (fun _ _ => rfl) rfl (fun _ _ => rfl) (fun _ _ _ => rfl) (fun t ht b q hb => ⟨frz_own hb fun ρ he => ht (by cases he; rfl), rfl⟩)
    (fun b hb => ?_) (fun b hb => frz_none (h.borrowed b hb).1) (fun b p hp => ?_) rfl rfl rfl (Nat.le_refl _) (fun _ _ _ => rfl)
  · subst ht
    exact .bump (h.gens t) hr (set1_same σ t _ 2) (fun h => by cases h) fun _ _ _ => rfl
  · subst ht
    exact .v (set1_e σ t _ 2) ⟨hrel, hsr.2⟩
  · rcases hb with hb | ⟨ρ, hb⟩
    · exact ⟨frz_none (h.shared b hb).1, (h.shared b hb).2⟩
    · refine ⟨?_, (h.owned b _ hb).1, .inr (h.owned b _ hb).2⟩
      unfold frzSt
      simp only
      rw [if_pos ⟨ρ, hb⟩]
  · have : S.own b = some p := by
      unfold frzSt at hp
      simp only at hp
      split at hp
      · cases hp
      · exact hp
    exact h.owned b p this
end
end Go.X
/- Values that own nothing; values that move from place to place. -/
namespace Go.X
open Go Go.RowKit
/-- It owns nothing. -/
def Md.noown : Md → Bool
  | .own _ _ => false
  | .pr a b => a.noown && b.noown
  | _ => true
theorem Md.noown_l {m : Md} (h : m.noown = true) : m.l.noown = true := by
  cases m <;> first | exact h | (simp only [Md.noown, Bool.and_eq_true] at h; exact h.1)
theorem Md.noown_r {m : Md} (h : m.noown = true) : m.r.noown = true := by
  cases m <;> first | exact h | (simp only [Md.noown, Bool.and_eq_true] at h; exact h.2)
theorem leM_dead : ∀ (t : Ty) (m : Md), leM t m .dead = true := by
  intro t
  induction t with
  | pair a b iha ihb => intro m; simp only [leM, Md.l, Md.r]; simp [iha, ihb]
  | arr n t ih => intro m; exact ih m
  | _ => intro m; cases m <;> rfl
section
variable {P : Program} {c : Ctx} {σ σ' : Env} {a a' : Act} {S S' : St}
/-- A later state for all that owns nothing. -/
structure Fut2 (S S' : St) : Prop where
  F : ∀ b, S.F b → S'.F b ∧ S'.w.heap[b]? = S.w.heap[b]?
  B : ∀ b, S.B b → (S'.F b ∨ S'.B b) ∧ S'.w.heap[b]? = S.w.heap[b]?
theorem Fut2.refl (S : St) : Fut2 S S := ⟨fun _ h => ⟨h, rfl⟩, fun _ h => ⟨.inr h, rfl⟩⟩
theorem Fut2.sh (h : Fut2 S S') (m : Md) : Fut m S S' := ⟨fun b hb => (h.F b hb).1, fun b _ hb => (h.B b hb).1, fun b hb => hb.elim (fun hb => (h.F b hb).2) fun hb => (h.B b hb.2).2⟩
theorem Rel.free : ∀ {t : Ty} {m : Md} {p p' : Place} {x : t.den} {cs cs' : Cs}, Rel P t S m p x cs → m.noown = true → Fut2 S S' → (∀ i, i < t.size → cs' i = cs i) → Rel P t S' m p' x cs' := by
  intro t
  have sb : ∀ {t : Ty} {m : Md} {p p' : Place} {x : t.den} {cs cs' : Cs}, m = .sh ∨ m = .bw → Rel P t S m p x cs → Fut2 S S' → (∀ i, i < t.size → cs' i = cs i) → Rel P t S' m p' x cs' := fun hm h hf hc => h.fut hm (hf.sh _) hc
  have d1 : ∀ {cs cs' : Cs}, dead1 cs → (∀ i, i < 1 → cs' i = cs i) → dead1 cs' := fun h hc => by
    obtain ⟨u, h1, h2⟩ := h; exact ⟨u, (hc 0 Nat.one_pos).trans h1, h2⟩
  induction t with
  | unit => intro m p p' x cs cs' h hm hf hc; trivial
  | pair a b iha ihb =>
    intro m p p' x cs cs' h hm hf hc
    simp only [Ty.size] at hc
    exact ⟨iha h.1 (Md.noown_l hm) hf fun i hi => hc i (by omega), ihb h.2 (Md.noown_r hm) hf fun i hi => hc _ (by omega)⟩
  | arr n t ih =>
    intro m p p' x cs cs' h hm hf hc
    simp only [Ty.size] at hc
    refine ⟨h.1, fun i hi => ih (h.2 i hi) hm hf fun j hj => hc _ ?_⟩
    have := h.1
    have : (i + 1) * t.size ≤ n * t.size := Nat.mul_le_mul_right _ (by omega)
    rw [Nat.add_mul] at this
    omega
  | alt tid a b iha ihb =>
    intro m p p' x cs cs' h hm hf hc
    by_cases hmd : m = .dead
    · subst hmd; exact d1 h hc
    · cases x with
      | inl y =>
        rw [Rel.alt_inl hmd] at h ⊢
        obtain ⟨v, h1, h2, h3⟩ := h
        exact ⟨v, (hc 0 Nat.one_pos).trans h1, iha h2 hm hf fun _ _ => rfl, h3⟩
      | inr z =>
        rw [Rel.alt_inr hmd] at h ⊢
        exact ⟨h.1, ihb h.2 hm hf fun i hi => hc i (by have := h.1; simp only [Ty.size]; omega)⟩
  | int k =>
    intro m p p' x cs cs' h hm hf hc
    have h0 := hc 0 Nat.one_pos
    cases m <;> first | exact d1 h hc | exact ⟨h0.trans h.1, h.2⟩
  | bool =>
    intro m p p' x cs cs' h hm hf hc
    have h0 := hc 0 Nat.one_pos
    cases m <;> first | exact d1 h hc | exact h0.trans h
  | str =>
    intro m p p' x cs cs' h hm hf hc
    have h0 := hc 0 Nat.one_pos
    cases m <;> first | exact d1 h hc | (obtain ⟨s, h1, h2⟩ := h; exact ⟨s, h0.trans h1, h2⟩)
  | nilI =>
    intro m p p' x cs cs' h hm hf hc
    have h0 := hc 0 Nat.one_pos
    cases m <;> first | exact d1 h hc | exact h0.trans h
  | slice t ih =>
    intro m p p' x cs cs' h hm hf hc
    cases m with
    | sh => exact sb (.inl rfl) h hf hc
    | bw => exact sb (.inr rfl) h hf hc
    | own => cases hm
    | pr => exact h.2.2.elim
    | dead => exact ⟨h.1, h.2.1, d1 h.2.2 hc⟩
  | ptr t ih =>
    intro m p p' x cs cs' h hm hf hc
    cases m with
    | sh => exact sb (.inl rfl) h hf hc
    | bw => exact sb (.inr rfl) h hf hc
    | own => cases hm
    | pr => exact h.elim
    | dead => exact d1 h hc
  | fn1 a r iha ihr =>
    intro m p p' x cs cs' h hm hf hc
    cases m with
    | sh => exact sb (.inl rfl) h hf hc
    | bw => exact sb (.inr rfl) h hf hc
    | own => cases hm
    | pr => exact h.elim
    | dead => exact d1 h hc
  | fn2 a b r iha ihb ihr =>
    intro m p p' x cs cs' h hm hf hc
    cases m with
    | sh => exact sb (.inl rfl) h hf hc
    | bw => exact sb (.inr rfl) h hf hc
    | own => cases hm
    | pr => exact h.elim
    | dead => exact d1 h hc
theorem Rel.dead_any : ∀ {t : Ty} {p p' : Place} {x : t.den} {cs cs' : Cs}, Rel P t S .dead p x cs → (∀ i, i < t.size → cs' i = cs i) → Rel P t S' .dead p' x cs' := by
  intro t
  have d1 : ∀ {cs cs' : Cs}, dead1 cs → (∀ i, i < 1 → cs' i = cs i) → dead1 cs' := fun h hc => by
    obtain ⟨u, h1, h2⟩ := h; exact ⟨u, (hc 0 Nat.one_pos).trans h1, h2⟩
  induction t with
  | unit => intro p p' x cs cs' h hc; trivial
  | pair a b iha ihb =>
    intro p p' x cs cs' h hc
    simp only [Ty.size] at hc
    exact ⟨iha h.1 fun i hi => hc i (by omega), ihb h.2 fun i hi => hc _ (by omega)⟩
  | arr n t ih =>
    intro p p' x cs cs' h hc
    simp only [Ty.size] at hc
    refine ⟨h.1, fun i hi => ih (h.2 i hi) fun j hj => hc _ ?_⟩
    have := h.1
    have : (i + 1) * t.size ≤ n * t.size := Nat.mul_le_mul_right _ (by omega)
    rw [Nat.add_mul] at this
    omega
  | slice t ih => intro p p' x cs cs' h hc; exact ⟨h.1, h.2.1, d1 h.2.2 hc⟩
  | _ => intro p p' x cs cs' h hc; exact d1 h hc
theorem SR.free {t : Ty} {m : Md} {p p' : Place} {x : t.den} {v : Value} (h : SR P t S m p x v) (hm : m.noown = true) (hf : Fut2 S S') : SR P t S' m p' x v := ⟨h.1.free hm hf fun _ _ => rfl, h.2⟩
/- MOVES -/
open Classical in
/-- What p owns goes to q. -/
noncomputable def mv (S : St) (p q : Place) : St := { S with
  own := fun b => if h : ∃ ρ, S.own b = some (pa p ρ) then some (pa q (Classical.choose h)) else S.own b
  hv := fun z => if h : ∃ ρ, z = pa q ρ then S.hv (pa p (Classical.choose h)) else S.hv z }
theorem mv_own {p q : Place} {ρ : List Nat} {b : Nat} (h : S.own b = some (pa p ρ)) : (mv S p q).own b = some (pa q ρ) := by
  have hex : ∃ ρ, S.own b = some (pa p ρ) := ⟨ρ, h⟩
  unfold mv
  simp only
  rw [dif_pos hex]
  have := pa_inj (Option.some.inj (h.symm.trans (Classical.choose_spec hex)))
  exact congrArg (fun r => some (pa q r)) this.symm
theorem mv_own_ne {p q : Place} {b : Nat} {z : Place} (h : S.own b = some z) (hn : ∀ ρ, z ≠ pa p ρ) : (mv S p q).own b = some z := by
  unfold mv
  simp only
  rw [dif_neg (by rintro ⟨ρ, hρ⟩; rw [h] at hρ; exact hn ρ (Option.some.inj hρ))]
  exact h
theorem mv_none {p q : Place} {b : Nat} (h : S.own b = none) : (mv S p q).own b = none := by
  unfold mv
  simp only
  rw [dif_neg (by rintro ⟨ρ, hρ⟩; rw [h] at hρ; cases hρ)]
  exact h
theorem mv_owned {p q : Place} {b : Nat} {z : Place} (h : (mv S p q).own b = some z) : ∃ y, S.own b = some y := by
  cases ho : S.own b with
  | none => rw [mv_none ho] at h; cases h
  | some y => exact ⟨y, rfl⟩
theorem mv_hv {p q : Place} (ρ : List Nat) : (mv S p q).hv (pa q ρ) = S.hv (pa p ρ) := by
  have hex : ∃ r, pa q ρ = pa q r := ⟨ρ, rfl⟩
  unfold mv
  simp only
  rw [dif_pos hex, ← pa_inj (Classical.choose_spec hex)]
theorem mv_hv_ne {p q z : Place} (hn : ∀ ρ, z ≠ pa q ρ) : (mv S p q).hv z = S.hv z := by
  unfold mv
  simp only
  rw [dif_neg (by rintro ⟨ρ, hρ⟩; exact hn ρ hρ)]
theorem mv_tr (S : St) (p q : Place) : Tr true S (mv S p q) p q := ⟨fun _ h => h, fun _ _ => rfl, fun _ _ h => .inr h, fun _ _ _ => rfl, mv_hv, fun _ _ hb => ⟨mv_own hb, rfl⟩⟩
theorem pa_slot {r : Nat} {π ρ : List Nat} {z : Place} (h : z = pa (r, π) ρ) : z.1 = r := by rw [h]; rfl
theorem InvOf.mvOwned (h : InvOf P c σ a S) {p q : Place} : (∀ b, S.F b → (mv S p q).own b = none ∧ b < S.w.heap.size ∧ (c.F0 b ∨ c.w0.heap.size ≤ b ∨ c.O b)) ∧ (∀ b, c.B b → (mv S p q).own b = none) ∧
    (∀ b z, (mv S p q).own b = some z → b < S.w.heap.size ∧ (c.w0.heap.size ≤ b ∨ c.O b)) :=
  ⟨fun b hb => ⟨mv_none (h.shared b hb).1, (h.shared b hb).2⟩, fun b hb => mv_none (h.borrowed b hb).1, fun b z hz => by obtain ⟨y, hy⟩ := mv_owned hz; exact h.owned b y hy⟩
/-- A slot's whole value goes to slot d. -/
theorem InvOf.moveAll (h : InvOf P c σ a S) {s d : Nat} {t : Ty} {m : Md} {x : t.den} (hs : (σ s).e = .v t m x) (hne : s ≠ d) (hd : d < c.N) :
    InvOf P c (set1 (set1 σ s .dead 0) d (.v t m x) 0) (a.put (some d) (tmv a s)) (mv S (s, []) (d, [])) := by
  have hsr := h.slot hs
  obtain ⟨q1, q2, q3⟩ := h.mvOwned (p := (s, [])) (q := (d, []))
  refine h.rebuild (fun t => t = s ∨ t = d) (by simpa [Act.put] using h.defers) (by simpa [Act.put] using h.size)
    (fun t ht => ⟨by rw [set1_ne _ _ _ (fun e => ht (.inr e)), set1_ne _ _ _ (fun e => ht (.inl e))], tmv_put_ne fun e => ht (.inr e)⟩) (fun r hr => ?_) (fun t ht => ?_) (fun _ h => h) (fun _ _ => rfl) rfl (fun _ _ => rfl)
    (fun t ht q => mv_hv_ne fun ρ he => ht (.inr (pa_slot he))) (fun t ht b q hb => ⟨mv_own_ne hb fun ρ he => ht (.inl (pa_slot he)), rfl⟩) q1 q2 q3 rfl rfl rfl (Nat.le_refl _) (fun _ _ _ => rfl)
  · by_cases hrd : r = d
    · subst hrd
      exact ⟨by rw [set1_same]; exact Nat.le_refl _, .inl (by rw [set1_same, set1_ne _ _ _ (Ne.symm hne)]; exact Nat.lt_succ_self _)⟩
    · have hrs := hr.resolve_right hrd
      subst hrs
      exact ⟨by rw [set1_ne _ _ _ hrd, set1_same]; exact Nat.le_refl _, .inl (by rw [set1_ne _ _ _ hrd, set1_same]; exact Nat.lt_succ_self _)⟩
  · by_cases htd : t = d
    · subst htd
      refine .v (set1_e _ _ _ 0) ?_
      rw [tmv_put_same (by rw [h.size]; exact hd)]
      exact hsr.mono (.inl rfl) (mv_tr S _ _)
    · have hts := ht.resolve_right htd
      subst hts
      unfold SlotOK
      rw [set1_ne _ _ _ htd, set1_e]
      trivial
/-- All that a tuple owns goes to another slot. -/
theorem InvOf.moveTup (h : InvOf P c σ a S) {s d : Nat} {es : List TM} (hs : (σ s).e = .tup es) (hne : s ≠ d) (hd : d < c.N) :
    InvOf P c (set1 (set1 σ s .dead 0) d (.tup es) 0) (a.put (some d) (tmv a s)) (mv S (s, []) (d, [])) := by
  have hsr := h.slots s
  unfold SlotOK at hsr
  rw [hs] at hsr
  obtain ⟨q1, q2, q3⟩ := h.mvOwned (p := (s, [])) (q := (d, []))
  refine h.rebuild (fun t => t = s ∨ t = d) (by simpa [Act.put] using h.defers) (by simpa [Act.put] using h.size)
    (fun t ht => ⟨by rw [set1_ne _ _ _ (fun e => ht (.inr e)), set1_ne _ _ _ (fun e => ht (.inl e))], tmv_put_ne fun e => ht (.inr e)⟩) (fun r hr => ?_) (fun t ht => ?_) (fun _ h => h) (fun _ _ => rfl) rfl (fun _ _ => rfl)
    (fun t ht q => mv_hv_ne fun ρ he => ht (.inr (pa_slot he))) (fun t ht b q hb => ⟨mv_own_ne hb fun ρ he => ht (.inl (pa_slot he)), rfl⟩) q1 q2 q3 rfl rfl rfl (Nat.le_refl _) (fun _ _ _ => rfl)
  · by_cases hrd : r = d
    · subst hrd
      exact ⟨by rw [set1_same]; exact Nat.le_refl _, .inl (by rw [set1_same, set1_ne _ _ _ (Ne.symm hne)]; exact Nat.lt_succ_self _)⟩
    · have hrs := hr.resolve_right hrd
      subst hrs
      exact ⟨by rw [set1_ne _ _ _ hrd, set1_same]; exact Nat.le_refl _, .inl (by rw [set1_ne _ _ _ hrd, set1_same]; exact Nat.lt_succ_self _)⟩
  · by_cases htd : t = d
    · subst htd
      unfold SlotOK
      rw [set1_e, tmv_put_same (by rw [h.size]; exact hd)]
      obtain ⟨vs, h1, h2, h3⟩ := hsr
      refine ⟨vs, h1, h2, fun k e hk => ?_⟩
      obtain ⟨u, h4, h5⟩ := h3 k e hk
      exact ⟨u, h4, h5.mono (.inl rfl) ((mv_tr S _ _).px k)⟩
    · have hts := ht.resolve_right htd
      subst hts
      unfold SlotOK
      rw [set1_ne _ _ _ htd, set1_e]
      trivial
theorem pa_nil0 (r : Nat) (ρ : List Nat) : pa (r, []) ρ = (r, ρ) := by simp [pa]
/-- A part of slot s goes to slot d. -/
theorem InvOf.takePart (h : InvOf P c σ a S) {s d : Nat} {t u : Ty} {m m' k : Md} {x : t.den} {y : u.den} {π : List Nat} (hs : (σ s).e = .v t m x) (hne : s ≠ d) (hd : d < c.N) (hm : modeP π t m = some k) (hg : getP π t x = some ⟨u, y⟩)
    (ho : okP S π t (s, [])) (hset : setM π t m .dead = some m') {v : Value} (hv : ∀ cs l, locP π t = some l → (match l with
      | (none, o) => cs = fun i => vcells t (tmv a s) (o + i)
      | (some q, o) => ∃ b, hvB (S.hv (s, q)) = some b ∧ cs = blk S.w b o) → ∀ i, i < u.size → vcells u v i = cs i) (hagg : AggOK u v) :
    InvOf P c (set1 (set1 σ s (.v t m' x) 1) d (.v u k y) 0) (a.put (some d) v) (mv S (s, π) (d, [])) := by
  have hsr := h.slot hs
  obtain ⟨q1, q2, q3⟩ := h.mvOwned (p := (s, π)) (q := (d, []))
  obtain ⟨u', y', l, cs', h1, h2, h3, h4⟩ := Rel.at hsr.1 hm ho
  rw [hg] at h1
  cases h1
  rw [pa_nil0] at h3
  have hcell : ∀ i, i < u.size → vcells u v i = cs' i := hv cs' l h2 (by
    obtain ⟨q, o⟩ := l
    cases q with
    | none => exact h4
    | some q => obtain ⟨b, h5, h6, h7, _⟩ := h4; rw [pa_nil0] at h5; exact ⟨b, h5, h7⟩)
  have hfr : ∀ b0, Fr S (mv S (s, π) (d, [])) (s, []) π b0 := fun b0 => ⟨fun _ h => h, fun _ _ => rfl, fun _ h => .inr h, fun _ _ => rfl, fun r _ => mv_hv_ne fun ρ he => hne (pa_slot he), fun b r hr hb => ⟨mv_own_ne hb fun ρ he => by rw [pa_nil0] at he; exact hr (pa_prefix he), fun _ => rfl⟩⟩
  have hdead : Rel P u (mv S (s, π) (d, [])) .dead (s, π) y cs' := (h3.weaken (leM_dead u k)).dead_any fun _ _ => rfl
  have hrel : Rel P t (mv S (s, π) (d, [])) m' (s, []) x (vcells t (tmv a s)) := by
    refine hsr.1.updAt h2 hset (setP_getP hg) ho ?_
    obtain ⟨q, o⟩ := l
    cases q with
    | none =>
      refine ⟨hfr _, ?_⟩
      rw [pa_nil0]
      have h4' : cs' = fun i => vcells t (tmv a s) (o + i) := h4
      rw [← h4']
      exact hdead
    | some q =>
      obtain ⟨b, h5, h6, h7, cur, e, h8⟩ := h4
      refine ⟨b, cur, cur, e, h5, h6, h8, h8, rfl, fun _ _ => rfl, hfr _, ?_⟩
      rw [pa_nil0, ← blk_cur h8, ← h7]
      exact hdead
  refine h.rebuild (fun t => t = s ∨ t = d) (by simpa [Act.put] using h.defers) (by simpa [Act.put] using h.size)
    (fun t ht => ⟨by rw [set1_ne _ _ _ (fun e => ht (.inr e)), set1_ne _ _ _ (fun e => ht (.inl e))], tmv_put_ne fun e => ht (.inr e)⟩) (fun r hr => ?_) (fun t ht => ?_) (fun _ h => h) (fun _ _ => rfl) rfl (fun _ _ => rfl)
    (fun t ht q => mv_hv_ne fun ρ he => ht (.inr (pa_slot he))) (fun t ht b q hb => ⟨mv_own_ne hb fun ρ he => ht (.inl (pa_slot he)), rfl⟩) q1 q2 q3 rfl rfl rfl (Nat.le_refl _) (fun _ _ _ => rfl)
  · by_cases hrd : r = d
    · subst hrd
      exact ⟨by rw [set1_same]; exact Nat.le_refl _, .inl (by rw [set1_same, set1_ne _ _ _ (Ne.symm hne)]; exact Nat.lt_succ_self _)⟩
    · have hrs := hr.resolve_right hrd
      subst hrs
      exact .bump (k := 1) (h.gens r) hs (by rw [set1_ne _ _ _ hrd, set1_same]) (fun _ => mv_hv_ne fun ρ he => hrd (pa_slot he)) fun _ h => absurd rfl h
  · by_cases htd : t = d
    · subst htd
      refine .v (set1_e _ _ _ 0) ?_
      rw [tmv_put_same (by rw [h.size]; exact hd)]
      exact ⟨h3.mono (.inl rfl) (mv_tr S _ _) hcell, hagg⟩
    · have hts := ht.resolve_right htd
      subst hts
      refine .v (by rw [set1_ne _ _ _ htd, set1_e]) ?_
      rw [tmv_put_ne htd]
      exact ⟨hrel, hsr.2⟩
/- WRITES -/
theorem vcells_cells {t : Ty} {m : Md} {p : Place} {x : t.den} {v : Value} (h : SR P t S m p x v) : v.cells.size = t.size ∧ (∀ i, i < t.size → v.cells[i]? = vcells t v i) ∧ ∀ u ∈ v.cells.toList, u.oneCell' = true := by
  have hc := h.1.cells
  by_cases hag : t.agg = true
  · obtain ⟨cs, rfl, h2⟩ := h.2 hag
    have he : vcells t (.agg cs) = fun i => cs[i]? := by unfold vcells; rw [if_pos hag]
    rw [he] at hc ⊢
    refine ⟨h2, fun _ _ => rfl, fun u hu => ?_⟩
    obtain ⟨i, hi, rfl⟩ := List.getElem_of_mem hu
    simp only [Value.cells, Array.length_toList] at hi
    obtain ⟨u, h3, h4⟩ := hc i (by omega)
    have h5 : cs[i]? = some u := h3
    rw [Array.getElem?_eq_getElem hi] at h5
    cases h5
    simpa [Value.cells] using h4
  · have hs : t.size = 1 := by cases t <;> first | rfl | exact absurd rfl hag
    have he : vcells t v = fun i => if i = 0 then some v else none := by unfold vcells; rw [if_neg hag]
    rw [he, hs] at hc
    obtain ⟨u, h1, h2⟩ := hc 0 Nat.one_pos
    simp only [if_true, Option.some.injEq] at h1
    subst h1
    have hv : v.cells = #[v] := by cases v <;> first | rfl | cases h2
    rw [hv, hs, he]
    refine ⟨rfl, fun i hi => ?_, fun w hw => ?_⟩
    · have : i = 0 := by omega
      subst this; rfl
    · simp at hw; subst hw; exact h2
def splice (cur : Array Value) (o : Nat) (vs : List Value) : Array Value := (cur.toList.take o ++ vs ++ cur.toList.drop (o + vs.length)).toArray
theorem splice_size {cur : Array Value} {o : Nat} {vs : List Value} (h : o + vs.length ≤ cur.size) : (splice cur o vs).size = cur.size := by
  unfold splice
  simp only [List.size_toArray, List.length_append, List.length_take, List.length_drop, Array.length_toList]
  omega
theorem splice_out {cur : Array Value} {o : Nat} {vs : List Value} (h : o + vs.length ≤ cur.size) {i : Nat} (hi : i < o ∨ o + vs.length ≤ i) : (splice cur o vs)[i]? = cur[i]? := by
  unfold splice
  rw [List.getElem?_toArray, ← Array.getElem?_toList]
  rcases hi with hi | hi
  · rw [List.append_assoc, List.getElem?_append_left (by simp; omega), List.getElem?_take, if_pos hi]
  · rw [List.getElem?_append_right (by simp; omega), List.getElem?_drop]
    congr 1
    simp only [List.length_append, List.length_take, Array.length_toList]
    omega
theorem splice_in {cur : Array Value} {o : Nat} {vs : List Value} (h : o + vs.length ≤ cur.size) {i : Nat} (hi : i < vs.length) : (splice cur o vs)[o + i]? = vs[i]? := by
  unfold splice
  rw [List.getElem?_toArray, List.append_assoc, List.getElem?_append_right (by simp; omega), List.getElem?_append_left (by simp; omega)]
  congr 1
  simp only [List.length_take, Array.length_toList]
  omega
/-- The part at π of slot r is overwritten; S1 is the state but for memory (only what lies at π may have other owners and headers). -/
theorem InvOf.overwrite (h : InvOf P c σ a S) {S1 : St} {r : Nat} {t u : Ty} {m m' k : Md} {x x' : t.den} {y : u.den} {π q : List Nat} {o b : Nat} {cur : Array Value} {e : TypeId} (hr : (σ r).e = .v t m x)
    (hl : locP π t = some (some q, o)) (ho : okP S π t (r, [])) (hh : hvB (S.hv (r, q)) = some b) (hw : S.own b = some (r, q)) (hb : S.w.heap[b]? = some (.cells cur e (0, 0))) (hm : setM π t m k = some m') (hx : setP π t x ⟨u, y⟩ = some x')
    {v : Value} {vs : List Value} (hvs : vs.length = u.size) (hfit : o + u.size ≤ cur.size) (hcell : ∀ i, i < u.size → vs[i]? = vcells u v i)
    (hS1 : S1.w = S.w.setRow b (splice cur o vs)) (hfr : Fr S S1 (r, []) π (some b)) (hy : Rel P u S1 k (r, π) y (vcells u v)) : Rel P t S1 m' (r, []) x' (vcells t (tmv a r)) := by
  refine (h.slot hr).1.updAt hl hm hx ho ⟨b, cur, splice cur o vs, e, by rw [pa_nil0]; exact hh, by rw [pa_nil0]; exact hw, hb, by rw [hS1]; exact setRow_heap S.w b cur _ e _ hb, splice_size (by omega), fun i hi => splice_out (by omega) (by omega), hfr, ?_⟩
  rw [pa_nil0]
  refine hy.mono (q := true) (.inl rfl) ⟨fun _ h => h, fun _ _ => rfl, fun _ _ h => .inr h, fun _ _ _ => rfl, fun _ => rfl, fun _ _ h => ⟨h, rfl⟩⟩ fun i hi => ?_
  rw [splice_in (by omega) (by omega), hcell i hi]
/-- A value that owns nothing is stored. -/
theorem InvOf.store (h : InvOf P c σ a S) {r : Nat} {t u : Ty} {m m' k : Md} {x x' : t.den} {y : u.den} {π q : List Nat} {o b : Nat} {cur : Array Value} {e : TypeId} (hr : (σ r).e = .v t m x)
    (hl : locP π t = some (some q, o)) (ho : okP S π t (r, [])) (hh : hvB (S.hv (r, q)) = some b) (hw : S.own b = some (r, q)) (hb : S.w.heap[b]? = some (.cells cur e (0, 0))) (hm : setM π t m k = some m') (hx : setP π t x ⟨u, y⟩ = some x')
    {v : Value} {p : Place} (hfit : o + u.size ≤ cur.size) (hv : SR P u S k p y v) (hk : k.noown = true) :
    InvOf P c (set1 σ r (.v t m' x') 2) a { S with w := S.w.setRow b (splice cur o v.cells.toList) } := by
  obtain ⟨hv1, hv2, _⟩ := vcells_cells hv
  have hne : ∀ b', S.own b' = none → b' ≠ b := fun b' hb' he => by rw [he, hw] at hb'; cases hb'
  have hrow : ∀ b', b' ≠ b → (S.w.setRow b (splice cur o v.cells.toList)).heap[b']? = S.w.heap[b']? := fun b' hb' => setRow_other S.w b b' _ hb'
  have hneF : ∀ b', S.F b' → b' ≠ b := fun b' hb' => hne b' (h.shared b' hb').1
  have hneB : ∀ b', S.B b' → b' ≠ b := fun b' hb' => hne b' (h.WF.borrowed b' hb').1
  have hf2 : Fut2 S { S with w := S.w.setRow b (splice cur o v.cells.toList) } := ⟨fun b' hb' => ⟨hb', hrow b' (hneF b' hb')⟩, fun b' hb' => ⟨.inr hb', hrow b' (hneB b' hb')⟩⟩
  have hrel := h.overwrite (S1 := { S with w := S.w.setRow b (splice cur o v.cells.toList) }) hr hl ho hh hw hb hm hx (v := v) (vs := v.cells.toList) (by simpa using hv1) hfit (fun i hi => by simpa using hv2 i hi) rfl
    ⟨fun _ h => h, fun b' hb' => hrow b' (hneF b' hb'), fun _ h => .inr h, fun b' hb' => hrow b' (hneB b' hb'), fun _ _ => rfl, fun b' r' _ hb' => ⟨hb', fun he => hrow b' (fun hh => he (by rw [hh]))⟩⟩ ((hv.free (p' := (r, π)) hk hf2).1)
  refine h.rebuild (fun t => t = r) h.defers h.size (fun t ht => ⟨set1_ne σ _ _ ht, rfl⟩) (fun t ht => ?_) (fun t ht => ?_) (fun _ h => h) (fun b' hb' => hrow b' (hneF b' hb')) rfl (fun b' hb' => hrow b' (hneB b' hb')) (fun _ _ _ => rfl)
    (fun t ht b' q' hb' => ⟨hb', hrow b' (fun he => by rw [he, hw] at hb'; cases hb'; exact ht rfl)⟩) (fun b' hb' => ⟨(h.shared b' hb').1, by simpa [World.setRow] using (h.shared b' hb').2.1, (h.shared b' hb').2.2⟩) (fun b' hb' => (h.borrowed b' hb').1)
    (fun b' p' hp' => ⟨by simpa [World.setRow] using (h.owned b' p' hp').1, (h.owned b' p' hp').2⟩) rfl rfl rfl (by simp [World.setRow]) (fun b' hlt hO => hrow b' fun he => ?_)
  · subst ht
    exact .bump (h.gens t) hr (set1_same σ t _ 2) (fun h => by cases h) fun _ _ _ => rfl
  · subst ht
    exact .v (set1_e σ t _ 2) ⟨hrel, (h.slot hr).2⟩
  · subst he
    rcases (h.owned b' _ hw).2 with h1 | h1
    · omega
    · exact hO h1
/-- Slot s's whole value is stored at π of slot r. -/
theorem InvOf.give (h : InvOf P c σ a S) {r s : Nat} {t u : Ty} {m m' k : Md} {x x' : t.den} {y : u.den} {π q : List Nat} {o b : Nat} {cur : Array Value} {e : TypeId} (hr : (σ r).e = .v t m x) (hs : (σ s).e = .v u k y) (hne : s ≠ r)
    (hl : locP π t = some (some q, o)) (ho : okP S π t (r, [])) (hq : π ≠ []) (hh : hvB (S.hv (r, q)) = some b) (hw : S.own b = some (r, q)) (hb : S.w.heap[b]? = some (.cells cur e (0, 0))) (hm : setM π t m k = some m') (hx : setP π t x ⟨u, y⟩ = some x')
    (hfit : o + u.size ≤ cur.size) :
    InvOf P c (set1 (set1 σ s .dead 0) r (.v t m' x') 1) a { mv S (s, []) (r, π) with w := S.w.setRow b (splice cur o (tmv a s).cells.toList) } := by
  have hv := h.slot hs
  obtain ⟨hv1, hv2, _⟩ := vcells_cells hv
  obtain ⟨q1, q2, q3⟩ := h.mvOwned (p := (s, [])) (q := (r, π))
  have hne' : ∀ b', S.own b' = none → b' ≠ b := fun b' hb' he => by rw [he, hw] at hb'; cases hb'
  have hrow : ∀ b', b' ≠ b → (S.w.setRow b (splice cur o (tmv a s).cells.toList)).heap[b']? = S.w.heap[b']? := fun b' hb' => setRow_other S.w b b' _ hb'
  have hneF : ∀ b', S.F b' → b' ≠ b := fun b' hb' => hne' b' (h.shared b' hb').1
  have hneB : ∀ b', S.B b' → b' ≠ b := fun b' hb' => hne' b' (h.WF.borrowed b' hb').1
  have hbs : ∀ b' ρ, S.own b' = some (pa (s, []) ρ) → b' ≠ b := fun b' ρ hb' he => by rw [he, hw] at hb'; rw [pa_nil0] at hb'; cases hb'; exact hne rfl
  have hT : Tr true S { mv S (s, []) (r, π) with w := S.w.setRow b (splice cur o (tmv a s).cells.toList) } (s, []) (r, π) :=
    ⟨fun _ h => h, fun b' hb' => hrow b' (hneF b' hb'), fun _ _ h => .inr h, fun _ b' hb' => hrow b' (hneB b' hb'), mv_hv, fun b' ρ hb' => ⟨mv_own hb', hrow b' (hbs b' ρ hb')⟩⟩
  have hrel := h.overwrite (S1 := { mv S (s, []) (r, π) with w := S.w.setRow b (splice cur o (tmv a s).cells.toList) }) hr hl ho hh hw hb hm hx (v := tmv a s) (vs := (tmv a s).cells.toList) (by simpa using hv1) hfit (fun i hi => by simpa using hv2 i hi) rfl
    ⟨fun _ h => h, fun b' hb' => hrow b' (hneF b' hb'), fun _ h => .inr h, fun b' hb' => hrow b' (hneB b' hb'), fun ρ hρ => mv_hv_ne fun ρ' he => by rw [pa_nil0] at he; exact hρ (pa_prefix he),
      fun b' r' _ hb' => ⟨mv_own_ne hb' fun ρ he => by rw [pa_nil0, pa_nil0] at he; cases he; exact hne rfl, fun he => hrow b' (fun hh => he (by rw [hh]))⟩⟩ (hv.1.mono (.inl rfl) hT fun _ _ => rfl)
  refine h.rebuild (fun t => t = s ∨ t = r) h.defers h.size (fun t ht => ⟨by rw [set1_ne _ _ _ (fun e => ht (.inr e)), set1_ne _ _ _ (fun e => ht (.inl e))], rfl⟩) (fun t ht => ?_) (fun t ht => ?_) (fun _ h => h) (fun b' hb' => hrow b' (hneF b' hb')) rfl (fun b' hb' => hrow b' (hneB b' hb'))
    (fun t ht q => mv_hv_ne fun ρ he => ht (.inr (pa_slot he))) (fun t ht b' q' hb' => ⟨mv_own_ne hb' fun ρ he => ht (.inl (pa_slot he)), hrow b' (fun he => by rw [he, hw] at hb'; cases hb'; exact ht (.inr rfl))⟩)
    (fun b' hb' => ⟨(q1 b' hb').1, by simpa [World.setRow] using (q1 b' hb').2.1, (q1 b' hb').2.2⟩) q2 (fun b' p' hp' => ⟨by simpa [World.setRow] using (q3 b' p' hp').1, (q3 b' p' hp').2⟩) rfl rfl rfl (by simp [World.setRow]) (fun b' hlt hO => hrow b' fun he => ?_)
  · by_cases htr : t = r
    · subst htr
      refine .bump (k := 1) (h.gens t) hr (by rw [set1_same, set1_ne _ _ _ (Ne.symm hne)]) (fun _ => mv_hv_ne fun ρ he => ?_) fun _ h => absurd rfl h
      simp only [pa, Prod.mk.injEq, true_and] at he
      exact hq (List.append_eq_nil_iff.1 he.symm).1
    · have hts := ht.resolve_right htr
      subst hts
      exact ⟨by rw [set1_ne _ _ _ htr, set1_same]; exact Nat.le_refl _, .inl (by rw [set1_ne _ _ _ htr, set1_same]; exact Nat.lt_succ_self _)⟩
  · by_cases htr : t = r
    · subst htr
      exact .v (set1_e _ _ _ 1) ⟨hrel, (h.slot hr).2⟩
    · have hts := ht.resolve_right htr
      subst hts
      unfold SlotOK
      rw [set1_ne _ _ _ htr, set1_e]
      trivial
  · subst he
    rcases (h.owned b' _ hw).2 with h1 | h1
    · omega
    · exact hO h1
end
end Go.X
