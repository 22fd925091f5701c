/- Rebuilding the invariant: a new value in a slot; a part replaced; memory frozen; values moved. -/
import Derived.Test.YthemaffjohmhnaaX6
namespace Go.X
open Go Go.RowKit
/-- Updates of an environment: 0 = the slot is new, 1 = its tree turns, 2 = values in it turn. -/
def bump (k : Nat) (c : Slot) (e : Ent) : Slot :=
  match k with
  | 0 => ⟨e, c.h + 1, c.h + 1⟩
  | 1 => ⟨e, c.g, c.h + 1⟩
  | _ => ⟨e, c.g, c.h⟩
def set1 (σ : Env) (t : Nat) (e : Ent) (k : Nat) : Env := fun u => if u = t then bump k (σ t) e else σ u
theorem set1_same (σ : Env) (t : Nat) (e : Ent) (k : Nat) : set1 σ t e k t = bump k (σ t) e := by simp [set1]
theorem set1_ne (σ : Env) {t u : Nat} (e : Ent) (k : Nat) (h : u ≠ t) : set1 σ t e k u = σ u := by simp [set1, h]
theorem bump_e (k : Nat) (c : Slot) (e : Ent) : (bump k c e).e = e := by unfold bump; split <;> rfl
theorem set1_e (σ : Env) (t : Nat) (e : Ent) (k : Nat) : (set1 σ t e k t).e = e := by rw [set1_same, bump_e]
section
variable {P : Program} {c : Ctx} {σ σ' : Env} {a a' : Act} {S S' : St}
theorem InvOf.rebuild (h : InvOf P c σ a S) (D : Nat → Prop) (hd : a'.defers = []) (hsz : a'.tmps.size = c.N)
    (hkeep : ∀ t, ¬ D t → σ' t = σ t ∧ tmv a' t = tmv a t) (hchg : ∀ r, D r → Chg S S' σ σ' r) (hslots : ∀ t, D t → SlotOK P S' σ' (tmv a') t)
    (hF : ∀ b, S.F b → S'.F b) (hsF : ∀ b, S.F b → S'.w.heap[b]? = S.w.heap[b]?) (hB : S'.B = S.B) (hsB : ∀ b, S.B b → S'.w.heap[b]? = S.w.heap[b]?)
    (hhv : ∀ t, ¬ D t → ∀ q, S'.hv (t, q) = S.hv (t, q)) (hown : ∀ t, ¬ D t → ∀ b q, S.own b = some (t, q) → S'.own b = some (t, q) ∧ S'.w.heap[b]? = S.w.heap[b]?)
    (hsh : ∀ b, S'.F b → S'.own b = none ∧ b < S'.w.heap.size ∧ (c.F0 b ∨ c.w0.heap.size ≤ b ∨ c.O b)) (hbo : ∀ b, c.B b → S'.own b = none)
    (how : ∀ b p, S'.own b = some p → b < S'.w.heap.size ∧ (c.w0.heap.size ≤ b ∨ c.O b))
    (hos : S'.w.os = S.w.os) (htp : S'.w.tape = S.w.tape) (hout : S'.w.output = S.w.output) (hgr : S.w.heap.size ≤ S'.w.heap.size)
    (hk : ∀ b, b < c.w0.heap.size → ¬ c.O b → S'.w.heap[b]? = S.w.heap[b]?) : InvOf P c σ' a' S' := by
  have hall : ∀ r, Chg S S' σ σ' r := fun r => by
    by_cases hr : D r
    · exact hchg r hr
    · exact .refl (h.gens r) (hkeep r hr).1 (hhv r hr)
  refine ⟨hd, hsz, fun t => ?_, fun t => (hall t).1, by rw [hB]; exact h.lent, hsh, fun b hb => hF b (h.shared0 b hb), fun b hb => ⟨hbo b hb, (h.borrowed b hb).2⟩, how, hos.trans h.os, htp.trans h.tape, hout.trans h.output,
    Nat.le_trans h.grown hgr, fun b hb hO => (hk b hb hO).trans (h.kept b hb hO)⟩
  by_cases ht : D t
  · exact hslots t ht
  · refine (h.slots t).keep (by rw [(hkeep t ht).1]) (hkeep t ht).2 hall ⟨hF, hsF, fun _ b hb => .inr (by rw [hB]; exact hb), fun _ => hsB, fun r => ?_, fun b r hb => ?_⟩
    · simpa [pa] using hhv t ht r
    · simpa [pa] using hown t ht b r (by simpa [pa] using hb)
/-- The state in a world with more blocks. -/
theorem InvOf.wlt (h : InvOf P c σ a S) {b : Nat} (hb : S.F b ∨ S.B b ∨ ∃ p, S.own b = some p) : b < S.w.heap.size := by
  rcases hb with hb | hb | ⟨p, hb⟩
  · exact (h.shared b hb).2.1
  · rw [h.lent] at hb; exact Nat.lt_of_lt_of_le (h.borrowed b hb).2.1 h.grown
  · exact (h.owned b p hb).1
theorem InvOf.WF (h : InvOf P c σ a S) : S.WF := ⟨fun b hb => ⟨(h.shared b hb).1, (h.shared b hb).2.1⟩, fun b hb => ⟨by rw [h.lent] at hb; exact (h.borrowed b hb).1, h.wlt (.inr (.inl hb))⟩, fun b p hb => (h.owned b p hb).1⟩
/-- A new entry in slot d: whatever it is, it owns at most new blocks. -/
theorem InvOf.put (h : InvOf P c σ a S) (hw : Ext S.w S'.w) (hF : S'.F = S.F) (hB : S'.B = S.B) {d : Nat} (hd : d < c.N) {e : Ent} {v : Value}
    (hhv : ∀ t, t ≠ d → ∀ q, S'.hv (t, q) = S.hv (t, q)) (ho : ∀ b, S'.own b = S.own b ∨ (S.own b = none ∧ S.w.heap.size ≤ b ∧ b < S'.w.heap.size))
    (hx : SlotOK P S' (set1 σ d e 0) (tmv (a.put (some d) v)) d) : InvOf P c (set1 σ d e 0) (a.put (some d) v) S' := by
  have hold : ∀ b, b < S.w.heap.size → S'.own b = S.own b := fun b hb => (ho b).elim id fun h => absurd h.2.1 (by omega)
  refine h.rebuild (fun t => t = d) (by simpa [Act.put] using h.defers) (by simpa [Act.put] using h.size) (fun t ht => ⟨set1_ne σ e 0 ht, tmv_put_ne ht⟩)
    (fun r hr => ?_) (fun t ht => by subst ht; exact hx) (fun b hb => by rw [hF]; exact hb) (fun b hb => hw.block b (h.wlt (.inl hb))) hB (fun b hb => hw.block b (h.wlt (.inr (.inl hb)))) hhv
    (fun t _ b q hb => ⟨(hold b (h.owned b _ hb).1).trans hb, hw.block b (h.owned b _ hb).1⟩) (fun b hb => ?_) (fun b hb => ?_) (fun b p hb => ?_) hw.os hw.tape hw.output hw.size
    (fun b hb _ => hw.block b (Nat.lt_of_lt_of_le hb h.grown))
  · subst hr
    refine ⟨by rw [set1_same]; exact Nat.le_refl _, .inl (by rw [set1_same]; exact Nat.lt_succ_self _)⟩
  · rw [hF] at hb
    exact ⟨(hold b (h.shared b hb).2.1).trans (h.shared b hb).1, Nat.lt_of_lt_of_le (h.shared b hb).2.1 hw.size, (h.shared b hb).2.2⟩
  · exact (hold b (Nat.lt_of_lt_of_le (h.borrowed b hb).2.1 h.grown)).trans (h.borrowed b hb).1
  · rcases ho b with he | ⟨_, h1, h2⟩
    · rw [he] at hb
      exact ⟨Nat.lt_of_lt_of_le (h.owned b p hb).1 hw.size, (h.owned b p hb).2⟩
    · exact ⟨h2, .inl (Nat.le_trans h.grown h1)⟩
theorem InvOf.slot (h : InvOf P c σ a S) {r : Nat} {t : Ty} {m : Md} {x : t.den} (hr : (σ r).e = .v t m x) : SR P t S m (r, []) x (tmv a r) := by
  have := h.slots r
  unfold SlotOK at this
  rw [hr] at this
  exact this
theorem SlotOK.v {S : St} {σ : Env} {tm : Nat → Value} {r : Nat} {t : Ty} {m : Md} {x : t.den} (hr : (σ r).e = .v t m x) (h : SR P t S m (r, []) x (tm r)) : SlotOK P S σ tm r := by
  unfold SlotOK
  rw [hr]
  exact h
/-- An entry that owns nothing, in the same world. -/
theorem InvOf.putv (h : InvOf P c σ a S) {d : Nat} (hd : d < c.N) {t : Ty} {m : Md} {x : t.den} {v : Value} (hv : SR P t S m (d, []) x v) : InvOf P c (set1 σ d (.v t m x) 0) (a.put (some d) v) S :=
  h.put (.refl _) rfl rfl hd (fun _ _ _ => rfl) (fun _ => .inl rfl) (.v (set1_e σ d _ 0) (by rw [tmv_put_same (by rw [h.size]; exact hd)]; exact hv))
/-- A pointer to a part of slot r. -/
theorem InvOf.putref (h : InvOf P c σ a S) {d r : Nat} {π : List Nat} {s : Nat} (hd : d < c.N) {v : Value} (hv : RefOK S σ r π s v) : InvOf P c (set1 σ d (.ref r π s) 0) (a.put (some d) v) S := by
  refine h.put (.refl _) rfl rfl hd (fun _ _ _ => rfl) (fun _ => .inl rfl) ?_
  unfold SlotOK
  rw [set1_e]
  show RefOK S _ r π s _
  rw [tmv_put_same (by rw [h.size]; exact hd)]
  refine hv.keep ?_
  by_cases hrd : r = d
  · subst hrd
    exact ⟨by rw [set1_same]; exact Nat.le_refl _, .inl (by rw [set1_same]; exact Nat.lt_succ_self _)⟩
  · exact .refl (h.gens r) (set1_ne σ _ _ hrd) fun _ => rfl
theorem InvOf.putview (h : InvOf P c σ a S) {d r : Nat} {π : List Nat} {s : Nat} (hd : d < c.N) {v : Value} (hv : ViewOK S σ r π s v) : InvOf P c (set1 σ d (.view r π s) 0) (a.put (some d) v) S := by
  refine h.put (.refl _) rfl rfl hd (fun _ _ _ => rfl) (fun _ => .inl rfl) ?_
  unfold SlotOK
  rw [set1_e]
  show ViewOK S _ r π s _
  rw [tmv_put_same (by rw [h.size]; exact hd)]
  refine hv.keep ?_
  by_cases hrd : r = d
  · subst hrd
    exact ⟨by rw [set1_same]; exact Nat.le_refl _, .inl (by rw [set1_same]; exact Nat.lt_succ_self _)⟩
  · exact .refl (h.gens r) (set1_ne σ _ _ hrd) fun _ => rfl
/-- A slot is forgotten. -/
theorem InvOf.kill (h : InvOf P c σ a S) (s : Nat) : InvOf P c (set1 σ s .dead 0) a S :=
  h.rebuild (fun t => t = s) h.defers h.size (fun t ht => ⟨set1_ne σ _ _ ht, rfl⟩) (fun r hr => by subst hr; exact ⟨by rw [set1_same]; exact Nat.le_refl _, .inl (by rw [set1_same]; exact Nat.lt_succ_self _)⟩)
    (fun t ht => by subst ht; unfold SlotOK; rw [set1_e]; trivial) (fun _ h => h) (fun _ _ => rfl) rfl (fun _ _ => rfl) (fun _ _ _ => rfl) (fun _ _ _ _ hb => ⟨hb, rfl⟩) h.shared (fun b hb => (h.borrowed b hb).1) h.owned rfl rfl rfl (Nat.le_refl _) (fun _ _ _ => rfl)
theorem Chg.bump {k : Nat} {r : Nat} {t : Ty} {m m' : Md} {x x' : t.den} (hg : (σ r).g ≤ (σ r).h) (hr : (σ r).e = .v t m x) (h' : σ' r = Go.X.bump k (σ r) (.v t m' x'))
    (h1 : k = 1 → S'.hv (r, []) = S.hv (r, [])) (h2 : k ≠ 0 → k ≠ 1 → ∀ q, S'.hv (r, q) = S.hv (r, q)) : Chg S S' σ σ' r := by
  unfold Chg
  rw [h']
  have ht : ∀ (c : Slot), c.e = .v t m' x' → ∀ t' m2 x2, c.e = .v t' m2 x2 → ∃ m' x', (σ r).e = .v t' m' x' := fun c hc t' m2 x2 h => by
    rw [hc] at h; cases h; exact ⟨m, x, hr⟩
  match k, h1, h2 with
  | 0, _, _ => exact ⟨Nat.le_refl _, .inl (Nat.lt_succ_self _)⟩
  | 1, h1, _ => exact ⟨Nat.le_succ_of_le hg, .inr ⟨rfl, ht _ rfl, .inl ⟨Nat.lt_succ_self _, h1 rfl⟩⟩⟩
  | k + 2, _, h2 => exact ⟨hg, .inr ⟨rfl, ht _ rfl, .inr ⟨rfl, h2 (by omega) (by omega)⟩⟩⟩
end
end Go.X
