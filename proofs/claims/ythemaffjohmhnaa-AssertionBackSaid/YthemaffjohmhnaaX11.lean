/- Operands of an operation, read in an environment. -/
import Derived.Test.YthemaffjohmhnaaX10
namespace Go.X
open Go Go.RowKit
/- THE TABLE OF TYPES -/
abbrev Tab := List (TypeId × TyI × Ty)
def tl : Tab → TypeId → Option (TyI × Ty)
  | [], _ => none
  | (i, y, t) :: r, id => if id = i then some (y, t) else tl r id
def kindOK (T : Tab) (k : TyK) (t : Ty) : Bool :=
  match k with
  | .int k => match t with | .int k' => decide (k = k') | _ => false
  | .bool => match t with | .bool => true | _ => false
  | .string => match t with | .str => true | _ => false
  | .slice e => match t, tl T e with | .slice s, some (_, s') => decide (s = s') && decide (0 < s.size) | _, _ => false
  | .array n e => match t, tl T e with | .arr n' s, some (_, s') => decide (n = n') && decide (s = s') | _, _ => false
  | .struct offs => match flds offs.length t with | some fs => decide (offs = offsFrom 0 fs) | none => false
  | .iface => match t with | .alt .. | .nilI => true | _ => false
  | .other => match t with | .ptr _ | .fn1 .. | .fn2 .. => true | _ => false
def agree (T : Tab) (i : TyI) (t : Ty) : Bool := decide (i.size = t.size) && decide (i.agg = t.agg) && kindOK T i.k t
def TabOK (P : Program) (T : Tab) : Prop := ∀ id i t, tl T id = some (i, t) → ty P id = some i ∧ agree T i t = true
/- OPERANDS -/
def Ty.isSlice : Ty → Bool
  | .slice _ => true
  | _ => false
inductive Opd where
  | slot (t : Nat) (c : Slot) (root : Slot)
  | con (v : Value)
  | fn (f : Nat)
  | bad
def rootR : Ent → List Nat
  | .ref r _ _ => [r]
  | .view r _ _ => [r]
  | _ => []
def rootOf (σ : Env) : Ent → Slot
  | .ref r _ _ => σ r
  | .view r _ _ => σ r
  | _ => ⟨.dead, 0, 0⟩
def look (σ : Env) : Operand → Opd
  | .tmp t => .slot t (σ t) (rootOf σ (σ t).e)
  | .const v => .con v
  | .func f => .fn f
  | .global _ => .bad
/-- A part of a slot's value. -/
structure Pl where
  r : Nat
  c : Slot
  t : Ty
  m : Md
  x : t.den
  π : List Nat
def genB (c : Slot) (t : Ty) (π : List Nat) (s : Nat) : Bool := if deepP π t then decide (c.h = s) else decide (c.g = s)
/-- The part to which a pointer leads. -/
def Opd.place : Opd → Option Pl
  | .slot t c root => match c.e with
    | .v (.ptr u) (.own e m) x => some ⟨t, c, .ptr u, .own e m, x, [0]⟩
    | .ref r π s => match root.e with
      | .v tr mr xr => if genB root tr π s then some ⟨r, root, tr, mr, xr, π⟩ else none
      | _ => none
    | _ => none
  | _ => none
/-- The owned slice that an operand is or shows. -/
def Opd.splace : Opd → Option Pl
  | .slot t c root => match c.e with
    | .v (.slice u) (.own e m) x => some ⟨t, c, .slice u, .own e m, x, []⟩
    | .view r π s => match root.e with
      | .v tr mr xr => if root.h = s then some ⟨r, root, tr, mr, xr, π⟩ else none
      | _ => none
    | _ => none
  | _ => none
/-- The value of an operand, read at a type. -/
def Opd.val (o : Opd) (t : Ty) : Option (Md × t.den) :=
  match o with
  | .con v => (cval t v).map fun x => (.sh, x)
  | .slot _ c root => match c.e with
    | .v t' m x => (TV.to ⟨t', x⟩ t).map fun x => (m, x)
    | .view _ π s => match root.e with
      | .v tr mr xr => if root.h = s ∧ t.isSlice = true then match modeP π tr mr, getP π tr xr with
        | some (.own e k), some y => (y.to t).map fun x => (.own e k, x)
        | _, _ => none else none
      | _ => none
    | _ => none
  | _ => none
section
variable {P : Program} {c : Ctx} {σ : Env} {a : Act} {S : St}
theorem InvOf.ent (h : InvOf P c σ a S) (t : Nat) : SlotOK P S σ (tmv a) t := h.slots t
theorem SlotOK.ref {tm : Nat → Value} {t r : Nat} {π : List Nat} {s : Nat} (h : SlotOK P S σ tm t) (he : (σ t).e = .ref r π s) : RefOK S σ r π s (tm t) := by
  unfold SlotOK at h; rw [he] at h; exact h
theorem SlotOK.view {tm : Nat → Value} {t r : Nat} {π : List Nat} {s : Nat} (h : SlotOK P S σ tm t) (he : (σ t).e = .view r π s) : ViewOK S σ r π s (tm t) := by
  unfold SlotOK at h; rw [he] at h; exact h
theorem genB_gen {c : Slot} {t : Ty} {π : List Nat} {s : Nat} : genB c t π s = true ↔ gen c t π s := by
  unfold genB gen
  split <;> simp
/-- What a pointer operand that leads to an owned part is. -/
theorem InvOf.place (h : InvOf P c σ a S) {o : Operand} {p : Pl} (hp : (look σ o).place = some p) :
    (σ p.r).e = .v p.t p.m p.x ∧ p.c = σ p.r ∧ p.π ≠ [] ∧ okP S p.π p.t (p.r, []) ∧ ∃ q off b, locP p.π p.t = some (some q, off) ∧ hvB (S.hv (p.r, q)) = some b ∧ a.eval o = .pointer (some ⟨b, off, none⟩) := by
  cases o with
  | const v => simp [look, Opd.place] at hp
  | func f => simp [look, Opd.place] at hp
  | global g => simp [look, Opd.place] at hp
  | tmp t =>
    simp only [look, Opd.place] at hp
    split at hp
    · rename_i u e m x he
      cases hp
      have hs := h.slot he
      obtain ⟨⟨h0, g, cur, e', h1, h2, h3, h4, h5⟩, _⟩ := hs
      refine ⟨he, rfl, by simp, trivial, [], 0, g, by simp [locP], by rw [h1]; rfl, ?_⟩
      have : vcells (.ptr u) (tmv a t) 0 = some (tmv a t) := by simp [vcells, Ty.agg]
      rw [this] at h0
      rw [tmv_eval, Option.some.inj h0, h1]
    · rename_i r π s he
      have hr : rootOf σ (σ t).e = σ r := by rw [he]; rfl
      rw [hr] at hp
      split at hp
      · rename_i tr mr xr hroot
        split at hp
        · rename_i hg
          cases hp
          obtain ⟨_, h2⟩ := (h.ent t).ref he
          obtain ⟨q, o, b, h3, h4, h5, h6⟩ := h2 tr mr xr hroot (genB_gen.1 hg)
          exact ⟨hroot, rfl, by rintro rfl; simp [locP] at h3, h4, q, o, b, h3, h5, by rw [tmv_eval, h6]⟩
        · cases hp
      · cases hp
    · cases hp
/-- What a slice operand that is or shows an owned slice is. -/
theorem InvOf.splace (h : InvOf P c σ a S) {o : Operand} {p : Pl} (hp : (look σ o).splace = some p) :
    (σ p.r).e = .v p.t p.m p.x ∧ p.c = σ p.r ∧ okP S p.π p.t (p.r, []) ∧ a.eval o = S.hv (p.r, p.π) := by
  cases o with
  | const v => simp [look, Opd.splace] at hp
  | func f => simp [look, Opd.splace] at hp
  | global g => simp [look, Opd.splace] at hp
  | tmp t =>
    simp only [look, Opd.splace] at hp
    split at hp
    · rename_i u e m x he
      cases hp
      obtain ⟨⟨_, _, h0, _⟩, _⟩ := h.slot he
      have : vcells (.slice u) (tmv a t) 0 = some (tmv a t) := by simp [vcells, Ty.agg]
      rw [this] at h0
      exact ⟨he, rfl, trivial, by rw [tmv_eval]; exact Option.some.inj h0⟩
    · rename_i r π s he
      have hr : rootOf σ (σ t).e = σ r := by rw [he]; rfl
      rw [hr] at hp
      split at hp
      · rename_i tr mr xr hroot
        split at hp
        · rename_i hg
          cases hp
          obtain ⟨_, h2⟩ := (h.ent t).view he
          obtain ⟨h3, h4⟩ := h2 tr mr xr hroot hg
          exact ⟨hroot, rfl, h3, by rw [tmv_eval, h4]⟩
        · cases hp
      · cases hp
    · cases hp
theorem InvOf.hdr (h : InvOf P c σ a S) {r : Nat} {u : Ty} {e : TypeId} {m : Md} {x : List u.den} (he : (σ r).e = .v (.slice u) (.own e m) x) : tmv a r = S.hv (r, []) := by
  obtain ⟨⟨_, _, h0, _⟩, _⟩ := h.slot he
  have : vcells (.slice u) (tmv a r) 0 = some (tmv a r) := by simp [vcells, Ty.agg]
  rw [this] at h0
  exact Option.some.inj h0
theorem InvOf.val (h : InvOf P c σ a S) {o : Operand} {t : Ty} {m : Md} {x : t.den} (hv : (look σ o).val t = some (m, x)) : ∃ p, SR P t S m p x (a.eval o) := by
  cases o with
  | const v =>
    simp only [look, Opd.val, Option.map_eq_some_iff, Prod.mk.injEq] at hv
    obtain ⟨y, h1, rfl, rfl⟩ := hv
    exact ⟨(0, []), cval_sound h1⟩
  | func f => simp [look, Opd.val] at hv
  | global g => simp [look, Opd.val] at hv
  | tmp s =>
    simp only [look, Opd.val] at hv
    split at hv
    · rename_i t' m' x' he
      simp only [Option.map_eq_some_iff, Prod.mk.injEq] at hv
      obtain ⟨y, h1, rfl, rfl⟩ := hv
      have := TV.to_some h1
      cases this
      exact ⟨_, h.slot he⟩
    · rename_i r π s' he
      have hr : rootOf σ (σ s).e = σ r := by rw [he]; rfl
      rw [hr] at hv
      split at hv
      · rename_i tr mr xr hroot
        split at hv
        · rename_i hg
          split at hv
          · rename_i e k y hm hgp
            simp only [Option.map_eq_some_iff, Prod.mk.injEq] at hv
            obtain ⟨z, h1, rfl, rfl⟩ := hv
            have := TV.to_some h1
            subst this
            obtain ⟨_, h2⟩ := (h.ent s).view he
            obtain ⟨h3, h4⟩ := h2 tr mr xr hroot hg.1
            obtain ⟨u, y, l, cs', h5, h6, h7, h8⟩ := Rel.at (h.slot hroot).1 hm h3
            rw [hgp] at h5
            cases h5
            rw [pa_nil0] at h7
            refine ⟨(r, π), ?_⟩
            rw [tmv_eval, h4]
            cases t <;> first | (have := hg.2; cases this; done) | skip
            refine ⟨h7.mono (q := true) (.inl rfl) ⟨fun _ h => h, fun _ _ => rfl, fun _ _ h => .inr h, fun _ _ _ => rfl, fun _ => rfl, fun _ _ h => ⟨h, rfl⟩⟩ fun i hi => ?_, fun h => by cases h⟩
            have : i = 0 := by simp only [Ty.size] at hi; omega
            subst this
            rw [h7.2.2.1]
            rfl
          · cases hv
        · cases hv
      · cases hv
    · cases hv
end
end Go.X
