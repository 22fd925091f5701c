/- Contracts of functions on typed values; the arguments of a call. -/
import Derived.Test.YthemaffjohmhnaaX19
set_option linter.unusedSimpArgs false
set_option linter.unusedVariables false
namespace Go.X
open Go Go.RowKit
/-- How a parameter is handed over: lent, shared for ever, given away, given and taken back. -/
inductive PM where
  | bw | sh | give (m : Md) | io (m : Md)
  deriving DecidableEq
def PM.md : PM → Md
  | .bw => .bw
  | .sh => .sh
  | .give m => m
  | .io m => m
structure Sig where
  ps : List (Ty × PM)
  rs : List (Ty × Md)
@[reducible] def outsOf : List (Ty × PM) → List (Ty × Md)
  | [] => []
  | (t, .io m) :: r => (t, m) :: outsOf r
  | (_, .bw) :: r => outsOf r
  | (_, .sh) :: r => outsOf r
  | (_, .give _) :: r => outsOf r
@[reducible] def Vals : List Ty → Type
  | [] => Unit
  | t :: ts => t.den × Vals ts
@[reducible] def Arr : List Ty → Type → Type
  | [], r => r
  | t :: ts, r => t.den → Arr ts r
def app {r : Type} : (ts : List Ty) → Arr ts r → Vals ts → r
  | [], f, _ => f
  | _ :: ts, f, x => app ts (f x.1) x.2
@[reducible] def Ret : List Ty → Type
  | [] => Unit
  | [t] => t.den
  | t :: s :: ts => t.den × Ret (s :: ts)
def Ret.vals : (ts : List Ty) → Ret ts → Vals ts
  | [], _ => ()
  | [_], x => (x, ())
  | _ :: s :: ts, x => (x.1, Ret.vals (s :: ts) x.2)
@[reducible] def tys : List (Ty × Md) → List Ty
  | [] => []
  | p :: r => p.1 :: tys r
@[reducible] def ptys : List (Ty × PM) → List Ty
  | [] => []
  | p :: r => p.1 :: ptys r
@[reducible] def Sig.res (s : Sig) : List Ty := tys s.rs ++ tys (outsOf s.ps)
/-- Typed values with their modes. -/
def tms : (l : List (Ty × Md)) → Vals (tys l) → List TM
  | [], _ => []
  | (t, m) :: l, x => ⟨t, m, x.1⟩ :: tms l x.2
def ptms : (l : List (Ty × PM)) → Vals (ptys l) → List TM
  | [], _ => []
  | (t, m) :: l, x => ⟨t, m.md, x.1⟩ :: ptms l x.2
def splitV : (a b : List Ty) → Vals (a ++ b) → Vals a × Vals b
  | [], _, x => ((), x)
  | _ :: a, b, x => ((x.1, (splitV a b x.2).1), (splitV a b x.2).2)
/-- The parameters that come back: place in the list of parameters, value. -/
def outTM : Nat → (l : List (Ty × PM)) → Vals (tys (outsOf l)) → List (Nat × TM)
  | _, [], _ => []
  | k, (t, .io m) :: r, x => (k, ⟨t, m, x.1⟩) :: outTM (k + 1) r x.2
  | k, (_, .bw) :: r, x => outTM (k + 1) r x
  | k, (_, .sh) :: r, x => outTM (k + 1) r x
  | k, (_, .give _) :: r, x => outTM (k + 1) r x
def Sig.resTM (s : Sig) (y : Ret s.res) : List TM := tms s.rs (splitV _ _ (Ret.vals _ y)).1
def Sig.outTM (s : Sig) (y : Ret s.res) : List (Nat × TM) := Go.X.outTM 0 s.ps (splitV _ _ (Ret.vals _ y)).2
/-- What a call leaves of the state. -/
structure Frm (S S' : St) : Prop where
  F : ∀ b, S.F b → S'.F b
  B : S'.B = S.B
  shared : ∀ b, S'.F b → S'.own b = none ∧ b < S'.w.heap.size ∧ (S.F b ∨ S.w.heap.size ≤ b ∨ S.own b ≠ none)
  lent : ∀ b, S.B b → S'.own b = none
  owned : ∀ b p, S'.own b = some p → b < S'.w.heap.size ∧ (S.w.heap.size ≤ b ∨ S.own b ≠ none)
  os : S'.w.os = S.w.os
  tape : S'.w.tape = S.w.tape
  output : S'.w.output = S.w.output
  size : S.w.heap.size ≤ S'.w.heap.size
  kept : ∀ b, b < S.w.heap.size → S.own b = none → S'.w.heap[b]? = S.w.heap[b]?
def ResOK (P : Program) (S : St) (rs : List TM) (v : Value) : Prop :=
  match rs with
  | [e] => SR P e.t S e.m (0, [0]) e.x v
  | rs => ∃ us, v = .tuple us ∧ us.size = rs.length ∧ ∀ (k : Nat) (e : TM), rs[k]? = some e → ∃ u, us[k]? = some u ∧ SR P e.t S e.m (0, [k]) e.x u
/-- Called with values that read as arguments of den, the function returns what reads as den's result. -/
def Sim (P : Program) (f : FuncId) (sg : Sig) (den : Arr (ptys sg.ps) (Option (Ret sg.res))) : Prop :=
  Enters P f ∧ ∀ (xs : Vals (ptys sg.ps)) (y : Ret sg.res), app _ den xs = some y → ∀ (S : St), S.WF → ∀ (vs : List Value), vs.length = (ptms sg.ps xs).length →
    (∀ (i : Nat) (e : TM), (ptms sg.ps xs)[i]? = some e → ∃ v, vs[i]? = some v ∧ SR P e.t S e.m (i, []) e.x v) →
    Calls P f vs.toArray S.w fun e w' => ∃ v S', e = .returned v ∧ S'.w = w' ∧ Frm S S' ∧ ResOK P S' (sg.resTM y) v ∧
      ∀ (k : Nat) (e : TM), (k, e) ∈ sg.outTM y → ∃ u, vs[k]? = some u ∧ SR P e.t S' e.m (k + 1, []) e.x u
/-- A function with its contract. -/
structure FnE (P : Program) where
  f : FuncId
  sg : Sig
  den : Arr (ptys sg.ps) (Option (Ret sg.res))
  ok : Sim P f sg den
/-- Called through an interface value that reads as the first argument, the method does what den says. -/
def MSim (P : Program) (nm : String) (sg : Sig) (den : Arr (ptys sg.ps) (Option (Ret sg.res))) : Prop :=
  ∀ (xs : Vals (ptys sg.ps)) (y : Ret sg.res), app _ den xs = some y → ∀ (S : St), S.WF → ∀ (vs : List Value), vs.length = (ptms sg.ps xs).length →
    (∀ (i : Nat) (e : TM), (ptms sg.ps xs)[i]? = some e → ∃ v, vs[i]? = some v ∧ SR P e.t S e.m (i, []) e.x v) →
    ∃ f us, (∀ w, (invoke (.fn (.method nm) #[]) vs.toArray).run P w = .ok (.enter f us) w) ∧
    Calls P f us S.w fun e w' => ∃ v S', e = .returned v ∧ S'.w = w' ∧ Frm S S' ∧ ResOK P S' (sg.resTM y) v ∧
      ∀ (k : Nat) (e : TM), (k, e) ∈ sg.outTM y → ∃ u, vs[k]? = some u ∧ SR P e.t S' e.m (k + 1, []) e.x u
/-- No type of the interface has a nil pointer as the method's receiver. -/
def AheadI (P : Program) (nm : String) : Ty → Prop
  | .alt tid _ b => (∀ v w, (nilAhead (P.types.size + Made.depth) tid v nm).run P w = .ok (some false) w) ∧ AheadI P nm b
  | .nilI => True
  | _ => False
/-- A method of an interface with its contract. -/
structure MeE (P : Program) where
  nm : String
  t : Ty
  ahead : AheadI P nm t
  sg : Sig
  den : Arr (ptys sg.ps) (Option (Ret sg.res))
  ok : MSim P nm sg den
/-- What may be called. -/
inductive TgE (P : Program) where
  | fn (e : FnE P) | me (e : MeE P)
def findF {P : Program} : List (TgE P) → FuncId → Option (FnE P)
  | [], _ => none
  | .fn e :: r, f => if f = e.f then some e else findF r f
  | .me _ :: r, f => findF r f
def findM {P : Program} : List (TgE P) → String → Option (MeE P)
  | [], _ => none
  | .fn _ :: r, f => findM r f
  | .me e :: r, f => if f = e.nm then some e else findM r f
theorem findF_f {P : Program} {l : List (TgE P)} {f : FuncId} {e : FnE P} (h : findF l f = some e) : e.f = f := by
  induction l with
  | nil => cases h
  | cons x l ih =>
    cases x with
    | me e => exact ih h
    | fn e =>
      unfold findF at h
      split at h
      · rename_i hf; cases h; exact hf.symm
      · exact ih h
theorem findM_nm {P : Program} {l : List (TgE P)} {f : String} {e : MeE P} (h : findM l f = some e) : e.nm = f := by
  induction l with
  | nil => cases h
  | cons x l ih =>
    cases x with
    | fn e => exact ih h
    | me e =>
      unfold findM at h
      split at h
      · rename_i hf; cases h; exact hf.symm
      · exact ih h
/- FUNCTION VALUES -/
/-- A captured pointer's variable. -/
def capTM (σ : Env) : Cap → Option TM
  | .ref r π s => match (σ r).e with
    | .v tr mr xr => if genB (σ r) tr π s then match modeP π tr mr, getP π tr xr with
      | some k, some y => if live y.t k then some ⟨y.t, .bw, y.x⟩ else none
      | _, _ => none else none
    | _ => none
  | .val e => match e with
    | ⟨.ptr u, _, x⟩ => some ⟨u, .bw, x⟩
    | _ => none
def capsTM (σ : Env) : List Cap → Option (List TM)
  | [] => some []
  | c :: r => match capTM σ c, capsTM σ r with
    | some e, some es => some (e :: es)
    | _, _ => none
/-- A function literal with the variables that it captured. -/
def cloOf (σ : Env) : Operand → Option (Nat × List TM)
  | .func f => some (f, [])
  | .tmp t => match (σ t).e with
    | .clo f caps => (capsTM σ caps).map fun es => (f, es)
    | _ => none
  | _ => none
def capRoots : List Cap → List Nat
  | [] => []
  | .ref r _ _ :: c => r :: capRoots c
  | .val _ :: c => capRoots c
/-- Captured variables as arguments. -/
def capVals : (ps : List (Ty × PM)) → List TM → Option (Vals (ptys ps))
  | [], [] => some ()
  | (.ptr u, .bw) :: ps, e :: es => match (TV.to ⟨e.t, e.x⟩ u), capVals ps es with
    | some x, some xs => some ((x, xs) : u.den × Vals (ptys ps))
    | _, _ => none
  | _, _ => none
def castR {r' r : Ty} {o : List (Ty × Md)} (h : r' = r) (ho : o = []) (y : Option (Ret ([r'] ++ tys o))) : Option r.den := by
  subst h; subst ho; exact y
def fnVal1 {P : Program} (FT : List (TgE P)) (a r : Ty) (q : Option (Nat × List TM)) : Option (a.den → Option r.den) :=
  match q with
  | some (f, es) => match findF FT f with
    | some ⟨_, ⟨(a', .bw) :: ps, [(r', .sh)]⟩, den, _⟩ =>
      if h : a' = a ∧ r' = r ∧ outsOf ps = [] ∧ r.flat = true then
        match capVals ps es with
        | some cs => some fun x => castR h.2.1 h.2.2.1 (app (ptys ps) (den (h.1 ▸ x)) cs : Option (Ret ([r'] ++ tys (outsOf ps))))
        | none => none
      else none
    | _ => none
  | none => none
def fnVal2 {P : Program} (FT : List (TgE P)) (a b r : Ty) (q : Option (Nat × List TM)) : Option (a.den → b.den → Option r.den) :=
  match q with
  | some (f, es) => match findF FT f with
    | some ⟨_, ⟨(a', .bw) :: (b', .bw) :: ps, [(r', .sh)]⟩, den, _⟩ =>
      if h : a' = a ∧ b' = b ∧ r' = r ∧ outsOf ps = [] ∧ r.flat = true then
        match capVals ps es with
        | some cs => some fun x y => castR h.2.2.1 h.2.2.2.1 (app (ptys ps) (den (h.1 ▸ x) (h.2.1 ▸ y)) cs : Option (Ret ([r'] ++ tys (outsOf ps))))
        | none => none
      else none
    | _ => none
  | none => none
/- ARGUMENTS -/
/-- An argument that is given away, or given and taken back: where it lies, and how it is handed over. -/
structure Gv where
  r : Nat
  π : List Nat
  t : Ty
  m : Md
  x : t.den
  u : Ty
  k : Md
  io : Bool
/-- An argument: its value, what is given, the slots behind what is lent. -/
structure ArgR (t : Ty) where
  x : t.den
  g : Option Gv
  lr : List Nat
/-- The slots behind a readable operand. -/
def Opd.roots (o : Opd) : List Nat :=
  match o with
  | .slot s c _ => match c.e with
    | .v _ m _ => if m.noown then [] else [s]
    | .view r _ _ => [r]
    | .ref r _ _ => [r]
    | .clo _ caps => capRoots caps
    | _ => []
  | _ => []
def argBw (t : Ty) (o : Opd) : Option (ArgR t) :=
  match o.val t with
  | some (m, x) => if live t m then some ⟨x, none, o.roots⟩ else none
  | none => none
def argPtr (u : Ty) (o : Opd) : Option (ArgR (.ptr u)) :=
  match o.ro with
  | some e => (TV.to ⟨e.t, e.x⟩ u).map fun x => ⟨x, none, []⟩
  | none => match o.place with
    | some p => match modeP p.π p.t p.m, getP p.π p.t p.x with
      | some k, some y => if live y.t k then (y.to u).map fun x => ⟨x, none, o.roots⟩ else none
      | _, _ => none
    | none => none
def argSh (t : Ty) (o : Opd) : Option (ArgR t) :=
  match o.val t with
  | some (m, x) => if leM t m .sh then some ⟨x, none, []⟩ else none
  | none => none
/-- The nil slice, given away. -/
def argNil (t : Ty) (m : Md) : Option (ArgR t) :=
  match t, m with
  | .slice u, .own _ _ => if 0 < u.size then some ⟨[], none, []⟩ else none
  | _, _ => none
def argGive (t : Ty) (m : Md) (o : Opd) : Option (ArgR t) :=
  match o with
  | .con (.slice none 0 0) => argNil t m
  | .slot s cc root => match cc.e with
    | .v t' k x => if leM t' k m then (TV.to ⟨t', x⟩ t).map fun z => ⟨z, some ⟨s, [], t', k, x, t', m, false⟩, []⟩ else none
    | .view r π s' => match root.e with
      | .v tr mr xr => if root.h = s' ∧ t.isSlice = true then match modeP π tr mr, getP π tr xr with
        | some (.own e k), some y => if leM y.t (.own e k) m then (y.to t).map fun z => ⟨z, some ⟨r, π, tr, mr, xr, y.t, m, false⟩, []⟩ else none
        | _, _ => none else none
      | _ => none
    | _ => none
  | _ => none
def argIo (u : Ty) (m : Md) (o : Opd) : Option (ArgR (.ptr u)) :=
  match o.place with
  | some p => match p.π.reverse with
    | 0 :: ρ => match modeP ρ.reverse p.t p.m, getP ρ.reverse p.t p.x with
      | some (.own e k), some y => if m = .own e k ∧ y.t = .ptr u then (y.to (.ptr u)).map fun z => ⟨z, some ⟨p.r, ρ.reverse, p.t, p.m, p.x, .ptr u, m, true⟩, []⟩ else none
      | _, _ => none
    | _ => none
  | none => none
def argV {P : Program} (FT : List (TgE P)) (t : Ty) (pm : PM) (o : Opd) (q : Option (Nat × List TM)) : Option (ArgR t) :=
  match pm with
  | .bw => match t with
    | .fn1 a r => match argBw (.fn1 a r) o with
      | some x => some x
      | none => (fnVal1 FT a r q).map fun g => ⟨g, none, o.roots⟩
    | .fn2 a b r => match argBw (.fn2 a b r) o with
      | some x => some x
      | none => (fnVal2 FT a b r q).map fun g => ⟨g, none, o.roots⟩
    | .ptr u => argPtr u o
    | t => argBw t o
  | .sh => argSh t o
  | .give m => argGive t m o
  | .io m => match t with
    | .ptr u => argIo u m o
    | _ => none
/-- All arguments: values, what is given (by its place in the list), the slots behind what is lent. -/
def argsV {P : Program} (FT : List (TgE P)) : Nat → (ps : List (Ty × PM)) → List (Opd × Option (Nat × List TM)) → Option (Vals (ptys ps) × List (Nat × Gv) × List Nat)
  | _, [], [] => some ((), [], [])
  | i, (t, pm) :: ps, (o, q) :: os => match argV FT t pm o q, argsV FT (i + 1) ps os with
    | some z, some (xs, gs, lr) => some ((z.x, xs), (match z.g with | some g => (i, g) :: gs | none => gs), z.lr ++ lr)
    | _, _ => none
  | _, _, _ => none
end Go.X
