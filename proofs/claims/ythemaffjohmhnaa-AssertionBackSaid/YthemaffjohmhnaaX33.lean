/- Methods called through an interface value. -/
import Derived.Test.YthemaffjohmhnaaX32
set_option linter.unusedSimpArgs false
set_option linter.unusedVariables false
namespace Go.X
open Go Go.RowKit
/-- What type t's method of that name is. -/
def methB (P : Program) (t : TypeId) (nm : String) (f : FuncId) : Bool :=
  match P.info? t, P.underlying t with
  | some i, some (.struct _) => match i.methods.find? (·.name == nm) with
    | some m => m.path.isEmpty && (match m.func with | some (g, false) => decide (g = f) | _ => false)
    | none => false
  | _, _ => false
/-- The name of type t's method whose function is f. -/
def mname (P : Program) (t : TypeId) (f : FuncId) : String :=
  match P.info? t with
  | some i => match i.methods.find? (fun m => match m.func with | some (g, _) => g == f | none => false) with
    | some m => m.name
    | none => default
  | none => default
theorem meth_run {P : Program} {t : TypeId} {nm : String} {f : FuncId} (h : methB P t nm f = true) (v : Value) (xs : Array Value) (w : World) : (callMethod (.iface t v) nm xs).run P w = (callFunc f (#[v] ++ xs)).run P w := by
  unfold methB at h
  split at h
  case h_2 => cases h
  rename_i i fs hi hd
  split at h
  case h_2 => cases h
  rename_i m hm
  simp only [Bool.and_eq_true] at h
  obtain ⟨hp, hf⟩ := h
  split at hf
  case h_2 => cases hf
  rename_i g hg
  have hgf := of_decide_eq_true hf
  subst hgf
  obtain ⟨n, hn⟩ : ∃ n, P.types.size + Made.depth = n + 1 := ⟨P.types.size + Made.depth - 1, by unfold Made.depth; omega⟩
  have hp' : m.path.toList = [] := by
    have := Array.isEmpty_iff.1 hp
    rw [this]
  have hmeth : (method (P.types.size + Made.depth) t v nm).run P w = .ok (g, v) w := by
    rw [hn]
    unfold method
    simp [typeInfo, hi, hm, hp', follow, hg, receiverAt, run_underlying hd, Place.get]
  unfold callMethod
  simp only [Sem.run_bind, run_program, Result.andThen_ok, hmeth]
theorem meth_ahead {P : Program} {t : TypeId} {nm : String} {f : FuncId} (h : methB P t nm f = true) (v : Value) (w : World) : (nilAhead (P.types.size + Made.depth) t v nm).run P w = .ok (some false) w := by
  unfold methB at h
  split at h
  case h_2 => cases h
  rename_i i fs hi hd
  split at h
  case h_2 => cases h
  rename_i m hm
  simp only [Bool.and_eq_true] at h
  obtain ⟨hp, hf⟩ := h
  split at hf
  case h_2 => cases hf
  rename_i g hg
  obtain ⟨n, hn⟩ : ∃ n, P.types.size + Made.depth = n + 1 := ⟨P.types.size + Made.depth - 1, by unfold Made.depth; omega⟩
  have hp' : m.path.toList = [] := by
    have := Array.isEmpty_iff.1 hp
    rw [this]
  rw [hn]
  unfold nilAhead
  simp [typeInfo, hi, hm, hp', followBlind, hg, run_underlying hd]
theorem outTM_none : ∀ {l : List (Ty × PM)} {i : Nat} {x : Vals (tys (outsOf l))}, outsOf l = [] → outTM i l x = []
  | [], _, _, _ => rfl
  | (t, .io m) :: r, _, _, h => by simp [outsOf] at h
  | (t, .bw) :: r, i, x, h => outTM_none (l := r) (i := i + 1) h
  | (t, .sh) :: r, i, x, h => outTM_none (l := r) (i := i + 1) h
  | (t, .give m) :: r, i, x, h => outTM_none (l := r) (i := i + 1) h
/-- An interface value of one type more. -/
def altD (n : TypeId) (a b : Ty) {r : Type} (ts : List Ty) (f : Arr (a :: ts) r) (g : Arr (b :: ts) r) : Arr (.alt n a b :: ts) r := fun x => match x with
  | .inl y => f y
  | .inr z => g z
theorem msim_alt {P : Program} {tid : TypeId} {nm : String} {f : FuncId} {a b : Ty} {ps : List (Ty × PM)} {rs : List (Ty × Md)} {den1 : Arr (ptys ((a, .sh) :: ps)) (Option (Ret (Sig.res ⟨(a, .sh) :: ps, rs⟩)))} {den2 : Arr (ptys ((b, .sh) :: ps)) (Option (Ret (Sig.res ⟨(b, .sh) :: ps, rs⟩)))}
    (hM : methB P tid nm f = true) (hb : b.agg = false) (ho : outsOf ps = []) (h1 : Sim P f ⟨(a, .sh) :: ps, rs⟩ den1) (h2 : MSim P nm ⟨(b, .sh) :: ps, rs⟩ den2) :
    MSim P nm ⟨(.alt tid a b, .sh) :: ps, rs⟩ (altD tid a b (ptys ps) den1 den2) := by
  intro xs y hy S hS vs hlen hrel
  obtain ⟨x, xs⟩ := xs
  cases vs with
  | nil => simp [ptms] at hlen
  | cons v vs =>
    obtain ⟨v0, hv0, hx⟩ := hrel 0 ⟨_, _, x⟩ rfl
    cases hv0
    have hrest : ∀ (i : Nat) (e : TM), (ptms ps xs)[i]? = some e → ∃ v, vs[i]? = some v ∧ SR P e.t S e.m (i + 1, []) e.x v := fun i e hi => hrel (i + 1) e hi
    have hlen' : vs.length = (ptms ps xs).length := by simpa [ptms] using hlen
    have hR : Rel P (.alt tid a b) S .sh (0, []) x (vcells (.alt tid a b) v) := hx.1
    cases x with
    | inl z =>
      rw [Rel.alt_inl (by simp)] at hR
      obtain ⟨u, h3, h4, h5⟩ := hR
      have hv : v = .iface tid u := by simpa [vcells, Ty.agg] using h3
      subst hv
      have hz : Rel P a S .sh (0, []) z (vcells a u) := h4.fut (.inl rfl) ((Fut2.refl S).sh _) fun _ _ => rfl
      refine ⟨f, (u :: vs).toArray, fun w => ?_, ?_⟩
      · have hc := meth_run hM u vs.toArray w
        have h6 := h1.1 (#[u] ++ vs.toArray) w
        have e1 : (Value.iface tid u :: vs).toArray[0]? = some (.iface tid u) := by simp
        have e2 : (Value.iface tid u :: vs).toArray.extract 1 (Value.iface tid u :: vs).toArray.size = vs.toArray := by
          apply Array.ext'; simp
        have e3 : #[u] ++ vs.toArray = (u :: vs).toArray := by apply Array.ext'; simp
        unfold invoke
        rw [e3] at hc h6
        simp only [e1, e2]
        exact hc.trans h6
      · refine Calls.mono (h1.2 (z, xs) y hy S hS (u :: vs) (by simpa [ptms] using hlen') fun i e hi => ?_) fun e w' hR => ?_
        · cases i with
          | zero =>
            simp only [ptms, List.getElem?_cons_zero, Option.some.injEq] at hi
            subst hi
            exact ⟨u, rfl, hz, h5⟩
          | succ i => exact hrest i e hi
        · obtain ⟨v, S', h7, h8, h9, h10, _⟩ := hR
          refine ⟨v, S', h7, h8, h9, h10, fun k e hk => ?_⟩
          have : Sig.outTM ⟨(.alt tid a b, .sh) :: ps, rs⟩ y = [] := outTM_none (l := (.alt tid a b, .sh) :: ps) ho
          rw [this] at hk
          cases hk
    | inr z =>
      rw [Rel.alt_inr (by simp)] at hR
      have hz : SR P b S .sh (0, []) z v := by
        refine ⟨?_, fun h => by rw [hb] at h; cases h⟩
        refine hR.2.fut (.inl rfl) ((Fut2.refl S).sh _) fun i _ => ?_
        unfold vcells
        rw [hb]
        rfl
      obtain ⟨g, us, h3, h4⟩ := h2 (z, xs) y hy S hS (v :: vs) (by simpa [ptms] using hlen') fun i e hi => by
        cases i with
        | zero =>
          simp only [ptms, List.getElem?_cons_zero, Option.some.injEq] at hi
          subst hi
          exact ⟨v, rfl, hz⟩
        | succ i => exact hrest i e hi
      refine ⟨g, us, h3, Calls.mono h4 fun e w' hR => ?_⟩
      obtain ⟨v, S', h7, h8, h9, h10, _⟩ := hR
      refine ⟨v, S', h7, h8, h9, h10, fun k e hk => ?_⟩
      have : Sig.outTM ⟨(.alt tid a b, .sh) :: ps, rs⟩ y = [] := outTM_none (l := (.alt tid a b, .sh) :: ps) ho
      rw [this] at hk
      cases hk
def noneA : (ts : List Ty) → (r : Type) → Arr ts (Option r)
  | [], _ => none
  | _ :: ts, r => fun _ => noneA ts r
theorem noneA_app : ∀ (ts : List Ty) (r : Type) (x : Vals ts), app ts (noneA ts r) x = none
  | [], _, _ => rfl
  | _ :: ts, r, x => noneA_app ts r x.2
theorem msim_nil {P : Program} {nm : String} {ps : List (Ty × PM)} {rs : List (Ty × Md)} : MSim P nm ⟨(.nilI, .sh) :: ps, rs⟩ (noneA (ptys ((.nilI, .sh) :: ps)) _) := by
  intro xs y hy
  rw [noneA_app] at hy
  cases hy
end Go.X
