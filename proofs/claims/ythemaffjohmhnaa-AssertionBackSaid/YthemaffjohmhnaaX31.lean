/- A function's contract from its code's evaluation. -/
import Derived.Test.YthemaffjohmhnaaX30
namespace Go.X
open Go Go.RowKit
/-- Where something goes at the end: a result, a parameter that goes back. -/
inductive TG where
  | res (j : Nat) | out (k : Nat)
  deriving DecidableEq
def TG.pl : TG → Place
  | .res j => (0, [j])
  | .out k => (k + 1, [])
def tgOf : Place → Option (TG × List Nat)
  | (0, []) => none
  | (0, j :: ρ) => some (.res j, ρ)
  | (k + 1, ρ) => some (.out k, ρ)
theorem tgOf_pl (g : TG) (ρ : List Nat) : tgOf (pa g.pl ρ) = some (g, ρ) := by
  cases g <;> simp [TG.pl, pa, tgOf]
structure Mv where
  s : Nat
  π : List Nat
  g : TG
def byS : List Mv → Nat → Option Mv
  | [], _ => none
  | m :: ms, s => if s = m.s then some m else byS ms s
def byT : List Mv → TG → Option Mv
  | [], _ => none
  | m :: ms, g => if g = m.g then some m else byT ms g
def okM : List Mv → Bool
  | [] => true
  | m :: ms => (byS ms m.s).isNone && (byT ms m.g).isNone && okM ms
theorem byS_none {ms : List Mv} {s : Nat} (h : byS ms s = none) : ∀ m ∈ ms, m.s ≠ s := by
  induction ms with
  | nil => simp
  | cons x ms ih =>
    simp only [byS] at h
    split at h
    · cases h
    · rename_i hne
      intro m hm
      rcases List.mem_cons.1 hm with rfl | hm
      · exact fun e => hne e.symm
      · exact ih h m hm
theorem byT_none {ms : List Mv} {g : TG} (h : byT ms g = none) : ∀ m ∈ ms, m.g ≠ g := by
  induction ms with
  | nil => simp
  | cons x ms ih =>
    simp only [byT] at h
    split at h
    · cases h
    · rename_i hne
      intro m hm
      rcases List.mem_cons.1 hm with rfl | hm
      · exact fun e => hne e.symm
      · exact ih h m hm
theorem byS_mem {ms : List Mv} (h : okM ms = true) {m : Mv} (hm : m ∈ ms) : byS ms m.s = some m := by
  induction ms with
  | nil => cases hm
  | cons x ms ih =>
    simp only [okM, Bool.and_eq_true, Option.isNone_iff_eq_none] at h
    simp only [byS]
    rcases List.mem_cons.1 hm with rfl | hm
    · rw [if_pos rfl]
    · rw [if_neg (byS_none h.1.1 _ hm), ih h.2 hm]
theorem byT_mem {ms : List Mv} (h : okM ms = true) {m : Mv} (hm : m ∈ ms) : byT ms m.g = some m := by
  induction ms with
  | nil => cases hm
  | cons x ms ih =>
    simp only [okM, Bool.and_eq_true, Option.isNone_iff_eq_none] at h
    simp only [byT]
    rcases List.mem_cons.1 hm with rfl | hm
    · rw [if_pos rfl]
    · rw [if_neg (byT_none h.1.2 _ hm), ih h.2 hm]
/-- The state at the end, as the caller sees it. -/
def St.ret (S : St) (ms : List Mv) : St where
  w := S.w
  F := S.F
  B := S.B
  own b := match S.own b with
    | some z => match byS ms z.1 with
      | some m => (cut m.π z.2).map fun ρ => pa m.g.pl ρ
      | none => none
    | none => none
  hv z := match tgOf z with
    | some (g, ρ) => match byT ms g with
      | some m => S.hv (pa (m.s, m.π) ρ)
      | none => S.hv z
    | none => S.hv z
theorem retTr {S : St} {ms : List Mv} (h : okM ms = true) {m : Mv} (hm : m ∈ ms) : Tr true S (S.ret ms) (m.s, m.π) m.g.pl where
  F _ h := h
  sF _ _ := rfl
  B _ _ h := .inr h
  sB _ _ _ := rfl
  hv r := by simp only [St.ret, tgOf_pl, byT_mem h hm]
  own b r hb := ⟨by simp only [St.ret, hb, pa, byS_mem h hm, cut_app, Option.map_some], rfl⟩
theorem ret_none {S : St} {ms : List Mv} {b : Nat} (h : S.own b = none) : (S.ret ms).own b = none := by simp [St.ret, h]
theorem ret_some {S : St} {ms : List Mv} {b : Nat} {z : Place} (h : (S.ret ms).own b = some z) : ∃ y, S.own b = some y := by
  cases ho : S.own b with
  | none => rw [ret_none ho] at h; cases h
  | some y => exact ⟨y, rfl⟩
/-- The results, out of the slots at the end. -/
def retL (T : Tab) (l : LEnv) : Nat → (rs : List (Ty × Md)) → List ResultVar → Option (Vals (tys rs) × List Mv)
  | _, [], [] => some ((), [])
  | j, (t, m) :: rs, .tmp s :: vs => match (E l s).e with
    | .v t' m' x => if leM t' m' m then match TV.to ⟨t', x⟩ t, retL T l (j + 1) rs vs with
      | some y, some (ys, ms) => some ((y, ys), ⟨s, [], .res j⟩ :: ms)
      | _, _ => none else none
    | _ => none
  | j, (t, m) :: rs, .cell s d :: vs => match (E l s).e, tl T d with
    | .v (.ptr u) (.own _ m') x, some (_, u') => if u' = u ∧ leM u m' m = true then match TV.to ⟨u, x⟩ t, retL T l (j + 1) rs vs with
      | some y, some (ys, ms) => some ((y, ys), ⟨s, [0], .res j⟩ :: ms)
      | _, _ => none else none
    | _, _ => none
  | _, _, _ => none
def outL (l : LEnv) : Nat → (ps : List (Ty × PM)) → Option (Vals (tys (outsOf ps)) × List Mv)
  | _, [] => some ((), [])
  | k, (t, .io m) :: ps => match (E l k).e with
    | .v t' m' x => if leM t' m' m then match TV.to ⟨t', x⟩ t, outL l (k + 1) ps with
      | some y, some (ys, ms) => some ((y, ys), ⟨k, [], .out k⟩ :: ms)
      | _, _ => none else none
    | _ => none
  | k, (_, .bw) :: ps => outL l (k + 1) ps
  | k, (_, .sh) :: ps => outL l (k + 1) ps
  | k, (_, .give _) :: ps => outL l (k + 1) ps
def joinV : (a b : List Ty) → Vals a → Vals b → Vals (a ++ b)
  | [], _, _, y => y
  | _ :: a, b, x, y => (x.1, joinV a b x.2 y)
theorem split_join : ∀ (a b : List Ty) (x : Vals a) (y : Vals b), splitV a b (joinV a b x y) = (x, y)
  | [], _, _, _ => rfl
  | _ :: a, b, x, y => by
    simp only [joinV, splitV, split_join a b x.2 y]
def fin (T : Tab) (sg : Sig) (vs : List ResultVar) (l : LEnv) : Option (Ret sg.res) :=
  match retL T l 0 sg.rs vs, outL l 0 sg.ps with
  | some (x, ms), some (y, ms') => bif okM (ms ++ ms') then some (toRet _ (joinV _ _ x y)) else none
  | _, _ => none
def initL : Nat → List TM → LEnv
  | _, [] => []
  | k, e :: es => (k, ⟨.v e.t e.m e.x, 0, 0⟩) :: initL (k + 1) es
theorem E_initL : ∀ (es : List TM) (k t : Nat), E (initL k es) t = match es[t - k]? with | some e => if k ≤ t then ⟨.v e.t e.m e.x, 0, 0⟩ else ⟨.dead, 0, 0⟩ | none => ⟨.dead, 0, 0⟩
  | [], k, t => by simp [initL, E]
  | e :: es, k, t => by
    have ih := E_initL es (k + 1) t
    simp only [initL, E]
    by_cases hk : t = k
    · subst hk; simp
    · rw [if_neg hk, ih]
      by_cases hlt : k < t
      · have : t - k = (t - (k + 1)) + 1 := by omega
        rw [this, List.getElem?_cons_succ]
        have h1 : k + 1 ≤ t := hlt
        have h2 : k ≤ t := by omega
        simp only [h1, h2, if_true]
      · have h1 : ¬ k + 1 ≤ t := by omega
        have h2 : ¬ k ≤ t := by omega
        simp only [h1, h2, if_false]
        split <;> split <;> rfl
section
variable {P : Program} {c : Ctx} {T : Tab} {FT : List (TgE P)} {a : Act} {S : St} {l : LEnv}
/-- Reading one result. -/
def rv (tmps : Array Value) : ResultVar → Sem Value
  | .tmp t => pure (tmps.getD t undef)
  | .cell a t => do loadVar t (← asAddr (tmps.getD a undef))
theorem retL_sound (h : InvOf P c (E l) a S) (hT : TabOK P T) : ∀ {vs : List ResultVar} {rs : List (Ty × Md)} {j : Nat} {x : Vals (tys rs)} {ms : List Mv}, retL T l j rs vs = some (x, ms) →
    ∃ us : List Value, us.length = rs.length ∧ (vs.mapM (rv a.tmps)).run P S.w = .ok us S.w ∧
      ∀ (k : Nat) (e : TM), (tms rs x)[k]? = some e → ∃ m, m ∈ ms ∧ m.g = TG.res (j + k) ∧ ∃ u, us[k]? = some u ∧ SR P e.t S e.m (m.s, m.π) e.x u
  | [], [], j, x, ms, hx => ⟨[], rfl, rfl, fun k e hk => by simp [tms] at hk⟩
  | [], _ :: _, j, x, ms, hx => by simp [retL] at hx
  | v :: vs, [], j, x, ms, hx => by cases v <;> simp [retL] at hx
  | .tmp s :: vs, (t, m) :: rs, j, x, ms, hx => by
    simp only [retL] at hx
    split at hx
    case h_2 => cases hx
    rename_i t' m' y he
    split at hx
    case isFalse => cases hx
    rename_i hl
    split at hx
    case h_2 => cases hx
    rename_i z zs ms' h1 h2
    cases hx
    have := TV.to_some h1
    cases this
    obtain ⟨us, h3, h4, h5⟩ := retL_sound h hT h2
    have hs := h.slot he
    refine ⟨tmv a s :: us, by simp [h3], ?_, fun k e hk => ?_⟩
    · simp only [List.mapM_cons, rv, Sem.run_bind, h4, Sem.run_pure, Result.andThen_ok]
      rfl
    · cases k with
      | zero =>
        simp only [tms, List.getElem?_cons_zero, Option.some.injEq] at hk
        subst hk
        exact ⟨_, List.mem_cons_self, rfl, _, rfl, hs.1.weaken hl, hs.2⟩
      | succ k =>
        simp only [tms, List.getElem?_cons_succ] at hk
        obtain ⟨m, h6, h7, h8⟩ := h5 k e hk
        exact ⟨m, List.mem_cons_of_mem _ h6, by rw [h7]; congr 1; omega, h8⟩
  | .cell s d :: vs, (t, m) :: rs, j, x, ms, hx => by
    simp only [retL] at hx
    split at hx
    case h_2 => cases hx
    rename_i u e' m' y i u' he ht
    split at hx
    case isFalse => cases hx
    rename_i hc
    obtain ⟨rfl, hl⟩ := hc
    split at hx
    case h_2 => cases hx
    rename_i z zs ms' h1 h2
    cases hx
    have := TV.to_some h1
    cases this
    obtain ⟨us, h3, h4, h5⟩ := retL_sound h hT h2
    obtain ⟨⟨h6, g, cur, e1, h7, h8, h9, h10, h11⟩, _⟩ := h.slot he
    have hb : blk S.w g 0 = fun i => cur[i]? := by rw [blk_cur h9]; funext i; rw [Nat.zero_add]
    rw [← hb] at h11
    obtain ⟨v, h12, h13, h14⟩ := run_load hT ht h11
    have hval : a.tmps.getD s undef = .pointer (some ⟨g, 0, none⟩) := by
      have : vcells (.ptr t) (tmv a s) 0 = some (tmv a s) := by simp [vcells, Ty.agg]
      rw [this, h7] at h6
      exact Option.some.inj h6
    refine ⟨v :: us, by simp [h3], ?_, fun k e hk => ?_⟩
    · have hload : (rv a.tmps (.cell s d)).run P S.w = .ok v S.w := by
        show (do loadVar d (← asAddr (a.tmps.getD s undef)) : Sem Value).run P S.w = _
        rw [hval]
        simpa [Instr.loadAt, Instr.sureAddr, asAddr] using h12
      simp only [List.mapM_cons, Sem.run_bind, hload, h4, Sem.run_pure, Result.andThen_ok]
    · cases k with
      | zero =>
        simp only [tms, List.getElem?_cons_zero, Option.some.injEq] at hk
        subst hk
        exact ⟨_, List.mem_cons_self, rfl, _, rfl, h13.1.weaken hl, h13.2⟩
      | succ k =>
        simp only [tms, List.getElem?_cons_succ] at hk
        obtain ⟨m, h6, h7, h8⟩ := h5 k e hk
        exact ⟨m, List.mem_cons_of_mem _ h6, by rw [h7]; congr 1; omega, h8⟩
theorem results_rv (fn : Func) (tmps : Array Value) {us : List Value} {w : World} (h : (fn.results.toList.mapM (rv tmps)).run P w = .ok us w) :
    (results fn tmps).run P w = .ok (if h : us.length = 1 then us[0] else .tuple us.toArray) w := by
  have e1 : results fn tmps = (do
      let vs ← fn.results.mapM (rv tmps)
      pure (if h : vs.size = 1 then vs[0] else .tuple vs)) := by
    unfold results
    congr 1
  rw [e1, Array.mapM_eq_mapM_toList]
  simp only [Sem.run_bind, Sem.run_map, h, Result.andThen_ok, Sem.run_pure]
  congr 1
theorem outL_sound (h : InvOf P c (E l) a S) : ∀ {ps : List (Ty × PM)} {k : Nat} {x : Vals (tys (outsOf ps))} {ms : List Mv}, outL l k ps = some (x, ms) →
    ∀ (i : Nat) (e : TM), (i, e) ∈ outTM k ps x → ∃ m, m ∈ ms ∧ m.g = TG.out i ∧ m.s = i ∧ SR P e.t S e.m (m.s, m.π) e.x (tmv a i)
  | [], k, x, ms, hx, i, e, hi => by cases hi
  | (t, .io m) :: ps, k, x, ms, hx, i, e, hi => by
    simp only [outL] at hx
    split at hx
    case h_2 => cases hx
    rename_i t' m' y he
    split at hx
    case isFalse => cases hx
    rename_i hl
    split at hx
    case h_2 => cases hx
    rename_i z zs ms' h1 h2
    cases hx
    have := TV.to_some h1
    cases this
    rcases List.mem_cons.1 hi with h3 | h3
    · cases h3
      have hs := h.slot he
      exact ⟨_, List.mem_cons_self, rfl, rfl, hs.1.weaken hl, hs.2⟩
    · obtain ⟨m, h4, h5⟩ := outL_sound h h2 i e h3
      exact ⟨m, List.mem_cons_of_mem _ h4, h5⟩
  | (t, .bw) :: ps, k, x, ms, hx, i, e, hi => outL_sound h (ps := ps) (k := k + 1) hx i e hi
  | (t, .sh) :: ps, k, x, ms, hx, i, e, hi => outL_sound h (ps := ps) (k := k + 1) hx i e hi
  | (t, .give _) :: ps, k, x, ms, hx, i, e, hi => outL_sound h (ps := ps) (k := k + 1) hx i e hi
end
end Go.X
