/- The evaluator: regions. -/
import Derived.Test.YthemaffjohmhnaaX28
set_option linter.unusedSimpArgs false
set_option linter.unusedVariables false
namespace Go.X
open Go Go.RowKit
/-- An environment written out. -/
abbrev LEnv := List (Nat × Slot)
def E : LEnv → Env
  | [], _ => ⟨.dead, 0, 0⟩
  | (k, s) :: r, t => if t = k then s else E r t
def setL : LEnv → Nat → Ent → Nat → LEnv
  | [], t, e, k => [(t, bump k ⟨.dead, 0, 0⟩ e)]
  | (u, s) :: r, t, e, k => if t = u then (u, bump k s e) :: r else (u, s) :: setL r t e k
def updL : Ups → LEnv → LEnv
  | [], l => l
  | (t, e, k) :: r, l => updL r (setL l t e k)
theorem E_setL : ∀ (l : LEnv) (t : Nat) (e : Ent) (k : Nat), E (setL l t e k) = set1 (E l) t e k
  | [], t, e, k => by
    funext u
    simp only [setL, E, set1]
  | (v, s) :: r, t, e, k => by
    funext u
    have ih := congrFun (E_setL r t e k) u
    unfold setL
    by_cases h : t = v
    · subst h
      rw [if_pos rfl]
      simp only [E, set1, if_true]
      split <;> rfl
    · rw [if_neg h]
      simp only [E]
      by_cases hu : u = v
      · subst hu
        rw [if_pos rfl, set1_ne _ _ _ (Ne.symm h)]
        simp only [E, if_true]
      · rw [if_neg hu, ih]
        simp only [set1, E, if_neg hu, if_neg h]
theorem E_updL : ∀ (us : Ups) (l : LEnv), E (updL us l) = upd us (E l)
  | [], _ => rfl
  | (t, e, k) :: r, l => by
    show E (updL r (setL l t e k)) = upd r (set1 (E l) t e k)
    rw [E_updL r, E_setL]
/-- One operation that is carried out. -/
noncomputable def evStep {R : Type} (T : Tab) (fl : Nat) (o : Oper) (ps : Ups) (l : LEnv) (k : Ups → LEnv → Option R) : Option R :=
  match step T fl o (look (E l)) with
  | some (ob, us) => bif ob then k (ps ++ us) (updL us l) else none
  | none => none
noncomputable def evRun {P : Program} {R : Type} (T : Tab) (FT : List (TgE P)) (an : An) (o : Oper) (l : LEnv) (k : Ups → LEnv → Option R) : Option R :=
  match preU an.frz (E l) with
  | some ps => match o.op with
    | .pick cc x y => match (look (E (updL ps l)) cc).val .bool with
      | some (m, b) => if m = .dead then none else bif b then evStep T an.fl { o with op := .move x } ps (updL ps l) k else evStep T an.fl { o with op := .move y } ps (updL ps l) k
      | none => none
    | .call { callee := .builtin _, args := _, argTypes := _ } => evStep T an.fl o ps (updL ps l) k
    | .nilCheck _ => match callO FT o (E (updL ps l)) with
      | some C => C.m.bind fun y => match C.us y with
        | some us => k (ps ++ us) (updL us (updL ps l))
        | none => none
      | none => none
    | .call _ => match callO FT o (E (updL ps l)) with
      | some C => C.m.bind fun y => match C.us y with
        | some us => k (ps ++ us) (updL us (updL ps l))
        | none => none
      | none => none
    | _ => evStep T an.fl o ps (updL ps l) k
  | none => none
def eqB (want b : Bool) : Bool := match want with | true => b | false => !b
/-- One operation, its guard asked. -/
noncomputable def evOp {P : Program} {R : Type} (T : Tab) (FT : List (TgE P)) (an : An) (ops : Array Oper) (o : Oper) (l : LEnv) (k : Ups → LEnv → Option R) : Option R :=
  match o.guard with
  | none => evRun T FT an o l k
  | some (_, want) => match guardTmp ops o, o.dst with
    | some t, some d => match (E l t).e with
      | .v .bool m b => if m = .dead then none else bif eqB want b then evRun T FT an o (setL l t (.v .bool m want) 2) k else k [(d, .skip, 0)] (setL (setL l t (.v .bool m (!want)) 2) d .skip 0)
      | .skip => k [(d, .skip, 0)] (setL l d .skip 0)
      | _ => none
    | _, _ => none
/-- The same entry, its head in sight. -/
def forceE {R : Type} (e : Ent) (k : Ent → Option R) : Option R :=
  match e with
  | .v t m x => k (.v t m x)
  | .ref r π s => k (.ref r π s)
  | .view r π s => k (.view r π s)
  | .tup es => k (.tup es)
  | .clo f cs => k (.clo f cs)
  | .mth nm ⟨t, m, x⟩ => k (.mth nm ⟨t, m, x⟩)
  | .skip => k .skip
  | .dead => k .dead
theorem forceE_eq {R : Type} (e : Ent) (k : Ent → Option R) : forceE e k = k e := by cases e <;> rfl
/-- The same environment, written out. -/
def forceL {R : Type} : LEnv → (LEnv → Option R) → Option R
  | [], k => k []
  | (t, ⟨e, g, h⟩) :: r, k => forceE e fun e => forceL r fun r => k ((t, ⟨e, g, h⟩) :: r)
theorem forceL_eq {R : Type} : ∀ (l : LEnv) (k : LEnv → Option R), forceL l k = k l
  | [], _ => rfl
  | (t, ⟨e, g, h⟩) :: r, k => by
    unfold forceL
    rw [forceE_eq, forceL_eq r]
abbrev Foot := List Nat × List Nat
noncomputable def evOps {P : Program} {R : Type} (T : Tab) (FT : List (TgE P)) (ops : Array Oper) : List An → List Oper → LEnv → List Foot → (LEnv → List Foot → Option R) → Option R
  | _, [], l, fs, k => k l fs
  | ans, o :: os, l, fs, k => evOp T FT (ans.headD {}) ops o l fun us l' => forceL l' fun l' => evOps T FT ops ans.tail os l' (fs ++ [(reads (ans.headD {}) ops o (E l), us.map (·.1))]) k
section
variable {P : Program} {c : Ctx} {T : Tab} {FT : List (TgE P)} {ops : Array Oper} {R : Type}
theorem cond_some {b : Bool} {x y : Option R} {r : R} (h : (bif b then x else y) = some r) : (b = true ∧ x = some r) ∨ (b = false ∧ y = some r) := by
  cases b with
  | true => exact .inl ⟨rfl, h⟩
  | false => exact .inr ⟨rfl, h⟩
theorem cond_none {b : Bool} {x : Option R} {r : R} (h : (bif b then x else none) = some r) : b = true ∧ x = some r := (cond_some h).resolve_right fun h => by cases h.2
theorem setL_same {l : LEnv} {t : Nat} {e : Ent} (h : (E l t).e = e) : E (setL l t e 2) = E l := by
  rw [E_setL]
  funext u
  unfold set1
  split
  · rename_i he; subst he; subst h; rfl
  · rfl
theorem evStep_ok {fl : Nat} {o : Oper} {ps : Ups} {l : LEnv} {k : Ups → LEnv → Option R} {r : R} (h : evStep T fl o ps l k = some r) : ∃ us, step T fl o (look (E l)) = some (true, us) ∧ k (ps ++ us) (updL us l) = some r := by
  unfold evStep at h
  split at h
  case h_2 => cases h
  rename_i ob us hs
  obtain ⟨rfl, h2⟩ := cond_none h
  exact ⟨us, hs, h2⟩
theorem updL_app : ∀ (us vs : Ups) (l : LEnv), updL (us ++ vs) l = updL vs (updL us l)
  | [], _, _ => rfl
  | (_, _, _) :: us, vs, _ => updL_app us vs _
theorem evRun_ok {an : An} {o : Oper} {l : LEnv} {k : Ups → LEnv → Option R} {r : R} (h : evRun T FT an o l k = some r) : ∃ us, Ok P T FT an o (E l) us ∧ k us (updL us l) = some r := by
  unfold evRun at h
  split at h
  case h_2 => cases h
  rename_i ps hps
  split at h
  · rename_i cc x y ho
    split at h
    case h_2 => cases h
    rename_i m b hb
    split at h
    · cases h
    rename_i hm
    rw [E_updL] at hb
    rcases cond_some h with ⟨rfl, h⟩ | ⟨rfl, h⟩
    · obtain ⟨us, h1, h2⟩ := evStep_ok h
      rw [E_updL] at h1
      exact ⟨ps ++ us, ⟨ps, hps, .inr (.inr ⟨cc, x, y, m, true, true, us, ho, hb, hm, h1, rfl, rfl⟩)⟩, by rw [updL_app]; exact h2⟩
    · obtain ⟨us, h1, h2⟩ := evStep_ok h
      rw [E_updL] at h1
      exact ⟨ps ++ us, ⟨ps, hps, .inr (.inr ⟨cc, x, y, m, false, true, us, ho, hb, hm, h1, rfl, rfl⟩)⟩, by rw [updL_app]; exact h2⟩
  · obtain ⟨us, h1, h2⟩ := evStep_ok h
    rw [E_updL] at h1
    exact ⟨ps ++ us, ⟨ps, hps, .inl ⟨true, us, h1, rfl, rfl⟩⟩, by rw [updL_app]; exact h2⟩
  · split at h
    case h_2 => cases h
    rename_i C hC
    simp only [Option.bind_eq_some_iff] at h
    obtain ⟨y, h1, h2⟩ := h
    split at h2
    case h_2 => cases h2
    rename_i us hus
    rw [E_updL] at hC
    exact ⟨ps ++ us, ⟨ps, hps, .inr (.inl ⟨C, y, us, hC, h1, hus, rfl⟩)⟩, by rw [updL_app]; exact h2⟩
  · split at h
    case h_2 => cases h
    rename_i C hC
    simp only [Option.bind_eq_some_iff] at h
    obtain ⟨y, h1, h2⟩ := h
    split at h2
    case h_2 => cases h2
    rename_i us hus
    rw [E_updL] at hC
    exact ⟨ps ++ us, ⟨ps, hps, .inr (.inl ⟨C, y, us, hC, h1, hus, rfl⟩)⟩, by rw [updL_app]; exact h2⟩
  · obtain ⟨us, h1, h2⟩ := evStep_ok h
    rw [E_updL] at h1
    exact ⟨ps ++ us, ⟨ps, hps, .inl ⟨true, us, h1, rfl, rfl⟩⟩, by rw [updL_app]; exact h2⟩
theorem evOp_ok {an : An} {o : Oper} {l : LEnv} {k : Ups → LEnv → Option R} {r : R} (h : evOp T FT an ops o l k = some r) : ∃ us l', GOk P T FT an ops o (E l) us ∧ E l' = upd us (E l) ∧ k us l' = some r := by
  unfold evOp at h
  split at h
  · rename_i hg
    obtain ⟨us, h1, h2⟩ := evRun_ok h
    exact ⟨us, _, .inl ⟨by unfold wantedA; rw [hg], h1⟩, E_updL _ _, h2⟩
  · rename_i j want hg
    split at h
    case h_2 => cases h
    rename_i t d ht hd
    split at h
    · rename_i m b heq
      split at h
      · cases h
      rename_i hm
      rcases cond_some h with ⟨hb, h1⟩ | ⟨hb, h1⟩
      · have hb' : b = want := by cases want <;> cases b <;> simp [eqB] at hb <;> rfl
        subst hb'
        obtain ⟨us, h2, h3⟩ := evRun_ok h1
        rw [setL_same heq] at h2
        refine ⟨us, _, .inl ⟨?_, h2⟩, by rw [E_updL, setL_same heq], h3⟩
        unfold wantedA
        rw [hg]
        simp [ht, heq, hm]
      · have hb' : b = !want := by cases want <;> cases b <;> simp [eqB] at hb <;> rfl
        subst hb'
        refine ⟨_, _, .inr ⟨?_, by rw [hd]⟩, ?_, h1⟩
        · unfold wantedA; rw [hg]; simp [ht, heq, hm]
        · rw [E_setL, setL_same heq]; rfl
    · rename_i heq
      refine ⟨_, _, .inr ⟨?_, by rw [hd]⟩, ?_, h⟩
      · unfold wantedA; rw [hg]; simp [ht, heq]
      · rw [E_setL]; rfl
    · cases h
/-- A region's text run: what each operation does. -/
theorem evOps_run : ∀ (os : List Oper) (ans : List An) (l : LEnv) (fs : List Foot) {k : LEnv → List Foot → Option R} {r : R}, evOps T FT ops ans os l fs k = some r →
    ∃ (uss : List Ups) (l' : LEnv) (gs : List Foot), uss.length = os.length ∧ gs.length = os.length ∧ k l' (fs ++ gs) = some r ∧ E l' = uss.foldl (fun σ u => upd u σ) (E l) ∧
      ∀ (i : Nat) (o : Oper), os[i]? = some o → GOk P T FT (ans.getD i {}) ops o ((uss.take i).foldl (fun σ u => upd u σ) (E l)) (uss.getD i []) ∧ gs.getD i ([], []) = (reads (ans.getD i {}) ops o ((uss.take i).foldl (fun σ u => upd u σ) (E l)), (uss.getD i []).map (·.1))
  | [], ans, l, fs, k, r, h => ⟨[], l, [], rfl, rfl, by rw [List.append_nil]; exact h, rfl, fun i o hi => by simp at hi⟩
  | o :: os, ans, l, fs, k, r, h => by
    obtain ⟨us, l1, h1, h2, h3⟩ := evOp_ok h
    rw [forceL_eq] at h3
    obtain ⟨uss, l', gs, h4, h5, h6, h7, h8⟩ := evOps_run os ans.tail l1 _ h3
    refine ⟨us :: uss, l', (reads (ans.headD {}) ops o (E l), us.map (·.1)) :: gs, by simp [h4], by simp [h5], by simpa using h6, by rw [h7, h2]; rfl, fun i o' hi => ?_⟩
    cases i with
    | zero =>
      simp at hi; subst hi
      have : ans.getD 0 {} = ans.headD {} := by cases ans <;> rfl
      rw [this]
      exact ⟨h1, rfl⟩
    | succ i =>
      have := h8 i o' (by simpa using hi)
      rw [h2] at this
      have ht : ans.tail.getD i {} = ans.getD (i + 1) {} := by cases ans <;> rfl
      rw [ht] at this
      exact this
theorem envL_take (uss : List Ups) (σ : Env) : ∀ k, k ≤ uss.length → envL (fun i => uss.getD i []) (List.range k) σ = (uss.take k).foldl (fun σ u => upd u σ) σ
  | 0, _ => rfl
  | k + 1, h => by
    have ih := envL_take uss σ k (by omega)
    unfold envL at ih ⊢
    rw [List.range_succ, List.foldl_append, ih]
    have hk : uss[k]? = some uss[k] := List.getElem?_eq_getElem (by omega)
    rw [List.take_add_one, hk, List.foldl_append]
    simp [hk]
/-- A world that holds what the state's holds. -/
theorem InvOf.ext {σ : Env} {a : Act} {S : St} {w : World} (h : InvOf P c σ a S) (hw : Ext S.w w) : InvOf P c σ a { S with w := w } :=
  h.rebuild (S' := { S with w := w }) (fun _ => False) h.defers h.size (fun t _ => ⟨rfl, rfl⟩) (fun _ h => h.elim) (fun _ h => h.elim) (fun _ h => h) (fun b hb => hw.block b (h.wlt (.inl hb))) rfl (fun b hb => hw.block b (h.wlt (.inr (.inl hb)))) (fun _ _ _ => rfl)
    (fun _ _ b q hb => ⟨hb, hw.block b (h.owned b _ hb).1⟩) (fun b hb => ⟨(h.shared b hb).1, Nat.lt_of_lt_of_le (h.shared b hb).2.1 hw.size, (h.shared b hb).2.2⟩) (fun b hb => (h.borrowed b hb).1) (fun b p hb => ⟨Nat.lt_of_lt_of_le (h.owned b p hb).1 hw.size, (h.owned b p hb).2⟩)
    hw.os hw.tape hw.output hw.size (fun b hb _ => hw.block b (Nat.lt_of_lt_of_le hb h.grown))
def dstOut (ks : List Nat) (o : Oper) : Bool := match o.dst with | some d => !ks.contains d | none => true
def allWithin (N : Nat) (ks : List Nat) (l : List Oper) : Bool := l.all fun o => within N o && dstOut ks o
noncomputable def evRegion {P : Program} {R : Type} (T : Tab) (FT : List (TgE P)) (draw : Bool) (ops : Array Oper) (fz : List (Nat × List Nat)) (ans : List An) (l : LEnv) (k : LEnv → Option R) : Option R :=
  match preU fz (E l) with
  | some ps => match draw with
    | false => evOps T FT ops ans ops.toList (updL ps l) [] fun l' _ => k l'
    | true => evOps T FT ops ans ops.toList (updL ps l) [] fun l' fs => match indep (ancs ops.toList) fs with
      | true => k l'
      | false => none
  | none => none
theorem evRegion_ok (hm : P.follows .mixedOrders = true) (hT : TabOK P T) {id : Nat} {draw : Bool} {fz : List (Nat × List Nat)} {ans : List An} {l : LEnv} {k : LEnv → Option R} {r : R} {Q : Exit → Act → World → Prop} {a : Act} {w : World} {ks : List Nat} (hks : ∀ t, t ∉ ks → c.K t = none) (hN : allWithin c.N ks ops.toList = true) (hac : draw = true → acyc ops.toList = true)
    (h : evRegion T FT draw ops fz ans l k = some r) (hinv : InvK P c (E l) a w) (hk : ∀ l' a' w', k l' = some r → InvK P c (E l') a' w' → Q .normal a' w') : (Code.region id ops draw).wp P Q a w := by
  unfold evRegion at h
  split at h
  case h_2 => cases h
  rename_i ps hps
  have hkp : ∀ o ∈ ops, within c.N o = true ∧ kept c o := fun o ho => by
    have := List.all_eq_true.1 hN o (by simpa using ho)
    simp only [Bool.and_eq_true] at this
    refine ⟨this.1, fun d hd => hks d ?_⟩
    have h2 := this.2
    unfold dstOut at h2
    rw [hd] at h2
    simpa using h2
  have hinv : InvK P c _ a w := ⟨pre_sound hinv.1 hps, hinv.2⟩
  rw [← E_updL] at hinv
  generalize updL ps l = l at h hinv
  cases draw with
  | false =>
    simp only at h
    obtain ⟨uss, l', gs, h1, _, h2, h3, h4⟩ := evOps_run _ _ _ _ h
    refine wp_region ?_
    have key : ∀ (m k : Nat) (a : Act) (w : World), k + m = ops.size → InvK P c ((uss.take k).foldl (fun σ u => upd u σ) (E l)) a w → wpOps P ops Q (List.range' k m) a w := by
      intro m
      induction m with
      | zero =>
        intro k a w hk' hi
        have : uss.take k = uss := List.take_of_length_le (by rw [h1, Array.length_toList]; omega)
        rw [this] at hi
        exact hk l' a w h2 (by rw [h3]; exact hi)
      | succ m ih =>
        intro k a w hk hi
        rw [List.range'_succ, wpOps_cons]
        have hlt : k < ops.size := by omega
        have ho : ops[k]? = some ops[k] := Array.getElem?_eq_getElem hlt
        have hok := (h4 k ops[k] (by rw [Array.getElem?_toList]; exact ho)).1
        have hw := hkp ops[k] (by simp)
        refine hok.wpOp ho hi hT hw.1 hw.2 fun a' w' hi' => ih (k + 1) a' w' (by omega) ?_
        have hkl : k < uss.length := by rw [h1, Array.length_toList]; omega
        have hks : uss[k]? = some uss[k] := List.getElem?_eq_getElem hkl
        rw [List.take_add_one, hks, List.foldl_append]
        have hgd : uss.getD k [] = uss[k] := by rw [List.getD_eq_getElem?_getD, hks]; rfl
        rw [hgd] at hi'
        exact hi'
    have := key ops.size 0 a w (by omega) hinv
    rw [List.range_eq_range']
    exact this
  | true =>
    simp only at h
    obtain ⟨uss, l', gs, h1, h2, h5, h3, h4⟩ := evOps_run _ _ _ _ h
    rw [List.nil_append] at h5
    split at h5
    case h_2 => cases h5
    rename_i hind
    have hlen : uss.length = ops.size := by rw [h1, Array.length_toList]
    refine wp_region_any hm ?_
    have Tx : Text P T FT (fun i => ans.getD i {}) c.N (kept c) ops (E l) (fun i => uss.getD i []) (fun i => (gs.getD i ([], [])).1) := by
      refine ⟨fun k o ho => ?_, fun k o ho e he hb => ?_, fun i k hik hk ⟨t, ht⟩ => ?_⟩
      · have hlt : k < ops.size := (Array.getElem?_eq_some_iff.1 ho).1
        obtain ⟨h5, h6⟩ := h4 k o (by rw [Array.getElem?_toList]; exact ho)
        rw [envL_take uss _ k (by omega)]
        exact ⟨h5, hkp o (Array.mem_of_getElem? ho), by rw [h6]⟩
      · have := List.all_eq_true.1 (hac rfl) (o, k) (by
          rw [List.mem_zipIdx_iff_getElem?]
          simpa using ho)
        simp only at this
        have := Array.all_eq_true_iff_forall_mem.1 this e he
        simpa [hb] using this
      · have hgk : gs[k]? = some gs[k] := List.getElem?_eq_getElem (by rw [h2, Array.length_toList]; exact hk)
        have hgi : gs[i]? = some gs[i] := List.getElem?_eq_getElem (by rw [h2, Array.length_toList]; omega)
        have hyk := List.all_eq_true.1 hind (gs[k], k) (List.mem_zipIdx_iff_getElem?.2 hgk)
        simp only at hyk
        have hyi := List.all_eq_true.1 hyk (gs[i], i) (List.mem_zipIdx_iff_getElem?.2 (by rw [List.getElem?_take, if_pos hik]; exact hgi))
        simp only at hyi
        have hok : ops[k]? = some ops[k] := Array.getElem?_eq_getElem hk
        have hoi : ops[i]? = some ops[i] := Array.getElem?_eq_getElem (by omega)
        have hek := (h4 k _ (by rw [Array.getElem?_toList]; exact hok)).2
        have hei := (h4 i _ (by rw [Array.getElem?_toList]; exact hoi)).2
        have hgdk : gs.getD k ([], []) = gs[k] := by rw [List.getD_eq_getElem?_getD, hgk]; rfl
        have hgdi : gs.getD i ([], []) = gs[i] := by rw [List.getD_eq_getElem?_getD, hgi]; rfl
        have hwk : wr (fun i => uss.getD i []) k = gs[k].2 := by rw [← hgdk, hek]; rfl
        have hwi : wr (fun i => uss.getD i []) i = gs[i].2 := by rw [← hgdi, hei]; rfl
        rw [hgdk, hgdi, hwk, hwi] at ht
        have hmeet : meets gs[i] gs[k] = true := by
          unfold meets
          rcases ht with ⟨h5, h6⟩ | ⟨h5, h6⟩ | ⟨h5, h6⟩
          · have : gs[i].1.any (gs[k].2.contains ·) = true := List.any_eq_true.2 ⟨t, h5, by simpa using h6⟩
            simp [-List.any_eq_true, -List.contains_eq_mem, this]
          · have : gs[i].2.any (gs[k].1.contains ·) = true := List.any_eq_true.2 ⟨t, h5, by simpa using h6⟩
            simp [-List.any_eq_true, -List.contains_eq_mem, this]
          · have : gs[i].2.any (gs[k].2.contains ·) = true := List.any_eq_true.2 ⟨t, h5, by simpa using h6⟩
            simp [-List.any_eq_true, -List.contains_eq_mem, this]
        rw [hmeet] at hyi
        simpa using hyi
    obtain ⟨⟨S, hS, hi⟩, hik⟩ := hinv
    have hrep : ∀ (k : Nat) (d : Bool), k < ops.size → (Array.replicate ops.size false).getD k d = false := fun k d hk => by simp [hk]
    have hself : ((List.range ops.size).filter fun k => !(Array.replicate ops.size false).getD k true) = List.range ops.size := by
      rw [List.filter_eq_self]
      intro k hk
      rw [List.mem_range] at hk
      rw [hrep k true hk]; rfl
    refine order_any hT Tx (fun a' w' hfin => hk l' a' w' h5 ?_) ops.size _ a _ (by simp) (by rw [hself, List.length_range]) (fun k o ho hl => ?_) ?_
    · rw [h3]
      rw [envL_take uss _ ops.size (by omega), List.take_of_length_le (by omega)] at hfin
      exact hfin
    · rw [hrep k false (Array.getElem?_eq_some_iff.1 ho).1] at hl
      cases hl
    · have hch : chosen ops.size (Array.replicate ops.size false) = [] := by
        unfold chosen
        rw [List.filter_eq_nil_iff]
        intro k hk
        rw [List.mem_range] at hk
        rw [hrep k false hk]; simp
      rw [hch]
      exact ⟨⟨_, rfl, (hi.ext (by rw [hS]; exact ⟨rfl, rfl, rfl, Nat.le_refl _, fun _ _ => rfl⟩))⟩, hik⟩
end
end Go.X
