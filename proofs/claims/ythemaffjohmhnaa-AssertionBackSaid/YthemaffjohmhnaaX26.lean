/- One operation of a region, guard, freezing and call and all: what it may do to an environment, and on which slots that depends. -/
import Derived.Test.YthemaffjohmhnaaX25
set_option linter.unusedSimpArgs false
set_option linter.unusedVariables false
namespace Go.X
open Go Go.RowKit
/- FREEZING AHEAD -/
/-- A path that stays within bounds whatever is stored. -/
def okS : List Nat → Ty → Bool
  | [], _ => true
  | i :: π, .pair a b => match i with
    | 0 => okS π a
    | 1 => okS π b
    | _ => false
  | i :: π, .arr n t => decide (i < n) && okS π t
  | i :: π, .ptr t => match i with
    | 0 => okS π t
    | _ => false
  | _, _ => false
theorem okS_ok {S : St} : ∀ {π : List Nat} {t : Ty} {p : Place}, okS π t = true → okP S π t p
  | [], _, _, _ => trivial
  | i :: π, .pair a b, p, h => by
    match i with
    | 0 => exact okS_ok (π := π) (t := a) h
    | 1 => exact okS_ok (π := π) (t := b) h
    | i + 2 => simp [okS] at h
  | i :: π, .arr n t, p, h => by
    have h' : decide (i < n) = true ∧ okS π t = true := by cases i <;> (try rename_i j; cases j) <;> (simp only [okS, Bool.and_eq_true] at h; exact h)
    rw [okP_arr]
    exact ⟨of_decide_eq_true h'.1, okS_ok h'.2⟩
  | i :: π, .ptr t, p, h => by
    match i with
    | 0 => exact okS_ok (π := π) (t := t) h
    | i + 1 => simp [okS] at h
  | i :: π, .slice t, _, h => by cases i <;> (try rename_i j; cases j) <;> simp [okS] at h
  | _ :: _, .int _, _, h => by simp [okS] at h
  | _ :: _, .bool, _, h => by simp [okS] at h
  | _ :: _, .str, _, h => by simp [okS] at h
  | _ :: _, .unit, _, h => by simp [okS] at h
  | _ :: _, .fn1 _ _, _, h => by simp [okS] at h
  | _ :: _, .fn2 _ _ _, _, h => by simp [okS] at h
  | _ :: _, .alt _ _ _, _, h => by simp [okS] at h
  | _ :: _, .nilI, _, h => by simp [okS] at h
def frz1 (e : Ent) (π : List Nat) : Option Ent :=
  match e with
  | .v t m x => match modeP π t m, getP π t x, setM π t m .sh with
    | some k, some y, some m' => if okS π t && k.nobw && live y.t k then some (.v t m' x) else none
    | _, _, _ => none
  | _ => none
def preU : List (Nat × List Nat) → Env → Option Ups
  | [], _ => some []
  | (r, π) :: fs, σ => match frz1 (σ r).e π with
    | some e => (preU fs (set1 σ r e 2)).map fun us => (r, e, 2) :: us
    | none => none
/- CALLS -/
/-- A call of a function value. -/
def dyn1 (d : Nat) (a r : Ty) (g : a.den → Option r.den) (o : Opd) : Option CallO :=
  match argBw a o with
  | some z => if r.flat then some ⟨r.den, g z.x, fun y => some [(d, .v r .sh y, 0)]⟩ else none
  | none => none
def callO {P : Program} (FT : List (TgE P)) (o : Oper) (σ : Env) : Option CallO :=
  match o.op, o.dst with
  | .call { callee := .value (.func f), args := xs, argTypes := _ }, some d => callU FT d f (xs.toList.map fun o => (look σ o, cloOf σ o))
  | .call { callee := .value (.tmp t), args := ⟨[x]⟩, argTypes := _ }, some d => match (σ t).e with
    | .v (.fn1 a r) .bw g => dyn1 d a r g (look σ x)
    | .v (.fn1 a r) .sh g => dyn1 d a r g (look σ x)
    | _ => none
  | .call { callee := .invoke r nm, args := xs, argTypes := _ }, some d => callM FT d nm ((r :: xs.toList).map fun o => (look σ o, cloOf σ o))
  | .nilCheck (.tmp t), some d => match (σ t).e with
    | .mth nm e => match findM FT nm with
      | some E => if E.t = e.t then some ⟨Unit, bif isNilI e.t e.x then none else some (), fun _ => some [(d, .dead, 0)]⟩ else none
      | none => none
    | _ => none
  | _, _ => none
def guardTmp (ops : Array Oper) (o : Oper) : Option Nat := o.guard.bind fun g => (ops[g.1]?).bind (·.dst)
/-- Is the operation carried out? -/
def wantedA (ops : Array Oper) (o : Oper) (σ : Env) : Option Bool :=
  match o.guard with
  | none => some true
  | some (_, want) => match guardTmp ops o with
    | some t => match (σ t).e with
      | .v .bool m b => if m = .dead then none else some (b == want)
      | .skip => some false
      | _ => none
    | none => none
def Ok (P : Program) (T : Tab) (FT : List (TgE P)) (an : An) (o : Oper) (σ : Env) (us : Ups) : Prop :=
  ∃ ps, preU an.frz σ = some ps ∧
    ((∃ ob us1, step T an.fl o (look (upd ps σ)) = some (ob, us1) ∧ ob = true ∧ us = ps ++ us1) ∨
     (∃ C y us1, callO FT o (upd ps σ) = some C ∧ C.m = some y ∧ C.us y = some us1 ∧ us = ps ++ us1) ∨
     (∃ cc x y m bv ob us1, o.op = .pick cc x y ∧ (look (upd ps σ) cc).val .bool = some (m, bv) ∧ m ≠ .dead ∧ step T an.fl { o with op := .move (bif bv then x else y) } (look (upd ps σ)) = some (ob, us1) ∧ ob = true ∧ us = ps ++ us1))
def GOk (P : Program) (T : Tab) (FT : List (TgE P)) (an : An) (ops : Array Oper) (o : Oper) (σ : Env) (us : Ups) : Prop :=
  (wantedA ops o σ = some true ∧ Ok P T FT an o σ us) ∨ (wantedA ops o σ = some false ∧ us = match o.dst with | some d => [(d, .skip, 0)] | none => [])
def rootL : Ent → List Nat
  | .ref r _ _ => [r]
  | .view r _ _ => [r]
  | .clo _ caps => capRoots caps
  | _ => []
/-- The slots on which it depends. -/
def reads (an : An) (ops : Array Oper) (o : Oper) (σ : Env) : List Nat :=
  (o.op.operands.toList.flatMap fun x => match x with | .tmp t => t :: rootL (σ t).e | _ => []) ++ ((guardTmp ops o).toList ++ an.frz.map (·.1))
section
variable {P : Program} {c : Ctx} {σ σ' : Env} {a : Act} {w : World} {S : St} {T : Tab} {FT : List (TgE P)}
/- SOUNDNESS -/
theorem frz1_sound (h : Inv P c σ a w) {r : Nat} {π : List Nat} {e : Ent} (hx : frz1 (σ r).e π = some e) : Inv P c (set1 σ r e 2) a w := by
  obtain ⟨S, rfl, h⟩ := h
  unfold frz1 at hx
  split at hx
  case h_2 => cases hx
  rename_i t m x hr
  split at hx
  case h_2 => cases hx
  rename_i k y m' hm hg hs
  split at hx
  case isFalse => cases hx
  rename_i hc
  simp only [Bool.and_eq_true] at hc
  cases hx
  obtain ⟨S', h1, h2⟩ := h.freeze (y := y.x) hr hm hg (okS_ok hc.1.1) hc.1.2 hc.2 hs
  exact ⟨S', h2, h1⟩
theorem pre_sound : ∀ {fs : List (Nat × List Nat)} {σ : Env} {ps : Ups}, Inv P c σ a w → preU fs σ = some ps → Inv P c (upd ps σ) a w
  | [], σ, ps, h, hx => by cases hx; exact h
  | (r, π) :: fs, σ, ps, h, hx => by
    simp only [preU] at hx
    split at hx
    case h_2 => cases hx
    rename_i e he
    simp only [Option.map_eq_some_iff] at hx
    obtain ⟨us, h1, rfl⟩ := hx
    exact pre_sound (σ := set1 σ r e 2) (frz1_sound h he) h1
theorem dyn_wp (h : InvOf P c σ a S) {o : Oper} {t d : Nat} {x : Operand} {ts : Array TypeId} (ho : o.op = .call { callee := .value (.tmp t), args := ⟨[x]⟩, argTypes := ts }) (hdst : o.dst = some d) (hd : d < c.N) {A R : Ty} {m : Md} {g : A.den → Option R.den}
    (hm : m = .sh ∨ m = .bw) (ht : (σ t).e = .v (.fn1 A R) m g) {C : CallO} (hx : dyn1 d A R g (look σ x) = some C) {y : C.R} (hy : C.m = some y) {us : Ups} (hus : C.us y = some us) {Q : Exit → Act → World → Prop} : o.wp P a S.w (Inv P c (upd us σ)) Q := by
  unfold dyn1 at hx
  split at hx
  case h_2 => cases hx
  rename_i z hz
  split at hx
  case isFalse => cases hx
  rename_i hfl
  cases hx
  simp only at hy
  cases hus
  obtain ⟨hz1, hz2⟩ := bw_sound h (gs := []) hz (fun r _ => rfl) (0, [])
  have hfn : ∃ f caps, vcells (.fn1 A R) (tmv a t) 0 = some (.func (.func f) #[] caps) ∧ Enters P f ∧ ∀ (S' : St) (x : A.den) (y : R.den), Fut m S S' → S'.WF → g x = some y → ∀ v, Rel P A S' .bw (0, []) x (vcells A v) → AggOK A v →
        Calls P f (#[v] ++ caps) S'.w fun e w'' => ∃ u, e = .returned u ∧ Rel P R { S' with w := w'' } .sh (0, []) y (vcells R u) ∧ AggOK R u ∧ Ext S'.w w'' := by
    have := (h.slot ht).1
    rcases hm with rfl | rfl <;> exact this
  obtain ⟨f, caps, h1, h2, h3⟩ := hfn
  have hv : a.eval (.tmp t) = .func (.func f) #[] caps := by
    rw [tmv_eval]
    simpa [vcells, Ty.agg] using h1
  have hcall := h3 (S.callee []) z.x y ((calleeFut2 (S := S)).sh m) h.calleeWF hy (a.eval x) hz2.1 hz2.2
  have hrun : (execOp a.eval o).run P S.w = .ok (.enter f (#[a.eval x] ++ caps)) S.w := by
    simp [execOp, ho, resolve, hv, Deferred.ofValue, invoke, h2 _ S.w]
  unfold Oper.wp
  rw [hrun, Oper.upon_enter]
  refine Calls.mono hcall fun e w' hR => ?_
  obtain ⟨u, rfl, hr, hag, hext⟩ := hR
  simp only
  rw [hdst]
  refine ⟨{ S with w := w' }, rfl, ?_⟩
  refine InvOf.put (S' := { S with w := w' }) h hext rfl rfl hd (fun _ _ _ => rfl) (fun _ => .inl rfl) (.v (set1_e σ d _ 0) ?_)
  rw [tmv_put_same (by rw [h.size]; exact hd)]
  exact ⟨Rel.flat hfl hr, hag⟩
theorem callG_wp (h : InvOf P c σ a S) {o : Oper} {d : Nat} {xs : List Operand} (hdst : o.dst = some d) (hd : d < c.N) {sg : Sig} {den : Arr (ptys sg.ps) (Option (Ret sg.res))}
    (hgo : ∀ (ys : Vals (ptys sg.ps)) (y : Ret sg.res), app _ den ys = some y → ∀ (S0 : St), S0.WF → S0.w = S.w → (xs.map a.eval).length = (ptms sg.ps ys).length →
      (∀ (i : Nat) (e : TM), (ptms sg.ps ys)[i]? = some e → ∃ v, (xs.map a.eval)[i]? = some v ∧ SR P e.t S0 e.m (i, []) e.x v) →
      ∃ f us, (execOp a.eval o).run P S.w = .ok (.enter f us) S.w ∧ Calls P f us S.w fun e w' => ∃ v S', e = .returned v ∧ S'.w = w' ∧ Frm S0 S' ∧ ResOK P S' (sg.resTM y) v ∧
        ∀ (k : Nat) (e : TM), (k, e) ∈ sg.outTM y → ∃ u, (xs.map a.eval)[k]? = some u ∧ SR P e.t S' e.m (k + 1, []) e.x u)
    {C : CallO} (hx : callG FT d sg den (xs.map fun o => (look σ o, cloOf σ o)) = some C) {y : C.R} (hy : C.m = some y) {us : Ups} (hus : C.us y = some us) {Q : Exit → Act → World → Prop} : o.wp P a S.w (Inv P c (upd us σ)) Q := by
  unfold callG at hx
  split at hx
  case h_2 => cases hx
  rename_i ys gs lr hargs
  split at hx
  case isFalse => cases hx
  rename_i hc
  simp only [Bool.and_eq_true, Option.isNone_iff_eq_none, List.all_eq_true, nobwS] at hc
  obtain ⟨⟨⟨hk, hdn⟩, hlr⟩, hnb1, hnb2⟩ := hc
  cases hx
  simp only [callE] at hy hus
  simp only [Option.map_eq_some_iff] at hus
  obtain ⟨us0, hg, rfl⟩ := hus
  obtain ⟨hlen, hsr, hgv⟩ := argsV_sound h hk hargs hlr (fun e he => he) (fun k g hg _ => hg)
  obtain ⟨f, us, hrun, hcall⟩ := hgo ys y hy (S.callee gs) h.calleeWF rfl (by simpa using hlen) (fun i e hi => by
    obtain ⟨o', h1, h2⟩ := hsr i e hi
    exact ⟨a.eval o', by rw [List.getElem?_map, h1]; rfl, by rw [Nat.zero_add] at h2; exact h2⟩)
  unfold Oper.wp
  rw [hrun, Oper.upon_enter]
  refine Calls.mono hcall fun e w' hR => ?_
  obtain ⟨v, S', rfl, rfl, hfr, hres, hout⟩ := hR
  simp only
  rw [hdst]
  have hnbr : ∀ e ∈ sg.resTM y, e.m.nobw = true := by
    have : ∀ (l : List (Ty × Md)) (x : Vals (tys l)), (∀ q ∈ l, q.2.nobw = true) → ∀ e ∈ tms l x, e.m.nobw = true := by
      intro l
      induction l with
      | nil => intro x _ e he; cases he
      | cons q l ih =>
        intro x hq e he
        rcases List.mem_cons.1 he with h1 | h1
        · rw [h1]; exact hq q (by simp)
        · exact ih _ (fun q hq' => hq q (List.mem_cons_of_mem _ hq')) e h1
    exact this _ _ hnb1
  have hnbo : ∀ (k : Nat) (e : TM), (k, e) ∈ sg.outTM y → e.m.nobw = true := by
    have : ∀ (l : List (Ty × PM)) (i : Nat) (x : Vals (tys (outsOf l))), (∀ q ∈ outsOf l, q.2.nobw = true) → ∀ e ∈ outTM i l x, e.2.m.nobw = true := by
      intro l
      induction l with
      | nil => intro i x _ e he; cases he
      | cons q l ih =>
        obtain ⟨t, pm⟩ := q
        intro i x hq e he
        cases pm with
        | io m =>
          rcases List.mem_cons.1 he with h1 | h1
          · rw [h1]; exact hq (t, m) (by simp [outsOf])
          · exact ih _ _ (fun q hq' => hq q (List.mem_cons_of_mem _ hq')) e h1
        | bw => exact ih _ _ hq e he
        | sh => exact ih _ _ hq e he
        | give m => exact ih _ _ hq e he
    exact fun k e he => this _ _ _ hnb2 (k, e) he
  refine ⟨S.after S' gs (sg.resTM y).length d, rfl, ?_⟩
  exact h.called hk hdn hd hfr hres hnbr (vs := xs.map a.eval) (fun k e he => ⟨hnbo k e he, hout k e he⟩) (fun k g hm => by
    obtain ⟨j, o', h1, h2, h3⟩ := hgv k g hm
    rw [Nat.zero_add] at h1
    subst h1
    exact ⟨a.eval o', by rw [List.getElem?_map, h2]; rfl, h3⟩) hg
theorem callU_wp (h : InvOf P c σ a S) {o : Oper} {d f : Nat} {xs : Array Operand} {ts : Array TypeId} (ho : o.op = .call { callee := .value (.func f), args := xs, argTypes := ts }) (hdst : o.dst = some d) (hd : d < c.N)
    {C : CallO} (hx : callU FT d f (xs.toList.map fun o => (look σ o, cloOf σ o)) = some C) {y : C.R} (hy : C.m = some y) {us : Ups} (hus : C.us y = some us) {Q : Exit → Act → World → Prop} : o.wp P a S.w (Inv P c (upd us σ)) Q := by
  unfold callU at hx
  split at hx
  case h_2 => cases hx
  rename_i E hE
  have hf := findF_f hE
  subst hf
  refine callG_wp h hdst hd (fun ys y hy S0 hwf hw hlen hrel => ⟨E.f, (xs.toList.map a.eval).toArray, ?_, ?_⟩) hx hy hus
  · have hv : a.eval (.func E.f) = .func (.func E.f) #[] #[] := rfl
    simp [execOp, ho, resolve, hv, Deferred.ofValue, invoke, E.ok.1 _ S.w]
    exact Array.ext' (by simp)
  · rw [← hw]
    exact E.ok.2 ys y hy S0 hwf _ hlen hrel
theorem callM_wp (h : InvOf P c σ a S) {o : Oper} {d : Nat} {nm : String} {r : Operand} {xs : Array Operand} {ts : Array TypeId} (ho : o.op = .call { callee := .invoke r nm, args := xs, argTypes := ts }) (hdst : o.dst = some d) (hd : d < c.N)
    {C : CallO} (hx : callM FT d nm ((r :: xs.toList).map fun o => (look σ o, cloOf σ o)) = some C) {y : C.R} (hy : C.m = some y) {us : Ups} (hus : C.us y = some us) {Q : Exit → Act → World → Prop} : o.wp P a S.w (Inv P c (upd us σ)) Q := by
  unfold callM at hx
  split at hx
  case h_2 => cases hx
  rename_i E hE
  have hf := findM_nm hE
  subst hf
  refine callG_wp h hdst hd (fun ys y hy S0 hwf hw hlen hrel => ?_) hx hy hus
  obtain ⟨f, us, h1, h2⟩ := E.ok ys y hy S0 hwf _ hlen hrel
  refine ⟨f, us, ?_, by rw [← hw]; exact h2⟩
  have h3 := h1 S.w
  have h4 : ((r :: xs.toList).map a.eval).toArray = #[a.eval r] ++ xs.map a.eval := Array.ext' (by simp)
  rw [h4] at h3
  simp only [execOp, ho, resolve]
  exact h3
theorem ahead_at {nm : String} {S : St} : ∀ {t : Ty} {x : t.den} {m : Md} {p : Place} {u : Value}, AheadI P nm t → m ≠ .dead → SR P t S m p x u → isNilI t x = false →
    ∃ tid v, u = .iface tid v ∧ ∀ w, (nilAhead (P.types.size + Made.depth) tid v nm).run P w = .ok (some false) w := by
  intro t
  induction t with
  | alt tid A B iha ihb =>
    intro x m p u ha hm h hn
    cases x with
    | inl y =>
      have h1 := h.1
      rw [Rel.alt_inl hm] at h1
      obtain ⟨v, h2, _⟩ := h1
      exact ⟨tid, v, by simpa [vcells, Ty.agg] using h2, ha.1 v⟩
    | inr z =>
      have h1 := h.1
      rw [Rel.alt_inr hm] at h1
      have hag : B.agg = false := by
        have := ha.2
        cases B <;> first | rfl | exact this.elim
      refine ihb (m := m) (p := px p 1) ha.2 hm ⟨h1.2.mono (q := true) (.inl rfl) ⟨fun _ h => h, fun _ _ => rfl, fun _ _ h => .inr h, fun _ _ _ => rfl, fun _ => rfl, fun _ _ h => ⟨h, rfl⟩⟩ fun i _ => ?_, fun h => by rw [hag] at h; cases h⟩ hn
      unfold vcells
      rw [hag]
      rfl
  | nilI => intro x m p u ha hm h hn; simp [isNilI] at hn
  | _ => intro x m p u ha; exact ha.elim
theorem call_wp (h : InvOf P c σ a S) {o : Oper} (hN : within c.N o = true) {C : CallO} (hx : callO FT o σ = some C) {y : C.R} (hy : C.m = some y) {us : Ups} (hus : C.us y = some us) {Q : Exit → Act → World → Prop} : o.wp P a S.w (Inv P c (upd us σ)) Q := by
  unfold callO at hx
  split at hx
  · rename_i f xs ts d ho hdst
    exact callU_wp h ho hdst (by unfold within at hN; rw [hdst] at hN; simpa using hN) hx hy hus
  · rename_i t x ts d ho hdst
    have hd : d < c.N := by unfold within at hN; rw [hdst] at hN; simpa using hN
    split at hx
    · rename_i A R g he
      exact dyn_wp h ho hdst hd (.inr rfl) he hx hy hus
    · rename_i A R g he
      exact dyn_wp h ho hdst hd (.inl rfl) he hx hy hus
    · cases hx
  · rename_i r nm xs ts d ho hdst
    exact callM_wp h ho hdst (by unfold within at hN; rw [hdst] at hN; simpa using hN) hx hy hus
  · rename_i t d ho hdst
    have hd : d < c.N := by unfold within at hN; rw [hdst] at hN; simpa using hN
    split at hx
    case h_2 => cases hx
    rename_i nm e he
    split at hx
    case h_2 => cases hx
    rename_i E hE
    split at hx
    case isFalse => cases hx
    rename_i het
    cases hx
    cases hus
    simp only at hy
    have hnil : isNilI e.t e.x = false := by
      cases hn : isNilI e.t e.x with
      | true => rw [hn] at hy; cases hy
      | false => rfl
    have hs := h.slots t
    unfold SlotOK at hs
    rw [he] at hs
    obtain ⟨u, h1, h2⟩ := hs
    have hah := E.ahead
    rw [findM_nm hE, het] at hah
    obtain ⟨tid, v, h3, h4⟩ := ahead_at hah (m := .bw) (by simp) h2 hnil
    subst h3
    have hrun : (execOp a.eval o).run P S.w = .ok (.value (tmv a t)) S.w := by
      simp only [execOp, ho, tmv_eval]
      rw [h1]
      simp [h4 S.w]
    exact Does.wp ⟨S.w, .inl ⟨_, hrun, S, rfl, by rw [hdst]; exact h.putE hd trivial⟩⟩
  · cases hx
theorem Ok.wp {an : An} {o : Oper} {us : Ups} (h : Inv P c σ a w) (hT : TabOK P T) (hN : within c.N o = true) (hok : Ok P T FT an o σ us) {Q : Exit → Act → World → Prop} : o.wp P a w (Inv P c (upd us σ)) Q := by
  obtain ⟨ps, hps, hok⟩ := hok
  obtain ⟨S, rfl, hf⟩ := pre_sound h hps
  rcases hok with ⟨ob, us1, h1, h2, rfl⟩ | ⟨C, y, us1, h1, h2, h3, rfl⟩ | ⟨cc, x, y, m, bv, ob, us1, h1, h2, h3, h4, h5, rfl⟩
  · rw [upd_app]
    exact (step_does hf hT hN h1 h2).wp
  · rw [upd_app]
    exact call_wp hf hN h1 h2 h3
  · rw [upd_app]
    obtain ⟨p, hb⟩ := hf.val h2
    have hcc : a.eval cc = .bool bv := hb.bool_inv h3
    obtain ⟨w', hd⟩ := step_does (o := { o with op := .move (bif bv then x else y) }) hf hT hN h4 h5
    refine Does.wp ⟨w', ?_⟩
    have hrun : (execOp a.eval { o with op := .move (bif bv then x else y) }).run P S.w = (execOp a.eval o).run P S.w := by
      simp only [execOp, h1, hcc, Sem.run_bind, Sem.run_pure, asBool]
      cases bv <;> rfl
    rw [← hrun]
    exact hd
theorem wanted_ok {ops : Array Oper} {o : Oper} {b : Bool} (h : Inv P c σ a w) (hw : wantedA ops o σ = some b) : Region.wanted o (yielded ops a.tmps) = b := by
  obtain ⟨S, _, h⟩ := h
  unfold wantedA at hw
  unfold Region.wanted
  cases hg : o.guard with
  | none => rw [hg] at hw; simpa using hw
  | some g =>
    obtain ⟨j, want⟩ := g
    rw [hg] at hw
    simp only at hw ⊢
    have hgt : guardTmp ops o = (ops[j]?).bind (·.dst) := by unfold guardTmp; rw [hg]; rfl
    rw [hgt] at hw
    unfold yielded
    cases ht : (ops[j]?).bind (·.dst) with
    | none => rw [ht] at hw; cases hw
    | some t =>
      rw [ht] at hw
      simp only at hw
      split at hw
      · rename_i m v heq
        split at hw
        · cases hw
        rename_i hm
        cases hw
        have hv := (h.slot heq).bool_inv hm
        have hlt : t < a.tmps.size := by
          rcases Nat.lt_or_ge t a.tmps.size with h' | h'
          · exact h'
          · have : tmv a t = undef := by unfold tmv; rw [Array.getD_eq_getD_getElem?, Array.getElem?_eq_none h']; rfl
            rw [this] at hv; cases hv
        have hq : a.tmps[t]? = some (.bool v) := by
          have : tmv a t = .bool v := hv
          unfold tmv at this
          rw [Array.getD_eq_getD_getElem?, Array.getElem?_eq_getElem hlt] at this
          rw [Array.getElem?_eq_getElem hlt]
          exact congrArg some this
        simp [hq]
      · rename_i heq
        cases hw
        have hv : tmv a t = .tuple #[] := by
          have := h.slots t
          unfold SlotOK at this
          rw [heq] at this
          exact this
        have hq : ∀ u, a.tmps[t]? = some u → u = .tuple #[] := fun u hu => by
          have : tmv a t = u := by unfold tmv; rw [Array.getD_eq_getD_getElem?, hu]; rfl
          rw [← this]; exact hv
        cases hu : a.tmps[t]? with
        | none => simp [hu]
        | some u => simp [hu, hq u hu]
      · cases hw
/-- The invariant, and slots that are never written. -/
def InvK (P : Program) (c : Ctx) (σ : Env) (a : Act) (w : World) : Prop := Inv P c σ a w ∧ ∀ t v, c.K t = some v → tmv a t = v
theorem wp_keep {o : Oper} {K : Act → World → Prop} {Q : Exit → Act → World → Prop} (h : o.wp P a w K Q) : o.wp P a w (fun a' w' => K a' w' ∧ ∀ t, o.dst ≠ some t → tmv a' t = tmv a t) Q := by
  have hput : ∀ (b : Act) (v : Value), b.tmps = a.tmps → ∀ t, o.dst ≠ some t → tmv (b.put o.dst v) t = tmv a t := fun b v hb t ht => by
    cases hd : o.dst with
    | none => show tmv b t = _; unfold tmv; rw [hb]
    | some d =>
      rw [tmv_put_ne (fun e => ht (by rw [hd, e]))]
      unfold tmv
      rw [hb]
  unfold Oper.wp at *
  generalize (execOp a.eval o).run P w = r at *
  cases r with
  | ok n w' =>
    cases n <;> simp only [Oper.upon] at h ⊢ <;>
      first
        | exact ⟨h, hput _ _ rfl⟩
        | exact Calls.mono h (fun e w'' he => by cases e <;> first | exact ⟨he, hput _ _ rfl⟩ | exact he)
        | exact Rows.mono h (fun _ _ he => ⟨he, hput _ _ rfl⟩)
  | halt x w' => cases x <;> simp only [Oper.upon] at h ⊢ <;> exact h
def kept (c : Ctx) (o : Oper) : Prop := ∀ d, o.dst = some d → c.K d = none
/-- An operation, carried out or not. -/
theorem GOk.wpOp {an : An} {ops : Array Oper} {i : Nat} {o : Oper} (ho : ops[i]? = some o) {us : Ups} (h : InvK P c σ a w) (hT : TabOK P T) (hN : within c.N o = true) (hkp : kept c o) (hok : GOk P T FT an ops o σ us) {Q : Exit → Act → World → Prop} {K : Act → World → Prop}
    (hK : ∀ a w, InvK P c (upd us σ) a w → K a w) : wpOp P ops Q i K a w := by
  have hne : ∀ t v, c.K t = some v → o.dst ≠ some t := fun t v ht hd => by rw [hkp t hd] at ht; cases ht
  unfold Go.wpOp
  rw [ho]
  simp only
  obtain ⟨h, hk⟩ := h
  rcases hok with ⟨h1, h2⟩ | ⟨h1, h2⟩
  · rw [wanted_ok h h1]
    exact .inl (Oper.wp_mono (fun a' w' h' => hK a' w' ⟨h'.1, fun t v ht => (h'.2 t (hne t v ht)).trans (hk t v ht)⟩) (wp_keep (h2.wp h hT hN)))
  · rw [wanted_ok h h1]
    refine hK _ _ ⟨?_, ?_⟩
    · obtain ⟨S, hS, h⟩ := h
      subst h2
      cases hd : o.dst with
      | none => exact ⟨S, hS, h⟩
      | some d =>
        have hdN : d < c.N := by unfold within at hN; rw [hd] at hN; simpa using hN
        refine ⟨S, hS, h.put (.refl _) rfl rfl hdN (fun _ _ _ => rfl) (fun _ => .inl rfl) ?_⟩
        unfold SlotOK
        rw [set1_e]
        exact tmv_put_same (by rw [h.size]; exact hdN)
    · intro t v ht
      cases hd : o.dst with
      | none => exact hk t v ht
      | some d => exact (tmv_put_ne (fun e => hne t v ht (by rw [hd, e]))).trans (hk t v ht)
end
end Go.X
