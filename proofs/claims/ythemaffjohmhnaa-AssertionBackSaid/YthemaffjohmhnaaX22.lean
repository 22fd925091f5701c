/- Arguments that are shared, given away, given and taken back; function values. -/
import Derived.Test.YthemaffjohmhnaaX21
set_option linter.unusedSimpArgs false
set_option linter.unusedVariables false
namespace Go.X
open Go Go.RowKit
theorem okP_pre {S : St} : ∀ {π ρ : List Nat} {t : Ty} {p : Place}, okP S (π ++ ρ) t p → okP S π t p
  | [], _, _, _, _ => trivial
  | i :: π, ρ, .pair a b, p, h => by
    match i with
    | 0 => exact okP_pre (π := π) (ρ := ρ) (t := a) h
    | 1 => exact okP_pre (π := π) (ρ := ρ) (t := b) h
    | i + 2 => exact h.elim
  | i :: π, ρ, .arr n t, p, h => by
    rw [List.cons_append, okP_arr] at h
    rw [okP_arr]
    exact ⟨h.1, okP_pre h.2⟩
  | i :: π, ρ, .slice t, p, h => by
    rw [List.cons_append, okP_slice] at h
    rw [okP_slice]
    exact ⟨h.1, okP_pre h.2⟩
  | i :: π, ρ, .ptr t, p, h => by
    match i with
    | 0 => exact okP_pre (π := π) (ρ := ρ) (t := t) h
    | i + 1 => simp [okP] at h
  | _ :: _, _, .int _, _, h => by simp [okP] at h
  | _ :: _, _, .bool, _, h => by simp [okP] at h
  | _ :: _, _, .str, _, h => by simp [okP] at h
  | _ :: _, _, .unit, _, h => by simp [okP] at h
  | _ :: _, _, .fn1 _ _, _, h => by simp [okP] at h
  | _ :: _, _, .fn2 _ _ _, _, h => by simp [okP] at h
  | _ :: _, _, .alt _ _ _, _, h => by simp [okP] at h
  | _ :: _, _, .nilI, _, h => by simp [okP] at h
section
variable {P : Program} {c : Ctx} {σ : Env} {a : Act} {S : St} {gs : List (Nat × Gv)} {FT : List (TgE P)}
/-- What a given place is, before the call. -/
structure GvOK (S : St) (σ : Env) (g : Gv) (v : Value) : Prop where
  root : (σ g.r).e = .v g.t g.m g.x
  ok : okP S g.π g.t (g.r, [])
  md : ∃ k, modeP g.π g.t g.m = some k ∧ (g.io = true → k = g.k)
  val : ∃ y, getP g.π g.t g.x = some ⟨g.u, y⟩
  io : g.io = true → v = S.hv (g.r, g.π) ∧ (∃ w, g.u = .ptr w) ∧ ∃ e k, g.k = .own e k
theorem give_sound (h : InvOf P c σ a S) {t : Ty} {m : Md} {o : Operand} {z : ArgR t} (hx : argGive t m (look σ o) = some z) (hk : okG gs = true) {i : Nat} (hi : ∀ g, z.g = some g → (i, g) ∈ gs) (hj : ∀ g, (i, g) ∈ gs → z.g = some g) :
    SR P t (S.callee gs) m (i, []) z.x (a.eval o) ∧ ∀ g, z.g = some g → GvOK S σ g (a.eval o) := by
  unfold argGive at hx
  cases o with
  | const v =>
    simp only [look] at hx
    split at hx
    · rename_i heq
      cases heq
      unfold argNil at hx
      split at hx
      case h_2 => cases hx
      rename_i u e k
      split at hx
      case isFalse => cases hx
      rename_i hpos
      cases hx
      have hb : byI gs i = none := by
        cases hb : byI gs i with
        | none => rfl
        | some g => exact absurd (hj g (byI_some hb)) (by simp)
      have hh : (S.callee gs).hv (i, []) = .slice none 0 0 := by
        unfold St.callee
        simp only [hb]
      refine ⟨⟨⟨Nat.zero_le _, hpos, ?_, .inl ⟨hh, rfl⟩⟩, fun h => by cases h⟩, fun g hg => by cases hg⟩
      rw [hh]
      simp [vcells, Ty.agg, Act.eval]
    all_goals first | (cases hx; done) | (simp at *; done)
  | func f => simp [look] at hx
  | global g => simp [look] at hx
  | tmp s =>
    simp only [look] at hx
    split at hx
    · rename_i t' k x he
      split at hx
      case isFalse => cases hx
      rename_i hl
      simp only [Option.map_eq_some_iff] at hx
      obtain ⟨y, h1, rfl⟩ := hx
      have := TV.to_some h1
      cases this
      have hm := hi _ rfl
      have hs := h.slot he
      refine ⟨⟨(hs.1.weaken hl).mono (q := true) (.inl rfl) (calleeTr hk hm) fun _ _ => rfl, hs.2⟩, fun g hg => ?_⟩
      cases hg
      exact ⟨he, trivial, ⟨k, rfl, fun h => by cases h⟩, ⟨y, rfl⟩, fun h => by cases h⟩
    · rename_i r π s' he
      have hr : rootOf σ (σ s).e = σ r := by rw [he]; rfl
      rw [hr] at hx
      split at hx
      case h_2 => cases hx
      rename_i tr mr xr hroot
      split at hx
      case isFalse => cases hx
      rename_i hg
      split at hx
      case h_2 => cases hx
      rename_i e k y hm hgp
      split at hx
      case isFalse => cases hx
      rename_i hl
      simp only [Option.map_eq_some_iff] at hx
      obtain ⟨z0, h1, rfl⟩ := hx
      have := TV.to_some h1
      subst this
      have hmem := hi _ rfl
      obtain ⟨_, h2⟩ := (h.ent s).view he
      obtain ⟨h3, h4⟩ := h2 tr mr xr hroot hg.1
      obtain ⟨u, y, l, cs', h5, h6, h7, h8⟩ := Rel.at (h.slot hroot).1 hm h3
      rw [hgp] at h5
      cases h5
      rw [pa_nil0] at h7
      refine ⟨?_, fun g hg => ?_⟩
      · rw [tmv_eval, h4]
        cases t <;> first | (have := hg.2; cases this; done) | skip
        refine ⟨(h7.weaken hl).mono (q := true) (.inl rfl) (calleeTr hk hmem) fun i hi => ?_, fun h => by cases h⟩
        have : i = 0 := by simp only [Ty.size] at hi; omega
        subst this
        rw [h7.2.2.1]
        rfl
      · cases hg
        exact ⟨hroot, h3, ⟨_, hm, fun h => by cases h⟩, ⟨_, hgp⟩, fun h => by cases h⟩
    · cases hx
theorem io_sound (h : InvOf P c σ a S) {u : Ty} {m : Md} {o : Operand} {z : ArgR (.ptr u)} (hx : argIo u m (look σ o) = some z) (hk : okG gs = true) {i : Nat} (hi : ∀ g, z.g = some g → (i, g) ∈ gs) :
    SR P (.ptr u) (S.callee gs) m (i, []) z.x (a.eval o) ∧ ∀ g, z.g = some g → GvOK S σ g (a.eval o) := by
  unfold argIo at hx
  split at hx
  case h_2 => cases hx
  rename_i p hp
  split at hx
  case h_2 => cases hx
  rename_i ρ hπ
  have hπ' : p.π = ρ.reverse ++ [0] := by rw [← List.reverse_reverse p.π, hπ]; simp
  split at hx
  case h_2 => cases hx
  rename_i e k y hm hg
  split at hx
  case isFalse => cases hx
  rename_i hc
  obtain ⟨hc1, hc2⟩ := hc
  subst hc1
  simp only [Option.map_eq_some_iff] at hx
  obtain ⟨x, h1, rfl⟩ := hx
  have := TV.to_some h1
  subst this
  have hmem := hi _ rfl
  obtain ⟨hr, _, _, hok, q, off, b, h2, h3, h4⟩ := h.place hp
  have hok' : okP S ρ.reverse p.t (p.r, []) := okP_pre (ρ := [0]) (by rw [← hπ']; exact hok)
  obtain ⟨u', y', l, cs', h5, h6, h7, h8⟩ := Rel.at (h.slot hr).1 hm hok'
  rw [hg] at h5
  cases h5
  rw [pa_nil0] at h7
  have h7' := h7
  obtain ⟨h9, g, cur, e', h10, h11, h12, h13⟩ := h7'
  have hloc := locP_app hg h6 (show locP [0] (.ptr u) = some (some [], 0) from by simp [locP])
  rw [← hπ', h2] at hloc
  have hqo : q = ρ.reverse ∧ off = 0 := by
    obtain ⟨l1, l2⟩ := l
    cases l1 <;> (simp [addL] at hloc; exact ⟨hloc.1, hloc.2⟩)
  rw [hqo.1, h10] at h3
  have hb : g = b := by simpa [hvB] using h3
  have hv : a.eval o = S.hv (p.r, ρ.reverse) := by rw [h4, h10, hqo.2, hb]
  refine ⟨?_, fun g' hg' => ?_⟩
  · refine ⟨h7.mono (q := true) (.inl rfl) (calleeTr hk hmem) fun i hi => ?_, fun h => by cases h⟩
    have : i = 0 := by simp only [Ty.size] at hi; omega
    subst this
    rw [h9, hv]
    rfl
  · cases hg'
    exact ⟨hr, hok', ⟨_, hm, fun _ => rfl⟩, ⟨_, hg⟩, fun _ => ⟨hv, ⟨u, rfl⟩, e, k, rfl⟩⟩
/- FUNCTION VALUES -/
theorem Rel.flat {S S' : St} : ∀ {t : Ty} {p p' : Place} {x : t.den} {cs : Cs}, t.flat = true → Rel P t S .sh p x cs → Rel P t S' .sh p' x cs := by
  intro t
  induction t with
  | int k => intro p p' x cs hf h; exact h
  | bool => intro p p' x cs hf h; exact h
  | str => intro p p' x cs hf h; exact h
  | unit => intro p p' x cs hf h; trivial
  | nilI => intro p p' x cs hf h; exact h
  | pair a b iha ihb =>
    intro p p' x cs hf h
    simp only [Ty.flat, Bool.and_eq_true] at hf
    exact ⟨iha hf.1 h.1, ihb hf.2 h.2⟩
  | arr n t ih => intro p p' x cs hf h; exact ⟨h.1, fun i hi => ih hf (h.2 i hi)⟩
  | alt tid a b iha ihb =>
    intro p p' x cs hf h
    simp only [Ty.flat, Bool.and_eq_true] at hf
    cases x with
    | inl y => obtain ⟨v, h1, h2, h3⟩ := h; exact ⟨v, h1, iha hf.1 h2, h3⟩
    | inr z => exact ⟨h.1, ihb hf.2 h.2⟩
  | slice t ih => intro p p' x cs hf h; cases hf
  | ptr t ih => intro p p' x cs hf h; cases hf
  | fn1 => intro p p' x cs hf h; cases hf
  | fn2 => intro p p' x cs hf h; cases hf
theorem refBw (h : InvOf P c σ a S) {r : Nat} {π : List Nat} {s : Nat} {v : Value} (hv : RefOK S σ r π s v) {tr : Ty} {mr k : Md} {xr : tr.den} {y : TV} (hr : (σ r).e = .v tr mr xr) (hg : genB (σ r) tr π s = true) (hm : modeP π tr mr = some k)
    (hp : getP π tr xr = some y) (hl : live y.t k = true) (hn : byR gs r = none) (p : Place) : SR P (.ptr y.t) (S.callee gs) .bw p y.x v := by
  obtain ⟨q, o, b, h1, h2, h3, h4⟩ := hv.2 tr mr xr hr (genB_gen.1 hg)
  obtain ⟨u, y', l, cs', h6, h7, h8, h9⟩ := Rel.at (h.slot hr).1 hm h2
  rw [h1] at h7
  cases h7
  obtain ⟨b', h10, h11, h12, cur, e, h13⟩ := h9
  rw [pa_nil0] at h8 h10 h11
  rw [h3] at h10
  cases h10
  rw [hp] at h6
  cases h6
  rw [h4]
  subst h12
  exact ptrBlk hl (.inr hn) h8 (fun _ => .inr ⟨rfl, .inr ⟨_, h11, toC_none_of hn⟩⟩) p
theorem caps_sound (h : InvOf P c σ a S) : ∀ {cs : List Cap} {es : List TM} {us : List Value}, capsTM σ cs = some es → us.length = cs.length → (∀ (k : Nat) (x : Cap), cs[k]? = some x → ∃ u, us[k]? = some u ∧ CapOK P S σ u x) → NoG gs (capRoots cs) →
    us.length = es.length ∧ ∀ (k : Nat) (e : TM), es[k]? = some e → ∃ u, us[k]? = some u ∧ SR P (.ptr e.t) (S.callee gs) .bw (0, []) e.x u := by
  intro cs
  induction cs with
  | nil =>
    intro es us hc hl _ _
    cases hc
    exact ⟨hl, fun k e hk => by simp at hk⟩
  | cons x cs ih =>
    intro es us hc hl hu hn
    unfold capsTM at hc
    split at hc
    case h_2 => cases hc
    rename_i e es' h1 h2
    cases hc
    cases us with
    | nil => cases hl
    | cons u us =>
      have hn' : NoG gs (capRoots cs) := fun r hr => hn r (by cases x <;> simp [capRoots, hr])
      obtain ⟨h3, h4⟩ := ih h2 (by simpa using hl) (fun k x hk => hu (k + 1) x hk) hn'
      refine ⟨by simp [h3], fun k e' hk => ?_⟩
      cases k with
      | succ k => exact h4 k e' hk
      | zero =>
        cases hk
        obtain ⟨u', h5, h6⟩ := hu 0 x rfl
        cases h5
        refine ⟨u, rfl, ?_⟩
        cases x with
        | ref r π s =>
          simp only [capTM] at h1
          split at h1
          case h_2 => cases h1
          rename_i tr mr xr he
          split at h1
          case isFalse => cases h1
          rename_i hg
          split at h1
          case h_2 => cases h1
          rename_i k y hm hp
          split at h1
          case isFalse => cases h1
          rename_i hl
          cases h1
          exact refBw h h6 he hg hm hp hl (hn r (by simp [capRoots])) _
        | val e0 =>
          simp only [capTM] at h1
          split at h1
          · rename_i ut um ux
            cases h1
            exact lendSR (gs := gs) h6 (live_shbw (.inr rfl) _) (.inl rfl)
          · cases h1
theorem clo_sound (h : InvOf P c σ a S) {o : Operand} {f : Nat} {es : List TM} (hx : cloOf σ o = some (f, es)) (hn : NoG gs (look σ o).roots) :
    ∃ us : List Value, a.eval o = .func (.func f) #[] us.toArray ∧ us.length = es.length ∧ ∀ (k : Nat) (e : TM), es[k]? = some e → ∃ u, us[k]? = some u ∧ SR P (.ptr e.t) (S.callee gs) .bw (0, []) e.x u := by
  cases o with
  | const v => cases hx
  | global g => cases hx
  | func f => cases hx; exact ⟨[], rfl, rfl, fun k e hk => by simp at hk⟩
  | tmp t =>
    simp only [cloOf] at hx
    split at hx
    case h_2 => cases hx
    rename_i f' caps he
    simp only [Option.map_eq_some_iff, Prod.mk.injEq] at hx
    obtain ⟨es', h1, rfl, rfl⟩ := hx
    have hs := h.slots t
    unfold SlotOK at hs
    rw [he] at hs
    obtain ⟨us, h2, h3, h4⟩ := hs
    obtain ⟨h5, h6⟩ := caps_sound h (gs := gs) h1 h3 h4 (by simpa [look, Opd.roots, he] using hn)
    exact ⟨us, by rw [tmv_eval, h2], h5, h6⟩
theorem capVals_ptms : ∀ {ps : List (Ty × PM)} {es : List TM} {cs : Vals (ptys ps)}, capVals ps es = some cs → ptms ps cs = es.map fun e => ⟨.ptr e.t, .bw, e.x⟩
  | [], [], _, _ => rfl
  | (.ptr u, .bw) :: ps, e :: es, cs, h => by
    simp only [capVals] at h
    split at h
    case h_2 => cases h
    rename_i x xs h1 h2
    cases h
    have := TV.to_some h1
    obtain ⟨et, em, ex⟩ := e
    cases this
    simp only [ptms, List.map_cons, capVals_ptms h2]
    rfl
  | [], _ :: _, _, h => by simp [capVals] at h
  | x :: ps, [], cs, h => by obtain ⟨t, m⟩ := x; cases t <;> cases m <;> simp [capVals] at h
  | (.ptr u, .sh) :: ps, e :: es, cs, h => by simp [capVals] at h
  | (.ptr u, .give _) :: ps, e :: es, cs, h => by simp [capVals] at h
  | (.ptr u, .io _) :: ps, e :: es, cs, h => by simp [capVals] at h
  | (.int _, _) :: ps, e :: es, cs, h => by simp [capVals] at h
  | (.bool, _) :: ps, e :: es, cs, h => by simp [capVals] at h
  | (.str, _) :: ps, e :: es, cs, h => by simp [capVals] at h
  | (.unit, _) :: ps, e :: es, cs, h => by simp [capVals] at h
  | (.pair _ _, _) :: ps, e :: es, cs, h => by simp [capVals] at h
  | (.arr _ _, _) :: ps, e :: es, cs, h => by simp [capVals] at h
  | (.slice _, _) :: ps, e :: es, cs, h => by simp [capVals] at h
  | (.fn1 _ _, _) :: ps, e :: es, cs, h => by simp [capVals] at h
  | (.fn2 _ _ _, _) :: ps, e :: es, cs, h => by simp [capVals] at h
  | (.alt _ _ _, _) :: ps, e :: es, cs, h => by simp [capVals] at h
  | (.nilI, _) :: ps, e :: es, cs, h => by simp [capVals] at h
theorem castR_some {r : Ty} {o : List (Ty × Md)} (ho : o = []) {y : Option (Ret ([r] ++ tys o))} {z : r.den} (h : castR rfl ho y = some z) : ∃ y', y = some y' ∧ (splitV [r] (tys o) (Ret.vals _ y')).1.1 = z := by
  subst ho
  have h' : y = some z := h
  exact ⟨z, h', rfl⟩
theorem St.WF.bare {S : St} (h : S.WF) : S.bare.WF := ⟨fun b hb => ⟨rfl, (h.shared b hb).2⟩, fun b hb => ⟨rfl, (h.borrowed b hb).2⟩, fun b p hb => by cases hb⟩
theorem Frm.ext {S S' : St} (h : Frm S.bare S') : Ext S.w S'.w := ⟨h.os, h.tape, h.output, h.size, fun k hk => h.kept k hk rfl⟩
/-- Values that read as lent captured pointers, in a later state. -/
theorem caps_later {S' : St} {es : List TM} {us : List Value} (hu : ∀ (k : Nat) (e : TM), es[k]? = some e → ∃ u, us[k]? = some u ∧ SR P (.ptr e.t) S .bw (0, []) e.x u) (hf : Fut .bw S S') {k : Nat} {e : TM} (hk : (es.map fun e => (⟨.ptr e.t, .bw, e.x⟩ : TM))[k]? = some e) (p : Place) :
    ∃ u, us[k]? = some u ∧ SR P e.t S'.bare e.m p e.x u := by
  simp only [List.getElem?_map, Option.map_eq_some_iff] at hk
  obtain ⟨e0, h1, rfl⟩ := hk
  obtain ⟨u, h2, h3⟩ := hu k e0 h1
  have h4 : Rel P (.ptr e0.t) S' .bw p e0.x (vcells (.ptr e0.t) u) := h3.1.fut (.inr rfl) hf fun _ _ => rfl
  exact ⟨u, h2, Rel.free h4 rfl bareFut2 fun _ _ => rfl, h3.2⟩
theorem fn1_sound (h : InvOf P c σ a S) {A R : Ty} {o : Operand} {g : A.den → Option R.den} (hx : fnVal1 FT A R (cloOf σ o) = some g) (hn : NoG gs (look σ o).roots) (p : Place) : SR P (.fn1 A R) (S.callee gs) .bw p g (a.eval o) := by
  unfold fnVal1 at hx
  split at hx
  case h_2 => cases hx
  rename_i f es hq
  split at hx
  case h_2 => cases hx
  rename_i f' a' ps r' den ok hfind
  have hf := findF_f hfind
  split at hx
  case isFalse => cases hx
  rename_i hc
  split at hx
  case h_2 => cases hx
  rename_i cs hcs
  cases hx
  obtain ⟨rfl, rfl, ho, hfl⟩ := hc
  simp only at hf
  subst hf
  obtain ⟨us, h1, h2, h3⟩ := clo_sound h (gs := gs) hq hn
  refine ⟨⟨f', us.toArray, by simp [vcells, Ty.agg, h1], ok.1, fun S' x y hfut hwf hg v hv hagg => ?_⟩, fun h => by cases h⟩
  obtain ⟨y', h4, h5⟩ := castR_some ho hg
  have hp := capVals_ptms hcs
  have hcall := ok.2 (x, cs) y' h4 S'.bare hwf.bare (v :: us) (by simp only [ptms, List.length_cons, hp, List.length_map, h2]) (fun i e hi => by
    cases i with
    | zero =>
      simp only [ptms, List.getElem?_cons_zero, Option.some.injEq] at hi
      subst hi
      exact ⟨v, rfl, ⟨hv.free rfl bareFut2 fun _ _ => rfl, hagg⟩⟩
    | succ i =>
      simp only [ptms, List.getElem?_cons_succ, hp] at hi
      exact caps_later h3 hfut hi _)
  have hargs : #[v] ++ us.toArray = (v :: us).toArray := by simp
  rw [hargs]
  refine Calls.mono hcall fun e w' hR => ?_
  obtain ⟨u, S4, rfl, rfl, hfr, hres, _⟩ := hR
  refine ⟨u, rfl, ?_, ?_, Frm.ext hfr⟩
  · have hr : SR P _ S4 .sh (0, [0]) _ u := hres
    have hr' := hr.1
    simp only at hr'
    rw [h5] at hr'
    exact Rel.flat hfl hr'
  · exact (show SR P _ S4 .sh (0, [0]) _ u from hres).2
theorem fn2_sound (h : InvOf P c σ a S) {A B R : Ty} {o : Operand} {g : A.den → B.den → Option R.den} (hx : fnVal2 FT A B R (cloOf σ o) = some g) (hn : NoG gs (look σ o).roots) (p : Place) : SR P (.fn2 A B R) (S.callee gs) .bw p g (a.eval o) := by
  unfold fnVal2 at hx
  split at hx
  case h_2 => cases hx
  rename_i f es hq
  split at hx
  case h_2 => cases hx
  rename_i f' a' b' ps r' den ok hfind
  have hf := findF_f hfind
  split at hx
  case isFalse => cases hx
  rename_i hc
  split at hx
  case h_2 => cases hx
  rename_i cs hcs
  cases hx
  obtain ⟨rfl, rfl, rfl, ho, hfl⟩ := hc
  simp only at hf
  subst hf
  obtain ⟨us, h1, h2, h3⟩ := clo_sound h (gs := gs) hq hn
  refine ⟨⟨f', us.toArray, by simp [vcells, Ty.agg, h1], ok.1, fun S' x x2 y hfut hwf hg v v2 hv hagg hv2 hagg2 => ?_⟩, fun h => by cases h⟩
  obtain ⟨y', h4, h5⟩ := castR_some ho hg
  have hp := capVals_ptms hcs
  have hcall := ok.2 (x, x2, cs) y' h4 S'.bare hwf.bare (v :: v2 :: us) (by simp only [ptms, List.length_cons, hp, List.length_map, h2]) (fun i e hi => by
    cases i with
    | zero =>
      simp only [ptms, List.getElem?_cons_zero, Option.some.injEq] at hi
      subst hi
      exact ⟨v, rfl, ⟨hv.free rfl bareFut2 fun _ _ => rfl, hagg⟩⟩
    | succ i =>
      cases i with
      | zero =>
        simp only [ptms, List.getElem?_cons_succ, List.getElem?_cons_zero, Option.some.injEq] at hi
        subst hi
        exact ⟨v2, rfl, ⟨hv2.free rfl bareFut2 fun _ _ => rfl, hagg2⟩⟩
      | succ i =>
        simp only [ptms, List.getElem?_cons_succ, hp] at hi
        exact caps_later h3 hfut hi _)
  have hargs : #[v, v2] ++ us.toArray = (v :: v2 :: us).toArray := by simp
  rw [hargs]
  refine Calls.mono hcall fun e w' hR => ?_
  obtain ⟨u, S4, rfl, rfl, hfr, hres, _⟩ := hR
  refine ⟨u, rfl, ?_, ?_, Frm.ext hfr⟩
  · have hr : SR P _ S4 .sh (0, [0]) _ u := hres
    have hr' := hr.1
    simp only at hr'
    rw [h5] at hr'
    exact Rel.flat hfl hr'
  · exact (show SR P _ S4 .sh (0, [0]) _ u from hres).2
/- ARGUMENTS -/
theorem argV_sound (h : InvOf P c σ a S) {t : Ty} {pm : PM} {o : Operand} {z : ArgR t} (hx : argV FT t pm (look σ o) (cloOf σ o) = some z) (hn : NoG gs z.lr) (hk : okG gs = true) {i : Nat} (hi : ∀ g, z.g = some g → (i, g) ∈ gs) (hj : ∀ g, (i, g) ∈ gs → z.g = some g) :
    SR P t (S.callee gs) pm.md (i, []) z.x (a.eval o) ∧ ∀ g, z.g = some g → GvOK S σ g (a.eval o) := by
  have hbw : ∀ {z : ArgR t}, argBw t (look σ o) = some z → NoG gs z.lr → SR P t (S.callee gs) .bw (i, []) z.x (a.eval o) ∧ ∀ g, z.g = some g → GvOK S σ g (a.eval o) := fun hx hn => by
    obtain ⟨h1, h2⟩ := bw_sound h hx hn (i, [])
    exact ⟨h2, fun g hg => by rw [h1] at hg; cases hg⟩
  cases pm with
  | bw =>
    cases t with
    | fn1 A R =>
      simp only [argV] at hx
      split at hx
      · rename_i x hb
        cases hx
        exact hbw hb hn
      · simp only [Option.map_eq_some_iff] at hx
        obtain ⟨g, h1, rfl⟩ := hx
        exact ⟨fn1_sound h h1 hn _, fun g hg => by cases hg⟩
    | fn2 A B R =>
      simp only [argV] at hx
      split at hx
      · rename_i x hb
        cases hx
        exact hbw hb hn
      · simp only [Option.map_eq_some_iff] at hx
        obtain ⟨g, h1, rfl⟩ := hx
        exact ⟨fn2_sound h h1 hn _, fun g hg => by cases hg⟩
    | ptr u =>
      obtain ⟨h1, h2⟩ := ptr_sound h hx hn (i, [])
      exact ⟨h2, fun g hg => by rw [h1] at hg; cases hg⟩
    | _ => exact hbw hx hn
  | sh =>
    simp only [argV, argSh] at hx
    split at hx
    case h_2 => cases hx
    rename_i m x hv
    split at hx
    case isFalse => cases hx
    rename_i hl
    cases hx
    obtain ⟨p, h1⟩ := h.val hv
    exact ⟨shareSR h1 hl, fun g hg => by cases hg⟩
  | give m => exact give_sound h hx hk hi hj
  | io m =>
    cases t with
    | ptr u => exact io_sound h hx hk hi
    | _ => cases hx
theorem argsV_ge : ∀ {ps : List (Ty × PM)} {os : List (Opd × Option (Nat × List TM))} {i : Nat} {xs : Vals (ptys ps)} {gs0 : List (Nat × Gv)} {lr : List Nat}, argsV FT i ps os = some (xs, gs0, lr) → ∀ e ∈ gs0, i ≤ e.1
  | [], [], i, xs, gs0, lr, hx => by
    simp only [argsV, Option.some.injEq, Prod.mk.injEq] at hx
    obtain ⟨_, rfl, _⟩ := hx
    exact fun e he => by cases he
  | [], o :: os, i, xs, gs0, lr, hx => by simp [argsV] at hx
  | (t, pm) :: ps, [], i, xs, gs0, lr, hx => by simp [argsV] at hx
  | (t, pm) :: ps, (o, q) :: os, i, xs, gs0, lr, hx => by
    simp only [argsV] at hx
    split at hx
    case h_2 => cases hx
    rename_i z xs' gs' lr' h1 h2
    simp only [Option.some.injEq, Prod.mk.injEq] at hx
    obtain ⟨rfl, hgs, rfl⟩ := hx
    have ih := argsV_ge h2
    intro e he
    rw [← hgs] at he
    split at he
    · rcases List.mem_cons.1 he with rfl | he
      · exact Nat.le_refl _
      · have := ih e he; omega
    · have := ih e he; omega
theorem argsV_sound (h : InvOf P c σ a S) (hk : okG gs = true) : ∀ {ps : List (Ty × PM)} {os : List Operand} {i : Nat} {xs : Vals (ptys ps)} {gs0 : List (Nat × Gv)} {lr : List Nat}, argsV FT i ps (os.map fun o => (look σ o, cloOf σ o)) = some (xs, gs0, lr) → NoG gs lr → (∀ e ∈ gs0, e ∈ gs) → (∀ k g, (k, g) ∈ gs → i ≤ k → (k, g) ∈ gs0) →
    os.length = (ptms ps xs).length ∧ (∀ (j : Nat) (e : TM), (ptms ps xs)[j]? = some e → ∃ o, os[j]? = some o ∧ SR P e.t (S.callee gs) e.m (i + j, []) e.x (a.eval o)) ∧
      ∀ (k : Nat) (g : Gv), (k, g) ∈ gs0 → ∃ j o, k = i + j ∧ os[j]? = some o ∧ GvOK S σ g (a.eval o)
  | [], [], i, xs, gs0, lr, hx, _, _, _ => by
    simp only [argsV, List.map_nil, Option.some.injEq, Prod.mk.injEq] at hx
    obtain ⟨_, rfl, _⟩ := hx
    exact ⟨rfl, fun j e hj => by simp [ptms] at hj, fun k g hg => by cases hg⟩
  | [], o :: os, i, xs, gs0, lr, hx, _, _, _ => by simp [argsV] at hx
  | (t, pm) :: ps, [], i, xs, gs0, lr, hx, _, _, _ => by simp [argsV] at hx
  | (t, pm) :: ps, o :: os, i, xs, gs0, lr, hx, hn, hs, hs2 => by
    simp only [argsV, List.map_cons] at hx
    split at hx
    case h_2 => cases hx
    rename_i z xs' gs' lr' h1 h2
    simp only [Option.some.injEq, Prod.mk.injEq] at hx
    obtain ⟨rfl, hgs, rfl⟩ := hx
    have hsub : ∀ e ∈ gs', e ∈ gs0 := fun e he => by
      rw [← hgs]
      split
      · exact List.mem_cons_of_mem _ he
      · exact he
    have hsplit : ∀ k g, (k, g) ∈ gs0 → (z.g = some g ∧ k = i) ∨ (k, g) ∈ gs' := fun k g hg => by
      rw [← hgs] at hg
      split at hg
      · rename_i g0 hg0
        rcases List.mem_cons.1 hg with he | he
        · cases he; exact .inl ⟨hg0, rfl⟩
        · exact .inr he
      · exact .inr hg
    obtain ⟨h3, h4, h5⟩ := argsV_sound h hk h2 (fun r hr => hn r (List.mem_append_right _ hr)) (fun e he => hs e (hsub e he)) fun k g hg hk' => by
      rcases hsplit k g (hs2 k g hg (by omega)) with ⟨_, rfl⟩ | he
      · omega
      · exact he
    obtain ⟨h6, h7⟩ := argV_sound h h1 (fun r hr => hn r (List.mem_append_left _ hr)) hk (i := i) (fun g hg => hs _ (by rw [← hgs, hg]; simp)) fun g hg => by
      rcases hsplit i g (hs2 i g hg (Nat.le_refl _)) with ⟨he, _⟩ | he
      · exact he
      · have := argsV_ge h2 _ he
        simp only at this
        omega
    refine ⟨by simp [ptms, h3], fun j e hj => ?_, fun k g hg => ?_⟩
    · cases j with
      | zero =>
        simp only [ptms, List.getElem?_cons_zero, Option.some.injEq] at hj
        subst hj
        exact ⟨o, rfl, h6⟩
      | succ j =>
        simp only [ptms, List.getElem?_cons_succ] at hj
        obtain ⟨o', h8, h9⟩ := h4 j e hj
        exact ⟨o', h8, by rw [show i + (j + 1) = i + 1 + j by omega]; exact h9⟩
    · rw [← hgs] at hg
      have : (z.g = some g ∧ k = i) ∨ (k, g) ∈ gs' := by
        split at hg
        · rename_i g0 hg0
          rcases List.mem_cons.1 hg with he | he
          · cases he; exact .inl ⟨hg0, rfl⟩
          · exact .inr he
        · exact .inr hg
      rcases this with ⟨he, rfl⟩ | he
      · exact ⟨0, o, rfl, rfl, h7 g he⟩
      · obtain ⟨j, o', h8, h9, h10⟩ := h5 k g he
        exact ⟨j + 1, o', by omega, h9, h10⟩
end
end Go.X
