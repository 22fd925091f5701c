/- One operation that is no call of a Go function: its updates, its soundness. -/
import Derived.Test.YthemaffjohmhnaaX24
import Derived.Laws.BytesArg
set_option linter.unusedSimpArgs false
set_option linter.unusedVariables false
namespace Go.X
open Go Go.RowKit
def one (d : Nat) (q : Option (Bool × Ent)) : Option (Bool × Ups) := q.map fun q => (q.1, [(d, q.2, 0)])
def sure (q : Option Ups) : Option (Bool × Ups) := q.map fun us => (true, us)
/-- The empty slice as one that is owned. -/
def nilU (T : Tab) (fl ty d : Nat) (o : Opd) : Option Ups :=
  match o with
  | .con (.slice none 0 0) => match tl T ty with
    | some (i, .slice u) => match i.k with
      | .slice e => if 0 < u.size then some [(d, .v (.slice u) (.own e (if fl = 3 then .bw else .sh)) [], 0)] else none
      | _ => none
    | _ => none
  | _ => none
/-- A captured pointer. -/
def capE (o : Opd) : Option Cap :=
  match o.ro with
  | some e => some (.val ⟨.ptr e.t, .bw, e.x⟩)
  | none => match o.place with
    | some p => some (.ref p.r p.π (stamp p.c p.t p.π))
    | none => none
def capsE (l : Operand → Opd) : List Operand → Option (List Cap)
  | [] => some []
  | x :: xs => match capE (l x), capsE l xs with
    | some c, some cs => some (c :: cs)
    | _, _ => none
/-- A value as one of an interface type. -/
def injE : (t : Ty) → (xt : TypeId) → (u : Ty) → u.den → Option t.den
  | .alt tid a b, xt, u, x => if tid = xt then (TV.to ⟨u, x⟩ a).map .inl else if b.size = 1 then (injE b xt u x).map .inr else none
  | .int _, _, _, _ => none
  | .bool, _, _, _ => none
  | .str, _, _, _ => none
  | .unit, _, _, _ => none
  | .pair _ _, _, _, _ => none
  | .arr _ _, _, _, _ => none
  | .slice _, _, _, _ => none
  | .ptr _, _, _, _ => none
  | .fn1 _ _, _, _, _ => none
  | .fn2 _ _ _, _, _, _ => none
  | .nilI, _, _, _ => none
def ifcE (T : Tab) (t xt : TypeId) (o : Opd) : Option (Bool × Ent) :=
  match tl T t, tl T xt with
  | some (_, tt), some (i, u) => match i.k with
    | .struct _ => match o.val u with
      | some (m, x) => if leM u m .sh then (injE tt xt u x).map fun z => (true, .v tt .sh z) else none
      | none => none
    | _ => none
  | _, _ => none
/-- An interface value that is nil. -/
def isNilI : (t : Ty) → t.den → Bool
  | .alt _ _ b, x => match x with
    | .inl _ => false
    | .inr z => isNilI b z
  | .int _, _ => true
  | .bool, _ => true
  | .str, _ => true
  | .unit, _ => true
  | .pair _ _, _ => true
  | .arr _ _, _ => true
  | .slice _, _ => true
  | .ptr _, _ => true
  | .fn1 _ _, _ => true
  | .fn2 _ _ _, _ => true
  | .nilI, _ => true
def isI : Ty → Bool
  | .alt _ _ b => isI b
  | .nilI => true
  | _ => false
def isnilE (T : Tab) (op : BinOp) (t : TypeId) (o : Opd) : Option (Bool × Ent) :=
  match tl T t with
  | some (i, tt) => match i.k with
    | .iface => if isI tt then match o.val tt with
      | some (m, x) => if m = .dead then none else match op with
        | .eql => some (true, .v .bool .sh (isNilI tt x))
        | .neq => some (true, .v .bool .sh (!isNilI tt x))
        | _ => none
      | none => none else none
    | _ => none
  | none => none
/-- A method value of an interface value. -/
def mthE (nm : String) (o : Opd) : Option (Bool × Ent) :=
  match o with
  | .slot _ c _ => match c.e with
    | .v t .sh x => if isI t && leM t .sh .bw then some (true, .mth nm ⟨t, .bw, x⟩) else none
    | _ => none
  | _ => none
/-- Bytes as a string. -/
def cvtE (T : Tab) (s t : TypeId) (o : Opd) : Option Ent :=
  match tl T s, tl T t with
  | some (_, .slice (.int .u8)), some (_, .str) => match o.val (.slice (.int .u8)) with
    | some (m, xs) => if m ≠ .dead ∧ (elm m = .sh ∨ elm m = .bw) then some (.v .str .sh xs) else none
    | none => none
  | _, _ => none
noncomputable def step (T : Tab) (fl : Nat) (o : Oper) (l : Operand → Opd) : Option (Bool × Ups) :=
  match o.dst with
  | none => match o.op with
    | .store t x y => sure (storeU T t (l x) (l y))
    | _ => none
  | some d => match o.op with
    | .assign x => if fl ≥ 2 then sure (nilU T fl o.type d (l x)) else sure (asgU T o.type d (l x))
    | .move x => if fl ≥ 2 then sure (nilU T fl o.type d (l x)) else if fl = 1 then sure (asgU T o.type d (l x)) else one d (step1 T o l)
    | .alloc t => sure (allocU T d t)
    | .box t x => sure (boxU T d t (l x))
    | .call { callee := .builtin .append, args := ⟨[x, y]⟩, argTypes := ⟨[t, u]⟩ } => if t = u then appU T o.type d t (l x) (l y) else appZ T o.type d t u (l x) (l y)
    | .makeSlice t x y => makeU T d t (l x) (l y)
    | .buildSlice t n ps => sure (litU T fl d t n ps.toList l)
    | .build t ps => if 4 ≤ fl then sure (buildN T fl d t ps.toList l) else one d ((buildE T t ps.toList l).map fun e => (true, e))
    | .slice t x lo hi none => sliceU T o.type d t (l x) (lo.map l) (hi.map l)
    | .extract x i => sure (extU d i (l x))
    | .makeFunc (.func f) ⟨[]⟩ ⟨xs⟩ => one d ((capsE l xs).map fun cs => (true, .clo f cs))
    | .makeFunc (.method nm) ⟨[x]⟩ ⟨[]⟩ => one d (mthE nm (l x))
    | .makeInterface xt x => one d (ifcE T o.type xt (l x))
    | .binOp op t x (.const .nilIface) _ => one d (isnilE T op t (l x))
    | .convert s t x => match cvtE T s t (l x) with
      | some e => one d (some (true, e))
      | none => one d (step1 T o l)
    | _ => one d (step1 T o l)
/-- The slots that an operation names lie within the frame. -/
def within (N : Nat) (o : Oper) : Bool := match o.dst with | some d => decide (d < N) | none => true
section
variable {P : Program} {c : Ctx} {σ : Env} {a : Act} {S : St} {T : Tab}
theorem nil_sound (h : InvOf P c σ a S) {fl ty d : Nat} (hd : d < c.N) {o : Operand} {us : Ups} (hx : nilU T fl ty d (look σ o) = some us) : ∃ S1, S1.w = S.w ∧ InvOf P c (upd us σ) (a.put (some d) (a.eval o)) S1 := by
  unfold nilU at hx
  split at hx
  case h_2 => cases hx
  rename_i ho
  split at hx
  case h_2 => cases hx
  rename_i i u ht
  split at hx
  case h_2 => cases hx
  rename_i e hk
  split at hx
  case isFalse => cases hx
  rename_i hpos
  cases hx
  have hv : a.eval o = .slice none 0 0 := by
    cases o with
    | const v => simp only [look, Opd.con.injEq] at ho; subst ho; rfl
    | tmp t => simp [look] at ho
    | func f => simp [look] at ho
    | global g => simp [look] at ho
  rw [hv]
  refine ⟨{ S with hv := fun z => if z = (d, []) then .slice none 0 0 else S.hv z }, rfl, ?_⟩
  refine h.put (S' := { S with hv := fun z => if z = (d, []) then .slice none 0 0 else S.hv z }) (.refl _) rfl rfl hd (fun t ht q => ?_) (fun _ => .inl rfl) (.v (set1_e σ d _ 0) ?_)
  · exact if_neg fun he => ht (by cases he; rfl)
  · rw [tmv_put_same (by rw [h.size]; exact hd)]
    refine ⟨⟨Nat.zero_le _, hpos, ?_, .inl ⟨if_pos rfl, rfl⟩⟩, fun h => by cases h⟩
    show vcells (.slice u) (.slice none 0 0) 0 = some (if (d, []) = (d, []) then _ else _)
    rw [if_pos rfl]
    rfl
theorem cap_sound (h : InvOf P c σ a S) {o : Operand} {x : Cap} (hx : capE (look σ o) = some x) : CapOK P S σ (a.eval o) x := by
  unfold capE at hx
  split at hx
  · rename_i e he
    cases hx
    obtain ⟨h1, b, off, h2, h3, p, h4⟩ := h.ro he
    refine ⟨?_, fun h => by cases h⟩
    rw [h2]
    refine ⟨b, off, by simp [vcells, Ty.agg], fun hs => ?_, ?_⟩
    · rcases h3 hs with h5 | h5
      · exact .inl h5
      · exact .inr ⟨rfl, h5.2⟩
    · have hl := live_shbw h1 e.t
      rcases h1 with h1 | h1
      · rw [h1] at h4 hl
        exact (h4.weaken (leM_sh (.inr rfl) _)).fut (.inr rfl) ((Fut2.refl S).sh _) fun _ _ => rfl
      · rw [h1] at h4
        exact h4.fut (.inr rfl) ((Fut2.refl S).sh _) fun _ _ => rfl
  · split at hx
    case h_2 => cases hx
    rename_i p hp
    cases hx
    obtain ⟨hr, hc, hπ, hok, q, off, b, h2, h3, h4⟩ := h.place hp
    show RefOK S σ p.r p.π _ _
    rw [hc, h4]
    exact h.refTo hr h2 hok h3
theorem caps_fit (h : InvOf P c σ a S) : ∀ {xs : List Operand} {cs : List Cap}, capsE (look σ) xs = some cs → (xs.map a.eval).length = cs.length ∧ ∀ (k : Nat) (x : Cap), cs[k]? = some x → ∃ u, (xs.map a.eval)[k]? = some u ∧ CapOK P S σ u x
  | [], cs, hx => by cases hx; exact ⟨rfl, fun k x hk => by simp at hk⟩
  | o :: xs, cs, hx => by
    simp only [capsE] at hx
    split at hx
    case h_2 => cases hx
    rename_i x cs' h1 h2
    cases hx
    obtain ⟨h3, h4⟩ := caps_fit h h2
    refine ⟨by simpa using h3, fun k y hk => ?_⟩
    cases k with
    | zero => cases hk; exact ⟨_, rfl, cap_sound h h1⟩
    | succ k => exact h4 k y hk
theorem inj_sound {S : St} {xt : TypeId} {u : Ty} {x : u.den} {v : Value} : ∀ {t : Ty} {z : t.den} {p : Place}, injE t xt u x = some z → (∀ p, SR P u S .sh p x v) → t.agg = false ∧ Rel P t S .sh p z (fun i => if i = 0 then some (.iface xt v) else none) := by
  intro t
  induction t with
  | alt tid A B iha ihb =>
    intro z p hz hv
    unfold injE at hz
    split at hz
    · rename_i he
      subst he
      simp only [Option.map_eq_some_iff] at hz
      obtain ⟨y, h1, rfl⟩ := hz
      have := TV.to_some h1
      cases this
      refine ⟨rfl, v, rfl, (hv _).1, (hv p).2⟩
    · split at hz
      case isFalse => cases hz
      rename_i hs
      simp only [Option.map_eq_some_iff] at hz
      obtain ⟨y, h1, rfl⟩ := hz
      exact ⟨rfl, hs, (ihb h1 hv).2⟩
  | _ => intro z p hz _; simp [injE] at hz
theorem ifc_sound (h : InvOf P c σ a S) (hT : TabOK P T) {t xt : TypeId} {o : Operand} {e : Ent} {ob : Bool} (hx : ifcE T t xt (look σ o) = some (ob, e)) :
    (Instr.makeInterface xt (a.eval o)).run P S.w = .ok (.iface xt (a.eval o)) S.w ∧ EntOK P S σ e (.iface xt (a.eval o)) := by
  unfold ifcE at hx
  split at hx
  case h_2 => cases hx
  rename_i i0 tt i u h1 h2
  split at hx
  case h_2 => cases hx
  rename_i offs hk
  split at hx
  case h_2 => cases hx
  rename_i m x hv
  split at hx
  case isFalse => cases hx
  rename_i hl
  simp only [Option.map_eq_some_iff, Prod.mk.injEq] at hx
  obtain ⟨z, h3, _, rfl⟩ := hx
  obtain ⟨j, d, hi, hd, _, _, _, hkd⟩ := ty_spec (hT _ _ _ h2).1
  rw [hk] at hkd
  refine ⟨?_, rfl, (0, []), ?_⟩
  · unfold Instr.makeInterface
    rw [Sem.run_bind, run_underlying hd S.w]
    cases d <;> simp [tyK] at hkd <;> rfl
  · obtain ⟨p, hp⟩ := h.val hv
    have hs := inj_sound (P := P) (S := S) (xt := xt) (v := a.eval o) (p := (0, [])) h3 fun p' => ⟨(hp.1.weaken hl).fut (.inl rfl) ((Fut2.refl S).sh _) fun _ _ => rfl, hp.2⟩
    refine ⟨?_, fun h => by rw [hs.1] at h; cases h⟩
    unfold vcells
    rw [hs.1]
    exact hs.2
theorem isNil_sound {S : St} : ∀ {t : Ty} {x : t.den} {m : Md} {p : Place} {cs : Cs}, isI t = true → m ≠ .dead → Rel P t S m p x cs → if isNilI t x then cs 0 = some .nilIface else ∃ tid v, cs 0 = some (.iface tid v) := by
  intro t
  induction t with
  | alt tid A B iha ihb =>
    intro x m p cs hi hm h
    cases x with
    | inl y =>
      rw [Rel.alt_inl hm] at h
      obtain ⟨v, h1, _⟩ := h
      simp only [isNilI]
      exact ⟨_, _, h1⟩
    | inr z =>
      rw [Rel.alt_inr hm] at h
      exact ihb hi hm h.2
  | nilI =>
    intro x m p cs hi hm h
    simp only [isNilI, if_true]
    cases m <;> first | exact absurd rfl hm | exact h
  | _ => intro x m p cs hi; simp [isI] at hi
theorem eqGuard_nil (o : BinOp) (t : TypeId) (x : Operand) (w : World) : (eqGuard o t x (.const .nilIface) .nilIface .nilIface).run P w = .ok () w := by cases o <;> cases x <;> rfl
theorem eqGuard_iface (o : BinOp) (t : TypeId) (x : Operand) (tid : TypeId) (v : Value) (w : World) : (eqGuard o t x (.const .nilIface) (.iface tid v) .nilIface).run P w = .ok () w := by cases o <;> rfl
theorem isnil_sound (h : InvOf P c σ a S) (hT : TabOK P T) {op : BinOp} {t : TypeId} {x : Operand} {e : Ent} {ob : Bool} (hx : isnilE T op t (look σ x) = some (ob, e)) :
    ∃ v, (do eqGuard op t x (.const .nilIface) (a.eval x) .nilIface; Go.binOp op t (a.eval x) .nilIface : Sem Value).run P S.w = .ok v S.w ∧ EntOK P S σ e v := by
  unfold isnilE at hx
  split at hx
  case h_2 => cases hx
  rename_i i tt h1
  split at hx
  case h_2 => cases hx
  rename_i hk
  split at hx
  case isFalse => cases hx
  rename_i hI
  split at hx
  case h_2 => cases hx
  rename_i m y hv
  split at hx
  · cases hx
  rename_i hm
  obtain ⟨j, d, hi, hd, _, _, _, hkd⟩ := ty_spec (hT _ _ _ h1).1
  rw [hk] at hkd
  have hd' : ∃ ms, d = .interface ms := by
    cases d <;> simp [tyK] at hkd
    exact ⟨_, rfl⟩
  obtain ⟨ms, rfl⟩ := hd'
  obtain ⟨p, hp⟩ := h.val hv
  have hag : tt.agg = false := by cases tt <;> simp [isI] at hI <;> rfl
  have h2 := isNil_sound hI hm hp.1
  have h3 : vcells tt (a.eval x) 0 = some (a.eval x) := by unfold vcells; rw [hag]; rfl
  rw [h3] at h2
  have hok : ∀ b : Bool, EntOK P S σ (.v .bool .sh b) (.bool b) := fun b => ⟨rfl, (0, []), SR.of_bool b⟩
  have key : ∃ b : Bool, b = isNilI tt y ∧ (Op.equal t (a.eval x) .nilIface).run P S.w = .ok b S.w ∧ ∀ o, (eqGuard o t x (.const .nilIface) (a.eval x) .nilIface).run P S.w = .ok () S.w := by
    cases hn : isNilI tt y with
    | true =>
      rw [hn] at h2
      simp only [if_true, Option.some.injEq] at h2
      rw [h2]
      refine ⟨true, rfl, ?_, fun o => ?_⟩
      · exact (show ∀ n, (Op.equalIn (n + 1) t _ _).run P S.w = _ from fun n => by unfold Op.equalIn; rw [Sem.run_bind, run_underlying hd S.w]; rfl) 9999
      · exact eqGuard_nil _ _ _ _
    | false =>
      rw [hn] at h2
      simp only [Bool.false_eq_true, if_false, Option.some.injEq] at h2
      obtain ⟨tid, v, h2⟩ := h2
      rw [h2]
      refine ⟨false, rfl, ?_, fun o => ?_⟩
      · exact (show ∀ n, (Op.equalIn (n + 1) t _ _).run P S.w = _ from fun n => by unfold Op.equalIn; rw [Sem.run_bind, run_underlying hd S.w]; rfl) 9999
      · exact eqGuard_iface _ _ _ _ _ _
  obtain ⟨b, hb, h4, h5⟩ := key
  have h6 : ∃ tid v, a.eval x = .iface tid v ∨ a.eval x = .nilIface := by
    split at h2
    · exact ⟨0, .nilIface, .inr (by simpa using h2)⟩
    · obtain ⟨tid, v, h2⟩ := h2; exact ⟨tid, v, .inl (by simpa using h2)⟩
  split at hx
  · cases hx
    refine ⟨.bool b, ?_, by rw [← hb]; exact hok b⟩
    rw [Sem.run_bind, h5]
    simp only [Result.andThen_ok]
    obtain ⟨tid, v, h6 | h6⟩ := h6 <;> (rw [h6] at h4 ⊢; simp [Go.binOp, h4])
  · cases hx
    refine ⟨.bool (!b), ?_, by rw [← hb]; exact hok _⟩
    rw [Sem.run_bind, h5]
    simp only [Result.andThen_ok]
    obtain ⟨tid, v, h6 | h6⟩ := h6 <;> (rw [h6] at h4 ⊢; simp [Go.binOp, h4])
  · cases hx
theorem mth_sound (h : InvOf P c σ a S) {nm : String} {o : Operand} {e : Ent} {ob : Bool} (hx : mthE nm (look σ o) = some (ob, e)) : EntOK P S σ e (.func (.method nm) #[a.eval o] #[]) := by
  unfold mthE at hx
  split at hx
  case h_2 => cases hx
  rename_i t cc rt ho
  split at hx
  case h_2 => cases hx
  rename_i ty x hc
  split at hx
  case isFalse => cases hx
  rename_i hl
  simp only [Bool.and_eq_true] at hl
  cases hx
  cases o with
  | tmp s =>
    simp only [look, Opd.slot.injEq] at ho
    obtain ⟨rfl, rfl, _⟩ := ho
    have hs := h.slot hc
    refine ⟨a.eval (.tmp s), rfl, ?_⟩
    rw [tmv_eval]
    exact ⟨(hs.1.weaken hl.2).fut (.inr rfl) ((Fut2.refl S).sh _) fun _ _ => rfl, hs.2⟩
  | const v => simp [look] at ho
  | func f => simp [look] at ho
  | global g => simp [look] at ho
theorem u8_range {n : Int} (h : IntKind.u8.wrap n = n) : 0 ≤ n ∧ n < 256 := by
  have := wrap_bounds .u8 h
  simp only [IntKind.min, IntKind.max, IntKind.bits, IntKind.signed] at this
  simp at this
  omega
theorem str_nums {xs : List Int} (h : ∀ x ∈ xs, 0 ≤ x ∧ x < 256) : (strOfNums xs).data.toList.map (fun c => (c.toNat : Int)) = xs := by
  rw [strOfNums_data, List.map_map]
  conv => rhs; rw [← List.map_id xs]
  refine List.map_congr_left fun x hx => ?_
  have := h x hx
  show ((UInt8.ofNat x.toNat).toNat : Int) = x
  rw [UInt8.toNat_ofNat']
  omega
theorem cvt_sound (h : InvOf P c σ a S) (hT : TabOK P T) {s t : TypeId} {o : Operand} {e : Ent} (hx : cvtE T s t (look σ o) = some e) : ∃ v, (convert s t (a.eval o)).run P S.w = .ok v S.w ∧ EntOK P S σ e v := by
  unfold cvtE at hx
  split at hx
  case h_2 => cases hx
  rename_i i1 i2 ht ht'
  split at hx
  case h_2 => cases hx
  rename_i m xs hv
  split at hx
  case isFalse => cases hx
  rename_i hm
  cases hx
  obtain ⟨hm0, hk⟩ := hm
  obtain ⟨hty, _, _, hkind⟩ := hT.kind ht
  obtain ⟨_, d1, _, hd1, _, _, _, hk1⟩ := ty_spec hty
  obtain ⟨e0, i0, hke, hte, _⟩ := kindOK_slice hkind
  have := tyK_slice (hk1.trans (congrArg some hke))
  subst this
  obtain ⟨hty0, _, _, hkind0⟩ := hT.kind hte
  obtain ⟨_, d0, _, hd0, _, _, _, hk0⟩ := ty_spec hty0
  have := tyK_int (hk0.trans (congrArg some (kindOK_int hkind0)))
  subst this
  obtain ⟨hty2, _, _, hkind2⟩ := hT.kind ht'
  obtain ⟨_, d2, _, hd2, _, _, _, hk2⟩ := ty_spec hty2
  have := tyK_string (hk2.trans (congrArg some (kindOK_str hkind2)))
  subst this
  obtain ⟨p, hs⟩ := h.val hv
  have hl := hs.1.1
  have fin : ∀ b : ByteArray, b.data.toList.map (fun c => (c.toNat : Int)) = xs → EntOK P S σ (.v .str .sh xs) (.string b) := fun b hb =>
    ⟨rfl, (0, []), ⟨b, by simp [vcells, Ty.agg], hb, hl⟩, fun h => by cases h⟩
  rcases rows_of hs hm0 with ⟨hX, rfl⟩ | ⟨ad, hX, rfl⟩ | ⟨b, off, cap, hX, _, hel⟩
  · exact ⟨_, by rw [hX]; exact run_convert_bytes_nil S.w s e0 hd1 hd0 0 0 t hd2, fin _ rfl⟩
  · refine ⟨.string ByteArray.empty, ?_, fin _ rfl⟩
    rw [hX, run_convert_bytes_string S.w s t e0 _ 0 0 hd1 hd0 hd2]
    simp [Conv.bytesToString, loadCells, loadCellsFrom]
  · have hcell : ∀ i, i < xs.length → S.w.cell? ⟨b, off + i, none⟩ = some (.int .u8 (xs.getD i 0)) ∧ IntKind.u8.wrap (xs.getD i 0) = xs.getD i 0 := fun i hi => by
      obtain ⟨q, h1⟩ := hel i hi
      have e1 : xs.getD i 0 = xs[i] := by rw [List.getD_eq_getElem?_getD, List.getElem?_eq_getElem hi]; rfl
      have h2 : blk S.w b (off + i * Ty.size (.int .u8)) 0 = some (.int .u8 xs[i]) ∧ IntKind.u8.wrap xs[i] = xs[i] := by
        rcases hk with hk | hk <;> rw [hk] at h1 <;> exact h1
      rw [e1]
      refine ⟨?_, h2.2⟩
      have h3 := h2.1
      unfold blk at h3
      simpa [Ty.size] using h3
    refine ⟨_, by rw [hX]; exact run_convert_bytes_arg S.w s e0 hd1 hd0 b off _ cap xs rfl (fun i hi => (hcell i hi).1) t hd2, fin _ (str_nums fun x hx => ?_)⟩
    obtain ⟨i, hi, rfl⟩ := List.getElem_of_mem hx
    have := (hcell i hi).2
    rw [List.getD_eq_getElem?_getD, List.getElem?_eq_getElem hi] at this
    exact u8_range this
theorem one_some {d : Nat} {q : Option (Bool × Ent)} {ob : Bool} {us : Ups} (h : one d q = some (ob, us)) : ∃ e, q = some (ob, e) ∧ us = [(d, e, 0)] := by
  simp only [one, Option.map_eq_some_iff, Prod.mk.injEq] at h
  obtain ⟨⟨ob', e⟩, h1, rfl, rfl⟩ := h
  exact ⟨e, h1, rfl⟩
theorem sure_some {q : Option Ups} {ob : Bool} {us : Ups} (h : sure q = some (ob, us)) : q = some us := by
  simp only [sure, Option.map_eq_some_iff, Prod.mk.injEq] at h
  obtain ⟨us', h1, _, rfl⟩ := h
  exact h1
theorem one_does (h : InvOf P c σ a S) (hT : TabOK P T) {o : Oper} {d : Nat} (hdst : o.dst = some d) (hd : d < c.N) {ob : Bool} {us : Ups} (hx : one d (step1 T o (look σ)) = some (ob, us)) (hob : ob = true) : Does P o a S.w (Inv P c (upd us σ)) := by
  obtain ⟨e, h1, rfl⟩ := one_some hx
  obtain ⟨v, h2, h3⟩ := step1_sound h hT h1 hob
  exact ⟨S.w, .inl ⟨v, h2, S, rfl, by rw [hdst]; exact h.putE hd h3⟩⟩
theorem step_does (h : InvOf P c σ a S) (hT : TabOK P T) {fl : Nat} {o : Oper} {ob : Bool} {us : Ups} (hN : within c.N o = true) (hx : step T fl o (look σ) = some (ob, us)) (hob : ob = true) : Does P o a S.w (Inv P c (upd us σ)) := by
  obtain ⟨dst, op, type, pos, after, guard⟩ := o
  unfold step at hx
  simp only at hx
  cases dst with
  | none =>
    simp only at hx
    split at hx
    case h_2 => cases hx
    rename_i t x y
    obtain ⟨w', h1, h2⟩ := store_sound h hT (sure_some hx)
    refine ⟨w', .inr ⟨?_, h2⟩⟩
    simp only [execOp, Sem.run_bind, h1, Result.andThen_ok, Sem.run_pure]
  | some d =>
    have hd : d < c.N := by simpa [within] using hN
    simp only at hx
    split at hx
    · rename_i x
      split at hx
      · obtain ⟨S1, h1, h2⟩ := nil_sound h hd (sure_some hx)
        exact ⟨S.w, .inl ⟨_, rfl, S1, h1, h2⟩⟩
      · obtain ⟨S1, h1, _, _, h2⟩ := asg_sound h hd (sure_some hx)
        exact ⟨S.w, .inl ⟨_, rfl, S1, h1, h2⟩⟩
    · rename_i x
      split at hx
      · obtain ⟨S1, h1, h2⟩ := nil_sound h hd (sure_some hx)
        exact ⟨S.w, .inl ⟨_, rfl, S1, h1, h2⟩⟩
      · split at hx
        · obtain ⟨S1, h1, _, _, h2⟩ := asg_sound h hd (sure_some hx)
          exact ⟨S.w, .inl ⟨_, rfl, S1, h1, h2⟩⟩
        · exact one_does h hT rfl hd hx hob
    · rename_i t
      obtain ⟨v, w', h1, h2⟩ := alloc_sound h hT hd (sure_some hx)
      refine ⟨w', .inl ⟨v, ?_, h2⟩⟩
      simp only [execOp, Sem.run_bind, h1, Result.andThen_ok, Sem.run_pure]
    · rename_i t x
      obtain ⟨v, w', h1, h2⟩ := box_sound h hd (sure_some hx)
      refine ⟨w', .inl ⟨v, ?_, h2⟩⟩
      simp only [execOp, Sem.run_bind, h1, Result.andThen_ok, Sem.run_pure]
    · rename_i x y t u
      split at hx
      · rename_i htu
        subst htu
        obtain ⟨v, w', h1, h2⟩ := app_sound (rt := type) h hT hd hx hob
        refine ⟨w', .inl ⟨v, ?_, h2⟩⟩
        simp [execOp, resolve, invoke, builtin, h1]
      · obtain ⟨v, w', h1, h2⟩ := appZ_sound (rt := type) h hT hd hx hob
        refine ⟨w', .inl ⟨v, ?_, h2⟩⟩
        simp [execOp, resolve, invoke, builtin, h1]
    · rename_i t x y
      obtain ⟨v, w', h1, h2⟩ := make_sound h hT hd hx hob
      refine ⟨w', .inl ⟨v, ?_, h2⟩⟩
      simp only [execOp, Sem.run_bind, h1, Result.andThen_ok, Sem.run_pure]
    · rename_i t n ps
      obtain ⟨v, w', h1, h2⟩ := lit_sound h hT hd (sure_some hx)
      refine ⟨w', .inl ⟨v, ?_, h2⟩⟩
      simp only [execOp, Sem.run_bind, h1, Result.andThen_ok, Sem.run_pure]
    · rename_i t ps
      split at hx
      · obtain ⟨v, h1, h2⟩ := buildN_sound h hT hd (sure_some hx)
        refine ⟨S.w, .inl ⟨v, ?_, h2⟩⟩
        simp only [execOp, Sem.run_bind, h1, Result.andThen_ok, Sem.run_pure]
      · obtain ⟨e, h1, rfl⟩ := one_some hx
        simp only [Option.map_eq_some_iff, Prod.mk.injEq] at h1
        obtain ⟨e', h2, _, rfl⟩ := h1
        obtain ⟨v, h3, h4⟩ := build_sound h hT h2
        refine ⟨S.w, .inl ⟨v, ?_, S, rfl, h.putE hd h4⟩⟩
        simp only [execOp, Sem.run_bind, h3, Result.andThen_ok, Sem.run_pure]
    · rename_i t x lo hi
      obtain ⟨v, h1, h2⟩ := slice_sound h hT hd hx hob
      refine ⟨S.w, .inl ⟨v, ?_, h2⟩⟩
      simp only [execOp, Sem.run_bind, Option.map_none, h1, Result.andThen_ok, Sem.run_pure]
    · rename_i x i
      obtain ⟨v, h1, h2⟩ := ext_sound h hd (sure_some hx)
      refine ⟨S.w, .inl ⟨v, ?_, h2⟩⟩
      simp only [execOp, Sem.run_bind, h1, Result.andThen_ok, Sem.run_pure]
    · rename_i f xs
      obtain ⟨e, h1, rfl⟩ := one_some hx
      simp only [Option.map_eq_some_iff, Prod.mk.injEq] at h1
      obtain ⟨cs, h2, _, rfl⟩ := h1
      obtain ⟨h3, h4⟩ := caps_fit h h2
      refine ⟨S.w, .inl ⟨.func (.func f) #[] (xs.map a.eval).toArray, ?_, S, rfl, h.putE hd ⟨xs.map a.eval, rfl, h3, h4⟩⟩⟩
      simp [execOp, Instr.makeFunc]
    · rename_i nm x
      obtain ⟨e, h1, rfl⟩ := one_some hx
      refine ⟨S.w, .inl ⟨.func (.method nm) #[a.eval x] #[], ?_, S, rfl, h.putE hd (mth_sound h h1)⟩⟩
      simp [execOp, Instr.makeFunc]
    · obtain ⟨e, h1, rfl⟩ := one_some hx
      obtain ⟨h2, h3⟩ := ifc_sound h hT h1
      refine ⟨S.w, .inl ⟨_, ?_, S, rfl, h.putE hd h3⟩⟩
      simp only [execOp, Sem.run_bind, h2, Result.andThen_ok, Sem.run_pure]
    · rename_i bo t x u
      obtain ⟨e, h1, rfl⟩ := one_some hx
      obtain ⟨v, h2, h3⟩ := isnil_sound h hT h1
      refine ⟨S.w, .inl ⟨v, ?_, S, rfl, h.putE hd h3⟩⟩
      have h4 : a.eval (.const .nilIface) = .nilIface := rfl
      simp only [execOp, h4]
      rw [Sem.run_bind, h2]
      rfl
    · rename_i s t x
      split at hx
      · rename_i e he
        obtain ⟨e', h1, rfl⟩ := one_some hx
        simp only [Option.some.injEq, Prod.mk.injEq] at h1
        obtain ⟨_, rfl⟩ := h1
        obtain ⟨v, h2, h3⟩ := cvt_sound h hT he
        refine ⟨S.w, .inl ⟨v, ?_, S, rfl, h.putE hd h3⟩⟩
        simp only [execOp, Sem.run_bind, h2, Result.andThen_ok, Sem.run_pure]
      · exact one_does h hT rfl hd hx hob
    · exact one_does h hT rfl hd hx hob
end
end Go.X
