/- Facts on types, memory and single operations of the model, no calculus in sight. -/
import Derived.Below
import Derived.Laws.AppendOwn
import Derived.Laws.AppendOwnNone
import Derived.Laws.MakeOwn
import Derived.Laws.OwnMore
import Derived.IntWalk
import Derived.WalkSpells
import Derived.KernelRfl
import Derived.Laws.StructEq
set_option linter.unusedSimpArgs false
set_option linter.unusedVariables false
namespace Go.X
open Go Go.RowKit
/- TYPES -/
inductive TyK where
  | int (k : IntKind) | bool | string | slice (e : TypeId) | array (len : Nat) (e : TypeId) | struct (offs : List (Nat × Nat)) | iface | other
structure TyI where
  k : TyK
  size : Nat
  bytes : Nat
  zero : Value
  fa : List (Option Bool)
  eqs : Bool
def tyK (P : Program) : TypeDesc → Option TyK
  | .int k => some (.int k)
  | .bool => some .bool
  | .string => some .string
  | .slice e => some (.slice e)
  | .array l e => some (.array l e)
  | .struct fs => (fs.toList.mapM (fun f => (P.info? f.type).map fun i => (f.offset, i.size))).map .struct
  | .interface _ => some .iface
  | _ => some .other
/-- Whether a value of the type is an aggregate. -/
def aggP (P : Program) (t : TypeId) : Option Bool :=
  match P.underlying t with
  | some (.struct _) | some (.array _ _) => some true
  | some _ => some false
  | none => none
def faP (P : Program) : TypeDesc → List (Option Bool)
  | .struct fs => fs.toList.map fun f => aggP P f.type
  | _ => []
/-- A struct of integers, compared part by part. -/
def eqsP (P : Program) (t : TypeId) : Bool :=
  match P.underlying t with
  | some (.struct fs) => !P.stoodInHeld t && (!P.eqGuardType P.depth t && fs.toList.all fun f => decide (f.name ≠ "_") && (match P.underlying f.type with | some (.int _) => true | _ => false))
  | _ => false
def ty (P : Program) (t : TypeId) : Option TyI :=
  match P.info? t, P.underlying t with
  | some i, some d => match i.zero, tyK P d with | some z, some k => some ⟨k, i.size, i.bytes, z, faP P d, eqsP P t⟩ | _, _ => none
  | _, _ => none
theorem ty_spec {P : Program} {t : TypeId} {i : TyI} (h : ty P t = some i) :
    ∃ j d, P.info? t = some j ∧ P.underlying t = some d ∧ j.zero = some i.zero ∧ j.size = i.size ∧ j.bytes = i.bytes ∧ tyK P d = some i.k := by
  unfold ty at h
  cases hi : P.info? t with
  | none => simp [hi] at h
  | some j =>
    cases hd : P.underlying t with
    | none => simp [hi, hd] at h
    | some d =>
      cases hz : j.zero with
      | none => simp [hi, hd, hz] at h
      | some z =>
        cases hk : tyK P d with
        | none => simp [hi, hd, hz, hk] at h
        | some k => simp [hi, hd, hz, hk] at h; subst h; exact ⟨j, d, rfl, rfl, hz, rfl, rfl, hk⟩
theorem ty_fa {P : Program} {t : TypeId} {i : TyI} (h : ty P t = some i) : ∃ d, P.underlying t = some d ∧ i.fa = faP P d ∧ i.eqs = eqsP P t := by
  unfold ty at h
  cases hi : P.info? t with
  | none => simp [hi] at h
  | some j =>
    cases hd : P.underlying t with
    | none => simp [hi, hd] at h
    | some d =>
      cases hz : j.zero with
      | none => simp [hi, hd, hz] at h
      | some z =>
        cases hk : tyK P d with
        | none => simp [hi, hd, hz, hk] at h
        | some k => simp [hi, hd, hz, hk] at h; subst h; exact ⟨d, rfl, rfl, rfl⟩
theorem tyK_slice {P : Program} {d : TypeDesc} {e : TypeId} (h : tyK P d = some (.slice e)) : d = .slice e := by
  cases d <;> simp [tyK] at h
  exact congrArg _ h
theorem tyK_array {P : Program} {d : TypeDesc} {l : Nat} {e : TypeId} (h : tyK P d = some (.array l e)) : d = .array l e := by
  cases d <;> simp [tyK] at h
  simp [h]
theorem tyK_int {P : Program} {d : TypeDesc} {k : IntKind} (h : tyK P d = some (.int k)) : d = .int k := by
  cases d <;> simp [tyK] at h
  simp [h]
theorem tyK_bool {P : Program} {d : TypeDesc} (h : tyK P d = some .bool) : d = .bool := by
  cases d <;> simp [tyK] at h
  rfl
theorem tyK_string {P : Program} {d : TypeDesc} (h : tyK P d = some .string) : d = .string := by
  cases d <;> simp [tyK] at h
  rfl
theorem tyK_struct {P : Program} {d : TypeDesc} {l : List (Nat × Nat)} (h : tyK P d = some (.struct l)) :
    ∃ fs, d = .struct fs ∧ fs.toList.mapM (fun f => (P.info? f.type).map fun i => (f.offset, i.size)) = some l := by
  cases d with
  | struct fs => exact ⟨fs, rfl, by simpa [tyK] using h⟩
  | _ => simp [tyK] at h
/-- A variable of type t is more than one cell. -/
def TyI.agg (i : TyI) : Bool := match i.k with | .struct _ | .array _ _ => true | _ => false
/- FRAMES AND WORLDS -/
def tmv (a : Act) (t : Nat) : Value := a.tmps.getD t undef
theorem tmv_eval (a : Act) (t : Nat) : a.eval (.tmp t) = tmv a t := rfl
theorem tmv_put_same {a : Act} {d : Nat} {v : Value} (h : d < a.tmps.size) : tmv (a.put (some d) v) d = v := by
  simp [tmv, Act.put, h]
theorem tmv_put_ne {a : Act} {d t : Nat} {v : Value} (h : t ≠ d) : tmv (a.put (some d) v) t = tmv a t := by
  simp [tmv, Act.put, Ne.symm h]
/-- w' is w with more blocks. -/
structure Ext (w w' : World) : Prop where
  os : w'.os = w.os
  tape : w'.tape = w.tape
  output : w'.output = w.output
  size : w.heap.size ≤ w'.heap.size
  block : ∀ k, k < w.heap.size → w'.heap[k]? = w.heap[k]?
theorem Ext.refl (w : World) : Ext w w := ⟨rfl, rfl, rfl, Nat.le_refl _, fun _ _ => rfl⟩
theorem Ext.alloc (w : World) (o : Obj) : Ext w (w.alloc o) := ⟨rfl, rfl, rfl, by simp, fun k hk => Go.heap_alloc_old w o hk⟩
theorem Ext.drew {w w' : World} (h : Ext w w') : Ext w w'.drew := ⟨h.os, h.tape, h.output, h.size, h.block⟩
theorem Ext.trans {a b c : World} (h : Ext a b) (k : Ext b c) : Ext a c :=
  ⟨k.os.trans h.os, k.tape.trans h.tape, k.output.trans h.output, Nat.le_trans h.size k.size, fun i hi => (k.block i (Nat.lt_of_lt_of_le hi h.size)).trans (h.block i hi)⟩
/-- w' is w but for block b. -/
structure WB (w w' : World) (b : Nat) : Prop where
  os : w'.os = w.os
  tape : w'.tape = w.tape
  output : w'.output = w.output
  size : w'.heap.size = w.heap.size
  block : ∀ k, k ≠ b → w'.heap[k]? = w.heap[k]?
theorem WB.setRow (w : World) (b : Nat) (cs : Array Value) : WB w (w.setRow b cs) b := ⟨rfl, rfl, rfl, by simp [World.setRow], fun k hk => setRow_other w b k cs hk⟩
theorem cell_same {w w' : World} {b o : Nat} {u : Value} (h : w'.heap[b]? = w.heap[b]?) (hc : w.cell? ⟨b, o, none⟩ = some u) : w'.cell? ⟨b, o, none⟩ = some u :=
  (World.cell?_of_block (w := w) (a := ⟨b, o, none⟩) h).trans hc
section
variable {P : Program} {w : World} {a : Act}
theorem addr_add (b o n : Nat) : (⟨b, o, none⟩ : Addr).add n = ⟨b, o + n, none⟩ := by
  unfold Addr.add
  split
  · rename_i h; subst h; rfl
  · rfl
theorem mapM_get {α β : Type} (f : α → Option β) : ∀ (l : List α) (r : List β), l.mapM f = some r → ∀ (k : Nat) (y : β), r[k]? = some y → ∃ x, l[k]? = some x ∧ f x = some y
  | [], r, h, k, y, hk => by simp at h; subst h; simp at hk
  | x :: l, r, h, k, y, hk => by
    simp only [List.mapM_cons, Option.bind_eq_bind, Option.pure_def] at h
    cases hx : f x with
    | none => simp [hx] at h
    | some u =>
      cases hl : l.mapM f with
      | none => simp [hx, hl] at h
      | some rest =>
        simp [hx, hl] at h
        subst h
        cases k with
        | zero => simp at hk; subst hk; exact ⟨x, rfl, hx⟩
        | succ k =>
          simp at hk
          obtain ⟨x', h1, h2⟩ := mapM_get f l rest hl k y hk
          exact ⟨x', by simpa using h1, h2⟩
theorem mapM_len {α β : Type} (f : α → Option β) : ∀ (l : List α) (r : List β), l.mapM f = some r → r.length = l.length
  | [], r, h => by simp at h; subst h; rfl
  | x :: l, r, h => by
    simp only [List.mapM_cons, Option.bind_eq_bind, Option.pure_def] at h
    cases hx : f x with
    | none => simp [hx] at h
    | some u =>
      cases hl : l.mapM f with
      | none => simp [hx, hl] at h
      | some rest =>
        simp [hx, hl] at h
        subst h
        simp [mapM_len f l rest hl]
theorem run_fieldAt_at {s f off sz : Nat} {i : TyI} {offs : List (Nat × Nat)} (hty : ty P s = some i) (hk : i.k = .struct offs) (hf : offs[f]? = some (off, sz)) (hsz : sz ≠ 0) (b o : Nat) (w : World) :
    (Instr.fieldAt s (.pointer (some ⟨b, o, none⟩)) f).run P w = .ok (.pointer (some ⟨b, o + off, none⟩)) w := by
  obtain ⟨j, d, hi, hd, _, _, _, hkd⟩ := ty_spec hty
  obtain ⟨fs, rfl, hm⟩ := tyK_struct (hkd.trans (congrArg some hk))
  obtain ⟨fl, h1, h2⟩ := mapM_get _ _ _ hm f (off, sz) hf
  cases hinf : P.info? fl.type with
  | none => simp [hinf] at h2
  | some ti =>
    simp [hinf] at h2
    obtain ⟨h3, h4⟩ := h2
    have h5 : fs[f]? = some fl := by rw [← Array.getElem?_toList]; exact h1
    subst h3 h4
    simp [Instr.fieldAt, run_underlying hd, h5, Instr.sureAddr, fieldPlace, sizeOf, typeInfo, hinf, hsz, addr_add]
theorem run_indexAt_in {t e : TypeId} {i te : TyI} (hty : ty P t = some i) (hk : i.k = .slice e) (hte : ty P e = some te) (b o len cap : Nat) (k : IntKind) (x : Int) (h0 : 0 ≤ x) (h1 : x < len) (w : World) :
    (Instr.indexAt t (.slice (some ⟨b, o, none⟩) len cap) (.int k x)).run P w = .ok (.pointer (some ⟨b, o + x.toNat * te.size, none⟩)) w := by
  obtain ⟨j, d, hi, hd, _, _, _, hkd⟩ := ty_spec hty
  have := tyK_slice (hkd.trans (congrArg some hk))
  subst this
  obtain ⟨j', d', hi', hd', _, hs', _, hk'⟩ := ty_spec hte
  simp [Instr.indexAt, asIntOf, run_underlying hd, h0, h1, sizeOf, typeInfo, hi', hs', addr_add]
theorem run_indexAt_arr {t e len : Nat} {i te : TyI} (hty : ty P t = some i) (hk : i.k = .array len e) (hte : ty P e = some te) (b o : Nat) (k : IntKind) (x : Int) (h0 : 0 ≤ x) (h1 : x < len) (w : World) :
    (Instr.indexAt t (.pointer (some ⟨b, o, none⟩)) (.int k x)).run P w = .ok (.pointer (some ⟨b, o + x.toNat * te.size, none⟩)) w := by
  obtain ⟨j, d, hi, hd, _, _, _, hkd⟩ := ty_spec hty
  have := tyK_array (hkd.trans (congrArg some hk))
  subst this
  obtain ⟨j', d', hi', hd', _, hs', _, hk'⟩ := ty_spec hte
  simp [Instr.indexAt, asIntOf, run_underlying hd, Instr.sureAddr, h0, h1, sizeOf, typeInfo, hi', hs', addr_add]
/-- A shared or borrowed slice's row is a place to read. -/
theorem isAgg_run {t : TypeId} {i : TyI} (hty : ty P t = some i) (w : World) : (isAgg t).run P w = .ok i.agg w := by
  obtain ⟨j, d, hi, hd, _, _, _, hk⟩ := ty_spec hty
  unfold isAgg
  rw [Sem.run_bind, run_underlying hd w]
  unfold TyI.agg
  cases d <;> simp [tyK] at hk <;> first | (obtain ⟨_, _, hk⟩ := hk; rw [← hk]; rfl) | (rw [← hk]; rfl)
theorem aggP_run {P : Program} {t : TypeId} {g : Bool} (h : aggP P t = some g) (w : World) : (isAgg t).run P w = .ok g w := by
  unfold aggP at h
  unfold isAgg
  cases hd : P.underlying t with
  | none => simp [hd] at h
  | some d =>
    rw [Sem.run_bind, run_underlying hd w]
    rw [hd] at h
    cases d <;> simp at h <;> subst h <;> rfl
theorem run_part {P : Program} {t : TypeId} {g : Bool} {ti : TypeInfo} (h : aggP P t = some g) (hi : P.info? t = some ti) (cs : Array Value) (off : Nat) {v : Value} (hv : g = false → cs[off]? = some v) (w : World) :
    (part t cs off).run P w = .ok (if g then .agg (cs.extract off (off + ti.size)) else v) w := by
  unfold part
  rw [Sem.run_bind, aggP_run h w]
  cases g with
  | true => simp [sizeOf, typeInfo, hi]
  | false => simp [hv rfl]
theorem run_field {P : Program} {s f off sz : Nat} {i : TyI} {offs : List (Nat × Nat)} {g : Bool} (hty : ty P s = some i) (hk : i.k = .struct offs) (hf : offs[f]? = some (off, sz)) (hg : i.fa[f]? = some (some g)) (cs : Array Value) {v : Value} (hv : g = false → cs[off]? = some v) (w : World) :
    (Instr.field s (.agg cs) f).run P w = .ok (if g then .agg (cs.extract off (off + sz)) else v) w := by
  obtain ⟨j, d, hi, hd, _, _, _, hkd⟩ := ty_spec hty
  obtain ⟨d', hd', hfa, _⟩ := ty_fa hty
  rw [hd] at hd'
  cases hd'
  obtain ⟨fs, rfl, hm⟩ := tyK_struct (hkd.trans (congrArg some hk))
  obtain ⟨fl, h1, h2⟩ := mapM_get _ _ _ hm f (off, sz) hf
  cases hinf : P.info? fl.type with
  | none => simp [hinf] at h2
  | some ti =>
    simp [hinf] at h2
    obtain ⟨h3, h4⟩ := h2
    have h5 : fs[f]? = some fl := by rw [← Array.getElem?_toList]; exact h1
    subst h3 h4
    have h6 : aggP P fl.type = some g := by
      rw [hfa] at hg
      simp only [faP, List.getElem?_map, h1, Option.map_some, Option.some.injEq] at hg
      exact hg
    have h7 := run_part h6 hinf cs fl.offset hv w
    simp only [Instr.field, Sem.run_bind, run_underlying hd, Result.andThen_ok, h5, asAgg]
    simpa using h7
theorem run_index {P : Program} {t e len : Nat} {i te : TyI} (hty : ty P t = some i) (hk : i.k = .array len e) (hte : ty P e = some te) (k : IntKind) (x : Int) (h0 : 0 ≤ x) (h1 : x < len) (cs : Array Value) {v : Value} (hv : te.agg = false → cs[x.toNat * te.size]? = some v) (w : World) :
    (Instr.index t (.agg cs) (.int k x)).run P w = .ok (if te.agg then .agg (cs.extract (x.toNat * te.size) (x.toNat * te.size + te.size)) else v) w := by
  obtain ⟨j, d, hi, hd, _, _, _, hkd⟩ := ty_spec hty
  have := tyK_array (hkd.trans (congrArg some hk))
  subst this
  obtain ⟨j', d', hi', hd', _, hs', _, hk'⟩ := ty_spec hte
  have hp : (part e cs (x.toNat * te.size)).run P w = .ok (if te.agg then .agg (cs.extract (x.toNat * te.size) (x.toNat * te.size + te.size)) else v) w := by
    unfold part
    rw [Sem.run_bind, isAgg_run hte w]
    cases hg : te.agg with
    | true => simp [sizeOf, typeInfo, hi', hs']
    | false => simp [hv hg]
  have hs : (sizeOf e).run P w = .ok te.size w := by simp [sizeOf, typeInfo, hi', hs']
  simp only [Instr.index, asIntOf, Sem.run_bind, run_underlying hd, Result.andThen_ok, Sem.run_pure, h0, h1, and_self, if_true, hs, hp]
/-- Structs of integers compared. -/
theorem run_eqFields (d : Nat) (xs ys : Array Value) (w : World) : ∀ (fs : List Field) (us : List (IntKind × Int × Int)), fs.length = us.length →
    (∀ (i : Nat) (f : Field) (u : IntKind × Int × Int), fs[i]? = some f → us[i]? = some u → f.name ≠ "_" ∧ (∃ k, P.underlying f.type = some (.int k)) ∧ xs[f.offset]? = some (.int u.1 u.2.1) ∧ ys[f.offset]? = some (.int u.1 u.2.2)) →
    (Op.eqFields (d + 1) xs ys fs).run P w = .ok (us.all fun u => decide (u.2.1 = u.2.2)) w
  | [], [], _, _ => rfl
  | [], _ :: _, h, _ => by simp at h
  | _ :: _, [], h, _ => by simp at h
  | f :: fs, u :: us, h, hall => by
    obtain ⟨h1, ⟨k, h2⟩, h3, h4⟩ := hall 0 f u rfl rfl
    have ih := run_eqFields d xs ys w fs us (by simpa using h) fun i f u hf hu => hall (i + 1) f u (by simpa using hf) (by simpa using hu)
    have hag : (isAgg f.type).run P w = .ok false w := aggP_run (by simp [aggP, h2]) w
    have hpart : ∀ (cs : Array Value) (v : Value), cs[f.offset]? = some v → (part f.type cs f.offset).run P w = .ok v w := fun cs v hv => by
      unfold part
      rw [Sem.run_bind, hag]
      simp [hv]
    unfold Op.eqFields
    rw [if_pos h1]
    simp only [Sem.run_bind, hpart _ _ h3, hpart _ _ h4, Result.andThen_ok, run_equalIn_int w d f.type u.1 k u.2.1 u.2.2 h2, List.all_cons]
    by_cases he : u.2.1 = u.2.2
    · have : (u.2.1 == u.2.2) = true := by simpa using he
      rw [decide_eq_true he]
      simp only [this, Bool.not_true, Bool.false_eq_true, if_false, Bool.true_and]
      exact ih
    · have : (u.2.1 == u.2.2) = false := by simpa using he
      rw [decide_eq_false he]
      simp only [this, Bool.not_false, if_true, Bool.false_and]
      rfl
theorem run_eql_ints {t : TypeId} {i : TyI} (hty : ty P t = some i) (he : i.eqs = true) {offs : List (Nat × Nat)} (hk : i.k = .struct offs) (xs ys : Array Value) (us : List (IntKind × Int × Int)) (hl : offs.length = us.length)
    (hall : ∀ (i : Nat) (o : Nat × Nat) (u : IntKind × Int × Int), offs[i]? = some o → us[i]? = some u → xs[o.1]? = some (.int u.1 u.2.1) ∧ ys[o.1]? = some (.int u.1 u.2.2)) (a b : Operand) (w : World) :
    (do eqGuard .eql t a b (.agg xs) (.agg ys); binOp .eql t (.agg xs) (.agg ys) : Sem Value).run P w = .ok (.bool (us.all fun u => decide (u.2.1 = u.2.2))) w := by
  obtain ⟨j, d, hi, hd, _, _, _, hkd⟩ := ty_spec hty
  obtain ⟨d', hd', _, hes⟩ := ty_fa hty
  obtain ⟨fs, rfl, hm⟩ := tyK_struct (hkd.trans (congrArg some hk))
  rw [hes] at he
  unfold eqsP at he
  rw [hd] at he
  simp only [Bool.and_eq_true, Bool.not_eq_true', List.all_eq_true, decide_eq_true_eq] at he
  obtain ⟨h1, h2, h3⟩ := he
  have hfo : P.fieldsOf t = fs := by unfold Program.fieldsOf; rw [hd]
  have hml := mapM_len _ _ _ hm
  rw [Sem.run_bind, run_eqGuard_agg w .eql t a b xs ys h2, Result.andThen_ok, run_eql_struct, show (10000 : Nat) = 9999 + 1 from rfl, run_equalIn_agg w 9999 t xs ys (by rw [hfo]; exact hd) h1, hfo,
    show (9999 : Nat) = 9998 + 1 from rfl, run_eqFields 9998 xs ys w fs.toList us (by omega) fun i f u hf hu => ?_]
  · rfl
  · obtain ⟨h4, h5⟩ := h3 f (List.mem_of_getElem? hf)
    obtain ⟨o, ho⟩ : ∃ o, offs[i]? = some o := by
      have := (List.getElem?_eq_some_iff.1 hf).1
      exact ⟨_, List.getElem?_eq_getElem (by omega)⟩
    obtain ⟨fl, h6, h7⟩ := mapM_get _ _ _ hm i o ho
    rw [hf] at h6
    cases h6
    obtain ⟨h8, h9⟩ := hall i o u ho hu
    cases hinf : P.info? f.type with
    | none => simp [hinf] at h7
    | some ti =>
      simp [hinf] at h7
      have ho1 : o.1 = f.offset := by rw [← h7]
      rw [ho1] at h8 h9
      refine ⟨h4, ?_, h8, h9⟩
      split at h5
      · exact ⟨_, by assumption⟩
      · cases h5
theorem run_storeAt {t : TypeId} {i : TyI} (hty : ty P t = some i) {b o : Nat} {cs : Array Value} {E : TypeId} (hg : w.heap[b]? = some (.cells cs E (0, 0))) {v : Value} (hsz : v.cells.size = i.size) (hfit : o + i.size ≤ cs.size)
    (h1 : ∀ u ∈ v.cells.toList, u.oneCell' = true) :
    (Instr.storeAt t (.pointer (some ⟨b, o, none⟩)) v).run P w = .ok () (w.setRow b (cs.toList.take o ++ v.cells.toList ++ cs.toList.drop (o + v.cells.toList.length)).toArray) := by
  obtain ⟨j, d, hi, hd, _, hs, _, hk⟩ := ty_spec hty
  have hst := run_storeCells_at P b o E v.cells.toList 0 cs w hg (by simp; omega) h1
  simp only [Nat.add_zero] at hst
  simp only [Instr.storeAt, Instr.sureAddr, storeVar, sizeOf, typeInfo, Sem.run_bind, Sem.run_pure, Result.andThen_ok, run_program, hi, hs, hsz, ne_eq, not_true_eq_false, if_false, hst]
theorem run_append_own2 (t ty e : TypeId) (i : TypeInfo) (z : Value) (size bytes : Nat) (ht : P.underlying t = some (.slice e)) (hi : P.info? e = some i) (hz : i.zero = some z)
    (hsize : i.size = size) (hby : i.bytes = bytes) (hzs : z.cells.size = size) (hsz : 0 < size) (v : Value) (n : Nat) (xs : List Value) (hown : w.ownsRow 0 e size v n xs)
    (ad : Addr) (m cp : Nat) (news : List Value) (hl : news.length = m * size) (hnews : ∀ j u, news[j]? = some u → w.cell? (ad.add j) = some u) (h1 : ∀ u ∈ news, u.oneCell' = true)
    (h63 : n + m ≤ maxLen) (hbytes : (n + m) * bytes ≤ 140737488355328) :
    ∃ v' w', (Builtin.append_ #[t, t] ty #[v, .slice (some ad) m cp]).run P w = .ok v' w' ∧ w'.ownsRow 0 e size v' (n + m) (xs ++ news) ∧ w.grownBy w' v.ownBlock ∧
      (∀ b, v'.ownBlock = some b → v.ownBlock = some b ∨ (b = w.heap.size ∧ b < w'.heap.size)) := by
  obtain ⟨v', w', hr, ho, hg, hnil⟩ := run_append_own (P := P) w 0 t ty e i z size bytes ht hi hz hsize hby hzs hsz v n xs hown ad m cp news hl hnews h1 h63 hbytes (Nat.zero_le _)
  refine ⟨v', w', hr, ho, hg, fun b hb => ?_⟩
  have hsmall : n + m ≤ 9223372036854775807 := by simp only [maxLen] at h63; omega
  subst hsize hby
  rcases hown.2 with ⟨rfl, rfl⟩ | ⟨g, cap, cur, rfl, hbg, hgg, hnc, hcm, hcs, htake⟩
  · by_cases hm : m = 0
    · have := hnil.2 ⟨rfl, hm⟩
      rw [this] at hb; cases hb
    · have h2 := run_append_nil (P := P) w t ty e i z ht hi hz ad m cp news hl hnews (by omega) (by omega) (by simp only [Nat.zero_add] at hbytes; omega)
      rw [h2] at hr
      cases hr
      simp only [Value.ownBlock] at hb
      cases hb
      exact .inr ⟨rfl, by simp⟩
  · by_cases hroom : n + m ≤ cap
    · have hfit : n * i.size + news.length ≤ cur.size := by rw [hl, hcs, ← Nat.add_mul]; exact Nat.mul_le_mul_right _ hroom
      have h2 := run_append_room (P := P) w t ty e i ht hi g n cap cur hgg ad m cp news hl hnews h1 hroom hfit
      rw [h2] at hr
      cases hr
      exact .inl hb
    · have holds : ∀ j u, xs[j]? = some u → w.cell? ((⟨g, 0, none⟩ : Addr).add j) = some u := hown.cells (g := g) rfl
      have h2 := run_append_grow (P := P) w t ty e i z ht hi hz ⟨g, 0, none⟩ n cap xs hown.1 holds ad m cp news hl hnews (by omega) (by omega) (growslice_fits (by omega) hbytes)
      rw [h2] at hr
      cases hr
      simp only [Value.ownBlock] at hb
      cases hb
      exact .inr ⟨rfl, by simp⟩
/-- append of zeros (append(s, make([]T, n)...)), to a slice of one's own. -/
theorem run_append_zeros (t u ty e : TypeId) (i : TypeInfo) (z : Value) (size bytes : Nat) (ku : IntKind) (ht : P.underlying t = some (.slice e)) (hu : P.underlying u = some (.int ku)) (hi : P.info? e = some i) (hz : i.zero = some z)
    (hsize : i.size = size) (hby : i.bytes = bytes) (hzs : z.cells.size = size) (hsz : 0 < size) (v : Value) (n : Nat) (xs : List Value) (hown : w.ownsRow 0 e size v n xs)
    (k : IntKind) (m : Nat) (h1 : ∀ u ∈ (Builtin.zeroCells z.cells m).toList, u.oneCell' = true)
    (h63 : n + m ≤ maxLen) (hbytes : (n + m) * bytes ≤ 140737488355328) :
    ∃ v' w', (Builtin.append_ #[t, u] ty #[v, .int k (m : Int)]).run P w = .ok v' w' ∧ w'.ownsRow 0 e size v' (n + m) (xs ++ (Builtin.zeroCells z.cells m).toList) ∧ w.grownBy w' v.ownBlock ∧
      (∀ b, v'.ownBlock = some b → v.ownBlock = some b ∨ (b = w.heap.size ∧ b < w'.heap.size)) := by
  subst hsize
  subst hby
  have hsmall : n + m ≤ 9223372036854775807 := by simp only [maxLen] at h63; omega
  have hwm : IntKind.i64.wrap (m : Int) = (m : Int) := IntWalk.i64_in _ ⟨by omega, by omega⟩
  have hm0 : ¬ ((m : Int) < 0) := by omega
  have hmb : ¬ (281474976710656 < (m : Int) * (i.bytes : Int)) := by
    have h2 : m * i.bytes ≤ (n + m) * i.bytes := Nat.mul_le_mul_right _ (by omega)
    have h3 : ((m * i.bytes : Nat) : Int) = (m : Int) * (i.bytes : Int) := Int.natCast_mul m i.bytes
    omega
  have hnl : (Builtin.zeroCells z.cells m).size = m * i.size := by rw [size_zeroCells, hzs]
  have hlen : (xs ++ (Builtin.zeroCells z.cells m).toList).length = (n + m) * i.size := by rw [List.length_append, hown.1, Array.length_toList, hnl, Nat.add_mul]
  have hzero : m * i.size = 0 → Builtin.zeroCells z.cells m = #[] := fun h0 => Array.eq_empty_of_size_eq_zero (by rw [hnl]; exact h0)
  have hsne : i.size ≠ 0 := by omega
  have grown : ∀ (old : Nat), old < n + m → ∀ (row : Option Nat),
      (w.drew.alloc (.cells (xs.toArray ++ Builtin.zeroCells z.cells m ++ Builtin.zeroCells z.cells (grownCap w (n + m) old e - (n + m))) e)).ownsRow 0 e i.size
        (.slice (some ⟨w.heap.size, 0, none⟩) (n + m) (grownCap w (n + m) old e)) (n + m) (xs ++ (Builtin.zeroCells z.cells m).toList) ∧
      w.grownBy (w.drew.alloc (.cells (xs.toArray ++ Builtin.zeroCells z.cells m ++ Builtin.zeroCells z.cells (grownCap w (n + m) old e - (n + m))) e)) row := by
    intro old ho row
    have hge := grownCap_ge w (n + m) old e
    have hcm : grownCap w (n + m) old e ≤ maxLen := grownCap_le_maxLen w (n + m) old e h63
    refine ⟨⟨hlen, .inr ⟨w.heap.size, _, _, rfl, Nat.zero_le _, heap_alloc_new w.drew _, hge, hcm, ?_, ?_⟩⟩, ⟨rfl, rfl, rfl, by simp, fun k hk _ => heap_alloc_old w.drew _ hk⟩⟩
    · simp only [Array.size_append, List.size_toArray, size_zeroCells, hzs, hown.1, ← Nat.add_mul]
      congr 1
      omega
    · simp only [Array.toList_append, List.append_assoc]
      rw [← List.append_assoc, ← hlen]
      exact List.take_left
  have newb : ∀ (old : Nat) (b : Nat), Value.ownBlock (.slice (some ⟨w.heap.size, 0, none⟩) (n + m) (grownCap w (n + m) old e)) = some b → b = w.heap.size ∧
      b < (w.drew.alloc (.cells (xs.toArray ++ Builtin.zeroCells z.cells m ++ Builtin.zeroCells z.cells (grownCap w (n + m) old e - (n + m))) e)).heap.size := fun old b hb => by
    have : w.heap.size = b := by simpa [Value.ownBlock] using hb
    subst this
    exact ⟨rfl, by simp⟩
  rcases hown.2 with ⟨rfl, rfl⟩ | ⟨g, cap, cur, rfl, hbg, hg, hnc, hcm, hcs, htake⟩
  · have hx : xs = [] := List.eq_nil_of_length_eq_zero (by simpa using hown.1)
    subst hx
    by_cases hm : m = 0
    · subst hm
      refine ⟨.slice none 0 0, w, ?_, ?_, ⟨rfl, rfl, rfl, Nat.le_refl _, fun _ _ _ => rfl⟩, fun b hb => .inl hb⟩
      · simp [Builtin.append_, run_underlying ht, run_underlying hu, sizeOf, typeInfo, hi, asInt, asIntOf, IntKind.wrap_i64]
      · rw [hzero (by simp)]
        exact World.ownsRow_nil w 0 e i.size
    · have h63' : ¬ (9223372036854775807 < (m : Int)) := by omega
      have h48' : ¬ (281474976710656 < Builtin.nextslicecap m 0 * i.bytes) := by
        rw [nextslicecap_zero (by omega)]
        simp only [Nat.zero_add] at hbytes
        omega
      have hgr := grown 0 (by omega) (Value.ownBlock (.slice none 0 0))
      have hnb := newb 0
      simp only [Nat.zero_add, List.nil_append, Array.empty_append] at hgr hnb ⊢
      refine ⟨_, _, ?_, hgr.1, hgr.2, fun b hb => .inr (hnb b hb)⟩
      simp [Builtin.append_, run_underlying ht, run_underlying hu, sizeOf, typeInfo, zeroValue, hi, hz, asInt, asIntOf, hwm, hm0, hmb, hm, hsne, h63', h48', Question.forced, Builtin.firstCells, newRow, grownCap]
      exact fun h => absurd h (Nat.mul_ne_zero hm hsne)
  · by_cases hroom : n + m ≤ cap
    · have hfit : n * i.size + (Builtin.zeroCells z.cells m).toList.length ≤ cur.size := by rw [Array.length_toList, hnl, hcs, ← Nat.add_mul]; exact Nat.mul_le_mul_right _ hroom
      have hst := run_storeCells_at P g (n * i.size) e (Builtin.zeroCells z.cells m).toList 0 cur w hg (by simpa using hfit) h1
      simp only [Nat.add_zero] at hst
      have hr : (Builtin.append_ #[t, u] ty #[.slice (some ⟨g, 0, none⟩) n cap, .int k (m : Int)]).run P w =
          .ok (.slice (some ⟨g, 0, none⟩) (n + m) cap) (w.setRow g (cur.toList.take (n * i.size) ++ (Builtin.zeroCells z.cells m).toList ++ cur.toList.drop (n * i.size + (Builtin.zeroCells z.cells m).toList.length)).toArray) := by
        by_cases hm : m = 0
        · subst hm
          have he := hzero (Nat.zero_mul _)
          have hw0 : IntKind.i64.wrap 0 = 0 := hwm
          rw [he] at hst ⊢
          simp [Builtin.append_, run_underlying ht, run_underlying hu, sizeOf, typeInfo, hi, asInt, asIntOf, hw0, hnc, Addr.add_lit]
          have hst' : (storeCells ⟨g, n * i.size, none⟩ []).run P w = .ok () (w.setRow g cur) := by simpa using hst
          rw [hst']
          rfl
        · simp [Builtin.append_, run_underlying ht, run_underlying hu, sizeOf, typeInfo, zeroValue, hi, hz, asInt, asIntOf, hwm, hm0, hmb, hm, hsne, hroom, Addr.add_lit, hst]
          exact fun h => absurd h (Nat.mul_ne_zero hm hsne)
      refine ⟨_, _, hr, ⟨hlen, .inr ⟨g, cap, _, rfl, hbg, setRow_heap w g cur _ e _ hg, hroom, hcm, ?_, ?_⟩⟩, ⟨rfl, rfl, rfl, by simp, fun k _ hk => setRow_other w g k _ (fun e => hk (by simp [Value.ownBlock, e]))⟩, fun b hb => .inl hb⟩
      · simp only [List.size_toArray, List.length_append, List.length_take, List.length_drop, Array.length_toList] at hfit ⊢
        omega
      · rw [htake, ← hlen]
        exact List.take_left
    · have hm : m ≠ 0 := by omega
      have holds : ∀ j u, xs[j]? = some u → w.cell? ((⟨g, 0, none⟩ : Addr).add j) = some u := hown.cells (g := g) rfl
      have hn : ¬ (n + m ≤ cap) := by omega
      have h63' : ¬ (9223372036854775807 < ((n : Int) + (m : Int))) := by omega
      have h48' : ¬ (281474976710656 < Builtin.nextslicecap (n + m) cap * i.bytes) := by
        have := growslice_fits (need := n + m) (old := cap) (by omega) hbytes
        omega
      have hfo := run_firstCells_some (P := P) w.drew i.size n ⟨g, 0, none⟩ n cap xs hown.1 (by simpa using holds)
      have hgr := grown cap (by omega) (Value.ownBlock (.slice (some ⟨g, 0, none⟩) n cap))
      have hnb := newb cap
      refine ⟨_, _, ?_, hgr.1, hgr.2, fun b hb => .inr (hnb b hb)⟩
      simp [Builtin.append_, run_underlying ht, run_underlying hu, sizeOf, typeInfo, zeroValue, hi, hz, asInt, asIntOf, hwm, hm0, hmb, hm, hsne, hn, h63', h48', Question.forced, hfo, newRow, grownCap]
      exact fun h => absurd h (Nat.mul_ne_zero hm hsne)
/-- What an operation must do: one step to an environment. -/
def Does (P : Program) (o : Oper) (a : Act) (w : World) (K : Act → World → Prop) : Prop :=
  ∃ w', (∃ v, (execOp a.eval o).run P w = .ok (.value v) w' ∧ K (a.put o.dst v) w') ∨ ((execOp a.eval o).run P w = .ok .skip w' ∧ K (a.put o.dst undef) w')
theorem Does.wp {o : Oper} {K : Act → World → Prop} {Q : Exit → Act → World → Prop} (h : Does P o a w K) : o.wp P a w K Q := by
  unfold Oper.wp
  obtain ⟨w', ⟨v, h1, h2⟩ | ⟨h1, h2⟩⟩ := h
  · rw [h1]; exact h2
  · rw [h1]; exact h2
end
theorem foldl_set (off : Nat) : ∀ (l : List Value) (j : Nat) (cs : Array Value), off + j + l.length ≤ cs.size →
    ((l.zipIdx j).foldl (fun cs (x : Value × Nat) => cs.setIfInBounds (off + x.2) x.1) cs).toList = cs.toList.take (off + j) ++ l ++ cs.toList.drop (off + j + l.length)
  | [], j, cs, _ => by simp
  | v :: l, j, cs, h => by
    have h' : off + (j + 1) + l.length ≤ (cs.setIfInBounds (off + j) v).size := by simp at h ⊢; omega
    have ih := foldl_set off l (j + 1) (cs.setIfInBounds (off + j) v) h'
    simp only [List.zipIdx_cons, List.foldl_cons, ih]
    have e := list_seg_step cs.toList (off + j) v l (by simp at h ⊢; omega)
    simpa [Array.toList_setIfInBounds, Nat.add_assoc] using e
theorem wrap_in (n : Int) (h : -9223372036854775808 ≤ n ∧ n ≤ 9223372036854775807) : IntKind.i64.wrap n = n := IntWalk.i64_in n h
end Go.X
