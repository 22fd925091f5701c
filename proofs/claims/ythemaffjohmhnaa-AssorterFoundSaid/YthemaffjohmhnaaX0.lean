/- Facts on types, memory and single operations of the model, no calculus in sight. -/
import Derived.Below
import Derived.Laws.AppendOwn
import Derived.Laws.AppendOwnNone
import Derived.Laws.MakeOwn
import Derived.Laws.OwnMore
import Derived.IntWalk
import Derived.WalkSpells
import Derived.KernelRfl
namespace Go.X
open Go Go.RowKit
/- TYPES -/
inductive TyK where
  | int (k : IntKind) | bool | string | slice (e : TypeId) | array (len : Nat) (e : TypeId) | struct (offs : List (Nat × Nat)) | iface | other
structure TyI where
  k : TyK
  size : Nat
  bytes : Nat
  zero : Value
def tyK (P : Program) : TypeDesc → Option TyK
  | .int k => some (.int k)
  | .bool => some .bool
  | .string => some .string
  | .slice e => some (.slice e)
  | .array l e => some (.array l e)
  | .struct fs => (fs.toList.mapM (fun f => (P.info? f.type).map fun i => (f.offset, i.size))).map .struct
  | .interface _ => some .iface
  | _ => some .other
def ty (P : Program) (t : TypeId) : Option TyI :=
  match P.info? t, P.underlying t with
  | some i, some d => match i.zero, tyK P d with | some z, some k => some ⟨k, i.size, i.bytes, z⟩ | _, _ => none
  | _, _ => none
theorem ty_spec {P : Program} {t : TypeId} {i : TyI} (h : ty P t = some i) :
    ∃ j d, P.info? t = some j ∧ P.underlying t = some d ∧ j.zero = some i.zero ∧ j.size = i.size ∧ j.bytes = i.bytes ∧ tyK P d = some i.k := by
  unfold ty at h
  cases hi : P.info? t with
  | none => simp [hi] at h
  | some j =>
    cases hd : P.underlying t with
    | none => simp [hi, hd] at h
    | some d =>
      cases hz : j.zero with
      | none => simp [hi, hd, hz] at h
      | some z =>
        cases hk : tyK P d with
        | none => simp [hi, hd, hz, hk] at h
        | some k => simp [hi, hd, hz, hk] at h; subst h; exact ⟨j, d, rfl, rfl, hz, rfl, rfl, hk⟩
theorem tyK_slice {P : Program} {d : TypeDesc} {e : TypeId} (h : tyK P d = some (.slice e)) : d = .slice e := by
  cases d <;> simp [tyK] at h
  exact congrArg _ h
theorem tyK_array {P : Program} {d : TypeDesc} {l : Nat} {e : TypeId} (h : tyK P d = some (.array l e)) : d = .array l e := by
  cases d <;> simp [tyK] at h
  simp [h]
theorem tyK_int {P : Program} {d : TypeDesc} {k : IntKind} (h : tyK P d = some (.int k)) : d = .int k := by
  cases d <;> simp [tyK] at h
  simp [h]
theorem tyK_bool {P : Program} {d : TypeDesc} (h : tyK P d = some .bool) : d = .bool := by
  cases d <;> simp [tyK] at h
  rfl
theorem tyK_string {P : Program} {d : TypeDesc} (h : tyK P d = some .string) : d = .string := by
  cases d <;> simp [tyK] at h
  rfl
theorem tyK_struct {P : Program} {d : TypeDesc} {l : List (Nat × Nat)} (h : tyK P d = some (.struct l)) :
    ∃ fs, d = .struct fs ∧ fs.toList.mapM (fun f => (P.info? f.type).map fun i => (f.offset, i.size)) = some l := by
  cases d with
  | struct fs => exact ⟨fs, rfl, by simpa [tyK] using h⟩
  | _ => simp [tyK] at h
/-- A variable of type t is more than one cell. -/
def TyI.agg (i : TyI) : Bool := match i.k with | .struct _ | .array _ _ => true | _ => false
/- FRAMES AND WORLDS -/
def tmv (a : Act) (t : Nat) : Value := a.tmps.getD t undef
theorem tmv_eval (a : Act) (t : Nat) : a.eval (.tmp t) = tmv a t := rfl
theorem tmv_put_same {a : Act} {d : Nat} {v : Value} (h : d < a.tmps.size) : tmv (a.put (some d) v) d = v := by
  simp [tmv, Act.put, h]
theorem tmv_put_ne {a : Act} {d t : Nat} {v : Value} (h : t ≠ d) : tmv (a.put (some d) v) t = tmv a t := by
  simp [tmv, Act.put, Ne.symm h]
/-- w' is w with more blocks. -/
structure Ext (w w' : World) : Prop where
  os : w'.os = w.os
  tape : w'.tape = w.tape
  output : w'.output = w.output
  size : w.heap.size ≤ w'.heap.size
  block : ∀ k, k < w.heap.size → w'.heap[k]? = w.heap[k]?
theorem Ext.refl (w : World) : Ext w w := ⟨rfl, rfl, rfl, Nat.le_refl _, fun _ _ => rfl⟩
theorem Ext.alloc (w : World) (o : Obj) : Ext w (w.alloc o) := ⟨rfl, rfl, rfl, by simp, fun k hk => Go.heap_alloc_old w o hk⟩
theorem Ext.drew {w w' : World} (h : Ext w w') : Ext w w'.drew := ⟨h.os, h.tape, h.output, h.size, h.block⟩
theorem Ext.trans {a b c : World} (h : Ext a b) (k : Ext b c) : Ext a c :=
  ⟨k.os.trans h.os, k.tape.trans h.tape, k.output.trans h.output, Nat.le_trans h.size k.size, fun i hi => (k.block i (Nat.lt_of_lt_of_le hi h.size)).trans (h.block i hi)⟩
/-- w' is w but for block b. -/
structure WB (w w' : World) (b : Nat) : Prop where
  os : w'.os = w.os
  tape : w'.tape = w.tape
  output : w'.output = w.output
  size : w'.heap.size = w.heap.size
  block : ∀ k, k ≠ b → w'.heap[k]? = w.heap[k]?
theorem WB.setRow (w : World) (b : Nat) (cs : Array Value) : WB w (w.setRow b cs) b := ⟨rfl, rfl, rfl, by simp [World.setRow], fun k hk => setRow_other w b k cs hk⟩
theorem cell_same {w w' : World} {b o : Nat} {u : Value} (h : w'.heap[b]? = w.heap[b]?) (hc : w.cell? ⟨b, o, none⟩ = some u) : w'.cell? ⟨b, o, none⟩ = some u :=
  (World.cell?_of_block (w := w) (a := ⟨b, o, none⟩) h).trans hc
section
variable {P : Program} {w : World} {a : Act}
theorem addr_add (b o n : Nat) : (⟨b, o, none⟩ : Addr).add n = ⟨b, o + n, none⟩ := by
  unfold Addr.add
  split
  · rename_i h; subst h; rfl
  · rfl
theorem mapM_get {α β : Type} (f : α → Option β) : ∀ (l : List α) (r : List β), l.mapM f = some r → ∀ (k : Nat) (y : β), r[k]? = some y → ∃ x, l[k]? = some x ∧ f x = some y
  | [], r, h, k, y, hk => by simp at h; subst h; simp at hk
  | x :: l, r, h, k, y, hk => by
    simp only [List.mapM_cons, Option.bind_eq_bind, Option.pure_def] at h
    cases hx : f x with
    | none => simp [hx] at h
    | some u =>
      cases hl : l.mapM f with
      | none => simp [hx, hl] at h
      | some rest =>
        simp [hx, hl] at h
        subst h
        cases k with
        | zero => simp at hk; subst hk; exact ⟨x, rfl, hx⟩
        | succ k =>
          simp at hk
          obtain ⟨x', h1, h2⟩ := mapM_get f l rest hl k y hk
          exact ⟨x', by simpa using h1, h2⟩
theorem run_fieldAt_at {s f off sz : Nat} {i : TyI} {offs : List (Nat × Nat)} (hty : ty P s = some i) (hk : i.k = .struct offs) (hf : offs[f]? = some (off, sz)) (hsz : sz ≠ 0) (b o : Nat) (w : World) :
    (Instr.fieldAt s (.pointer (some ⟨b, o, none⟩)) f).run P w = .ok (.pointer (some ⟨b, o + off, none⟩)) w := by
  obtain ⟨j, d, hi, hd, _, _, _, hkd⟩ := ty_spec hty
  obtain ⟨fs, rfl, hm⟩ := tyK_struct (hkd.trans (congrArg some hk))
  obtain ⟨fl, h1, h2⟩ := mapM_get _ _ _ hm f (off, sz) hf
  cases hinf : P.info? fl.type with
  | none => simp [hinf] at h2
  | some ti =>
    simp [hinf] at h2
    obtain ⟨h3, h4⟩ := h2
    have h5 : fs[f]? = some fl := by rw [← Array.getElem?_toList]; exact h1
    subst h3 h4
    simp [Instr.fieldAt, run_underlying hd, h5, Instr.sureAddr, fieldPlace, sizeOf, typeInfo, hinf, hsz, addr_add]
theorem run_indexAt_in {t e : TypeId} {i te : TyI} (hty : ty P t = some i) (hk : i.k = .slice e) (hte : ty P e = some te) (b o len cap : Nat) (k : IntKind) (x : Int) (h0 : 0 ≤ x) (h1 : x < len) (w : World) :
    (Instr.indexAt t (.slice (some ⟨b, o, none⟩) len cap) (.int k x)).run P w = .ok (.pointer (some ⟨b, o + x.toNat * te.size, none⟩)) w := by
  obtain ⟨j, d, hi, hd, _, _, _, hkd⟩ := ty_spec hty
  have := tyK_slice (hkd.trans (congrArg some hk))
  subst this
  obtain ⟨j', d', hi', hd', _, hs', _, hk'⟩ := ty_spec hte
  simp [Instr.indexAt, asIntOf, run_underlying hd, h0, h1, sizeOf, typeInfo, hi', hs', addr_add]
theorem run_indexAt_arr {t e len : Nat} {i te : TyI} (hty : ty P t = some i) (hk : i.k = .array len e) (hte : ty P e = some te) (b o : Nat) (k : IntKind) (x : Int) (h0 : 0 ≤ x) (h1 : x < len) (w : World) :
    (Instr.indexAt t (.pointer (some ⟨b, o, none⟩)) (.int k x)).run P w = .ok (.pointer (some ⟨b, o + x.toNat * te.size, none⟩)) w := by
  obtain ⟨j, d, hi, hd, _, _, _, hkd⟩ := ty_spec hty
  have := tyK_array (hkd.trans (congrArg some hk))
  subst this
  obtain ⟨j', d', hi', hd', _, hs', _, hk'⟩ := ty_spec hte
  simp [Instr.indexAt, asIntOf, run_underlying hd, Instr.sureAddr, h0, h1, sizeOf, typeInfo, hi', hs', addr_add]
/-- A shared or borrowed slice's row is a place to read. -/
theorem isAgg_run {t : TypeId} {i : TyI} (hty : ty P t = some i) (w : World) : (isAgg t).run P w = .ok i.agg w := by
  obtain ⟨j, d, hi, hd, _, _, _, hk⟩ := ty_spec hty
  unfold isAgg
  rw [Sem.run_bind, run_underlying hd w]
  unfold TyI.agg
  cases d <;> simp [tyK] at hk <;> first | (obtain ⟨_, _, hk⟩ := hk; rw [← hk]; rfl) | (rw [← hk]; rfl)
theorem run_storeAt {t : TypeId} {i : TyI} (hty : ty P t = some i) {b o : Nat} {cs : Array Value} {E : TypeId} (hg : w.heap[b]? = some (.cells cs E (0, 0))) {v : Value} (hsz : v.cells.size = i.size) (hfit : o + i.size ≤ cs.size)
    (h1 : ∀ u ∈ v.cells.toList, u.oneCell' = true) :
    (Instr.storeAt t (.pointer (some ⟨b, o, none⟩)) v).run P w = .ok () (w.setRow b (cs.toList.take o ++ v.cells.toList ++ cs.toList.drop (o + v.cells.toList.length)).toArray) := by
  obtain ⟨j, d, hi, hd, _, hs, _, hk⟩ := ty_spec hty
  have hst := run_storeCells_at P b o E v.cells.toList 0 cs w hg (by simp; omega) h1
  simp only [Nat.add_zero] at hst
  simp only [Instr.storeAt, Instr.sureAddr, storeVar, sizeOf, typeInfo, Sem.run_bind, Sem.run_pure, Result.andThen_ok, run_program, hi, hs, hsz, ne_eq, not_true_eq_false, if_false, hst]
theorem run_append_own2 (t ty e : TypeId) (i : TypeInfo) (z : Value) (size bytes : Nat) (ht : P.underlying t = some (.slice e)) (hi : P.info? e = some i) (hz : i.zero = some z)
    (hsize : i.size = size) (hby : i.bytes = bytes) (hzs : z.cells.size = size) (hsz : 0 < size) (v : Value) (n : Nat) (xs : List Value) (hown : w.ownsRow 0 e size v n xs)
    (ad : Addr) (m cp : Nat) (news : List Value) (hl : news.length = m * size) (hnews : ∀ j u, news[j]? = some u → w.cell? (ad.add j) = some u) (h1 : ∀ u ∈ news, u.oneCell' = true)
    (h63 : n + m ≤ maxLen) (hbytes : (n + m) * bytes ≤ 140737488355328) :
    ∃ v' w', (Builtin.append_ #[t, t] ty #[v, .slice (some ad) m cp]).run P w = .ok v' w' ∧ w'.ownsRow 0 e size v' (n + m) (xs ++ news) ∧ w.grownBy w' v.ownBlock ∧
      (∀ b, v'.ownBlock = some b → v.ownBlock = some b ∨ (b = w.heap.size ∧ b < w'.heap.size)) := by
  obtain ⟨v', w', hr, ho, hg, hnil⟩ := run_append_own (P := P) w 0 t ty e i z size bytes ht hi hz hsize hby hzs hsz v n xs hown ad m cp news hl hnews h1 h63 hbytes (Nat.zero_le _)
  refine ⟨v', w', hr, ho, hg, fun b hb => ?_⟩
  have hsmall : n + m ≤ 9223372036854775807 := by simp only [maxLen] at h63; omega
  subst hsize hby
  rcases hown.2 with ⟨rfl, rfl⟩ | ⟨g, cap, cur, rfl, hbg, hgg, hnc, hcm, hcs, htake⟩
  · by_cases hm : m = 0
    · have := hnil.2 ⟨rfl, hm⟩
      rw [this] at hb; cases hb
    · have h2 := run_append_nil (P := P) w t ty e i z ht hi hz ad m cp news hl hnews (by omega) (by omega) (by simp only [Nat.zero_add] at hbytes; omega)
      rw [h2] at hr
      cases hr
      simp only [Value.ownBlock] at hb
      cases hb
      exact .inr ⟨rfl, by simp⟩
  · by_cases hroom : n + m ≤ cap
    · have hfit : n * i.size + news.length ≤ cur.size := by rw [hl, hcs, ← Nat.add_mul]; exact Nat.mul_le_mul_right _ hroom
      have h2 := run_append_room (P := P) w t ty e i ht hi g n cap cur hgg ad m cp news hl hnews h1 hroom hfit
      rw [h2] at hr
      cases hr
      exact .inl hb
    · have holds : ∀ j u, xs[j]? = some u → w.cell? ((⟨g, 0, none⟩ : Addr).add j) = some u := hown.cells (g := g) rfl
      have h2 := run_append_grow (P := P) w t ty e i z ht hi hz ⟨g, 0, none⟩ n cap xs hown.1 holds ad m cp news hl hnews (by omega) (by omega) (growslice_fits (by omega) hbytes)
      rw [h2] at hr
      cases hr
      simp only [Value.ownBlock] at hb
      cases hb
      exact .inr ⟨rfl, by simp⟩
/-- What an operation must do: one step to an environment. -/
def Does (P : Program) (o : Oper) (a : Act) (w : World) (K : Act → World → Prop) : Prop :=
  ∃ w', (∃ v, (execOp a.eval o).run P w = .ok (.value v) w' ∧ K (a.put o.dst v) w') ∨ ((execOp a.eval o).run P w = .ok .skip w' ∧ K (a.put o.dst undef) w')
theorem Does.wp {o : Oper} {K : Act → World → Prop} {Q : Exit → Act → World → Prop} (h : Does P o a w K) : o.wp P a w K Q := by
  unfold Oper.wp
  obtain ⟨w', ⟨v, h1, h2⟩ | ⟨h1, h2⟩⟩ := h
  · rw [h1]; exact h2
  · rw [h1]; exact h2
end
theorem foldl_set (off : Nat) : ∀ (l : List Value) (j : Nat) (cs : Array Value), off + j + l.length ≤ cs.size →
    ((l.zipIdx j).foldl (fun cs (x : Value × Nat) => cs.setIfInBounds (off + x.2) x.1) cs).toList = cs.toList.take (off + j) ++ l ++ cs.toList.drop (off + j + l.length)
  | [], j, cs, _ => by simp
  | v :: l, j, cs, h => by
    have h' : off + (j + 1) + l.length ≤ (cs.setIfInBounds (off + j) v).size := by simp at h ⊢; omega
    have ih := foldl_set off l (j + 1) (cs.setIfInBounds (off + j) v) h'
    simp only [List.zipIdx_cons, List.foldl_cons, ih]
    have e := list_seg_step cs.toList (off + j) v l (by simp at h ⊢; omega)
    simpa [Array.toList_setIfInBounds, Nat.add_assoc] using e
theorem wrap_in (n : Int) (h : -9223372036854775808 ≤ n ∧ n ≤ 9223372036854775807) : IntKind.i64.wrap n = n := IntWalk.i64_in n h
end Go.X
