/- Operations that only read: their entries, and why these are right. -/
import Derived.Test.YthemaffjohmhnaaX11
set_option linter.unusedSimpArgs false
set_option linter.unusedVariables false
namespace Go.X
open Go Go.RowKit
/-- No memory behind it. -/
def Ty.flat : Ty → Bool
  | .int _ | .bool | .str | .unit | .nilI => true
  | .pair a b => a.flat && b.flat
  | .arr _ t => t.flat
  | .alt _ a b => a.flat && b.flat
  | _ => false
def nm (t : Ty) (m : Md) : Md := if t.flat && live t m then .sh else m
def ires (k : IntKind) (n : Int) : TV := ⟨.int k, k.wrap n⟩
def bres (b : Bool) : TV := ⟨.bool, b⟩
def iop (op : BinOp) (k : IntKind) (x y : Int) : Option (Bool × TV) :=
  match op with
  | .add => some (true, ires k (x + y))
  | .sub => some (true, ires k (x - y))
  | .mul => some (true, ires k (x * y))
  | .quo => some (!decide (y = 0), ires k (x.tdiv y))
  | .rem => some (!decide (y = 0), ires k (x.tmod y))
  | .and => some (true, ires k (BitVec.ofInt k.bits x &&& BitVec.ofInt k.bits y).toNat)
  | .or => some (true, ires k (BitVec.ofInt k.bits x ||| BitVec.ofInt k.bits y).toNat)
  | .xor => some (true, ires k (BitVec.ofInt k.bits x ^^^ BitVec.ofInt k.bits y).toNat)
  | .andNot => some (true, ires k (BitVec.ofInt k.bits x &&& ~~~(BitVec.ofInt k.bits y)).toNat)
  | .eql => some (true, bres (decide (x = y)))
  | .neq => some (true, bres (!decide (x = y)))
  | .lss => some (true, bres (decide (x < y)))
  | .leq => some (true, bres (decide (x ≤ y)))
  | .gtr => some (true, bres (decide (y < x)))
  | .geq => some (true, bres (decide (y ≤ x)))
  | _ => none
def bin2 (op : BinOp) (a b : TV) : Option (Bool × TV) :=
  match a, b with
  | ⟨.int k, x⟩, ⟨.int k', y⟩ => match op with
    | .shl => some (decide (0 ≤ (y : Int)), ires k ((x : Int) * 2 ^ (min (y : Int).toNat k.bits)))
    | .shr => some (decide (0 ≤ (y : Int)), ires k ((x : Int).fdiv (2 ^ (min (y : Int).toNat k.bits))))
    | op => if k = k' then iop op k x y else none
  | ⟨.bool, x⟩, ⟨.bool, y⟩ => match op with
    | .eql => some (true, bres ((x : Bool) == y))
    | .neq => some (true, bres (!((x : Bool) == y)))
    | _ => none
  | ⟨.str, x⟩, ⟨.str, y⟩ => match op with
    | .eql => some (true, bres (decide ((x : List Int) = y)))
    | .neq => some (true, bres (!decide ((x : List Int) = y)))
    | _ => none
  | _, _ => none
/-- Structs of n integers compared. -/
def eqTV : Nat → (a b : Ty) → a.den → b.den → Option Bool
  | 1, .pair (.int k) .unit, .pair (.int k') .unit, x, y => if k = k' then some (decide ((x.1 : Int) = y.1)) else none
  | 2, .pair (.int k) (.int l), .pair (.int k') (.int l'), x, y => if k = k' ∧ l = l' then some (decide ((x.1 : Int) = y.1) && decide ((x.2 : Int) = y.2)) else none
  | n + 3, .pair (.int k) b, .pair (.int k') b', x, y => if k = k' then (eqTV (n + 2) b b' x.2 y.2).map fun r => decide ((x.1 : Int) = y.1) && r else none
  | _, _, _, _, _ => none
def eqS (i : TyI) (op : BinOp) (a b : Ty) (m m' : Md) (u : a.den) (v : b.den) : Option Bool :=
  match op, i.k with
  | .eql, .struct offs => if i.eqs = true ∧ (m = .sh ∨ m = .bw) ∧ (m' = .sh ∨ m' = .bw) then eqTV offs.length a b u v else none
  | _, _ => none
def un1 (op : UnOp) (a : TV) : Option TV :=
  match op, a with
  | .not, ⟨.bool, b⟩ => some (bres !b)
  | .neg, ⟨.int k, n⟩ => some (ires k (0 - (n : Int)))
  | .xor, ⟨.int k, n⟩ => some (ires k (BitVec.ofInt k.bits (if k.signed then -1 else k.max) ^^^ BitVec.ofInt k.bits (n : Int)).toNat)
  | _, _ => none
section
variable {P : Program}
theorem wrap_wrap (k : IntKind) (n : Int) : k.wrap (k.wrap n) = k.wrap n := by
  cases k <;> simp only [IntKind.wrap, IntKind.bits, IntKind.signed] <;> simp <;> (repeat' split) <;> omega
theorem wrap_bounds (k : IntKind) {n : Int} (h : k.wrap n = n) : k.min ≤ n ∧ n ≤ k.max := by
  cases k <;> simp only [IntKind.wrap, IntKind.bits, IntKind.signed, IntKind.min, IntKind.max] at h ⊢ <;> simp at h ⊢ <;> (repeat' split at h) <;> omega
theorem wrap_of_bounds (k : IntKind) {n : Int} (h0 : k.min ≤ n) (h1 : n ≤ k.max) : k.wrap n = n := by
  cases k <;> simp only [IntKind.wrap, IntKind.bits, IntKind.signed, IntKind.min, IntKind.max] at h0 h1 ⊢ <;> simp at h0 h1 ⊢ <;> (repeat' split) <;> omega
theorem SR.int_inv {k : IntKind} {S : St} {m : Md} {p : Place} {x : Int} {v : Value} (h : SR P (.int k) S m p x v) (hm : m ≠ .dead) : v = .int k x ∧ k.wrap x = x := by
  have h1 : vcells (.int k) v 0 = some (.int k x) ∧ k.wrap x = x := by cases m <;> first | exact absurd rfl hm | exact h.1
  simpa [vcells, Ty.agg] using h1
theorem SR.bool_inv {S : St} {m : Md} {p : Place} {x : Bool} {v : Value} (h : SR P .bool S m p x v) (hm : m ≠ .dead) : v = .bool x := by
  have h1 : vcells .bool v 0 = some (.bool x) := by cases m <;> first | exact absurd rfl hm | exact h.1
  simpa [vcells, Ty.agg] using h1
theorem SR.str_inv {S : St} {m : Md} {p : Place} {x : List Int} {v : Value} (h : SR P .str S m p x v) (hm : m ≠ .dead) : ∃ s : ByteArray, v = .string s ∧ s.data.toList.map (fun c => (c.toNat : Int)) = x ∧ x.length ≤ maxL := by
  have h1 : ∃ s : ByteArray, vcells .str v 0 = some (.string s) ∧ s.data.toList.map (fun c => (c.toNat : Int)) = x ∧ x.length ≤ maxL := by cases m <;> first | exact absurd rfl hm | exact h.1
  obtain ⟨s, h2, h3⟩ := h1
  exact ⟨s, by simpa [vcells, Ty.agg] using h2, h3⟩
theorem SR.of_int {k : IntKind} {S : St} {p : Place} (n : Int) : SR P (.int k) S .sh p (k.wrap n) (.int k (k.wrap n)) := ⟨⟨by simp [vcells, Ty.agg], wrap_wrap k n⟩, fun h => by cases h⟩
theorem SR.of_int' {k : IntKind} {S : St} {p : Place} {n : Int} (h : k.wrap n = n) : SR P (.int k) S .sh p n (.int k n) := ⟨⟨by simp [vcells, Ty.agg], h⟩, fun h => by cases h⟩
theorem SR.of_bool {S : St} {p : Place} (b : Bool) : SR P .bool S .sh p b (.bool b) := ⟨by show vcells .bool _ 0 = _; simp [vcells, Ty.agg], fun h => by cases h⟩
/-- A result that stands in a slot. -/
def Stands (P : Program) (S : St) (y : TV) (v : Value) : Prop := ∀ p, SR P y.t S .sh p y.x v
theorem stands_int (P : Program) (S : St) (k : IntKind) (n : Int) : Stands P S (ires k n) (.int k (k.wrap n)) := fun _ => SR.of_int n
theorem stands_bool (P : Program) (S : St) (b : Bool) : Stands P S (bres b) (.bool b) := fun _ => SR.of_bool b
theorem tmod_wrap (k : IntKind) (x y : Int) (h : k.wrap x = x) : k.wrap (x.tmod y) = x.tmod y := by
  obtain ⟨h0, h1⟩ := wrap_bounds k h
  have hm : (x.tmod y).natAbs ≤ x.natAbs := by
    rw [Int.natAbs_tmod]; exact Nat.mod_le _ _
  have hs : 0 ≤ x → 0 ≤ x.tmod y := fun h => Int.tmod_nonneg _ h
  have hs' : x ≤ 0 → x.tmod y ≤ 0 := fun h => by
    have := Int.tmod_nonneg (a := -x) y (by omega)
    rw [Int.neg_tmod] at this
    omega
  have hmin : k.min ≤ 0 := by cases k <;> simp [IntKind.min, IntKind.signed, IntKind.bits]
  have hmax : 0 ≤ k.max := by cases k <;> simp [IntKind.max, IntKind.signed, IntKind.bits]
  refine wrap_of_bounds k ?_ ?_
  · rcases Int.le_total 0 x with h | h
    · have := hs h; omega
    · have := hs' h; omega
  · rcases Int.le_total 0 x with h | h
    · have := hs h; omega
    · have := hs' h; omega
theorem fdiv_wrap (k : IntKind) (x : Int) (n : Nat) (h : k.wrap x = x) : k.wrap (x.fdiv (2 ^ n)) = x.fdiv (2 ^ n) := by
  obtain ⟨h0, h1⟩ := wrap_bounds k h
  have hp : (0 : Int) < 2 ^ n := Int.pow_pos (by omega)
  have hmin : k.min ≤ 0 := by cases k <;> simp [IntKind.min, IntKind.signed, IntKind.bits]
  have hmax : 0 ≤ k.max := by cases k <;> simp [IntKind.max, IntKind.signed, IntKind.bits]
  rw [Int.fdiv_eq_ediv_of_nonneg _ (Int.le_of_lt hp)]
  have h2 := Int.mul_ediv_add_emod x (2 ^ n)
  have h3 := Int.emod_nonneg x (Int.ne_of_gt hp)
  have h4 := Int.emod_lt_of_pos x hp
  generalize x / 2 ^ n = q at *
  generalize (2 : Int) ^ n = p at *
  have hpq : ∀ (q : Int), 0 ≤ q → q ≤ p * q := fun q hq => by
    have := Int.mul_le_mul_of_nonneg_right (show (1 : Int) ≤ p from hp) hq
    omega
  refine wrap_of_bounds k ?_ ?_
  · rcases Int.le_total 0 q with h | h
    · omega
    · have h5 := hpq (-q) (by omega)
      rw [Int.mul_neg] at h5
      rcases Int.le_total 0 x with hx | hx
      · have hq : ¬ q < 0 := fun h6 => by
          have := hpq (-q - 1) (by omega)
          rw [Int.mul_sub, Int.mul_neg, Int.mul_one] at this
          omega
        have : q = 0 := by omega
        rw [this]
        exact hmin
      · have : q < 0 ∨ q = 0 := by omega
        rcases this with h6 | h6
        · have := hpq (-q - 1) (by omega)
          rw [Int.mul_sub, Int.mul_neg, Int.mul_one] at this
          omega
        · omega
  · rcases Int.le_total 0 q with h | h
    · have := hpq q h; omega
    · omega
theorem stands_wrapped {S : St} {k : IntKind} {n : Int} (h : k.wrap n = n) : Stands P S (ires k n) (.int k n) := fun p => by
  have := SR.of_int (P := P) (S := S) (p := p) (k := k) n
  rw [h] at this
  show SR P (.int k) S .sh p (k.wrap n) (.int k n)
  rw [h]
  exact this
theorem run_iop {S : St} {op : BinOp} {k : IntKind} {x y : Int} {ob : Bool} {z : TV} (h : iop op k x y = some (ob, z)) (hob : ob = true) (hx : k.wrap x = x) (t : TypeId) (w : World) :
    ∃ v, (binOp op t (.int k x) (.int k y)).run P w = .ok v w ∧ Stands P S z v := by
  unfold iop at h
  split at h <;> first | (cases h; done) | (simp only [Option.some.injEq, Prod.mk.injEq] at h; obtain ⟨rfl, rfl⟩ := h)
  · exact ⟨_, by simp [binOp, Op.intArith], stands_int P S k _⟩
  · exact ⟨_, by simp [binOp, Op.intArith], stands_int P S k _⟩
  · exact ⟨_, by simp [binOp, Op.intArith], stands_int P S k _⟩
  · have hy : y ≠ 0 := by simpa using hob
    exact ⟨_, by simp [binOp, Op.intDiv, hy] <;> rfl, stands_int P S k _⟩
  · have hy : y ≠ 0 := by simpa using hob
    exact ⟨.int k (x.tmod y), by simp [binOp, Op.intDiv, hy], stands_wrapped (tmod_wrap k x y hx)⟩
  · exact ⟨_, by simp [binOp, Op.intBits] <;> rfl, stands_int P S k _⟩
  · exact ⟨_, by simp [binOp, Op.intBits] <;> rfl, stands_int P S k _⟩
  · exact ⟨_, by simp [binOp, Op.intBits] <;> rfl, stands_int P S k _⟩
  · exact ⟨_, by simp [binOp, Op.intBits] <;> rfl, stands_int P S k _⟩
  · exact ⟨.bool (decide (x = y)), by simp [binOp, Op.intCmp] <;> rfl, stands_bool P S _⟩
  · exact ⟨.bool (!decide (x = y)), by simp [binOp, Op.intCmp] <;> rfl, stands_bool P S _⟩
  · exact ⟨.bool (decide (x < y)), by simp [binOp, Op.intCmp], stands_bool P S _⟩
  · exact ⟨.bool (decide (x ≤ y)), by simp [binOp, Op.intCmp], stands_bool P S _⟩
  · exact ⟨.bool (decide (y < x)), by simp [binOp, Op.intCmp], stands_bool P S _⟩
  · exact ⟨.bool (decide (y ≤ x)), by simp [binOp, Op.intCmp], stands_bool P S _⟩
theorem flds_pair {n : Nat} {t : Ty} {fs : List Ty} (h : flds n t = some fs) : ∃ a b, t = .pair a b := by
  cases t <;> first | exact ⟨_, _, rfl⟩ | (exfalso; match n, h with
    | 0, h => simp [flds] at h
    | 1, h => simp [flds] at h
    | 2, h => simp [flds] at h
    | n + 3, h => simp [flds] at h)
theorem kindOK_bool {T : Tab} {k : TyK} (h : kindOK T k .bool = true) : k = .bool := by
  cases k <;> simp only [kindOK] at h <;> first | rfl | (cases h; done) | skip
  split at h
  · rename_i hf; obtain ⟨a, b, h⟩ := flds_pair hf; cases h
  · cases h
theorem kindOK_str {T : Tab} {k : TyK} (h : kindOK T k .str = true) : k = .string := by
  cases k <;> simp only [kindOK] at h <;> first | rfl | (cases h; done) | skip
  split at h
  · rename_i hf; obtain ⟨a, b, h⟩ := flds_pair hf; cases h
  · cases h
theorem kindOK_int {T : Tab} {k : TyK} {ik : IntKind} (h : kindOK T k (.int ik) = true) : k = .int ik := by
  cases k <;> simp only [kindOK] at h <;> first | (rw [of_decide_eq_true h]; done) | (cases h; done) | skip
  split at h
  · rename_i hf; obtain ⟨a, b, h⟩ := flds_pair hf; cases h
  · cases h
theorem kindOK_slice {T : Tab} {k : TyK} {s : Ty} (h : kindOK T k (.slice s) = true) : ∃ e i, k = .slice e ∧ tl T e = some (i, s) ∧ 0 < s.size := by
  cases k <;> simp only [kindOK] at h <;> first | (cases h; done) | skip
  · rename_i e
    split at h
    · rename_i s1 i s2 hs1 hs2
      simp only [Bool.and_eq_true, decide_eq_true_eq] at h
      cases hs1
      exact ⟨e, i, rfl, by rw [hs2, h.1], h.2⟩
    · cases h
  · split at h
    · rename_i hf; obtain ⟨a, b, h⟩ := flds_pair hf; cases h
    · cases h
theorem kindOK_arr {T : Tab} {k : TyK} {n : Nat} {s : Ty} (h : kindOK T k (.arr n s) = true) : ∃ e i, k = .array n e ∧ tl T e = some (i, s) := by
  cases k <;> simp only [kindOK] at h <;> first | (cases h; done) | skip
  · rename_i n' e
    split at h
    · rename_i n2 s1 i s2 hs1 hs2
      simp only [Bool.and_eq_true, decide_eq_true_eq] at h
      cases hs1
      exact ⟨e, i, by rw [h.1], by rw [hs2, h.2]⟩
    · cases h
  · split at h
    · rename_i hf; obtain ⟨a, b, h⟩ := flds_pair hf; cases h
    · cases h
theorem kindOK_struct {T : Tab} {t : Ty} {offs : List (Nat × Nat)} (h : kindOK T (.struct offs) t = true) : ∃ fs, flds offs.length t = some fs ∧ offs = offsFrom 0 fs := by
  simp only [kindOK] at h
  split at h
  · rename_i fs hf; exact ⟨fs, hf, of_decide_eq_true h⟩
  · cases h
theorem TabOK.kind {T : Tab} (hT : TabOK P T) {id : TypeId} {i : TyI} {t : Ty} (h : tl T id = some (i, t)) : ty P id = some i ∧ i.size = t.size ∧ i.agg = t.agg ∧ kindOK T i.k t = true := by
  obtain ⟨h1, h2⟩ := hT id i t h
  simp only [agree, Bool.and_eq_true, decide_eq_true_eq] at h2
  exact ⟨h1, h2.1.1, h2.1.2, h2.2⟩
theorem u8_inj {x y : ByteArray} : (x.data.toList = y.data.toList) ↔ (x.data.toList.map (fun c => (c.toNat : Int)) = y.data.toList.map (fun c => (c.toNat : Int))) := by
  refine ⟨fun h => by rw [h], fun h => ?_⟩
  have : ∀ (l m : List UInt8), l.map (fun c => (c.toNat : Int)) = m.map (fun c => (c.toNat : Int)) → l = m := by
    intro l
    induction l with
    | nil => intro m h; cases m <;> simp at h ⊢
    | cons a l ih =>
      intro m h
      cases m with
      | nil => simp at h
      | cons b m =>
        simp only [List.map_cons, List.cons.injEq] at h
        rw [ih m h.2]
        have : a.toNat = b.toNat := by omega
        rw [UInt8.toNat_inj.1 this]
  exact this _ _ h
/-- The kinds of two operands tell what an operation on them does. -/
theorem run_bin2 {S : St} {op : BinOp} {t : TypeId} {x y z : TV} {m m' : Md} {p p' : Place} {u v : Value} {ob : Bool} {tt : Tab} (hT : TabOK P tt) {i : TyI} (ht : tl tt t = some (i, x.t)) (hx : SR P x.t S m p x.x u) (hy : SR P y.t S m' p' y.x v) (hm : m ≠ .dead) (hm' : m' ≠ .dead)
    (h : bin2 op x y = some (ob, z)) (hob : ob = true) (a b : Operand) (w : World) :
    ∃ r, (do eqGuard op t a b u v; binOp op t u v : Sem Value).run P w = .ok r w ∧ Stands P S z r := by
  have hty := hT t i x.t ht
  obtain ⟨j, d, hi, hd, hz, hs, hb, hk⟩ := ty_spec hty.1
  have hkind : kindOK tt i.k x.t = true := by
    have := hty.2
    simp only [agree, Bool.and_eq_true] at this
    exact this.2
  have guard : ∀ {u v : Value}, u ≠ .nilIface → (∀ cs, u ≠ .agg cs) → (eqGuard op t a b u v).run P w = .ok () w := fun {u v} hu hv => by
    unfold eqGuard
    cases op <;> first | rfl | (cases u <;> first | rfl | exact absurd rfl hu | exact absurd rfl (hv _) | (cases v <;> rfl))
  unfold bin2 at h
  split at h
  · rename_i k xx k' yy
    obtain ⟨rfl, hwx⟩ := hx.int_inv hm
    obtain ⟨rfl, hwy⟩ := hy.int_inv hm'
    simp only [Sem.run_bind, guard (show Value.int k xx ≠ .nilIface from by simp) (by simp), Result.andThen_ok]
    split at h
    · simp only [Option.some.injEq, Prod.mk.injEq] at h
      obtain ⟨rfl, rfl⟩ := h
      have hy0 : ¬ (yy : Int) < 0 := Int.not_lt.2 (by simpa using hob)
      exact ⟨_, by simp [binOp, Op.shift, hy0] <;> rfl, stands_int P S k _⟩
    · simp only [Option.some.injEq, Prod.mk.injEq] at h
      obtain ⟨rfl, rfl⟩ := h
      have hy0 : ¬ (yy : Int) < 0 := Int.not_lt.2 (by simpa using hob)
      exact ⟨_, by simp [binOp, Op.shift, hy0] <;> rfl, stands_wrapped (fdiv_wrap k _ _ hwx)⟩
    · split at h
      · rename_i hk
        subst hk
        exact run_iop h hob hwx t w
      · cases h
  · rename_i xx yy
    have := hx.bool_inv hm
    subst this
    have := hy.bool_inv hm'
    subst this
    simp only [Sem.run_bind, guard (show Value.bool xx ≠ .nilIface from by simp) (by simp), Result.andThen_ok]
    have hbool : d = .bool := tyK_bool (by rw [← kindOK_bool hkind]; exact hk)
    subst hbool
    split at h <;> first | (cases h; done) | (simp only [Option.some.injEq, Prod.mk.injEq] at h; obtain ⟨rfl, rfl⟩ := h)
    · exact ⟨_, run_eql_bool (P := P) w t _ _ hd, stands_bool P S _⟩
    · exact ⟨_, run_neq_bool (P := P) w t _ _ hd, stands_bool P S _⟩
  · rename_i xx yy
    obtain ⟨s, rfl, h1, _⟩ := hx.str_inv hm
    obtain ⟨s', rfl, h2, _⟩ := hy.str_inv hm'
    simp only [Sem.run_bind, guard (show Value.string s ≠ .nilIface from by simp) (by simp), Result.andThen_ok]
    have he : (s.toList == s'.toList) = decide ((xx : List Int) = yy) := by
      rw [Bool.eq_iff_iff, beq_iff_eq, decide_eq_true_iff, ByteArray.toList_eq, ByteArray.toList_eq, u8_inj, h1, h2]
    split at h <;> first | (cases h; done) | (simp only [Option.some.injEq, Prod.mk.injEq] at h; obtain ⟨rfl, rfl⟩ := h)
    · exact ⟨_, by rw [binOp_string_eql]; rfl, by rw [he]; exact stands_bool P S _⟩
    · exact ⟨_, by rw [binOp_string_neq]; rfl, by rw [he]; exact stands_bool P S _⟩
  · cases h
end
end Go.X
