/- Operations that only read: what they put into their slot. -/
import Derived.Test.YthemaffjohmhnaaX12
set_option linter.unusedSimpArgs false
set_option linter.unusedVariables false
namespace Go.X
open Go Go.RowKit
def stamp (c : Slot) (t : Ty) (π : List Nat) : Nat := if deepP π t then c.h else c.g
/-- What is loaded from a part. -/
def Pl.deref (p : Pl) (u : Ty) : Option Ent :=
  match modeP p.π p.t p.m, getP p.π p.t p.x with
  | some k, some y => if y.t = u then
      if k.noown then some (.v y.t (nm y.t k) y.x) else
      match y.t, k with
      | .slice _, .own _ _ => some (.view p.r p.π p.c.h)
      | .ptr _, .own _ _ => some (.ref p.r (p.π ++ [0]) (stamp p.c p.t (p.π ++ [0])))
      | _, _ => none else none
  | _, _ => none
/-- A pointer to memory that is only read. -/
def Opd.ro : Opd → Option TM
  | .slot _ c _ => match c.e with
    | .v (.ptr u) .sh x => some ⟨u, .sh, x⟩
    | .v (.ptr u) .bw x => some ⟨u, .bw, x⟩
    | _ => none
  | _ => none
def moveE (T : Tab) (ty : TypeId) (o : Opd) : Option Ent :=
  match o with
  | .con v => match tl T ty with
    | some (_, t) => (cval t v).map fun x => .v t .sh x
    | none => none
  | .slot s c _ => match c.e with
    | .v t m x => if m.noown then some (.v t m x) else match t, m with
      | .slice _, .own _ _ => some (.view s [] c.h)
      | .ptr _, .own _ _ => some (.ref s [0] c.g)
      | _, _ => none
    | .ref r π s => some (.ref r π s)
    | .view r π s => some (.view r π s)
    | .clo f caps => some (.clo f caps)
    | _ => none
  | .fn f => some (.clo f [])
  | .bad => none
def Opd.ival : Opd → Option (IntKind × Int)
  | .con (.int k n) => if k.wrap n = n then some (k, n) else none
  | .slot _ c _ => match c.e with
    | .v (.int k) .sh n => some (k, n)
    | .v (.int k) .bw n => some (k, n)
    | _ => none
  | _ => none
def fieldE (T : Tab) (s f : Nat) (o : Opd) : Option Ent :=
  match tl T s with
  | some (i, ts) => match i.k with
    | .struct offs => match offs[f]?, fpath offs.length f with
      | some (_, sz), some ρ => if sz = 0 then none else
        match o.place with
        | some p => match getP p.π p.t p.x with
          | some y => if y.t = ts then some (.ref p.r (p.π ++ ρ) (stamp p.c p.t (p.π ++ ρ))) else none
          | none => none
        | none => match o.ro with
          | some e => if e.t = ts then match getP ρ e.t e.x with
            | some y => some (.v (.ptr y.t) e.m y.x)
            | none => none else none
          | none => none
      | _, _ => none
    | _ => none
  | none => none
def fieldV (T : Tab) (s f : Nat) (o : Opd) : Option Ent :=
  match tl T s with
  | some (i, ts) => match i.k with
    | .struct offs => match offs[f]?, fpath offs.length f, i.fa[f]? with
      | some (_, _), some ρ, some (some g) => match o.val ts with
        | some (m, x) => if m = .sh ∨ m = .bw then match getP ρ ts x with
          | some y => if y.t.agg = g then some (.v y.t m y.x) else none
          | none => none else none
        | none => none
      | _, _, _ => none
    | _ => none
  | none => none
def indexV (T : Tab) (t : Nat) (o : Opd) (ix : Opd) : Option (Bool × Ent) :=
  match tl T t, ix.ival with
  | some (_, .arr n u), some (_, i) => match o.val (.arr n u) with
    | some (m, xs) => if m = .sh ∨ m = .bw then some (decide (0 ≤ i) && decide (i < (n : Int)), .v u m (xs.getD i.toNat u.dflt)) else none
    | none => none
  | _, _ => none
def indexE (T : Tab) (t : Nat) (o : Opd) (ix : Opd) : Option (Bool × Ent) :=
  match tl T t, ix.ival with
  | some (_, .slice u), some (_, i) => match o.splace with
    | some p => match modeP p.π p.t p.m, getP p.π p.t p.x with
      | some (.own _ _), some ⟨.slice u', xs⟩ => if u' = u then some (decide (0 ≤ i) && decide (i < (xs.length : Int)), .ref p.r (p.π ++ [i.toNat]) (stamp p.c p.t (p.π ++ [i.toNat]))) else none
      | _, _ => none
    | none => match o.val (.slice u) with
      | some (.sh, xs) => some (decide (0 ≤ i) && decide (i < (xs.length : Int)), .v (.ptr u) .sh (xs.getD i.toNat u.dflt))
      | some (.bw, xs) => some (decide (0 ≤ i) && decide (i < (xs.length : Int)), .v (.ptr u) .bw (xs.getD i.toNat u.dflt))
      | _ => none
  | some (_, .arr n u), some (_, i) => match o.place with
    | some p => match getP p.π p.t p.x with
      | some y => if y.t = .arr n u then some (decide (0 ≤ i) && decide (i < (n : Int)), .ref p.r (p.π ++ [i.toNat]) (stamp p.c p.t (p.π ++ [i.toNat]))) else none
      | none => none
    | none => match o.ro with
      | some ⟨.arr n' u', m, xs⟩ => if n' = n ∧ u' = u then some (decide (0 ≤ i) && decide (i < (n : Int)), .v (.ptr u') m (xs.getD i.toNat u'.dflt)) else none
      | _ => none
  | _, _ => none
def loadE (T : Tab) (t : Nat) (o : Opd) : Option Ent :=
  match tl T t with
  | some (_, u) => match o.place with
    | some p => p.deref u
    | none => match o.ro with
      | some e => if e.t = u then some (.v e.t (nm e.t e.m) e.x) else none
      | none => none
  | none => none
def lenE (T : Tab) (t : Nat) (o : Opd) : Option Ent :=
  match tl T t with
  | some (_, .slice u) => match o.val (.slice u) with
    | some (m, xs) => if m = .dead then none else some (.v (.int .i64) .sh (xs.length : Int))
    | none => none
  | some (_, .str) => match o.val .str with
    | some (m, x) => if m = .dead then none else some (.v (.int .i64) .sh ((x : List Int).length : Int))
    | none => none
  | _ => none
def step1 (T : Tab) (o : Oper) (l : Operand → Opd) : Option (Bool × Ent) :=
  match o.op with
  | .move x => (moveE T o.type (l x)).map fun e => (true, e)
  | .binOp op t x y t' => match tl T t, tl T t' with
    | some (i, a), some (_, b) => match (l x).val a, (l y).val b with
      | some (m, u), some (m', v) => if m = .dead ∨ m' = .dead then none else match eqS i op a b m m' u v with
        | some r => some (true, .v .bool .sh r)
        | none => (bin2 op ⟨a, u⟩ ⟨b, v⟩).map fun q => (q.1, .v q.2.t .sh q.2.x)
      | _, _ => none
    | _, _ => none
  | .unOp op t x => match tl T t with
    | some (_, a) => match (l x).val a with
      | some (m, u) => if m = .dead then none else (un1 op ⟨a, u⟩).map fun q => (true, .v q.t .sh q.x)
      | none => none
    | none => none
  | .convert s d x => match tl T s, tl T d with
    | some (_, .int k), some (_, .int k') => match (l x).val (.int k) with
      | some (m, n) => if m = .dead then none else some (true, .v (.int k') .sh (k'.wrap n))
      | none => none
    | _, _ => none
  | .fieldAddr s x f => (fieldE T s f (l x)).map fun e => (true, e)
  | .indexAddr t x i => indexE T t (l x) (l i)
  | .field s x f => (fieldV T s f (l x)).map fun e => (true, e)
  | .index t x i => indexV T t (l x) (l i)
  | .load t x => (loadE T t (l x)).map fun e => (true, e)
  | .call { callee := .builtin .len, args := ⟨[x]⟩, argTypes := ⟨[t]⟩ } => (lenE T t (l x)).map fun e => (true, e)
  | .call { callee := .builtin .min, args := ⟨[x, y]⟩, argTypes := _ } => match (l x).ival, (l y).ival with
    | some (k, u), some (k', v) => if k = k' then some (true, .v (.int k) .sh (bif decide (v < u) then v else u)) else none
    | _, _ => none
  | .call { callee := .builtin .max, args := ⟨[x, y]⟩, argTypes := _ } => match (l x).ival, (l y).ival with
    | some (k, u), some (k', v) => if k = k' then some (true, .v (.int k) .sh (bif decide (v > u) then v else u)) else none
    | _, _ => none
  | _ => none
/-- A value that fits an entry. -/
def EntOK (P : Program) (S : St) (σ : Env) (e : Ent) (v : Value) : Prop :=
  match e with
  | .v t m x => m.noown = true ∧ ∃ p, SR P t S m p x v
  | .ref r π s => RefOK S σ r π s v
  | .view r π s => ViewOK S σ r π s v
  | .clo f caps => ∃ ps : List Value, v = .func (.func f) #[] ps.toArray ∧ ps.length = caps.length ∧ ∀ (k : Nat) (c : Cap), caps[k]? = some c → ∃ u, ps[k]? = some u ∧ CapOK P S σ u c
  | .mth nm e => ∃ u, v = .func (.method nm) #[u] #[] ∧ SR P e.t S .bw (0, []) e.x u
  | .dead => True
  | _ => False
section
variable {P : Program} {c : Ctx} {σ : Env} {a : Act} {S : St}
theorem InvOf.putE (h : InvOf P c σ a S) {d : Nat} (hd : d < c.N) {e : Ent} {v : Value} (he : EntOK P S σ e v) : InvOf P c (set1 σ d e 0) (a.put (some d) v) S := by
  cases e with
  | v t m x =>
    obtain ⟨hm, p, hs⟩ := he
    exact h.putv hd (hs.free hm (.refl S))
  | ref r π s => exact h.putref hd he
  | view r π s => exact h.putview hd he
  | clo f caps =>
    refine h.put (.refl _) rfl rfl hd (fun _ _ _ => rfl) (fun _ => .inl rfl) ?_
    unfold SlotOK
    rw [set1_e]
    obtain ⟨ps, h1, h2, h3⟩ := he
    refine ⟨ps, by rw [tmv_put_same (by rw [h.size]; exact hd)]; exact h1, h2, fun k c hk => ?_⟩
    obtain ⟨u, h4, h5⟩ := h3 k c hk
    refine ⟨u, h4, ?_⟩
    cases c with
    | ref r π s =>
      refine RefOK.keep h5 ?_
      by_cases hrd : r = d
      · subst hrd
        exact ⟨by rw [set1_same]; exact Nat.le_refl _, .inl (by rw [set1_same]; exact Nat.lt_succ_self _)⟩
      · exact .refl (h.gens r) (set1_ne σ _ _ hrd) fun _ => rfl
    | val e => exact h5
  | tup es => exact he.elim
  | skip => exact he.elim
  | mth nm e =>
    refine h.put (.refl _) rfl rfl hd (fun _ _ _ => rfl) (fun _ => .inl rfl) ?_
    unfold SlotOK
    rw [set1_e]
    obtain ⟨u, h1, h2⟩ := he
    exact ⟨u, by rw [tmv_put_same (by rw [h.size]; exact hd)]; exact h1, h2⟩
  | dead =>
    refine h.put (.refl _) rfl rfl hd (fun _ _ _ => rfl) (fun _ => .inl rfl) ?_
    unfold SlotOK
    rw [set1_e]
    trivial
/-- A pointer to a part. -/
theorem InvOf.refTo (h : InvOf P c σ a S) {r : Nat} {t : Ty} {m : Md} {x : t.den} {π q : List Nat} {o b : Nat} (hr : (σ r).e = .v t m x) (hl : locP π t = some (some q, o)) (ho : okP S π t (r, [])) (hb : hvB (S.hv (r, q)) = some b) :
    RefOK S σ r π (stamp (σ r) t π) (.pointer (some ⟨b, o, none⟩)) := by
  refine ⟨?_, fun t' m' x' hr' _ => ?_⟩
  · unfold stamp; split
    · exact Nat.le_refl _
    · exact h.gens r
  · rw [hr] at hr'
    cases hr'
    exact ⟨q, o, b, hl, ho, hb, rfl⟩
theorem InvOf.viewTo (h : InvOf P c σ a S) {r : Nat} {t : Ty} {m : Md} {x : t.den} {π : List Nat} (hr : (σ r).e = .v t m x) (ho : okP S π t (r, [])) : ViewOK S σ r π (σ r).h (S.hv (r, π)) :=
  ⟨Nat.le_refl _, fun t' m' x' hr' _ => by rw [hr] at hr'; cases hr'; exact ⟨ho, rfl⟩⟩
theorem nm_sound {t : Ty} {m : Md} {p : Place} {x : t.den} {v : Value} (h : SR P t S m p x v) : SR P t S (nm t m) p x v := by
  have key : ∀ (t : Ty) (m : Md), t.flat = true → live t m = true → leM t m .sh = true := by
    intro t
    induction t with
    | pair a b iha ihb =>
      intro m hf hl
      simp only [Ty.flat, Bool.and_eq_true] at hf
      simp only [live, Bool.and_eq_true] at hl
      simp only [leM, Bool.and_eq_true]
      exact ⟨iha _ hf.1 hl.1, ihb _ hf.2 hl.2⟩
    | arr n t ih => intro m hf hl; exact ih m hf hl
    | alt tid a b iha ihb =>
      intro m hf hl
      simp only [Ty.flat, Bool.and_eq_true] at hf
      cases m <;> first | (cases hl; done) | (simp only [live, Bool.and_eq_true] at hl; simp only [leM, Bool.and_eq_true]; exact ⟨iha _ hf.1 hl.1, ihb _ hf.2 hl.2⟩)
    | slice t => intro m hf; cases hf
    | ptr t => intro m hf; cases hf
    | fn1 => intro m hf; cases hf
    | fn2 => intro m hf; cases hf
    | _ => intro m hf hl; cases m <;> first | rfl | (cases hl; done)
  unfold nm
  split
  · rename_i hc
    simp only [Bool.and_eq_true] at hc
    exact ⟨h.1.weaken (key t m hc.1 hc.2), h.2⟩
  · exact h
theorem nm_noown {t : Ty} {m : Md} (h : m.noown = true) : (nm t m).noown = true := by
  unfold nm; split
  · rfl
  · exact h
theorem InvOf.ival (h : InvOf P c σ a S) {o : Operand} {k : IntKind} {n : Int} (hv : (look σ o).ival = some (k, n)) : a.eval o = .int k n ∧ k.wrap n = n := by
  cases o with
  | const v =>
    simp only [look] at hv
    cases v <;> simp only [Opd.ival] at hv <;> first | (cases hv; done) | skip
    split at hv
    · rename_i hw; cases hv; exact ⟨rfl, hw⟩
    · cases hv
  | func f => simp [look, Opd.ival] at hv
  | global g => simp [look, Opd.ival] at hv
  | tmp t =>
    simp only [look, Opd.ival] at hv
    split at hv
    · rename_i k' n' he
      cases hv
      exact (h.slot he).int_inv (by simp)
    · rename_i k' n' he
      cases hv
      exact (h.slot he).int_inv (by simp)
    · cases hv
theorem InvOf.ro (h : InvOf P c σ a S) {o : Operand} {e : TM} (hv : (look σ o).ro = some e) : (e.m = .sh ∨ e.m = .bw) ∧ ∃ b off, a.eval o = .pointer (some ⟨b, off, none⟩) ∧ (e.t.size ≠ 0 → S.G e.m b) ∧ ∃ p, Rel P e.t S e.m p e.x (blk S.w b off) := by
  cases o with
  | const v => simp [look, Opd.ro] at hv
  | func f => simp [look, Opd.ro] at hv
  | global g => simp [look, Opd.ro] at hv
  | tmp t =>
    simp only [look, Opd.ro] at hv
    have hc : ∀ {u : Ty} , vcells (.ptr u) (tmv a t) 0 = some (tmv a t) := fun {u} => by simp [vcells, Ty.agg]
    split at hv
    · rename_i u x he
      cases hv
      obtain ⟨⟨b, o, h1, h2, h3⟩, _⟩ := h.slot he
      rw [hc] at h1
      exact ⟨.inl rfl, b, o, Option.some.inj h1, h2, _, h3⟩
    · rename_i u x he
      cases hv
      obtain ⟨⟨b, o, h1, h2, h3⟩, _⟩ := h.slot he
      rw [hc] at h1
      exact ⟨.inr rfl, b, o, Option.some.inj h1, h2, _, h3⟩
    · cases hv
theorem InvOf.phdr (h : InvOf P c σ a S) {r : Nat} {u : Ty} {e : TypeId} {m : Md} {x : u.den} (he : (σ r).e = .v (.ptr u) (.own e m) x) : ∃ g, tmv a r = S.hv (r, []) ∧ S.hv (r, []) = .pointer (some ⟨g, 0, none⟩) := by
  obtain ⟨⟨h0, g, cur, e', h1, _⟩, _⟩ := h.slot he
  have : vcells (.ptr u) (tmv a r) 0 = some (tmv a r) := by simp [vcells, Ty.agg]
  rw [this] at h0
  exact ⟨g, Option.some.inj h0, h1⟩
theorem InvOf.move_sound (h : InvOf P c σ a S) {T : Tab} {ty : TypeId} {o : Operand} {e : Ent} (hx : moveE T ty (look σ o) = some e) : EntOK P S σ e (a.eval o) := by
  cases o with
  | const v =>
    simp only [look, moveE] at hx
    split at hx
    · simp only [Option.map_eq_some_iff] at hx
      obtain ⟨x, h1, rfl⟩ := hx
      exact ⟨rfl, (0, []), cval_sound h1⟩
    · cases hx
  | func f =>
    simp only [look, moveE, Option.some.injEq] at hx
    subst hx
    exact ⟨[], rfl, rfl, fun k c hk => by simp at hk⟩
  | global g => simp [look, moveE] at hx
  | tmp s =>
    simp only [look, moveE] at hx
    rw [tmv_eval]
    split at hx
    · rename_i t m x he
      split at hx
      · rename_i hm
        cases hx
        exact ⟨hm, _, h.slot he⟩
      · split at hx
        · cases hx
          have := h.viewTo (π := []) he trivial
          rw [← h.hdr he] at this
          exact this
        · cases hx
          obtain ⟨g, h1, h2⟩ := h.phdr he
          have := h.refTo (π := [0]) (q := []) (o := 0) (b := g) he (by simp [locP]) trivial (by rw [h2]; rfl)
          rw [h1, h2]
          exact this
        · cases hx
    · rename_i r π s' he
      cases hx
      exact (h.ent s).ref he
    · rename_i r π s' he
      cases hx
      exact (h.ent s).view he
    · rename_i f caps he
      cases hx
      have := h.ent s
      unfold SlotOK at this
      rw [he] at this
      exact this
    · cases hx
end
end Go.X
