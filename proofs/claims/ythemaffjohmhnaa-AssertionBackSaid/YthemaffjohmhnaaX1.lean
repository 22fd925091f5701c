/- Typed values and the relation between a typed value and the cells that hold it. -/
import Derived.Test.YthemaffjohmhnaaX0
namespace Go.X
open Go Go.RowKit
/-- Types of data, as the pure functions see them. -/
inductive Ty where
  | int (k : IntKind) | bool | str | unit
  | pair (a b : Ty) | arr (n : Nat) (t : Ty) | slice (t : Ty) | ptr (t : Ty)
  | fn1 (a r : Ty) | fn2 (a b r : Ty)
  | alt (tid : TypeId) (a b : Ty) | nilI
  deriving DecidableEq
@[reducible] def Ty.den : Ty → Type
  | .int _ => Int
  | .bool => Bool
  | .str => List Int
  | .unit => Unit
  | .pair a b => a.den × b.den
  | .arr _ t => List t.den
  | .slice t => List t.den
  | .ptr t => t.den
  | .fn1 a r => a.den → Option r.den
  | .fn2 a b r => a.den → b.den → Option r.den
  | .alt _ a b => a.den ⊕ b.den
  | .nilI => Unit
/-- The zero value. -/
def Ty.dflt : (t : Ty) → t.den
  | .int _ => (0 : Int)
  | .bool => false
  | .str => ([] : List Int)
  | .unit => ()
  | .pair a b => (a.dflt, b.dflt)
  | .arr n t => List.replicate n t.dflt
  | .slice _ => []
  | .ptr t => t.dflt
  | .fn1 _ _ => fun _ => none
  | .fn2 _ _ _ => fun _ _ => none
  | .alt _ _ b => .inr b.dflt
  | .nilI => ()
/-- How many cells. -/
def Ty.size : Ty → Nat
  | .unit => 0
  | .pair a b => a.size + b.size
  | .arr n t => n * t.size
  | _ => 1
/-- Held as an aggregate in a slot. -/
def Ty.agg : Ty → Bool
  | .unit | .pair .. | .arr .. => true
  | _ => false
/-- How memory behind a value is held: shared for ever, lent, owned, part by part, taken away. -/
inductive Md where
  | sh | bw | own (e : TypeId) (m : Md) | pr (a b : Md) | dead
  deriving DecidableEq, Inhabited
def Md.l : Md → Md
  | .pr a _ => a
  | m => m
def Md.r : Md → Md
  | .pr _ b => b
  | m => m
abbrev Place := Nat × List Nat
def px (p : Place) (i : Nat) : Place := (p.1, p.2 ++ [i])
def pa (p : Place) (q : List Nat) : Place := (p.1, p.2 ++ q)
theorem pa_px (p : Place) (i : Nat) (q : List Nat) : pa (px p i) q = pa p (i :: q) := by simp [pa, px]
theorem pa_nil (p : Place) : pa p [] = p := by simp [pa]
theorem pa_pa (p : Place) (q r : List Nat) : pa (pa p q) r = pa p (q ++ r) := by simp [pa]
abbrev Cs := Nat → Option Value
/-- Memory and who holds what: blocks never written again, blocks lent, the place that owns a block, the header that a place holds. -/
structure St where
  w : World
  F : Nat → Prop
  B : Nat → Prop
  own : Nat → Option Place
  hv : Place → Value
def blk (w : World) (b o : Nat) : Cs := fun i => w.cell? ⟨b, o + i, none⟩
def vcells (t : Ty) (v : Value) : Cs := if t.agg then (match v with | .agg cs => fun i => cs[i]? | _ => fun _ => none) else fun i => if i = 0 then some v else none
def AggOK (t : Ty) (v : Value) : Prop := t.agg = true → ∃ cs, v = .agg cs ∧ cs.size = t.size
def dead1 (cs : Cs) : Prop := ∃ u, cs 0 = some u ∧ u.oneCell' = true
/-- The greatest length. -/
def maxL : Nat := 281474976710656
def St.G (S : St) (m : Md) (b : Nat) : Prop := S.F b ∨ (m = .bw ∧ S.B b)
/-- The blocks of each kind lie, apart. -/
structure St.WF (S : St) : Prop where
  shared : ∀ b, S.F b → S.own b = none ∧ b < S.w.heap.size
  borrowed : ∀ b, S.B b → S.own b = none ∧ b < S.w.heap.size
  owned : ∀ b p, S.own b = some p → b < S.w.heap.size
/-- A later state, as far as the memory that m may look at goes. -/
structure Fut (m : Md) (S S' : St) : Prop where
  sh : ∀ b, S.F b → S'.F b
  bw : ∀ b, m = .bw → S.B b → S'.F b ∨ S'.B b
  same : ∀ b, S.G m b → S'.w.heap[b]? = S.w.heap[b]?
def Enters (P : Program) (f : FuncId) : Prop := ∀ xs w, (callFunc f xs).run P w = .ok (.enter f xs) w
/-- Cells hold a value. -/
def Rel (P : Program) : (t : Ty) → St → Md → Place → t.den → Cs → Prop
  | .int k, _, m, _, n, cs => match m with
    | .dead => dead1 cs
    | _ => cs 0 = some (.int k n) ∧ k.wrap n = n
  | .bool, _, m, _, b, cs => match m with
    | .dead => dead1 cs
    | _ => cs 0 = some (.bool b)
  | .str, _, m, _, x, cs => match m with
    | .dead => dead1 cs
    | _ => ∃ s : ByteArray, cs 0 = some (.string s) ∧ s.data.toList.map (fun c => (c.toNat : Int)) = x ∧ x.length ≤ maxL
  | .unit, _, _, _, _, _ => True
  | .pair a b, S, m, p, x, cs => Rel P a S m.l (px p 0) x.1 cs ∧ Rel P b S m.r (px p 1) x.2 (fun i => cs (a.size + i))
  | .arr n t, S, m, p, xs, cs => xs.length = n ∧ ∀ (i : Nat) (h : i < xs.length), Rel P t S m (px p i) xs[i] (fun j => cs (i * t.size + j))
  | .slice t, S, m, p, xs, cs => xs.length ≤ maxL ∧ 0 < t.size ∧ match m with
    | .dead => dead1 cs
    | .own e m => cs 0 = some (S.hv p) ∧ ((S.hv p = .slice none 0 0 ∧ xs = []) ∨ ∃ g cap cur, S.hv p = .slice (some ⟨g, 0, none⟩) xs.length cap ∧ S.own g = some p ∧ S.w.heap[g]? = some (.cells cur e (0, 0)) ∧
        xs.length ≤ cap ∧ cap ≤ maxLen ∧ cur.size = cap * t.size ∧ ∀ (i : Nat) (h : i < xs.length), Rel P t S m (px p i) xs[i] (fun j => cur[i * t.size + j]?))
    | .pr _ _ => False
    | m => ∃ a len cap, cs 0 = some (.slice a len cap) ∧ len = xs.length ∧ len ≤ cap ∧ ((xs = [] ∧ cap = 0) ∨ ∃ b o, a = some ⟨b, o, none⟩ ∧ (xs ≠ [] → S.G m b) ∧ ∀ (i : Nat) (h : i < xs.length), Rel P t S m (px p i) xs[i] (blk S.w b (o + i * t.size)))
  | .ptr t, S, m, p, x, cs => match m with
    | .dead => dead1 cs
    | .own _ m => cs 0 = some (S.hv p) ∧ ∃ g cur e, S.hv p = .pointer (some ⟨g, 0, none⟩) ∧ S.own g = some p ∧ S.w.heap[g]? = some (.cells cur e (0, 0)) ∧ cur.size = t.size ∧
        Rel P t S m (px p 0) x (fun j => cur[j]?)
    | .pr _ _ => False
    | m => ∃ b o, cs 0 = some (.pointer (some ⟨b, o, none⟩)) ∧ (t.size ≠ 0 → S.G m b) ∧ Rel P t S m (px p 0) x (blk S.w b o)
  | .fn1 a r, S, m, _, g, cs => match m with
    | .dead => dead1 cs
    | .own _ _ => False
    | .pr _ _ => False
    | m => ∃ f caps, cs 0 = some (.func (.func f) #[] caps) ∧ Enters P f ∧ ∀ (S' : St) (x : a.den) (y : r.den), Fut m S S' → S'.WF → g x = some y → ∀ v, Rel P a S' .bw (0, []) x (vcells a v) → AggOK a v →
        Calls P f (#[v] ++ caps) S'.w fun e w'' => ∃ u, e = .returned u ∧ Rel P r { S' with w := w'' } .sh (0, []) y (vcells r u) ∧ AggOK r u ∧ Ext S'.w w''
  | .fn2 a b r, S, m, _, g, cs => match m with
    | .dead => dead1 cs
    | .own _ _ => False
    | .pr _ _ => False
    | m => ∃ f caps, cs 0 = some (.func (.func f) #[] caps) ∧ Enters P f ∧ ∀ (S' : St) (x : a.den) (y : b.den) (z : r.den), Fut m S S' → S'.WF → g x y = some z → ∀ v v', Rel P a S' .bw (0, []) x (vcells a v) → AggOK a v →
        Rel P b S' .bw (0, []) y (vcells b v') → AggOK b v' → Calls P f (#[v, v'] ++ caps) S'.w fun e w'' => ∃ u, e = .returned u ∧ Rel P r { S' with w := w'' } .sh (0, []) z (vcells r u) ∧ AggOK r u ∧ Ext S'.w w''
  | .alt tid a b, S, m, p, x, cs => match m with
    | .dead => dead1 cs
    | m => match x with
      | .inl y => ∃ v, cs 0 = some (.iface tid v) ∧ Rel P a S m (px p 0) y (vcells a v) ∧ AggOK a v
      | .inr z => b.size = 1 ∧ Rel P b S m (px p 1) z cs
  | .nilI, _, m, _, _, cs => match m with
    | .dead => dead1 cs
    | _ => cs 0 = some .nilIface
/- FIRST LAWS -/
section
variable {P : Program}
theorem Rel.cells : ∀ {t : Ty} {S : St} {m : Md} {p : Place} {x : t.den} {cs : Cs}, Rel P t S m p x cs → ∀ i, i < t.size → ∃ u, cs i = some u ∧ u.oneCell' = true := by
  intro t
  have one : ∀ {cs : Cs} {u : Value}, cs 0 = some u → u.oneCell' = true → ∀ i, i < 1 → ∃ u, cs i = some u ∧ u.oneCell' = true := fun h h' i hi => by
    have : i = 0 := by omega
    subst this; exact ⟨_, h, h'⟩
  have done : ∀ {cs : Cs}, dead1 cs → ∀ i, i < 1 → ∃ u, cs i = some u ∧ u.oneCell' = true := fun h i hi => by
    obtain ⟨u, h1, h2⟩ := h; exact one h1 h2 i hi
  induction t with
  | int k =>
    intro S m p x cs h
    cases m <;> first | exact done h | exact one h.1 rfl
  | bool =>
    intro S m p x cs h
    cases m <;> first | exact done h | exact one h rfl
  | str =>
    intro S m p x cs h
    cases m <;> first | exact done h | (obtain ⟨s, h, _⟩ := h; exact one h rfl)
  | unit => intro S m p x cs h i hi; exact absurd hi (Nat.not_lt_zero _)
  | pair a b iha ihb =>
    intro S m p x cs h i hi
    simp only [Ty.size] at hi
    by_cases hlt : i < a.size
    · exact iha h.1 i hlt
    · have := ihb h.2 (i - a.size) (by omega)
      rwa [show a.size + (i - a.size) = i from by omega] at this
  | arr n t ih =>
    intro S m p x cs h i hi
    simp only [Ty.size] at hi
    obtain ⟨h1, h2⟩ := h
    have hpos : 0 < t.size := by
      rcases Nat.eq_zero_or_pos t.size with h0 | h0
      · rw [h0] at hi; simp at hi
      · exact h0
    have hq : i / t.size < x.length := by rw [h1]; exact (Nat.div_lt_iff_lt_mul hpos).2 hi
    have := ih (h2 (i / t.size) hq) (i % t.size) (Nat.mod_lt _ hpos)
    rwa [Nat.div_add_mod'] at this
  | slice t ih =>
    intro S m p x cs h
    obtain ⟨_, _, h⟩ := h
    cases m with
    | dead => exact done h
    | own e m =>
      obtain ⟨h1, h2⟩ := h
      refine one h1 ?_
      rcases h2 with ⟨h2, _⟩ | ⟨g, cap, cur, h2, _⟩ <;> rw [h2] <;> rfl
    | pr => exact h.elim
    | sh => obtain ⟨a, len, cap, h1, _⟩ := h; exact one h1 rfl
    | bw => obtain ⟨a, len, cap, h1, _⟩ := h; exact one h1 rfl
  | ptr t ih =>
    intro S m p x cs h
    cases m with
    | dead => exact done h
    | own e m =>
      obtain ⟨h1, g, cur, e, h2, _⟩ := h
      exact one h1 (by rw [h2]; rfl)
    | pr => exact h.elim
    | sh => obtain ⟨b, o, h1, _⟩ := h; exact one h1 rfl
    | bw => obtain ⟨b, o, h1, _⟩ := h; exact one h1 rfl
  | fn1 a r iha ihr =>
    intro S m p x cs h
    cases m with
    | dead => exact done h
    | own => exact h.elim
    | pr => exact h.elim
    | sh => obtain ⟨f, caps, h1, _⟩ := h; exact one h1 rfl
    | bw => obtain ⟨f, caps, h1, _⟩ := h; exact one h1 rfl
  | fn2 a b r iha ihb ihr =>
    intro S m p x cs h
    cases m with
    | dead => exact done h
    | own => exact h.elim
    | pr => exact h.elim
    | sh => obtain ⟨f, caps, h1, _⟩ := h; exact one h1 rfl
    | bw => obtain ⟨f, caps, h1, _⟩ := h; exact one h1 rfl
  | alt tid a b iha ihb =>
    intro S m p x cs h i hi
    have key : (∃ u, cs 0 = some u ∧ u.oneCell' = true) ∨ (m ≠ .dead ∧ ∃ z, x = .inr z ∧ b.size = 1 ∧ Rel P b S m (px p 1) z cs) := by
      cases m <;> first | exact .inl h | (cases x with
        | inl y => obtain ⟨v, h1, _⟩ := h; exact .inl ⟨_, h1, rfl⟩
        | inr z => exact .inr ⟨by simp, z, rfl, h⟩)
    rcases key with ⟨u, h1, h2⟩ | ⟨_, z, rfl, h0, h2⟩
    · exact one h1 h2 i hi
    · exact ihb h2 i (by simp only [Ty.size] at hi; omega)
  | nilI =>
    intro S m p x cs h
    cases m <;> first | exact done h | exact one h rfl
/-- No lent memory behind it. -/
def Md.nobw : Md → Bool
  | .sh => true
  | .bw => false
  | .own _ m => m.nobw
  | .pr a b => a.nobw && b.nobw
  | .dead => true
theorem Md.nobw_l {m : Md} (h : m.nobw = true) : m.l.nobw = true := by
  cases m <;> first | exact h | (simp only [Md.nobw, Bool.and_eq_true] at h; exact h.1)
theorem Md.nobw_r {m : Md} (h : m.nobw = true) : m.r.nobw = true := by
  cases m <;> first | exact h | (simp only [Md.nobw, Bool.and_eq_true] at h; exact h.2)
/-- From S to S' what lies at p goes to p', all else that may be read stays. -/
structure Tr (q : Bool) (S S' : St) (p p' : Place) : Prop where
  F : ∀ b, S.F b → S'.F b
  sF : ∀ b, S.F b → S'.w.heap[b]? = S.w.heap[b]?
  B : q = true → ∀ b, S.B b → S'.F b ∨ S'.B b
  sB : q = true → ∀ b, S.B b → S'.w.heap[b]? = S.w.heap[b]?
  hv : ∀ r, S'.hv (pa p' r) = S.hv (pa p r)
  own : ∀ b r, S.own b = some (pa p r) → S'.own b = some (pa p' r) ∧ S'.w.heap[b]? = S.w.heap[b]?
theorem Tr.px {q : Bool} {S S' : St} {p p' : Place} (h : Tr q S S' p p') (i : Nat) : Tr q S S' (px p i) (px p' i) where
  F := h.F
  sF := h.sF
  B := h.B
  sB := h.sB
  hv r := by rw [pa_px, pa_px]; exact h.hv _
  own b r := by rw [pa_px, pa_px]; exact h.own b _
theorem Tr.G {q : Bool} {S S' : St} {p p' : Place} (h : Tr q S S' p p') {m : Md} (hm : q = true ∨ m.nobw = true) {b : Nat} (hb : S.G m b) : S'.G m b ∧ S'.w.heap[b]? = S.w.heap[b]? := by
  rcases hb with hb | ⟨rfl, hb⟩
  · exact ⟨.inl (h.F b hb), h.sF b hb⟩
  · have hq : q = true := hm.resolve_right (by simp [Md.nobw])
    exact ⟨(h.B hq b hb).imp id fun h => ⟨rfl, h⟩, h.sB hq b hb⟩
theorem Tr.fut {q : Bool} {S S' S'' : St} {p p' : Place} (h : Tr q S S' p p') {m : Md} (hm : q = true ∨ m.nobw = true) (hf : Fut m S' S'') : Fut m S S'' where
  sh b hb := hf.sh b (h.F b hb)
  bw b hmb hb := by
    subst hmb
    have hq : q = true := hm.resolve_right (by simp [Md.nobw])
    exact (h.B hq b hb).elim (fun h => .inl (hf.sh b h)) fun h => hf.bw b rfl h
  same b hb := (hf.same b (h.G hm hb).1).trans (h.G hm hb).2
theorem blk_same {w w' : World} {b : Nat} (h : w'.heap[b]? = w.heap[b]?) (o : Nat) : blk w' b o = blk w b o := funext fun i => World.cell?_of_block (w := w) (a := ⟨b, o + i, none⟩) h
theorem Rel.mono {q : Bool} : ∀ {t : Ty} {S S' : St} {m : Md} {p p' : Place} {x : t.den} {cs cs' : Cs}, Rel P t S m p x cs → (q = true ∨ m.nobw = true) → Tr q S S' p p' → (∀ i, i < t.size → cs' i = cs i) → Rel P t S' m p' x cs' := by
  intro t
  have d1 : ∀ {cs cs' : Cs}, dead1 cs → (∀ i, i < 1 → cs' i = cs i) → dead1 cs' := fun h hc => by
    obtain ⟨u, h1, h2⟩ := h; exact ⟨u, (hc 0 Nat.one_pos).trans h1, h2⟩
  induction t with
  | int k =>
    intro S S' m p p' x cs cs' h hm hT hc
    have h0 := hc 0 Nat.one_pos
    cases m <;> first | exact d1 h hc | exact ⟨h0.trans h.1, h.2⟩
  | bool =>
    intro S S' m p p' x cs cs' h hm hT hc
    have h0 := hc 0 Nat.one_pos
    cases m <;> first | exact d1 h hc | exact h0.trans h
  | str =>
    intro S S' m p p' x cs cs' h hm hT hc
    have h0 := hc 0 Nat.one_pos
    cases m <;> first | exact d1 h hc | (obtain ⟨s, h1, h2⟩ := h; exact ⟨s, h0.trans h1, h2⟩)
  | unit => intro S S' m p p' x cs cs' h hm hT hc; trivial
  | pair a b iha ihb =>
    intro S S' m p p' x cs cs' h hm hT hc
    simp only [Ty.size] at hc
    exact ⟨iha h.1 (hm.imp id Md.nobw_l) (hT.px 0) fun i hi => hc i (by omega), ihb h.2 (hm.imp id Md.nobw_r) (hT.px 1) fun i hi => hc _ (by omega)⟩
  | arr n t ih =>
    intro S S' m p p' x cs cs' h hm hT hc
    simp only [Ty.size] at hc
    obtain ⟨h1, h2⟩ := h
    refine ⟨h1, fun i hi => ih (h2 i hi) hm (hT.px i) fun j hj => hc _ ?_⟩
    have : (i + 1) * t.size ≤ n * t.size := Nat.mul_le_mul_right _ (by omega)
    rw [Nat.add_mul] at this
    omega
  | slice t ih =>
    intro S S' m p p' x cs cs' h hm hT hc
    obtain ⟨hl, hsz, h⟩ := h
    refine ⟨hl, hsz, ?_⟩
    have h0 := hc 0 Nat.one_pos
    have shbw : ∀ {m : Md}, (q = true ∨ m.nobw = true) → (∃ a len cap, cs 0 = some (.slice a len cap) ∧ len = x.length ∧ len ≤ cap ∧ ((x = [] ∧ cap = 0) ∨ ∃ b o, a = some ⟨b, o, none⟩ ∧ (x ≠ [] → S.G m b) ∧ ∀ (i : Nat) (h : i < x.length), Rel P t S m (Go.X.px p i) x[i] (blk S.w b (o + i * t.size)))) →
        ∃ a len cap, cs' 0 = some (.slice a len cap) ∧ len = x.length ∧ len ≤ cap ∧ ((x = [] ∧ cap = 0) ∨ ∃ b o, a = some ⟨b, o, none⟩ ∧ (x ≠ [] → S'.G m b) ∧ ∀ (i : Nat) (h : i < x.length), Rel P t S' m (Go.X.px p' i) x[i] (blk S'.w b (o + i * t.size))) := fun hm h => by
      obtain ⟨a, len, cap, h1, h2, h3, h4⟩ := h
      refine ⟨a, len, cap, h0.trans h1, h2, h3, h4.imp id fun ⟨b, o, h5, h6, h7⟩ => ⟨b, o, h5, fun hne => (hT.G hm (h6 hne)).1, fun i hi => ?_⟩⟩
      have hb := (hT.G hm (h6 (by rintro rfl; simp at hi))).2
      exact ih (h7 i hi) hm (hT.px i) fun j _ => by rw [blk_same hb]
    cases m with
    | dead => exact d1 h hc
    | own e m =>
      obtain ⟨h1, h2⟩ := h
      have hv := hT.hv []
      rw [pa_nil, pa_nil] at hv
      refine ⟨by rw [h0, h1, hv], ?_⟩
      rw [hv]
      refine h2.imp id fun ⟨g, cap, cur, h3, h4, h5, h6, h7, h8, h9⟩ => ?_
      have ho := hT.own g [] (by rw [pa_nil]; exact h4)
      rw [pa_nil] at ho
      exact ⟨g, cap, cur, h3, ho.1, ho.2.trans h5, h6, h7, h8, fun i hi => ih (h9 i hi) hm (hT.px i) fun _ _ => rfl⟩
    | pr => exact h.elim
    | sh => exact shbw hm h
    | bw => exact shbw hm h
  | ptr t ih =>
    intro S S' m p p' x cs cs' h hm hT hc
    have h0 := hc 0 Nat.one_pos
    have shbw : ∀ {m : Md}, (q = true ∨ m.nobw = true) → (∃ b o, cs 0 = some (.pointer (some ⟨b, o, none⟩)) ∧ (t.size ≠ 0 → S.G m b) ∧ Rel P t S m (Go.X.px p 0) x (blk S.w b o)) →
        ∃ b o, cs' 0 = some (.pointer (some ⟨b, o, none⟩)) ∧ (t.size ≠ 0 → S'.G m b) ∧ Rel P t S' m (Go.X.px p' 0) x (blk S'.w b o) := fun hm h => by
      obtain ⟨b, o, h1, h2, h3⟩ := h
      refine ⟨b, o, h0.trans h1, fun hne => (hT.G hm (h2 hne)).1, ih h3 hm (hT.px 0) fun j hj => ?_⟩
      rw [blk_same (hT.G hm (h2 (by omega))).2]
    cases m with
    | dead => exact d1 h hc
    | own e m =>
      obtain ⟨h1, g, cur, e, h2, h3, h4, h5, h6⟩ := h
      have hv := hT.hv []
      rw [pa_nil, pa_nil] at hv
      have ho := hT.own g [] (by rw [pa_nil]; exact h3)
      rw [pa_nil] at ho
      exact ⟨by rw [h0, h1, hv], g, cur, e, hv.trans h2, ho.1, ho.2.trans h4, h5, ih h6 hm (hT.px 0) fun _ _ => rfl⟩
    | pr => exact h.elim
    | sh => exact shbw hm h
    | bw => exact shbw hm h
  | fn1 a r iha ihr =>
    intro S S' m p p' x cs cs' h hm hT hc
    have h0 := hc 0 Nat.one_pos
    cases m with
    | dead => exact d1 h hc
    | own => exact h.elim
    | pr => exact h.elim
    | sh =>
      obtain ⟨f, caps, h1, h2, h3⟩ := h
      exact ⟨f, caps, h0.trans h1, h2, fun S'' y z hf hw hg v hv hagg => h3 S'' y z (hT.fut hm hf) hw hg v hv hagg⟩
    | bw =>
      obtain ⟨f, caps, h1, h2, h3⟩ := h
      exact ⟨f, caps, h0.trans h1, h2, fun S'' y z hf hw hg v hv hagg => h3 S'' y z (hT.fut hm hf) hw hg v hv hagg⟩
  | fn2 a b r iha ihb ihr =>
    intro S S' m p p' x cs cs' h hm hT hc
    have h0 := hc 0 Nat.one_pos
    cases m with
    | dead => exact d1 h hc
    | own => exact h.elim
    | pr => exact h.elim
    | sh =>
      obtain ⟨f, caps, h1, h2, h3⟩ := h
      exact ⟨f, caps, h0.trans h1, h2, fun S'' y1 y2 z hf hw hg v v' hv hagg hv' hagg' => h3 S'' y1 y2 z (hT.fut hm hf) hw hg v v' hv hagg hv' hagg'⟩
    | bw =>
      obtain ⟨f, caps, h1, h2, h3⟩ := h
      exact ⟨f, caps, h0.trans h1, h2, fun S'' y1 y2 z hf hw hg v v' hv hagg hv' hagg' => h3 S'' y1 y2 z (hT.fut hm hf) hw hg v v' hv hagg hv' hagg'⟩
  | alt tid a b iha ihb =>
    intro S S' m p p' x cs cs' h hm hT hc
    have h0 := hc 0 Nat.one_pos
    cases m <;> first | exact d1 h hc | (cases x with
      | inl y =>
        obtain ⟨v, h1, h2, h3⟩ := h
        exact ⟨v, h0.trans h1, iha h2 hm (hT.px 0) fun _ _ => rfl, h3⟩
      | inr z => exact ⟨h.1, ihb h.2 hm (hT.px 1) fun i hi => hc i (by have := h.1; simp only [Ty.size]; omega)⟩)
  | nilI =>
    intro S S' m p p' x cs cs' h hm hT hc
    have h0 := hc 0 Nat.one_pos
    cases m <;> first | exact d1 h hc | exact h0.trans h
end
end Go.X
