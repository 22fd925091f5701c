/- Weaker modes; lending and freezing; what a typed value obeys. -/
import Derived.Test.YthemaffjohmhnaaX1
namespace Go.X
open Go Go.RowKit
/-- Mode m says at least what m' says. -/
def leM : Ty → Md → Md → Bool
  | .unit, _, _ => true
  | .pair a b, m, m' => leM a m.l m'.l && leM b m.r m'.r
  | .arr _ t, m, m' => leM t m m'
  | .slice t, m, m' => match m, m' with
    | _, .dead => true
    | .sh, .sh => true
    | .bw, .bw => true
    | .sh, .bw => leM t .sh .bw
    | .own e k, .own e' k' => e == e' && leM t k k'
    | _, _ => false
  | .ptr t, m, m' => match m, m' with
    | _, .dead => true
    | .sh, .sh => true
    | .bw, .bw => true
    | .sh, .bw => leM t .sh .bw
    | .own _ k, .own _ k' => leM t k k'
    | _, _ => false
  | .fn1 _ _, m, m' => match m, m' with
    | _, .dead => true
    | .sh, .sh => true
    | .bw, .bw => true
    | .sh, .bw => true
    | _, _ => false
  | .fn2 _ _ _, m, m' => match m, m' with
    | _, .dead => true
    | .sh, .sh => true
    | .bw, .bw => true
    | .sh, .bw => true
    | _, _ => false
  | .alt _ a b, m, m' => match m, m' with
    | _, .dead => true
    | .dead, _ => false
    | m, m' => leM a m m' && leM b m m'
  | _, m, m' => match m, m' with
    | _, .dead => true
    | .dead, _ => false
    | _, _ => true
/-- No part has been taken away. -/
def live : Ty → Md → Bool
  | .unit, _ => true
  | .pair a b, m => live a m.l && live b m.r
  | .arr _ t, m => live t m
  | .slice t, m => match m with
    | .dead => false
    | .pr _ _ => false
    | .own _ k => live t k
    | _ => true
  | .ptr t, m => match m with
    | .dead => false
    | .pr _ _ => false
    | .own _ k => live t k
    | _ => true
  | .alt _ a b, m => match m with
    | .dead => false
    | m => live a m && live b m
  | _, m => match m with
    | .dead => false
    | _ => true
section
variable {P : Program}
theorem Rel.alt_inl {tid : TypeId} {a b : Ty} {S : St} {m : Md} {p : Place} {y : a.den} {cs : Cs} (h : m ≠ .dead) : Rel P (.alt tid a b) S m p (.inl y) cs = (∃ v, cs 0 = some (.iface tid v) ∧ Rel P a S m (px p 0) y (vcells a v) ∧ AggOK a v) := by
  cases m <;> first | exact absurd rfl h | rfl
theorem Rel.alt_inr {tid : TypeId} {a b : Ty} {S : St} {m : Md} {p : Place} {z : b.den} {cs : Cs} (h : m ≠ .dead) : Rel P (.alt tid a b) S m p (.inr z) cs = (b.size = 1 ∧ Rel P b S m (px p 1) z cs) := by
  cases m <;> first | exact absurd rfl h | rfl
theorem live_shbw {M : Md} (hM : M = .sh ∨ M = .bw) : ∀ t : Ty, live t M = true := by
  intro t
  induction t with
  | pair a b iha ihb => rcases hM with rfl | rfl <;> (simp only [live, Md.l, Md.r, iha, ihb]; rfl)
  | arr n t ih => exact ih
  | alt tid a b iha ihb => rcases hM with rfl | rfl <;> (simp only [live, iha, ihb]; rfl)
  | _ => rcases hM with rfl | rfl <;> rfl
theorem fut_bw {S S' : St} (h : Fut .bw S S') : Fut .sh S S' := ⟨h.sh, fun _ h => (by cases h), fun b hb => h.same b (.inl (hb.resolve_right fun h => by cases h.1))⟩
theorem Rel.weaken : ∀ {t : Ty} {S : St} {m m' : Md} {p : Place} {x : t.den} {cs : Cs}, Rel P t S m p x cs → leM t m m' = true → Rel P t S m' p x cs := by
  intro t
  induction t with
  | unit => intro S m m' p x cs h hl; trivial
  | pair a b iha ihb =>
    intro S m m' p x cs h hl
    simp only [leM, Bool.and_eq_true] at hl
    exact ⟨iha h.1 hl.1, ihb h.2 hl.2⟩
  | arr n t ih =>
    intro S m m' p x cs h hl
    exact ⟨h.1, fun i hi => ih (h.2 i hi) hl⟩
  | slice t ih =>
    intro S m m' p x cs h hl
    have hd := h.cells 0 Nat.one_pos
    obtain ⟨h1, h2, h3⟩ := h
    refine ⟨h1, h2, ?_⟩
    cases m' with
    | dead => exact hd
    | pr => cases m <;> simp [leM] at hl
    | sh => cases m <;> first | (simp [leM] at hl; done) | exact h3
    | bw =>
      cases m <;> first | (simp [leM] at hl; done) | exact h3 | skip
      obtain ⟨a, len, cap, h4, h5, h6, h7⟩ := h3
      exact ⟨a, len, cap, h4, h5, h6, h7.imp id fun ⟨b, o, h8, h9, h10⟩ => ⟨b, o, h8, fun hne => .inl ((h9 hne).resolve_right fun h => by cases h.1), fun i hi => ih (h10 i hi) hl⟩⟩
    | own e k' =>
      cases m <;> first | (simp [leM] at hl; done) | skip
      simp only [leM, Bool.and_eq_true, beq_iff_eq] at hl
      obtain ⟨he, hl⟩ := hl
      subst he
      exact ⟨h3.1, h3.2.imp id fun ⟨g, cap, cur, h4, h5, h6, h7, h8, h9, h10⟩ => ⟨g, cap, cur, h4, h5, h6, h7, h8, h9, fun i hi => ih (h10 i hi) hl⟩⟩
  | ptr t ih =>
    intro S m m' p x cs h hl
    have hd := h.cells 0 Nat.one_pos
    cases m' with
    | dead => exact hd
    | pr => cases m <;> simp [leM] at hl
    | sh => cases m <;> first | (simp [leM] at hl; done) | exact h
    | bw =>
      cases m <;> first | (simp [leM] at hl; done) | exact h | skip
      obtain ⟨b, o, h4, h5, h6⟩ := h
      exact ⟨b, o, h4, fun hne => .inl ((h5 hne).resolve_right fun h => by cases h.1), ih h6 hl⟩
    | own e k' =>
      cases m <;> first | (simp [leM] at hl; done) | skip
      obtain ⟨h1, g, cur, e, h4, h5, h6, h7, h8⟩ := h
      exact ⟨h1, g, cur, e, h4, h5, h6, h7, ih h8 hl⟩
  | fn1 a r iha ihr =>
    intro S m m' p x cs h hl
    have hd := h.cells 0 Nat.one_pos
    cases m' with
    | dead => exact hd
    | pr => cases m <;> simp [leM] at hl
    | own => cases m <;> simp [leM] at hl
    | sh => cases m <;> first | (simp [leM] at hl; done) | exact h
    | bw =>
      cases m <;> first | (simp [leM] at hl; done) | exact h | skip
      obtain ⟨f, caps, h1, h2, h3⟩ := h
      exact ⟨f, caps, h1, h2, fun S' x y hf hw hg v hv hagg => h3 S' x y (fut_bw hf) hw hg v hv hagg⟩
  | fn2 a b r iha ihb ihr =>
    intro S m m' p x cs h hl
    have hd := h.cells 0 Nat.one_pos
    cases m' with
    | dead => exact hd
    | pr => cases m <;> simp [leM] at hl
    | own => cases m <;> simp [leM] at hl
    | sh => cases m <;> first | (simp [leM] at hl; done) | exact h
    | bw =>
      cases m <;> first | (simp [leM] at hl; done) | exact h | skip
      obtain ⟨f, caps, h1, h2, h3⟩ := h
      exact ⟨f, caps, h1, h2, fun S' x y z hf hw hg v v' hv hagg hv' hagg' => h3 S' x y z (fut_bw hf) hw hg v v' hv hagg hv' hagg'⟩
  | alt tid a b iha ihb =>
    intro S m m' p x cs h hl
    have hd := h.cells 0 Nat.one_pos
    by_cases hm' : m' = .dead
    · subst hm'; exact hd
    · have hm : m ≠ .dead := by rintro rfl; cases m' <;> simp [leM] at hl hm'
      have hl' : leM a m m' = true ∧ leM b m m' = true := by cases m <;> cases m' <;> simp [leM] at hl hm hm' ⊢ <;> exact hl
      cases x with
      | inl y =>
        rw [Rel.alt_inl hm] at h
        rw [Rel.alt_inl hm']
        obtain ⟨v, h1, h2, h3⟩ := h
        exact ⟨v, h1, iha h2 hl'.1, h3⟩
      | inr z =>
        rw [Rel.alt_inr hm] at h
        rw [Rel.alt_inr hm']
        exact ⟨h.1, ihb h.2 hl'.2⟩
  | int k =>
    intro S m m' p x cs h hl
    have hd := h.cells 0 Nat.one_pos
    cases m' <;> first | exact hd | (cases m <;> first | (simp [leM] at hl; done) | exact h)
  | bool =>
    intro S m m' p x cs h hl
    have hd := h.cells 0 Nat.one_pos
    cases m' <;> first | exact hd | (cases m <;> first | (simp [leM] at hl; done) | exact h)
  | str =>
    intro S m m' p x cs h hl
    have hd := h.cells 0 Nat.one_pos
    cases m' <;> first | exact hd | (cases m <;> first | (simp [leM] at hl; done) | exact h)
  | nilI =>
    intro S m m' p x cs h hl
    have hd := h.cells 0 Nat.one_pos
    cases m' <;> first | exact hd | (cases m <;> first | (simp [leM] at hl; done) | exact h)
/-- From S to S' all memory behind what lies at p may be looked at as M says. -/
structure Shr (q : Bool) (M : Md) (S S' : St) (p : Place) : Prop where
  F : ∀ b, S.F b → S'.F b ∧ S'.w.heap[b]? = S.w.heap[b]?
  B : q = true → ∀ b, S.B b → S'.G M b ∧ S'.w.heap[b]? = S.w.heap[b]?
  own : ∀ b r, S.own b = some (pa p r) → S'.G M b ∧ S'.w.heap[b]? = S.w.heap[b]?
theorem Shr.px {q : Bool} {M : Md} {S S' : St} {p : Place} (h : Shr q M S S' p) (i : Nat) : Shr q M S S' (px p i) := ⟨h.F, h.B, fun b r hb => h.own b (i :: r) (by rw [← pa_px]; exact hb)⟩
theorem Shr.G {q : Bool} {M : Md} {S S' : St} {p : Place} (h : Shr q M S S' p) {m : Md} (hm : q = true ∨ m.nobw = true) {b : Nat} (hb : S.G m b) : S'.G M b ∧ S'.w.heap[b]? = S.w.heap[b]? := by
  rcases hb with hb | ⟨rfl, hb⟩
  · exact ⟨.inl (h.F b hb).1, (h.F b hb).2⟩
  · exact h.B (hm.resolve_right (by simp [Md.nobw])) b hb
theorem Shr.fut {q : Bool} {M : Md} {S S' S'' : St} {p : Place} (h : Shr q M S S' p) {m : Md} (hm : q = true ∨ m.nobw = true) (hf : Fut M S' S'') : Fut m S S'' where
  sh b hb := hf.sh b (h.F b hb).1
  bw b hmb hb := by
    subst hmb
    rcases (h.B (hm.resolve_right (by simp [Md.nobw])) b hb).1 with h1 | ⟨h1, h2⟩
    · exact .inl (hf.sh b h1)
    · exact hf.bw b h1 h2
  same b hb := (hf.same b (h.G hm hb).1).trans (h.G hm hb).2
theorem Rel.share {q : Bool} {M : Md} (hM : M = .sh ∨ M = .bw) : ∀ {t : Ty} {S S' : St} {m : Md} {p p' : Place} {x : t.den} {cs : Cs}, Rel P t S m p x cs → (q = true ∨ m.nobw = true) → live t m = true → Shr q M S S' p → Rel P t S' M p' x cs := by
  intro t
  have hl : M.l = M ∧ M.r = M := by rcases hM with rfl | rfl <;> exact ⟨rfl, rfl⟩
  induction t with
  | unit => intro S S' m p p' x cs h hm hv hS; trivial
  | pair a b iha ihb =>
    intro S S' m p p' x cs h hm hv hS
    simp only [live, Bool.and_eq_true] at hv
    refine ⟨?_, ?_⟩
    · rw [hl.1]; exact iha h.1 (hm.imp id Md.nobw_l) hv.1 (hS.px 0)
    · rw [hl.2]; exact ihb h.2 (hm.imp id Md.nobw_r) hv.2 (hS.px 1)
  | arr n t ih =>
    intro S S' m p p' x cs h hm hv hS
    exact ⟨h.1, fun i hi => ih (h.2 i hi) hm hv (hS.px i)⟩
  | slice t ih =>
    intro S S' m p p' x cs h hm hv hS
    obtain ⟨h1, h2, h3⟩ := h
    refine ⟨h1, h2, ?_⟩
    have goal : ∃ a len cap, cs 0 = some (.slice a len cap) ∧ len = x.length ∧ len ≤ cap ∧ ((x = [] ∧ cap = 0) ∨ ∃ b o, a = some ⟨b, o, none⟩ ∧ (x ≠ [] → S'.G M b) ∧ ∀ (i : Nat) (h : i < x.length), Rel P t S' M (Go.X.px p' i) x[i] (blk S'.w b (o + i * t.size))) := by
      have shbw : ∀ {m : Md}, live t m = true → (q = true ∨ m.nobw = true) → (∃ a len cap, cs 0 = some (.slice a len cap) ∧ len = x.length ∧ len ≤ cap ∧ ((x = [] ∧ cap = 0) ∨ ∃ b o, a = some ⟨b, o, none⟩ ∧ (x ≠ [] → S.G m b) ∧ ∀ (i : Nat) (h : i < x.length), Rel P t S m (Go.X.px p i) x[i] (blk S.w b (o + i * t.size)))) →
          ∃ a len cap, cs 0 = some (.slice a len cap) ∧ len = x.length ∧ len ≤ cap ∧ ((x = [] ∧ cap = 0) ∨ ∃ b o, a = some ⟨b, o, none⟩ ∧ (x ≠ [] → S'.G M b) ∧ ∀ (i : Nat) (h : i < x.length), Rel P t S' M (Go.X.px p' i) x[i] (blk S'.w b (o + i * t.size))) := fun hlv hm ⟨a, len, cap, h1, h2, h3, h4⟩ =>
        ⟨a, len, cap, h1, h2, h3, h4.imp id fun ⟨b, o, h5, h6, h7⟩ => ⟨b, o, h5, fun hne => (hS.G hm (h6 hne)).1, fun i hi => by
          rw [blk_same (hS.G hm (h6 (by rintro rfl; simp at hi))).2]
          exact ih (h7 i hi) hm hlv (hS.px i)⟩⟩
      cases m with
      | dead => cases hv
      | pr => exact h3.elim
      | sh => exact shbw (live_shbw (.inl rfl) t) hm h3
      | bw => exact shbw (live_shbw (.inr rfl) t) hm h3
      | own e k =>
        obtain ⟨h3, h4⟩ := h3
        rcases h4 with ⟨h4, h5⟩ | ⟨g, cap, cur, h4, h5, h6, h7, h8, h9, h10⟩
        · subst h5
          exact ⟨none, 0, 0, by rw [h3, h4], rfl, Nat.le_refl _, .inl ⟨rfl, rfl⟩⟩
        · have hg := hS.own g [] (by rw [pa_nil]; exact h5)
          refine ⟨_, _, _, by rw [h3, h4], rfl, h7, .inr ⟨g, 0, rfl, fun _ => hg.1, fun i hi => ?_⟩⟩
          have hb : blk S'.w g (0 + i * t.size) = fun j => cur[i * t.size + j]? := funext fun j => by
            show S'.w.cell? ⟨g, 0 + i * t.size + j, none⟩ = _
            rw [Nat.zero_add, cell_of_row S'.w g _ cur e (0, 0) (hg.2.trans h6)]
          rw [hb]
          exact ih (h10 i hi) hm hv (hS.px i)
    rcases hM with rfl | rfl <;> exact goal
  | ptr t ih =>
    intro S S' m p p' x cs h hm hv hS
    have goal : ∃ b o, cs 0 = some (.pointer (some ⟨b, o, none⟩)) ∧ (t.size ≠ 0 → S'.G M b) ∧ Rel P t S' M (Go.X.px p' 0) x (blk S'.w b o) := by
      have shbw : ∀ {m : Md}, live t m = true → (q = true ∨ m.nobw = true) → (∃ b o, cs 0 = some (.pointer (some ⟨b, o, none⟩)) ∧ (t.size ≠ 0 → S.G m b) ∧ Rel P t S m (Go.X.px p 0) x (blk S.w b o)) →
          ∃ b o, cs 0 = some (.pointer (some ⟨b, o, none⟩)) ∧ (t.size ≠ 0 → S'.G M b) ∧ Rel P t S' M (Go.X.px p' 0) x (blk S'.w b o) := fun hlv hm ⟨b, o, h1, h2, h3⟩ => by
        have h4 := ih (p' := Go.X.px p' 0) h3 hm hlv (hS.px 0)
        refine ⟨b, o, h1, fun hne => (hS.G hm (h2 hne)).1, ?_⟩
        by_cases h0 : t.size = 0
        · exact h4.mono (q := true) (.inl rfl) ⟨fun _ h => h, fun _ _ => rfl, fun _ _ h => .inr h, fun _ _ _ => rfl, fun _ => rfl, fun _ _ h => ⟨h, rfl⟩⟩ fun i hi => by omega
        · rw [blk_same (hS.G hm (h2 h0)).2]; exact h4
      cases m with
      | dead => cases hv
      | pr => exact h.elim
      | sh => exact shbw (live_shbw (.inl rfl) t) hm h
      | bw => exact shbw (live_shbw (.inr rfl) t) hm h
      | own e k =>
        obtain ⟨h3, g, cur, e, h4, h5, h6, h7, h8⟩ := h
        have hg := hS.own g [] (by rw [pa_nil]; exact h5)
        refine ⟨g, 0, by rw [h3, h4], fun _ => hg.1, ?_⟩
        have hb : blk S'.w g 0 = fun j => cur[j]? := funext fun j => by
          show S'.w.cell? ⟨g, 0 + j, none⟩ = _
          rw [Nat.zero_add, cell_of_row S'.w g _ cur e (0, 0) (hg.2.trans h6)]
        rw [hb]
        exact ih h8 hm hv (hS.px 0)
    rcases hM with rfl | rfl <;> exact goal
  | int k => intro S S' m p p' x cs h hm hv hS; rcases hM with rfl | rfl <;> cases m <;> first | exact h | (cases hv; done)
  | bool => intro S S' m p p' x cs h hm hv hS; rcases hM with rfl | rfl <;> cases m <;> first | exact h | (cases hv; done)
  | str => intro S S' m p p' x cs h hm hv hS; rcases hM with rfl | rfl <;> cases m <;> first | exact h | (cases hv; done)
  | nilI => intro S S' m p p' x cs h hm hv hS; rcases hM with rfl | rfl <;> cases m <;> first | exact h | (cases hv; done)
  | fn1 a r iha ihr =>
    intro S S' m p p' x cs h hm hv hS
    have key : ∀ {m : Md}, (q = true ∨ m.nobw = true) → Rel P (.fn1 a r) S m p x cs → m = .sh ∨ m = .bw → Rel P (.fn1 a r) S' M p' x cs := fun {m} hm h hmm => by
      have h' : ∃ f caps, cs 0 = some (.func (.func f) #[] caps) ∧ Enters P f ∧ ∀ (S' : St) (y : a.den) (z : r.den), Fut m S S' → S'.WF → x y = some z → ∀ v, Rel P a S' .bw (0, []) y (vcells a v) → AggOK a v →
        Calls P f (#[v] ++ caps) S'.w fun e w'' => ∃ u, e = .returned u ∧ Rel P r { S' with w := w'' } .sh (0, []) z (vcells r u) ∧ AggOK r u ∧ Ext S'.w w'' := by rcases hmm with rfl | rfl <;> exact h
      obtain ⟨f, caps, h1, h2, h3⟩ := h'
      have : ∃ f caps, cs 0 = some (.func (.func f) #[] caps) ∧ Enters P f ∧ ∀ (S'' : St) (y : a.den) (z : r.den), Fut M S' S'' → S''.WF → x y = some z → ∀ v, Rel P a S'' .bw (0, []) y (vcells a v) → AggOK a v →
        Calls P f (#[v] ++ caps) S''.w fun e w'' => ∃ u, e = .returned u ∧ Rel P r { S'' with w := w'' } .sh (0, []) z (vcells r u) ∧ AggOK r u ∧ Ext S''.w w'' :=
        ⟨f, caps, h1, h2, fun S'' y z hf hw hg v hv hagg => h3 S'' y z (hS.fut hm hf) hw hg v hv hagg⟩
      rcases hM with rfl | rfl <;> exact this
    cases m with
    | dead => cases hv
    | own => exact h.elim
    | pr => exact h.elim
    | sh => exact key hm h (.inl rfl)
    | bw => exact key hm h (.inr rfl)
  | fn2 a b r iha ihb ihr =>
    intro S S' m p p' x cs h hm hv hS
    have key : ∀ {m : Md}, (q = true ∨ m.nobw = true) → Rel P (.fn2 a b r) S m p x cs → m = .sh ∨ m = .bw → Rel P (.fn2 a b r) S' M p' x cs := fun {m} hm h hmm => by
      have h' : ∃ f caps, cs 0 = some (.func (.func f) #[] caps) ∧ Enters P f ∧ ∀ (S' : St) (y : a.den) (y' : b.den) (z : r.den), Fut m S S' → S'.WF → x y y' = some z → ∀ v v', Rel P a S' .bw (0, []) y (vcells a v) → AggOK a v →
        Rel P b S' .bw (0, []) y' (vcells b v') → AggOK b v' → Calls P f (#[v, v'] ++ caps) S'.w fun e w'' => ∃ u, e = .returned u ∧ Rel P r { S' with w := w'' } .sh (0, []) z (vcells r u) ∧ AggOK r u ∧ Ext S'.w w'' := by rcases hmm with rfl | rfl <;> exact h
      obtain ⟨f, caps, h1, h2, h3⟩ := h'
      have : ∃ f caps, cs 0 = some (.func (.func f) #[] caps) ∧ Enters P f ∧ ∀ (S'' : St) (y : a.den) (y' : b.den) (z : r.den), Fut M S' S'' → S''.WF → x y y' = some z → ∀ v v', Rel P a S'' .bw (0, []) y (vcells a v) → AggOK a v →
        Rel P b S'' .bw (0, []) y' (vcells b v') → AggOK b v' → Calls P f (#[v, v'] ++ caps) S''.w fun e w'' => ∃ u, e = .returned u ∧ Rel P r { S'' with w := w'' } .sh (0, []) z (vcells r u) ∧ AggOK r u ∧ Ext S''.w w'' :=
        ⟨f, caps, h1, h2, fun S'' y y' z hf hw hg v v' hv hagg hv' hagg' => h3 S'' y y' z (hS.fut hm hf) hw hg v v' hv hagg hv' hagg'⟩
      rcases hM with rfl | rfl <;> exact this
    cases m with
    | dead => cases hv
    | own => exact h.elim
    | pr => exact h.elim
    | sh => exact key hm h (.inl rfl)
    | bw => exact key hm h (.inr rfl)
  | alt tid a b iha ihb =>
    intro S S' m p p' x cs h hm hv hS
    have hmd : m ≠ .dead := by rintro rfl; cases hv
    have hMd : M ≠ .dead := by rcases hM with rfl | rfl <;> simp
    have hv' : live a m = true ∧ live b m = true := by cases m <;> first | (simp only [live, Bool.and_eq_true] at hv; exact hv) | (cases hv; done)
    cases x with
    | inl y =>
      rw [Rel.alt_inl hmd] at h
      rw [Rel.alt_inl hMd]
      obtain ⟨v, h1, h2, h3⟩ := h
      exact ⟨v, h1, iha h2 hm hv'.1 (hS.px 0), h3⟩
    | inr z =>
      rw [Rel.alt_inr hmd] at h
      rw [Rel.alt_inr hMd]
      exact ⟨h.1, ihb h.2 hm hv'.2 (hS.px 1)⟩
theorem Fut.G {M : Md} (hM : M = .sh ∨ M = .bw) {S S' : St} (h : Fut M S S') {b : Nat} (hb : S.G M b) : S'.G M b := by
  rcases hb with hb | ⟨rfl, hb⟩
  · exact .inl (h.sh b hb)
  · exact (h.bw b rfl hb).imp id fun h => ⟨rfl, h⟩
theorem Fut.trans {M : Md} (hM : M = .sh ∨ M = .bw) {S S' S'' : St} (h : Fut M S S') (k : Fut M S' S'') : Fut M S S'' where
  sh b hb := k.sh b (h.sh b hb)
  bw b hm hb := (h.bw b hm hb).elim (fun h => .inl (k.sh b h)) fun h => k.bw b hm h
  same b hb := (k.same b (h.G hM hb)).trans (h.same b hb)
/-- Shared and lent memory alone: nothing depends on owners and places. -/
theorem Rel.fut {M : Md} (hM : M = .sh ∨ M = .bw) : ∀ {t : Ty} {S S' : St} {p p' : Place} {x : t.den} {cs cs' : Cs}, Rel P t S M p x cs → Fut M S S' → (∀ i, i < t.size → cs' i = cs i) → Rel P t S' M p' x cs' := by
  intro t
  have hl : M.l = M ∧ M.r = M := by rcases hM with rfl | rfl <;> exact ⟨rfl, rfl⟩
  induction t with
  | int k => intro S S' p p' x cs cs' h hf hc; have h0 := hc 0 Nat.one_pos; rcases hM with rfl | rfl <;> exact ⟨h0.trans h.1, h.2⟩
  | bool => intro S S' p p' x cs cs' h hf hc; have h0 := hc 0 Nat.one_pos; rcases hM with rfl | rfl <;> exact h0.trans h
  | str => intro S S' p p' x cs cs' h hf hc; have h0 := hc 0 Nat.one_pos; rcases hM with rfl | rfl <;> (obtain ⟨s, h1, h2⟩ := h; exact ⟨s, h0.trans h1, h2⟩)
  | unit => intro S S' p p' x cs cs' h hf hc; trivial
  | nilI => intro S S' p p' x cs cs' h hf hc; have h0 := hc 0 Nat.one_pos; rcases hM with rfl | rfl <;> exact h0.trans h
  | pair a b iha ihb =>
    intro S S' p p' x cs cs' h hf hc
    simp only [Ty.size] at hc
    obtain ⟨h1, h2⟩ := h
    rw [hl.1] at h1
    rw [hl.2] at h2
    refine ⟨?_, ?_⟩
    · rw [hl.1]; exact iha h1 hf fun i hi => hc i (by omega)
    · rw [hl.2]; exact ihb h2 hf fun i hi => hc _ (by omega)
  | arr n t ih =>
    intro S S' p p' x cs cs' h hf hc
    simp only [Ty.size] at hc
    refine ⟨h.1, fun i hi => ih (h.2 i hi) hf fun j hj => hc _ ?_⟩
    have := h.1
    have : (i + 1) * t.size ≤ n * t.size := Nat.mul_le_mul_right _ (by omega)
    rw [Nat.add_mul] at this
    omega
  | slice t ih =>
    intro S S' p p' x cs cs' h hf hc
    have h0 := hc 0 Nat.one_pos
    obtain ⟨h1, h2, h3⟩ := h
    refine ⟨h1, h2, ?_⟩
    have h3' : ∃ a len cap, cs 0 = some (.slice a len cap) ∧ len = x.length ∧ len ≤ cap ∧ ((x = [] ∧ cap = 0) ∨ ∃ b o, a = some ⟨b, o, none⟩ ∧ (x ≠ [] → S.G M b) ∧ ∀ (i : Nat) (h : i < x.length), Rel P t S M (Go.X.px p i) x[i] (blk S.w b (o + i * t.size))) := by rcases hM with rfl | rfl <;> exact h3
    obtain ⟨a, len, cap, h4, h5, h6, h7⟩ := h3'
    have goal : ∃ a len cap, cs' 0 = some (.slice a len cap) ∧ len = x.length ∧ len ≤ cap ∧ ((x = [] ∧ cap = 0) ∨ ∃ b o, a = some ⟨b, o, none⟩ ∧ (x ≠ [] → S'.G M b) ∧ ∀ (i : Nat) (h : i < x.length), Rel P t S' M (Go.X.px p' i) x[i] (blk S'.w b (o + i * t.size))) :=
      ⟨a, len, cap, h0.trans h4, h5, h6, h7.imp id fun ⟨b, o, h8, h9, h10⟩ => ⟨b, o, h8, fun hne => hf.G hM (h9 hne), fun i hi => ih (h10 i hi) hf fun j _ => by rw [blk_same (hf.same b (h9 (by rintro rfl; simp at hi)))]⟩⟩
    rcases hM with rfl | rfl <;> exact goal
  | ptr t ih =>
    intro S S' p p' x cs cs' h hf hc
    have h0 := hc 0 Nat.one_pos
    have h' : ∃ b o, cs 0 = some (.pointer (some ⟨b, o, none⟩)) ∧ (t.size ≠ 0 → S.G M b) ∧ Rel P t S M (Go.X.px p 0) x (blk S.w b o) := by rcases hM with rfl | rfl <;> exact h
    obtain ⟨b, o, h1, h2, h3⟩ := h'
    have goal : ∃ b o, cs' 0 = some (.pointer (some ⟨b, o, none⟩)) ∧ (t.size ≠ 0 → S'.G M b) ∧ Rel P t S' M (Go.X.px p' 0) x (blk S'.w b o) :=
      ⟨b, o, h0.trans h1, fun hne => hf.G hM (h2 hne), ih h3 hf fun j hj => by rw [blk_same (hf.same b (h2 (by omega)))]⟩
    rcases hM with rfl | rfl <;> exact goal
  | fn1 a r iha ihr =>
    intro S S' p p' x cs cs' h hf hc
    have h0 := hc 0 Nat.one_pos
    rcases hM with rfl | rfl <;> (obtain ⟨f, caps, h1, h2, h3⟩ := h; exact ⟨f, caps, h0.trans h1, h2, fun S'' y z hf' hw hg v hv hagg => h3 S'' y z (hf.trans (by simp) hf') hw hg v hv hagg⟩)
  | fn2 a b r iha ihb ihr =>
    intro S S' p p' x cs cs' h hf hc
    have h0 := hc 0 Nat.one_pos
    rcases hM with rfl | rfl <;> (obtain ⟨f, caps, h1, h2, h3⟩ := h; exact ⟨f, caps, h0.trans h1, h2, fun S'' y y' z hf' hw hg v v' hv hagg hv' hagg' => h3 S'' y y' z (hf.trans (by simp) hf') hw hg v v' hv hagg hv' hagg'⟩)
  | alt tid a b iha ihb =>
    intro S S' p p' x cs cs' h hf hc
    have h0 := hc 0 Nat.one_pos
    have hmd : M ≠ .dead := by rcases hM with rfl | rfl <;> simp
    cases x with
    | inl y =>
      rw [Rel.alt_inl hmd] at h ⊢
      obtain ⟨v, h1, h2, h3⟩ := h
      exact ⟨v, h0.trans h1, iha h2 hf fun _ _ => rfl, h3⟩
    | inr z =>
      rw [Rel.alt_inr hmd] at h ⊢
      exact ⟨h.1, ihb h.2 hf fun i hi => hc i (by have := h.1; simp only [Ty.size]; omega)⟩
/-- What a typed value obeys. -/
def WT : (t : Ty) → t.den → Prop
  | .int k, n => k.wrap n = n
  | .str, x => x.length ≤ maxL ∧ ∀ c ∈ x, 0 ≤ c ∧ c < 256
  | .pair a b, x => WT a x.1 ∧ WT b x.2
  | .arr n t, xs => xs.length = n ∧ ∀ x ∈ xs, WT t x
  | .slice t, xs => xs.length ≤ maxL ∧ ∀ x ∈ xs, WT t x
  | .ptr t, x => WT t x
  | .alt _ a b, x => match x with
    | .inl y => WT a y
    | .inr z => WT b z
  | _, _ => True
theorem Rel.wt : ∀ {t : Ty} {S : St} {m : Md} {p : Place} {x : t.den} {cs : Cs}, Rel P t S m p x cs → live t m = true → WT t x := by
  intro t
  induction t with
  | int k => intro S m p x cs h hv; cases m <;> first | exact h.2 | (cases hv; done)
  | bool => intro S m p x cs h hv; trivial
  | unit => intro S m p x cs h hv; trivial
  | nilI => intro S m p x cs h hv; trivial
  | fn1 => intro S m p x cs h hv; trivial
  | fn2 => intro S m p x cs h hv; trivial
  | str =>
    intro S m p x cs h hv
    have : ∃ s : ByteArray, cs 0 = some (.string s) ∧ s.data.toList.map (fun c => (c.toNat : Int)) = x ∧ x.length ≤ maxL := by cases m <;> first | exact h | (cases hv; done)
    obtain ⟨s, _, h1, h2⟩ := this
    refine ⟨h2, fun c hc => ?_⟩
    rw [← h1, List.mem_map] at hc
    obtain ⟨d, _, rfl⟩ := hc
    have := d.toNat_lt
    exact ⟨by omega, by omega⟩
  | pair a b iha ihb =>
    intro S m p x cs h hv
    simp only [live, Bool.and_eq_true] at hv
    exact ⟨iha h.1 hv.1, ihb h.2 hv.2⟩
  | arr n t ih =>
    intro S m p x cs h hv
    refine ⟨h.1, fun y hy => ?_⟩
    obtain ⟨i, hi, rfl⟩ := List.getElem_of_mem hy
    exact ih (h.2 i hi) hv
  | slice t ih =>
    intro S m p x cs h hv
    obtain ⟨h1, h2, h3⟩ := h
    refine ⟨h1, fun y hy => ?_⟩
    obtain ⟨i, hi, rfl⟩ := List.getElem_of_mem hy
    cases m with
    | dead => cases hv
    | pr => cases hv
    | own e k =>
      rcases h3.2 with ⟨_, h4⟩ | ⟨g, cap, cur, _, _, _, _, _, _, h4⟩
      · subst h4; simp at hi
      · exact ih (h4 i hi) hv
    | sh =>
      obtain ⟨a, len, cap, _, h5, h6, h7⟩ := h3
      rcases h7 with ⟨_, h8⟩ | ⟨b, o, _, _, h8⟩
      · omega
      · exact ih (h8 i hi) (live_shbw (.inl rfl) t)
    | bw =>
      obtain ⟨a, len, cap, _, h5, h6, h7⟩ := h3
      rcases h7 with ⟨_, h8⟩ | ⟨b, o, _, _, h8⟩
      · omega
      · exact ih (h8 i hi) (live_shbw (.inr rfl) t)
  | ptr t ih =>
    intro S m p x cs h hv
    cases m with
    | dead => cases hv
    | pr => cases hv
    | own e k => obtain ⟨_, g, cur, _, _, _, _, _, h4⟩ := h; exact ih h4 hv
    | sh => obtain ⟨b, o, _, _, h4⟩ := h; exact ih h4 (live_shbw (.inl rfl) t)
    | bw => obtain ⟨b, o, _, _, h4⟩ := h; exact ih h4 (live_shbw (.inr rfl) t)
  | alt tid a b iha ihb =>
    intro S m p x cs h hv
    have hmd : m ≠ .dead := by rintro rfl; cases hv
    have hv' : live a m = true ∧ live b m = true := by cases m <;> first | (simp only [live, Bool.and_eq_true] at hv; exact hv) | (cases hv; done)
    cases x with
    | inl y => rw [Rel.alt_inl hmd] at h; obtain ⟨v, _, h2, _⟩ := h; exact iha h2 hv'.1
    | inr z => rw [Rel.alt_inr hmd] at h; exact ihb h.2 hv'.2
end
end Go.X
