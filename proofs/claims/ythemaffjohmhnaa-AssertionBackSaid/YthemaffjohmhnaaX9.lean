/- Values that own nothing; values that move from place to place. -/
import Derived.Test.YthemaffjohmhnaaX8
namespace Go.X
open Go Go.RowKit
/-- It owns nothing. -/
def Md.noown : Md → Bool
  | .own _ _ => false
  | .pr a b => a.noown && b.noown
  | _ => true
theorem Md.noown_l {m : Md} (h : m.noown = true) : m.l.noown = true := by
  cases m <;> first | exact h | (simp only [Md.noown, Bool.and_eq_true] at h; exact h.1)
theorem Md.noown_r {m : Md} (h : m.noown = true) : m.r.noown = true := by
  cases m <;> first | exact h | (simp only [Md.noown, Bool.and_eq_true] at h; exact h.2)
theorem leM_dead : ∀ (t : Ty) (m : Md), leM t m .dead = true := by
  intro t
  induction t with
  | pair a b iha ihb => intro m; simp only [leM, Md.l, Md.r]; simp [iha, ihb]
  | arr n t ih => intro m; exact ih m
  | _ => intro m; cases m <;> rfl
section
variable {P : Program} {c : Ctx} {σ σ' : Env} {a a' : Act} {S S' : St}
/-- A later state for all that owns nothing. -/
structure Fut2 (S S' : St) : Prop where
  F : ∀ b, S.F b → S'.F b ∧ S'.w.heap[b]? = S.w.heap[b]?
  B : ∀ b, S.B b → (S'.F b ∨ S'.B b) ∧ S'.w.heap[b]? = S.w.heap[b]?
theorem Fut2.refl (S : St) : Fut2 S S := ⟨fun _ h => ⟨h, rfl⟩, fun _ h => ⟨.inr h, rfl⟩⟩
theorem Fut2.sh (h : Fut2 S S') (m : Md) : Fut m S S' := ⟨fun b hb => (h.F b hb).1, fun b _ hb => (h.B b hb).1, fun b hb => hb.elim (fun hb => (h.F b hb).2) fun hb => (h.B b hb.2).2⟩
theorem Rel.free : ∀ {t : Ty} {m : Md} {p p' : Place} {x : t.den} {cs cs' : Cs}, Rel P t S m p x cs → m.noown = true → Fut2 S S' → (∀ i, i < t.size → cs' i = cs i) → Rel P t S' m p' x cs' := by
  intro t
  have sb : ∀ {t : Ty} {m : Md} {p p' : Place} {x : t.den} {cs cs' : Cs}, m = .sh ∨ m = .bw → Rel P t S m p x cs → Fut2 S S' → (∀ i, i < t.size → cs' i = cs i) → Rel P t S' m p' x cs' := fun hm h hf hc => h.fut hm (hf.sh _) hc
  have d1 : ∀ {cs cs' : Cs}, dead1 cs → (∀ i, i < 1 → cs' i = cs i) → dead1 cs' := fun h hc => by
    obtain ⟨u, h1, h2⟩ := h; exact ⟨u, (hc 0 Nat.one_pos).trans h1, h2⟩
  induction t with
  | unit => intro m p p' x cs cs' h hm hf hc; trivial
  | pair a b iha ihb =>
    intro m p p' x cs cs' h hm hf hc
    simp only [Ty.size] at hc
    exact ⟨iha h.1 (Md.noown_l hm) hf fun i hi => hc i (by omega), ihb h.2 (Md.noown_r hm) hf fun i hi => hc _ (by omega)⟩
  | arr n t ih =>
    intro m p p' x cs cs' h hm hf hc
    simp only [Ty.size] at hc
    refine ⟨h.1, fun i hi => ih (h.2 i hi) hm hf fun j hj => hc _ ?_⟩
    have := h.1
    have : (i + 1) * t.size ≤ n * t.size := Nat.mul_le_mul_right _ (by omega)
    rw [Nat.add_mul] at this
    omega
  | alt tid a b iha ihb =>
    intro m p p' x cs cs' h hm hf hc
    by_cases hmd : m = .dead
    · subst hmd; exact d1 h hc
    · cases x with
      | inl y =>
        rw [Rel.alt_inl hmd] at h ⊢
        obtain ⟨v, h1, h2, h3⟩ := h
        exact ⟨v, (hc 0 Nat.one_pos).trans h1, iha h2 hm hf fun _ _ => rfl, h3⟩
      | inr z =>
        rw [Rel.alt_inr hmd] at h ⊢
        exact ⟨h.1, ihb h.2 hm hf fun i hi => hc i (by have := h.1; simp only [Ty.size]; omega)⟩
  | int k =>
    intro m p p' x cs cs' h hm hf hc
    have h0 := hc 0 Nat.one_pos
    cases m <;> first | exact d1 h hc | exact ⟨h0.trans h.1, h.2⟩
  | bool =>
    intro m p p' x cs cs' h hm hf hc
    have h0 := hc 0 Nat.one_pos
    cases m <;> first | exact d1 h hc | exact h0.trans h
  | str =>
    intro m p p' x cs cs' h hm hf hc
    have h0 := hc 0 Nat.one_pos
    cases m <;> first | exact d1 h hc | (obtain ⟨s, h1, h2⟩ := h; exact ⟨s, h0.trans h1, h2⟩)
  | nilI =>
    intro m p p' x cs cs' h hm hf hc
    have h0 := hc 0 Nat.one_pos
    cases m <;> first | exact d1 h hc | exact h0.trans h
  | slice t ih =>
    intro m p p' x cs cs' h hm hf hc
    cases m with
    | sh => exact sb (.inl rfl) h hf hc
    | bw => exact sb (.inr rfl) h hf hc
    | own => cases hm
    | pr => exact h.2.2.elim
    | dead => exact ⟨h.1, h.2.1, d1 h.2.2 hc⟩
  | ptr t ih =>
    intro m p p' x cs cs' h hm hf hc
    cases m with
    | sh => exact sb (.inl rfl) h hf hc
    | bw => exact sb (.inr rfl) h hf hc
    | own => cases hm
    | pr => exact h.elim
    | dead => exact d1 h hc
  | fn1 a r iha ihr =>
    intro m p p' x cs cs' h hm hf hc
    cases m with
    | sh => exact sb (.inl rfl) h hf hc
    | bw => exact sb (.inr rfl) h hf hc
    | own => cases hm
    | pr => exact h.elim
    | dead => exact d1 h hc
  | fn2 a b r iha ihb ihr =>
    intro m p p' x cs cs' h hm hf hc
    cases m with
    | sh => exact sb (.inl rfl) h hf hc
    | bw => exact sb (.inr rfl) h hf hc
    | own => cases hm
    | pr => exact h.elim
    | dead => exact d1 h hc
theorem Rel.dead_any : ∀ {t : Ty} {p p' : Place} {x : t.den} {cs cs' : Cs}, Rel P t S .dead p x cs → (∀ i, i < t.size → cs' i = cs i) → Rel P t S' .dead p' x cs' := by
  intro t
  have d1 : ∀ {cs cs' : Cs}, dead1 cs → (∀ i, i < 1 → cs' i = cs i) → dead1 cs' := fun h hc => by
    obtain ⟨u, h1, h2⟩ := h; exact ⟨u, (hc 0 Nat.one_pos).trans h1, h2⟩
  induction t with
  | unit => intro p p' x cs cs' h hc; trivial
  | pair a b iha ihb =>
    intro p p' x cs cs' h hc
    simp only [Ty.size] at hc
    exact ⟨iha h.1 fun i hi => hc i (by omega), ihb h.2 fun i hi => hc _ (by omega)⟩
  | arr n t ih =>
    intro p p' x cs cs' h hc
    simp only [Ty.size] at hc
    refine ⟨h.1, fun i hi => ih (h.2 i hi) fun j hj => hc _ ?_⟩
    have := h.1
    have : (i + 1) * t.size ≤ n * t.size := Nat.mul_le_mul_right _ (by omega)
    rw [Nat.add_mul] at this
    omega
  | slice t ih => intro p p' x cs cs' h hc; exact ⟨h.1, h.2.1, d1 h.2.2 hc⟩
  | _ => intro p p' x cs cs' h hc; exact d1 h hc
theorem SR.free {t : Ty} {m : Md} {p p' : Place} {x : t.den} {v : Value} (h : SR P t S m p x v) (hm : m.noown = true) (hf : Fut2 S S') : SR P t S' m p' x v := ⟨h.1.free hm hf fun _ _ => rfl, h.2⟩
/- MOVES -/
open Classical in
/-- What p owns goes to q. -/
noncomputable def mv (S : St) (p q : Place) : St := { S with
  own := fun b => if h : ∃ ρ, S.own b = some (pa p ρ) then some (pa q (Classical.choose h)) else S.own b
  hv := fun z => if h : ∃ ρ, z = pa q ρ then S.hv (pa p (Classical.choose h)) else S.hv z }
theorem mv_own {p q : Place} {ρ : List Nat} {b : Nat} (h : S.own b = some (pa p ρ)) : (mv S p q).own b = some (pa q ρ) := by
  have hex : ∃ ρ, S.own b = some (pa p ρ) := ⟨ρ, h⟩
  unfold mv
  simp only
  rw [dif_pos hex]
  have := pa_inj (Option.some.inj (h.symm.trans (Classical.choose_spec hex)))
  exact congrArg (fun r => some (pa q r)) this.symm
theorem mv_own_ne {p q : Place} {b : Nat} {z : Place} (h : S.own b = some z) (hn : ∀ ρ, z ≠ pa p ρ) : (mv S p q).own b = some z := by
  unfold mv
  simp only
  rw [dif_neg (by rintro ⟨ρ, hρ⟩; rw [h] at hρ; exact hn ρ (Option.some.inj hρ))]
  exact h
theorem mv_none {p q : Place} {b : Nat} (h : S.own b = none) : (mv S p q).own b = none := by
  unfold mv
  simp only
  rw [dif_neg (by rintro ⟨ρ, hρ⟩; rw [h] at hρ; cases hρ)]
  exact h
theorem mv_owned {p q : Place} {b : Nat} {z : Place} (h : (mv S p q).own b = some z) : ∃ y, S.own b = some y := by
  cases ho : S.own b with
  | none => rw [mv_none ho] at h; cases h
  | some y => exact ⟨y, rfl⟩
theorem mv_hv {p q : Place} (ρ : List Nat) : (mv S p q).hv (pa q ρ) = S.hv (pa p ρ) := by
  have hex : ∃ r, pa q ρ = pa q r := ⟨ρ, rfl⟩
  unfold mv
  simp only
  rw [dif_pos hex, ← pa_inj (Classical.choose_spec hex)]
theorem mv_hv_ne {p q z : Place} (hn : ∀ ρ, z ≠ pa q ρ) : (mv S p q).hv z = S.hv z := by
  unfold mv
  simp only
  rw [dif_neg (by rintro ⟨ρ, hρ⟩; exact hn ρ hρ)]
theorem mv_tr (S : St) (p q : Place) : Tr true S (mv S p q) p q := ⟨fun _ h => h, fun _ _ => rfl, fun _ _ h => .inr h, fun _ _ _ => rfl, mv_hv, fun _ _ hb => ⟨mv_own hb, rfl⟩⟩
theorem pa_slot {r : Nat} {π ρ : List Nat} {z : Place} (h : z = pa (r, π) ρ) : z.1 = r := by rw [h]; rfl
theorem InvOf.mvOwned (h : InvOf P c σ a S) {p q : Place} : (∀ b, S.F b → (mv S p q).own b = none ∧ b < S.w.heap.size ∧ (c.F0 b ∨ c.w0.heap.size ≤ b ∨ c.O b)) ∧ (∀ b, c.B b → (mv S p q).own b = none) ∧
    (∀ b z, (mv S p q).own b = some z → b < S.w.heap.size ∧ (c.w0.heap.size ≤ b ∨ c.O b)) :=
  ⟨fun b hb => ⟨mv_none (h.shared b hb).1, (h.shared b hb).2⟩, fun b hb => mv_none (h.borrowed b hb).1, fun b z hz => by obtain ⟨y, hy⟩ := mv_owned hz; exact h.owned b y hy⟩
/-- A slot's whole value goes to slot d. -/
theorem InvOf.moveAll (h : InvOf P c σ a S) {s d : Nat} {t : Ty} {m : Md} {x : t.den} (hs : (σ s).e = .v t m x) (hne : s ≠ d) (hd : d < c.N) :
    InvOf P c (set1 (set1 σ s .dead 0) d (.v t m x) 0) (a.put (some d) (tmv a s)) (mv S (s, []) (d, [])) := by
  have hsr := h.slot hs
  obtain ⟨q1, q2, q3⟩ := h.mvOwned (p := (s, [])) (q := (d, []))
  refine h.rebuild (fun t => t = s ∨ t = d) (by simpa [Act.put] using h.defers) (by simpa [Act.put] using h.size)
    (fun t ht => ⟨by rw [set1_ne _ _ _ (fun e => ht (.inr e)), set1_ne _ _ _ (fun e => ht (.inl e))], tmv_put_ne fun e => ht (.inr e)⟩) (fun r hr => ?_) (fun t ht => ?_) (fun _ h => h) (fun _ _ => rfl) rfl (fun _ _ => rfl)
    (fun t ht q => mv_hv_ne fun ρ he => ht (.inr (pa_slot he))) (fun t ht b q hb => ⟨mv_own_ne hb fun ρ he => ht (.inl (pa_slot he)), rfl⟩) q1 q2 q3 rfl rfl rfl (Nat.le_refl _) (fun _ _ _ => rfl)
  · by_cases hrd : r = d
    · subst hrd
      exact ⟨by rw [set1_same]; exact Nat.le_refl _, .inl (by rw [set1_same, set1_ne _ _ _ (Ne.symm hne)]; exact Nat.lt_succ_self _)⟩
    · have hrs := hr.resolve_right hrd
      subst hrs
      exact ⟨by rw [set1_ne _ _ _ hrd, set1_same]; exact Nat.le_refl _, .inl (by rw [set1_ne _ _ _ hrd, set1_same]; exact Nat.lt_succ_self _)⟩
  · by_cases htd : t = d
    · subst htd
      refine .v (set1_e _ _ _ 0) ?_
      rw [tmv_put_same (by rw [h.size]; exact hd)]
      exact hsr.mono (.inl rfl) (mv_tr S _ _)
    · have hts := ht.resolve_right htd
      subst hts
      unfold SlotOK
      rw [set1_ne _ _ _ htd, set1_e]
      trivial
/-- All that a tuple owns goes to another slot. -/
theorem InvOf.moveTup (h : InvOf P c σ a S) {s d : Nat} {es : List TM} (hs : (σ s).e = .tup es) (hne : s ≠ d) (hd : d < c.N) :
    InvOf P c (set1 (set1 σ s .dead 0) d (.tup es) 0) (a.put (some d) (tmv a s)) (mv S (s, []) (d, [])) := by
  have hsr := h.slots s
  unfold SlotOK at hsr
  rw [hs] at hsr
  obtain ⟨q1, q2, q3⟩ := h.mvOwned (p := (s, [])) (q := (d, []))
  refine h.rebuild (fun t => t = s ∨ t = d) (by simpa [Act.put] using h.defers) (by simpa [Act.put] using h.size)
    (fun t ht => ⟨by rw [set1_ne _ _ _ (fun e => ht (.inr e)), set1_ne _ _ _ (fun e => ht (.inl e))], tmv_put_ne fun e => ht (.inr e)⟩) (fun r hr => ?_) (fun t ht => ?_) (fun _ h => h) (fun _ _ => rfl) rfl (fun _ _ => rfl)
    (fun t ht q => mv_hv_ne fun ρ he => ht (.inr (pa_slot he))) (fun t ht b q hb => ⟨mv_own_ne hb fun ρ he => ht (.inl (pa_slot he)), rfl⟩) q1 q2 q3 rfl rfl rfl (Nat.le_refl _) (fun _ _ _ => rfl)
  · by_cases hrd : r = d
    · subst hrd
      exact ⟨by rw [set1_same]; exact Nat.le_refl _, .inl (by rw [set1_same, set1_ne _ _ _ (Ne.symm hne)]; exact Nat.lt_succ_self _)⟩
    · have hrs := hr.resolve_right hrd
      subst hrs
      exact ⟨by rw [set1_ne _ _ _ hrd, set1_same]; exact Nat.le_refl _, .inl (by rw [set1_ne _ _ _ hrd, set1_same]; exact Nat.lt_succ_self _)⟩
  · by_cases htd : t = d
    · subst htd
      unfold SlotOK
      rw [set1_e, tmv_put_same (by rw [h.size]; exact hd)]
      obtain ⟨vs, h1, h2, h3⟩ := hsr
      refine ⟨vs, h1, h2, fun k e hk => ?_⟩
      obtain ⟨u, h4, h5⟩ := h3 k e hk
      exact ⟨u, h4, h5.mono (.inl rfl) ((mv_tr S _ _).px k)⟩
    · have hts := ht.resolve_right htd
      subst hts
      unfold SlotOK
      rw [set1_ne _ _ _ htd, set1_e]
      trivial
theorem pa_nil0 (r : Nat) (ρ : List Nat) : pa (r, []) ρ = (r, ρ) := by simp [pa]
/-- A part of slot s goes to slot d. -/
theorem InvOf.takePart (h : InvOf P c σ a S) {s d : Nat} {t u : Ty} {m m' k : Md} {x : t.den} {y : u.den} {π : List Nat} (hs : (σ s).e = .v t m x) (hne : s ≠ d) (hd : d < c.N) (hm : modeP π t m = some k) (hg : getP π t x = some ⟨u, y⟩)
    (ho : okP S π t (s, [])) (hset : setM π t m .dead = some m') {v : Value} (hv : ∀ cs l, locP π t = some l → (match l with
      | (none, o) => cs = fun i => vcells t (tmv a s) (o + i)
      | (some q, o) => ∃ b, hvB (S.hv (s, q)) = some b ∧ cs = blk S.w b o) → ∀ i, i < u.size → vcells u v i = cs i) (hagg : AggOK u v) :
    InvOf P c (set1 (set1 σ s (.v t m' x) 1) d (.v u k y) 0) (a.put (some d) v) (mv S (s, π) (d, [])) := by
  have hsr := h.slot hs
  obtain ⟨q1, q2, q3⟩ := h.mvOwned (p := (s, π)) (q := (d, []))
  obtain ⟨u', y', l, cs', h1, h2, h3, h4⟩ := Rel.at hsr.1 hm ho
  rw [hg] at h1
  cases h1
  rw [pa_nil0] at h3
  have hcell : ∀ i, i < u.size → vcells u v i = cs' i := hv cs' l h2 (by
    obtain ⟨q, o⟩ := l
    cases q with
    | none => exact h4
    | some q => obtain ⟨b, h5, h6, h7, _⟩ := h4; rw [pa_nil0] at h5; exact ⟨b, h5, h7⟩)
  have hfr : ∀ b0, Fr S (mv S (s, π) (d, [])) (s, []) π b0 := fun b0 => ⟨fun _ h => h, fun _ _ => rfl, fun _ h => .inr h, fun _ _ => rfl, fun r _ => mv_hv_ne fun ρ he => hne (pa_slot he), fun b r hr hb => ⟨mv_own_ne hb fun ρ he => by rw [pa_nil0] at he; exact hr (pa_prefix he), fun _ => rfl⟩⟩
  have hdead : Rel P u (mv S (s, π) (d, [])) .dead (s, π) y cs' := (h3.weaken (leM_dead u k)).dead_any fun _ _ => rfl
  have hrel : Rel P t (mv S (s, π) (d, [])) m' (s, []) x (vcells t (tmv a s)) := by
    refine hsr.1.updAt h2 hset (setP_getP hg) ho ?_
    obtain ⟨q, o⟩ := l
    cases q with
    | none =>
      refine ⟨hfr _, ?_⟩
      rw [pa_nil0]
      have h4' : cs' = fun i => vcells t (tmv a s) (o + i) := h4
      rw [← h4']
      exact hdead
    | some q =>
      obtain ⟨b, h5, h6, h7, cur, e, h8⟩ := h4
      refine ⟨b, cur, cur, e, h5, h6, h8, h8, rfl, fun _ _ => rfl, hfr _, ?_⟩
      rw [pa_nil0, ← blk_cur h8, ← h7]
      exact hdead
  refine h.rebuild (fun t => t = s ∨ t = d) (by simpa [Act.put] using h.defers) (by simpa [Act.put] using h.size)
    (fun t ht => ⟨by rw [set1_ne _ _ _ (fun e => ht (.inr e)), set1_ne _ _ _ (fun e => ht (.inl e))], tmv_put_ne fun e => ht (.inr e)⟩) (fun r hr => ?_) (fun t ht => ?_) (fun _ h => h) (fun _ _ => rfl) rfl (fun _ _ => rfl)
    (fun t ht q => mv_hv_ne fun ρ he => ht (.inr (pa_slot he))) (fun t ht b q hb => ⟨mv_own_ne hb fun ρ he => ht (.inl (pa_slot he)), rfl⟩) q1 q2 q3 rfl rfl rfl (Nat.le_refl _) (fun _ _ _ => rfl)
  · by_cases hrd : r = d
    · subst hrd
      exact ⟨by rw [set1_same]; exact Nat.le_refl _, .inl (by rw [set1_same, set1_ne _ _ _ (Ne.symm hne)]; exact Nat.lt_succ_self _)⟩
    · have hrs := hr.resolve_right hrd
      subst hrs
      exact .bump (k := 1) (h.gens r) hs (by rw [set1_ne _ _ _ hrd, set1_same]) (fun _ => mv_hv_ne fun ρ he => hrd (pa_slot he)) fun _ h => absurd rfl h
  · by_cases htd : t = d
    · subst htd
      refine .v (set1_e _ _ _ 0) ?_
      rw [tmv_put_same (by rw [h.size]; exact hd)]
      exact ⟨h3.mono (.inl rfl) (mv_tr S _ _) hcell, hagg⟩
    · have hts := ht.resolve_right htd
      subst hts
      refine .v (by rw [set1_ne _ _ _ htd, set1_e]) ?_
      rw [tmv_put_ne htd]
      exact ⟨hrel, hsr.2⟩
/- WRITES -/
theorem vcells_cells {t : Ty} {m : Md} {p : Place} {x : t.den} {v : Value} (h : SR P t S m p x v) : v.cells.size = t.size ∧ (∀ i, i < t.size → v.cells[i]? = vcells t v i) ∧ ∀ u ∈ v.cells.toList, u.oneCell' = true := by
  have hc := h.1.cells
  by_cases hag : t.agg = true
  · obtain ⟨cs, rfl, h2⟩ := h.2 hag
    have he : vcells t (.agg cs) = fun i => cs[i]? := by unfold vcells; rw [if_pos hag]
    rw [he] at hc ⊢
    refine ⟨h2, fun _ _ => rfl, fun u hu => ?_⟩
    obtain ⟨i, hi, rfl⟩ := List.getElem_of_mem hu
    simp only [Value.cells, Array.length_toList] at hi
    obtain ⟨u, h3, h4⟩ := hc i (by omega)
    have h5 : cs[i]? = some u := h3
    rw [Array.getElem?_eq_getElem hi] at h5
    cases h5
    simpa [Value.cells] using h4
  · have hs : t.size = 1 := by cases t <;> first | rfl | exact absurd rfl hag
    have he : vcells t v = fun i => if i = 0 then some v else none := by unfold vcells; rw [if_neg hag]
    rw [he, hs] at hc
    obtain ⟨u, h1, h2⟩ := hc 0 Nat.one_pos
    simp only [if_true, Option.some.injEq] at h1
    subst h1
    have hv : v.cells = #[v] := by cases v <;> first | rfl | cases h2
    rw [hv, hs, he]
    refine ⟨rfl, fun i hi => ?_, fun w hw => ?_⟩
    · have : i = 0 := by omega
      subst this; rfl
    · simp at hw; subst hw; exact h2
def splice (cur : Array Value) (o : Nat) (vs : List Value) : Array Value := (cur.toList.take o ++ vs ++ cur.toList.drop (o + vs.length)).toArray
theorem splice_size {cur : Array Value} {o : Nat} {vs : List Value} (h : o + vs.length ≤ cur.size) : (splice cur o vs).size = cur.size := by
  unfold splice
  simp only [List.size_toArray, List.length_append, List.length_take, List.length_drop, Array.length_toList]
  omega
theorem splice_out {cur : Array Value} {o : Nat} {vs : List Value} (h : o + vs.length ≤ cur.size) {i : Nat} (hi : i < o ∨ o + vs.length ≤ i) : (splice cur o vs)[i]? = cur[i]? := by
  unfold splice
  rw [List.getElem?_toArray, ← Array.getElem?_toList]
  rcases hi with hi | hi
  · rw [List.append_assoc, List.getElem?_append_left (by simp; omega), List.getElem?_take, if_pos hi]
  · rw [List.getElem?_append_right (by simp; omega), List.getElem?_drop]
    congr 1
    simp only [List.length_append, List.length_take, Array.length_toList]
    omega
theorem splice_in {cur : Array Value} {o : Nat} {vs : List Value} (h : o + vs.length ≤ cur.size) {i : Nat} (hi : i < vs.length) : (splice cur o vs)[o + i]? = vs[i]? := by
  unfold splice
  rw [List.getElem?_toArray, List.append_assoc, List.getElem?_append_right (by simp; omega), List.getElem?_append_left (by simp; omega)]
  congr 1
  simp only [List.length_take, Array.length_toList]
  omega
/-- The part at π of slot r is overwritten; S1 is the state but for memory (only what lies at π may have other owners and headers). -/
theorem InvOf.overwrite (h : InvOf P c σ a S) {S1 : St} {r : Nat} {t u : Ty} {m m' k : Md} {x x' : t.den} {y : u.den} {π q : List Nat} {o b : Nat} {cur : Array Value} {e : TypeId} (hr : (σ r).e = .v t m x)
    (hl : locP π t = some (some q, o)) (ho : okP S π t (r, [])) (hh : hvB (S.hv (r, q)) = some b) (hw : S.own b = some (r, q)) (hb : S.w.heap[b]? = some (.cells cur e (0, 0))) (hm : setM π t m k = some m') (hx : setP π t x ⟨u, y⟩ = some x')
    {v : Value} {vs : List Value} (hvs : vs.length = u.size) (hfit : o + u.size ≤ cur.size) (hcell : ∀ i, i < u.size → vs[i]? = vcells u v i)
    (hS1 : S1.w = S.w.setRow b (splice cur o vs)) (hfr : Fr S S1 (r, []) π (some b)) (hy : Rel P u S1 k (r, π) y (vcells u v)) : Rel P t S1 m' (r, []) x' (vcells t (tmv a r)) := by
  refine (h.slot hr).1.updAt hl hm hx ho ⟨b, cur, splice cur o vs, e, by rw [pa_nil0]; exact hh, by rw [pa_nil0]; exact hw, hb, by rw [hS1]; exact setRow_heap S.w b cur _ e _ hb, splice_size (by omega), fun i hi => splice_out (by omega) (by omega), hfr, ?_⟩
  rw [pa_nil0]
  refine hy.mono (q := true) (.inl rfl) ⟨fun _ h => h, fun _ _ => rfl, fun _ _ h => .inr h, fun _ _ _ => rfl, fun _ => rfl, fun _ _ h => ⟨h, rfl⟩⟩ fun i hi => ?_
  rw [splice_in (by omega) (by omega), hcell i hi]
/-- A value that owns nothing is stored. -/
theorem InvOf.store (h : InvOf P c σ a S) {r : Nat} {t u : Ty} {m m' k : Md} {x x' : t.den} {y : u.den} {π q : List Nat} {o b : Nat} {cur : Array Value} {e : TypeId} (hr : (σ r).e = .v t m x)
    (hl : locP π t = some (some q, o)) (ho : okP S π t (r, [])) (hh : hvB (S.hv (r, q)) = some b) (hw : S.own b = some (r, q)) (hb : S.w.heap[b]? = some (.cells cur e (0, 0))) (hm : setM π t m k = some m') (hx : setP π t x ⟨u, y⟩ = some x')
    {v : Value} {p : Place} (hfit : o + u.size ≤ cur.size) (hv : SR P u S k p y v) (hk : k.noown = true) :
    InvOf P c (set1 σ r (.v t m' x') 2) a { S with w := S.w.setRow b (splice cur o v.cells.toList) } := by
  obtain ⟨hv1, hv2, _⟩ := vcells_cells hv
  have hne : ∀ b', S.own b' = none → b' ≠ b := fun b' hb' he => by rw [he, hw] at hb'; cases hb'
  have hrow : ∀ b', b' ≠ b → (S.w.setRow b (splice cur o v.cells.toList)).heap[b']? = S.w.heap[b']? := fun b' hb' => setRow_other S.w b b' _ hb'
  have hneF : ∀ b', S.F b' → b' ≠ b := fun b' hb' => hne b' (h.shared b' hb').1
  have hneB : ∀ b', S.B b' → b' ≠ b := fun b' hb' => hne b' (h.WF.borrowed b' hb').1
  have hf2 : Fut2 S { S with w := S.w.setRow b (splice cur o v.cells.toList) } := ⟨fun b' hb' => ⟨hb', hrow b' (hneF b' hb')⟩, fun b' hb' => ⟨.inr hb', hrow b' (hneB b' hb')⟩⟩
  have hrel := h.overwrite (S1 := { S with w := S.w.setRow b (splice cur o v.cells.toList) }) hr hl ho hh hw hb hm hx (v := v) (vs := v.cells.toList) (by simpa using hv1) hfit (fun i hi => by simpa using hv2 i hi) rfl
    ⟨fun _ h => h, fun b' hb' => hrow b' (hneF b' hb'), fun _ h => .inr h, fun b' hb' => hrow b' (hneB b' hb'), fun _ _ => rfl, fun b' r' _ hb' => ⟨hb', fun he => hrow b' (fun hh => he (by rw [hh]))⟩⟩ ((hv.free (p' := (r, π)) hk hf2).1)
  refine h.rebuild (fun t => t = r) h.defers h.size (fun t ht => ⟨set1_ne σ _ _ ht, rfl⟩) (fun t ht => ?_) (fun t ht => ?_) (fun _ h => h) (fun b' hb' => hrow b' (hneF b' hb')) rfl (fun b' hb' => hrow b' (hneB b' hb')) (fun _ _ _ => rfl)
    (fun t ht b' q' hb' => ⟨hb', hrow b' (fun he => by rw [he, hw] at hb'; cases hb'; exact ht rfl)⟩) (fun b' hb' => ⟨(h.shared b' hb').1, by simpa [World.setRow] using (h.shared b' hb').2.1, (h.shared b' hb').2.2⟩) (fun b' hb' => (h.borrowed b' hb').1)
    (fun b' p' hp' => ⟨by simpa [World.setRow] using (h.owned b' p' hp').1, (h.owned b' p' hp').2⟩) rfl rfl rfl (by simp [World.setRow]) (fun b' hlt hO => hrow b' fun he => ?_)
  · subst ht
    exact .bump (h.gens t) hr (set1_same σ t _ 2) (fun h => by cases h) fun _ _ _ => rfl
  · subst ht
    exact .v (set1_e σ t _ 2) ⟨hrel, (h.slot hr).2⟩
  · subst he
    rcases (h.owned b' _ hw).2 with h1 | h1
    · omega
    · exact hO h1
/-- Slot s's whole value is stored at π of slot r. -/
theorem InvOf.give (h : InvOf P c σ a S) {r s : Nat} {t u : Ty} {m m' k : Md} {x x' : t.den} {y : u.den} {π q : List Nat} {o b : Nat} {cur : Array Value} {e : TypeId} (hr : (σ r).e = .v t m x) (hs : (σ s).e = .v u k y) (hne : s ≠ r)
    (hl : locP π t = some (some q, o)) (ho : okP S π t (r, [])) (hq : π ≠ []) (hh : hvB (S.hv (r, q)) = some b) (hw : S.own b = some (r, q)) (hb : S.w.heap[b]? = some (.cells cur e (0, 0))) (hm : setM π t m k = some m') (hx : setP π t x ⟨u, y⟩ = some x')
    (hfit : o + u.size ≤ cur.size) :
    InvOf P c (set1 (set1 σ s .dead 0) r (.v t m' x') 1) a { mv S (s, []) (r, π) with w := S.w.setRow b (splice cur o (tmv a s).cells.toList) } := by
  have hv := h.slot hs
  obtain ⟨hv1, hv2, _⟩ := vcells_cells hv
  obtain ⟨q1, q2, q3⟩ := h.mvOwned (p := (s, [])) (q := (r, π))
  have hne' : ∀ b', S.own b' = none → b' ≠ b := fun b' hb' he => by rw [he, hw] at hb'; cases hb'
  have hrow : ∀ b', b' ≠ b → (S.w.setRow b (splice cur o (tmv a s).cells.toList)).heap[b']? = S.w.heap[b']? := fun b' hb' => setRow_other S.w b b' _ hb'
  have hneF : ∀ b', S.F b' → b' ≠ b := fun b' hb' => hne' b' (h.shared b' hb').1
  have hneB : ∀ b', S.B b' → b' ≠ b := fun b' hb' => hne' b' (h.WF.borrowed b' hb').1
  have hbs : ∀ b' ρ, S.own b' = some (pa (s, []) ρ) → b' ≠ b := fun b' ρ hb' he => by rw [he, hw] at hb'; rw [pa_nil0] at hb'; cases hb'; exact hne rfl
  have hT : Tr true S { mv S (s, []) (r, π) with w := S.w.setRow b (splice cur o (tmv a s).cells.toList) } (s, []) (r, π) :=
    ⟨fun _ h => h, fun b' hb' => hrow b' (hneF b' hb'), fun _ _ h => .inr h, fun _ b' hb' => hrow b' (hneB b' hb'), mv_hv, fun b' ρ hb' => ⟨mv_own hb', hrow b' (hbs b' ρ hb')⟩⟩
  have hrel := h.overwrite (S1 := { mv S (s, []) (r, π) with w := S.w.setRow b (splice cur o (tmv a s).cells.toList) }) hr hl ho hh hw hb hm hx (v := tmv a s) (vs := (tmv a s).cells.toList) (by simpa using hv1) hfit (fun i hi => by simpa using hv2 i hi) rfl
    ⟨fun _ h => h, fun b' hb' => hrow b' (hneF b' hb'), fun _ h => .inr h, fun b' hb' => hrow b' (hneB b' hb'), fun ρ hρ => mv_hv_ne fun ρ' he => by rw [pa_nil0] at he; exact hρ (pa_prefix he),
      fun b' r' _ hb' => ⟨mv_own_ne hb' fun ρ he => by rw [pa_nil0, pa_nil0] at he; cases he; exact hne rfl, fun he => hrow b' (fun hh => he (by rw [hh]))⟩⟩ (hv.1.mono (.inl rfl) hT fun _ _ => rfl)
  refine h.rebuild (fun t => t = s ∨ t = r) h.defers h.size (fun t ht => ⟨by rw [set1_ne _ _ _ (fun e => ht (.inr e)), set1_ne _ _ _ (fun e => ht (.inl e))], rfl⟩) (fun t ht => ?_) (fun t ht => ?_) (fun _ h => h) (fun b' hb' => hrow b' (hneF b' hb')) rfl (fun b' hb' => hrow b' (hneB b' hb'))
    (fun t ht q => mv_hv_ne fun ρ he => ht (.inr (pa_slot he))) (fun t ht b' q' hb' => ⟨mv_own_ne hb' fun ρ he => ht (.inl (pa_slot he)), hrow b' (fun he => by rw [he, hw] at hb'; cases hb'; exact ht (.inr rfl))⟩)
    (fun b' hb' => ⟨(q1 b' hb').1, by simpa [World.setRow] using (q1 b' hb').2.1, (q1 b' hb').2.2⟩) q2 (fun b' p' hp' => ⟨by simpa [World.setRow] using (q3 b' p' hp').1, (q3 b' p' hp').2⟩) rfl rfl rfl (by simp [World.setRow]) (fun b' hlt hO => hrow b' fun he => ?_)
  · by_cases htr : t = r
    · subst htr
      refine .bump (k := 1) (h.gens t) hr (by rw [set1_same, set1_ne _ _ _ (Ne.symm hne)]) (fun _ => mv_hv_ne fun ρ he => ?_) fun _ h => absurd rfl h
      simp only [pa, Prod.mk.injEq, true_and] at he
      exact hq (List.append_eq_nil_iff.1 he.symm).1
    · have hts := ht.resolve_right htr
      subst hts
      exact ⟨by rw [set1_ne _ _ _ htr, set1_same]; exact Nat.le_refl _, .inl (by rw [set1_ne _ _ _ htr, set1_same]; exact Nat.lt_succ_self _)⟩
  · by_cases htr : t = r
    · subst htr
      exact .v (set1_e _ _ _ 1) ⟨hrel, (h.slot hr).2⟩
    · have hts := ht.resolve_right htr
      subst hts
      unfold SlotOK
      rw [set1_ne _ _ _ htr, set1_e]
      trivial
  · subst he
    rcases (h.owned b' _ hw).2 with h1 | h1
    · omega
    · exact hO h1
end
end Go.X
