/- The callee's state: what is given lies at its parameters, all else that is owned is lent. -/
import Derived.Test.YthemaffjohmhnaaX20
set_option linter.unusedSimpArgs false
set_option linter.unusedVariables false
namespace Go.X
open Go Go.RowKit
def byR : List (Nat × Gv) → Nat → Option (Nat × Gv)
  | [], _ => none
  | (i, g) :: gs, r => if r = g.r then some (i, g) else byR gs r
def byI : List (Nat × Gv) → Nat → Option Gv
  | [], _ => none
  | (i, g) :: gs, j => if j = i then some g else byI gs j
/-- Given places lie in different slots, at different parameters. -/
def okG : List (Nat × Gv) → Bool
  | [] => true
  | (i, g) :: gs => (byR gs g.r).isNone && (byI gs i).isNone && okG gs
def cut : List Nat → List Nat → Option (List Nat)
  | [], q => some q
  | x :: π, y :: q => if x = y then cut π q else none
  | _ :: _, [] => none
theorem cut_app (π ρ : List Nat) : cut π (π ++ ρ) = some ρ := by
  induction π with
  | nil => rfl
  | cons x π ih => simp [cut, ih]
theorem cut_some {π q ρ : List Nat} (h : cut π q = some ρ) : q = π ++ ρ := by
  induction π generalizing q with
  | nil => cases h; rfl
  | cons x π ih => cases q with
    | nil => cases h
    | cons y q =>
      simp only [cut] at h
      split at h
      · rename_i he; subst he; rw [ih h]; rfl
      · cases h
theorem cut_none {π q : List Nat} (h : cut π q = none) : ¬ π <+: q := by
  rintro ⟨ρ, rfl⟩
  rw [cut_app] at h
  cases h
def toC (gs : List (Nat × Gv)) (z : Place) : Option Place :=
  match byR gs z.1 with
  | some (i, g) => (cut g.π z.2).map fun ρ => (i, ρ)
  | none => none
theorem byR_some {gs : List (Nat × Gv)} {r : Nat} {e : Nat × Gv} (h : byR gs r = some e) : e ∈ gs ∧ e.2.r = r := by
  induction gs with
  | nil => cases h
  | cons x gs ih =>
    obtain ⟨i, g⟩ := x
    simp only [byR] at h
    split at h
    · rename_i he; cases h; exact ⟨by simp, he.symm⟩
    · exact ⟨List.mem_cons_of_mem _ (ih h).1, (ih h).2⟩
theorem byI_some {gs : List (Nat × Gv)} {i : Nat} {g : Gv} (h : byI gs i = some g) : (i, g) ∈ gs := by
  induction gs with
  | nil => cases h
  | cons x gs ih =>
    obtain ⟨j, g'⟩ := x
    simp only [byI] at h
    split at h
    · rename_i he; cases h; subst he; simp
    · exact List.mem_cons_of_mem _ (ih h)
theorem byR_none {gs : List (Nat × Gv)} {r : Nat} (h : byR gs r = none) : ∀ e ∈ gs, e.2.r ≠ r := by
  induction gs with
  | nil => simp
  | cons x gs ih =>
    obtain ⟨i, g⟩ := x
    simp only [byR] at h
    split at h
    · cases h
    · rename_i hne
      intro e he
      rcases List.mem_cons.1 he with rfl | he
      · exact fun h => hne h.symm
      · exact ih h e he
theorem byI_none {gs : List (Nat × Gv)} {i : Nat} (h : byI gs i = none) : ∀ e ∈ gs, e.1 ≠ i := by
  induction gs with
  | nil => simp
  | cons x gs ih =>
    obtain ⟨j, g⟩ := x
    simp only [byI] at h
    split at h
    · cases h
    · rename_i hne
      intro e he
      rcases List.mem_cons.1 he with rfl | he
      · exact fun h => hne h.symm
      · exact ih h e he
theorem byR_mem {gs : List (Nat × Gv)} (h : okG gs = true) {i : Nat} {g : Gv} (hm : (i, g) ∈ gs) : byR gs g.r = some (i, g) := by
  induction gs with
  | nil => cases hm
  | cons x gs ih =>
    obtain ⟨j, g'⟩ := x
    simp only [okG, Bool.and_eq_true, Option.isNone_iff_eq_none] at h
    simp only [byR]
    rcases List.mem_cons.1 hm with he | he
    · cases he; rw [if_pos rfl]
    · rw [if_neg (byR_none h.1.1 _ he), ih h.2 he]
theorem byI_mem {gs : List (Nat × Gv)} (h : okG gs = true) {i : Nat} {g : Gv} (hm : (i, g) ∈ gs) : byI gs i = some g := by
  induction gs with
  | nil => cases hm
  | cons x gs ih =>
    obtain ⟨j, g'⟩ := x
    simp only [okG, Bool.and_eq_true, Option.isNone_iff_eq_none] at h
    simp only [byI]
    rcases List.mem_cons.1 hm with he | he
    · cases he; rw [if_pos rfl]
    · rw [if_neg (byI_none h.1.2 _ he), ih h.2 he]
theorem toC_mem {gs : List (Nat × Gv)} (h : okG gs = true) {i : Nat} {g : Gv} (hm : (i, g) ∈ gs) (ρ : List Nat) : toC gs (pa (g.r, g.π) ρ) = some (i, ρ) := by
  unfold toC
  simp only [pa, byR_mem h hm, cut_app, Option.map_some]
theorem toC_some {gs : List (Nat × Gv)} {z : Place} {i : Nat} {ρ : List Nat} (h : toC gs z = some (i, ρ)) : ∃ g, (i, g) ∈ gs ∧ z = pa (g.r, g.π) ρ := by
  unfold toC at h
  split at h
  · rename_i j g hb
    simp only [Option.map_eq_some_iff, Prod.mk.injEq] at h
    obtain ⟨ρ', h1, rfl, rfl⟩ := h
    obtain ⟨h2, h3⟩ := byR_some hb
    refine ⟨g, h2, ?_⟩
    obtain ⟨r, q⟩ := z
    simp only at h1 h3
    rw [pa, cut_some h1, h3]
  · cases h
theorem toC_none_of {gs : List (Nat × Gv)} {z : Place} (h : byR gs z.1 = none) : toC gs z = none := by
  unfold toC; rw [h]
/-- The callee's state. -/
def St.callee (S : St) (gs : List (Nat × Gv)) : St where
  w := S.w
  F := S.F
  B b := S.B b ∨ ∃ z, S.own b = some z ∧ toC gs z = none
  own b := (S.own b).bind (toC gs)
  hv z := match byI gs z.1 with
    | some g => S.hv (pa (g.r, g.π) z.2)
    | none => .slice none 0 0
section
variable {P : Program} {c : Ctx} {σ : Env} {a : Act} {S : St} {gs : List (Nat × Gv)}
theorem callee_own {b : Nat} {z : Place} (h : (S.callee gs).own b = some z) : ∃ y, S.own b = some y ∧ toC gs y = some z := by
  simp only [St.callee, Option.bind_eq_some_iff] at h
  exact h
theorem callee_none {b : Nat} (h : S.own b = none) : (S.callee gs).own b = none := by simp [St.callee, h]
theorem InvOf.calleeWF (h : InvOf P c σ a S) : (S.callee gs).WF where
  shared b hb := ⟨callee_none (h.shared b hb).1, (h.shared b hb).2.1⟩
  borrowed b hb := by
    rcases hb with hb | ⟨z, hz, hn⟩
    · exact ⟨callee_none (h.WF.borrowed b hb).1, (h.WF.borrowed b hb).2⟩
    · exact ⟨by simp [St.callee, hz, hn], (h.owned b z hz).1⟩
  owned b p hb := by
    obtain ⟨y, hy, _⟩ := callee_own hb
    exact (h.owned b y hy).1
theorem calleeFut2 : Fut2 S (S.callee gs) := ⟨fun _ h => ⟨h, rfl⟩, fun _ h => ⟨.inr (.inl h), rfl⟩⟩
theorem calleeTr (hg : okG gs = true) {i : Nat} {g : Gv} (hm : (i, g) ∈ gs) : Tr true S (S.callee gs) (g.r, g.π) (i, []) where
  F _ h := h
  sF _ _ := rfl
  B _ b hb := .inr (.inl hb)
  sB _ _ _ := rfl
  hv r := by simp [St.callee, pa, byI_mem hg hm]
  own b r hb := ⟨by simp only [St.callee, hb, Option.bind_some]; rw [toC_mem hg hm]; simp [pa], rfl⟩
/-- The state in which nothing is owned. -/
def St.bare (S : St) : St := { S with own := fun _ => none }
theorem bareFut2 : Fut2 S S.bare := ⟨fun _ h => ⟨h, rfl⟩, fun _ h => ⟨.inr h, rfl⟩⟩
theorem bareFut2' : Fut2 S.bare S := ⟨fun _ h => ⟨h, rfl⟩, fun _ h => ⟨.inr h, rfl⟩⟩
/-- What lies in slots that are not given is lent. -/
theorem lendS {t : Ty} {m : Md} {p p' : Place} {x : t.den} {cs : Cs} (h : Rel P t S m p x cs) (hl : live t m = true) (hr : m.noown = true ∨ byR gs p.1 = none) : Rel P t (S.callee gs) .bw p' x cs := by
  rcases hr with hr | hr
  · have h1 : Rel P t S.bare m p x cs := h.free hr bareFut2 fun _ _ => rfl
    exact h1.share (q := true) (.inr rfl) (.inl rfl) hl ⟨fun b hb => ⟨hb, rfl⟩, fun _ b hb => ⟨.inr ⟨rfl, .inl hb⟩, rfl⟩, fun b r hb => by cases hb⟩
  · exact h.share (q := true) (.inr rfl) (.inl rfl) hl ⟨fun b hb => ⟨hb, rfl⟩, fun _ b hb => ⟨.inr ⟨rfl, .inl hb⟩, rfl⟩, fun b r hb => ⟨.inr ⟨rfl, .inr ⟨_, hb, toC_none_of hr⟩⟩, rfl⟩⟩
theorem lendSR {t : Ty} {m : Md} {p p' : Place} {x : t.den} {v : Value} (h : SR P t S m p x v) (hl : live t m = true) (hr : m.noown = true ∨ byR gs p.1 = none) : SR P t (S.callee gs) .bw p' x v := ⟨lendS h.1 hl hr, h.2⟩
theorem shareSR {t : Ty} {m : Md} {p p' : Place} {x : t.den} {v : Value} (h : SR P t S m p x v) (hl : leM t m .sh = true) : SR P t (S.callee gs) .sh p' x v := ⟨(h.1.weaken hl).fut (.inl rfl) (calleeFut2.sh _) fun _ _ => rfl, h.2⟩
/-- The value of an operand: where it lies. -/
theorem InvOf.valAt (h : InvOf P c σ a S) {o : Operand} {t : Ty} {m : Md} {x : t.den} (hv : (look σ o).val t = some (m, x)) : ∃ p, SR P t S m p x (a.eval o) ∧ (m.noown = true ∨ p.1 ∈ (look σ o).roots) := by
  cases o with
  | const v =>
    simp only [look, Opd.val, Option.map_eq_some_iff, Prod.mk.injEq] at hv
    obtain ⟨y, h1, rfl, rfl⟩ := hv
    exact ⟨(0, []), cval_sound h1, .inl rfl⟩
  | func f => simp [look, Opd.val] at hv
  | global g => simp [look, Opd.val] at hv
  | tmp s =>
    simp only [look, Opd.val] at hv
    split at hv
    · rename_i t' m' x' he
      simp only [Option.map_eq_some_iff, Prod.mk.injEq] at hv
      obtain ⟨y, h1, rfl, rfl⟩ := hv
      have := TV.to_some h1
      cases this
      refine ⟨_, h.slot he, ?_⟩
      simp only [look, Opd.roots, he]
      cases hm : m'.noown with
      | true => exact .inl rfl
      | false => exact .inr (by simp)
    · rename_i r π s' he
      have hr : rootOf σ (σ s).e = σ r := by rw [he]; rfl
      rw [hr] at hv
      split at hv
      · rename_i tr mr xr hroot
        split at hv
        · rename_i hg
          split at hv
          · rename_i e k y hm hgp
            simp only [Option.map_eq_some_iff, Prod.mk.injEq] at hv
            obtain ⟨z, h1, rfl, rfl⟩ := hv
            have := TV.to_some h1
            subst this
            obtain ⟨_, h2⟩ := (h.ent s).view he
            obtain ⟨h3, h4⟩ := h2 tr mr xr hroot hg.1
            obtain ⟨u, y, l, cs', h5, h6, h7, h8⟩ := Rel.at (h.slot hroot).1 hm h3
            rw [hgp] at h5
            cases h5
            rw [pa_nil0] at h7
            refine ⟨(r, π), ?_, .inr (by simp [look, Opd.roots, he])⟩
            rw [tmv_eval, h4]
            cases t <;> first | (have := hg.2; cases this; done) | skip
            refine ⟨h7.mono (q := true) (.inl rfl) ⟨fun _ h => h, fun _ _ => rfl, fun _ _ h => .inr h, fun _ _ _ => rfl, fun _ => rfl, fun _ _ h => ⟨h, rfl⟩⟩ fun i hi => ?_, fun h => by cases h⟩
            have : i = 0 := by simp only [Ty.size] at hi; omega
            subst this
            rw [h7.2.2.1]
            rfl
          · cases hv
        · cases hv
      · cases hv
    · cases hv
theorem InvOf.place_root (h : InvOf P c σ a S) {o : Operand} {p : Pl} (hp : (look σ o).place = some p) (hn : p.m.noown = false) : p.r ∈ (look σ o).roots := by
  cases o with
  | const v => simp [look, Opd.place] at hp
  | func f => simp [look, Opd.place] at hp
  | global g => simp [look, Opd.place] at hp
  | tmp t =>
    simp only [look, Opd.place] at hp
    split at hp
    · rename_i u e m x he
      cases hp
      simp [look, Opd.roots, he, Md.noown]
    · rename_i r π s he
      have hr : rootOf σ (σ t).e = σ r := by rw [he]; rfl
      rw [hr] at hp
      split at hp
      · split at hp
        · cases hp
          simp [look, Opd.roots, he]
        · cases hp
      · cases hp
    · cases hp
/-- A pointer leads to memory that is owned. -/
theorem locP_own : ∀ {π : List Nat} {t : Ty} {m k : Md} {q : List Nat} {o : Nat}, locP π t = some (some q, o) → modeP π t m = some k → m.noown = false
  | [], _, _, _, _, _, hl, _ => by simp [locP] at hl
  | i :: π, .pair a b, m, k, q, o, hl, h => by
    match i with
    | 0 =>
      simp only [locP, Option.map_eq_some_iff] at hl
      obtain ⟨⟨q', o'⟩, h1, h2⟩ := hl
      cases q' with
      | none => simp at h2
      | some q' =>
        cases hn : m.noown with
        | false => rfl
        | true => exact absurd (Md.noown_l hn) (by rw [locP_own (π := π) (t := a) h1 h]; simp)
    | 1 =>
      simp only [locP, Option.map_eq_some_iff] at hl
      obtain ⟨⟨q', o'⟩, h1, h2⟩ := hl
      cases q' with
      | none => simp at h2
      | some q' =>
        cases hn : m.noown with
        | false => rfl
        | true => exact absurd (Md.noown_r hn) (by rw [locP_own (π := π) (t := b) h1 h]; simp)
    | i + 2 => simp [modeP] at h
  | i :: π, .arr n t, m, k, q, o, hl, h => by
    have h' : modeP π t m = some k := by cases i <;> (try rename_i j; cases j) <;> exact h
    rw [locP_arr] at hl
    simp only [Option.map_eq_some_iff] at hl
    obtain ⟨⟨q', o'⟩, h1, h2⟩ := hl
    cases q' with
    | none => simp at h2
    | some q' => exact locP_own h1 h'
  | i :: π, .slice t, m, k, q, o, hl, h => by
    cases m <;> first | rfl | (cases i <;> (try rename_i j; cases j) <;> simp [modeP] at h)
  | i :: π, .ptr t, m, k, q, o, hl, h => by
    cases m <;> first | rfl | (cases i <;> (try rename_i j; cases j) <;> simp [modeP] at h)
  | _ :: _, .int _, _, _, _, _, _, h => by simp [modeP] at h
  | _ :: _, .bool, _, _, _, _, _, h => by simp [modeP] at h
  | _ :: _, .str, _, _, _, _, _, h => by simp [modeP] at h
  | _ :: _, .unit, _, _, _, _, _, h => by simp [modeP] at h
  | _ :: _, .fn1 _ _, _, _, _, _, _, h => by simp [modeP] at h
  | _ :: _, .fn2 _ _ _, _, _, _, _, _, h => by simp [modeP] at h
  | _ :: _, .alt _ _ _, _, _, _, _, _, h => by simp [modeP] at h
  | _ :: _, .nilI, _, _, _, _, _, h => by simp [modeP] at h
/-- No slot of those that lend is given. -/
def NoG (gs : List (Nat × Gv)) (l : List Nat) : Prop := ∀ r ∈ l, byR gs r = none
theorem bw_sound (h : InvOf P c σ a S) {t : Ty} {o : Operand} {z : ArgR t} (hx : argBw t (look σ o) = some z) (hn : NoG gs z.lr) (p : Place) : z.g = none ∧ SR P t (S.callee gs) .bw p z.x (a.eval o) := by
  unfold argBw at hx
  split at hx
  case h_2 => cases hx
  rename_i m x hv
  split at hx
  case isFalse => cases hx
  rename_i hl
  cases hx
  obtain ⟨p0, h1, h2⟩ := h.valAt hv
  exact ⟨rfl, lendSR h1 hl (h2.imp id (hn _))⟩
theorem ptrBlk {u : Ty} {k : Md} {p : Place} {y : u.den} {b off : Nat} (hl : live u k = true) (hr : k.noown = true ∨ byR gs p.1 = none) (h : Rel P u S k p y (blk S.w b off)) (hb : u.size ≠ 0 → (S.callee gs).G .bw b) (p' : Place) :
    SR P (.ptr u) (S.callee gs) .bw p' y (.pointer (some ⟨b, off, none⟩)) :=
  ⟨⟨b, off, by simp [vcells, Ty.agg], hb, lendS h hl hr⟩, fun h => by cases h⟩
theorem ptr_sound (h : InvOf P c σ a S) {u : Ty} {o : Operand} {z : ArgR (.ptr u)} (hx : argPtr u (look σ o) = some z) (hn : NoG gs z.lr) (p : Place) : z.g = none ∧ SR P (.ptr u) (S.callee gs) .bw p z.x (a.eval o) := by
  unfold argPtr at hx
  split at hx
  · rename_i e he
    simp only [Option.map_eq_some_iff] at hx
    obtain ⟨x, h1, rfl⟩ := hx
    have := TV.to_some h1
    obtain ⟨et, em, ex⟩ := e
    cases this
    obtain ⟨h2, b, off, h3, h4, p0, h5⟩ := h.ro he
    refine ⟨rfl, ?_⟩
    rw [h3]
    simp only at h2 h4 h5
    refine ptrBlk (k := em) (live_shbw h2 _) (.inl (by rcases h2 with rfl | rfl <;> rfl)) h5 (fun hs => ?_) p
    rcases h4 hs with h6 | h6
    · exact .inl h6
    · exact .inr ⟨rfl, .inl h6.2⟩
  · split at hx
    case h_2 => cases hx
    rename_i p0 hp
    split at hx
    case h_2 => cases hx
    rename_i k y hm hg
    split at hx
    case isFalse => cases hx
    rename_i hl
    simp only [Option.map_eq_some_iff] at hx
    obtain ⟨x, h1, rfl⟩ := hx
    have := TV.to_some h1
    subst this
    obtain ⟨u', y', q, off, b, cur, e, h2, h3, h4, h5, h6, h7, h8⟩ := h.partAt hp hm
    rw [hg] at h2
    cases h2
    have hroot : byR gs p0.r = none := hn _ (h.place_root hp (by
      cases hno : p0.m.noown with
      | false => rfl
      | true =>
        exfalso
        have hcr := locP_own h3 hm
        rw [hno] at hcr
        cases hcr))
    refine ⟨rfl, ?_⟩
    rw [h7]
    exact ptrBlk hl (.inr hroot) h8 (fun _ => .inr ⟨rfl, .inr ⟨_, h5, toC_none_of hroot⟩⟩) p
end
end Go.X
