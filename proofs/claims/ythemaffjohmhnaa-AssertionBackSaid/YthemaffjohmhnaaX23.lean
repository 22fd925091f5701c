/- After a call. -/
import Derived.Test.YthemaffjohmhnaaX22
namespace Go.X
open Go Go.RowKit
def outAt : List (Nat × TM) → Nat → Option TM
  | [], _ => none
  | (k, e) :: r, i => if i = k then some e else outAt r i
theorem outAt_mem {l : List (Nat × TM)} {i : Nat} {e : TM} (h : outAt l i = some e) : (i, e) ∈ l := by
  induction l with
  | nil => cases h
  | cons x l ih =>
    obtain ⟨k, e'⟩ := x
    simp only [outAt] at h
    split at h
    · rename_i he; cases h; subst he; simp
    · exact List.mem_cons_of_mem _ (ih h)
/-- What a given place holds after the call. -/
def giveE (g : Gv) (out : Option TM) : Option (Ent × Nat) :=
  if g.io then match out with
    | some e => if e.t = g.u ∧ e.m = g.k then match setP g.π g.t g.x ⟨e.t, e.x⟩, setM g.π g.t g.m e.m with
      | some x, some m => some (.v g.t m x, 1)
      | _, _ => none else none
    | none => none
  else match g.π with
    | [] => some (.dead, 0)
    | π => (setM π g.t g.m .dead).map fun m => (.v g.t m g.x, 1)
def giveU : List (Nat × Gv) → List (Nat × TM) → Option Ups
  | [], _ => some []
  | (k, g) :: gs, outs => match giveE g (outAt outs k), giveU gs outs with
    | some (e, n), some us => some ((g.r, e, n) :: us)
    | _, _ => none
def resE (rs : List TM) : Ent :=
  match rs with
  | [e] => .v e.t e.m e.x
  | rs => .tup rs
/-- The outcome of a call: a result, if any; what it does to the environment. -/
structure CallO where
  R : Type
  m : Option R
  us : R → Option Ups
def nobwS (s : Sig) : Bool := s.rs.all (·.2.nobw) && (outsOf s.ps).all (·.2.nobw)
def callE (sg : Sig) (den : Arr (ptys sg.ps) (Option (Ret sg.res))) (xs : Vals (ptys sg.ps)) (gs : List (Nat × Gv)) (d : Nat) : CallO :=
  ⟨Ret sg.res, app _ den xs, fun y => (giveU gs (sg.outTM y)).map fun us => us ++ [(d, resE (sg.resTM y), 0)]⟩
def callG {P : Program} (FT : List (TgE P)) (d : Nat) (sg : Sig) (den : Arr (ptys sg.ps) (Option (Ret sg.res))) (os : List (Opd × Option (Nat × List TM))) : Option CallO :=
  match argsV FT 0 sg.ps os with
  | some (xs, gs, lr) => if okG gs && (byR gs d).isNone && lr.all (fun r => (byR gs r).isNone) && nobwS sg then some (callE sg den xs gs d) else none
  | none => none
def callU {P : Program} (FT : List (TgE P)) (d f : Nat) (os : List (Opd × Option (Nat × List TM))) : Option CallO :=
  match findF FT f with
  | some E => callG FT d E.sg E.den os
  | none => none
def callM {P : Program} (FT : List (TgE P)) (d : Nat) (nm : String) (os : List (Opd × Option (Nat × List TM))) : Option CallO :=
  match findM FT nm with
  | some E => callG FT d E.sg E.den os
  | none => none
theorem upd_ne : ∀ {us : Ups} {σ : Env} {t : Nat}, (∀ u ∈ us, u.1 ≠ t) → upd us σ t = σ t
  | [], _, _, _ => rfl
  | (s, e, k) :: us, σ, t, h => by
    show upd us (set1 σ s e k) t = _
    rw [upd_ne fun u hu => h u (List.mem_cons_of_mem _ hu)]
    exact set1_ne σ e k (Ne.symm (h _ (List.mem_cons_self ..)))
theorem upd_at : ∀ {us : Ups} {σ : Env} {t : Nat} {e : Ent} {k : Nat}, (us.map (·.1)).Nodup → (t, e, k) ∈ us → upd us σ t = bump k (σ t) e
  | (s, e', k') :: us, σ, t, e, k, hd, hm => by
    simp only [List.map_cons, List.nodup_cons] at hd
    show upd us (set1 σ s e' k') t = _
    rcases List.mem_cons.1 hm with he | he
    · cases he
      rw [upd_ne fun u hu hut => hd.1 (by rw [← hut]; exact List.mem_map_of_mem hu), set1_same]
    · have hne : t ≠ s := fun hts => hd.1 (by rw [← hts]; exact List.mem_map_of_mem (f := (·.1)) he)
      rw [upd_at hd.2 he, set1_ne σ e' k' hne]
theorem giveU_some : ∀ {gs : List (Nat × Gv)} {outs : List (Nat × TM)} {us : Ups}, giveU gs outs = some us →
    us.map (·.1) = gs.map (·.2.r) ∧ ∀ (k : Nat) (g : Gv), (k, g) ∈ gs → ∃ e n, giveE g (outAt outs k) = some (e, n) ∧ (g.r, e, n) ∈ us
  | [], outs, us, h => by cases h; exact ⟨rfl, fun k g hg => by cases hg⟩
  | (k, g) :: gs, outs, us, h => by
    unfold giveU at h
    split at h
    case h_2 => cases h
    rename_i e n us' h1 h2
    cases h
    obtain ⟨h3, h4⟩ := giveU_some h2
    refine ⟨by simp [h3], fun k' g' hg => ?_⟩
    rcases List.mem_cons.1 hg with he | he
    · cases he; exact ⟨e, n, h1, by simp⟩
    · obtain ⟨e', n', h5, h6⟩ := h4 k' g' he
      exact ⟨e', n', h5, List.mem_cons_of_mem _ h6⟩
theorem okG_nodup {gs : List (Nat × Gv)} (h : okG gs = true) : (gs.map (·.2.r)).Nodup := by
  induction gs with
  | nil => simp
  | cons x gs ih =>
    obtain ⟨i, g⟩ := x
    simp only [okG, Bool.and_eq_true, Option.isNone_iff_eq_none] at h
    simp only [List.map_cons, List.nodup_cons]
    refine ⟨fun hm => ?_, ih h.2⟩
    obtain ⟨e, he, heq⟩ := List.mem_map.1 hm
    exact byR_none h.1.1 e he heq
def fromC (gs : List (Nat × Gv)) (n d : Nat) : Place → Option Place
  | (0, q) => if n = 1 then match q with | 0 :: ρ => some (d, ρ) | _ => none else some (d, q)
  | (k + 1, ρ) => match byI gs k with
    | some g => if g.io then some (pa (g.r, g.π) ρ) else none
    | none => none
/-- The caller's state after the call. -/
def St.after (S S' : St) (gs : List (Nat × Gv)) (n d : Nat) : St where
  w := S'.w
  F := S'.F
  B := S.B
  own b := match S'.own b with
    | some z => fromC gs n d z
    | none => match S.own b with
      | some z => match toC gs z with | none => some z | some _ => none
      | none => none
  hv z := if z.1 = d then S'.hv (0, if n = 1 then 0 :: z.2 else z.2) else match byR gs z.1 with
    | some (k, g) => if g.io then (match cut g.π z.2 with | some ρ => S'.hv (k + 1, ρ) | none => S.hv z) else S.hv z
    | none => S.hv z
section
variable {P : Program} {c : Ctx} {σ : Env} {a : Act} {S S' : St} {gs : List (Nat × Gv)} {FT : List (TgE P)} {n d : Nat}
theorem after_old {b : Nat} (hf : Frm (S.callee gs) S') {z : Place} (hb : S.own b = some z) (hn : toC gs z = none) : (S.after S' gs n d).own b = some z := by
  have hl : S'.own b = none := hf.lent b (.inr ⟨z, hb, hn⟩)
  simp only [St.after, hl, hb, hn]
theorem after_kept (h : InvOf P c σ a S) (hf : Frm (S.callee gs) S') {b : Nat} (hb : S.F b ∨ S.B b ∨ ∃ z, S.own b = some z ∧ toC gs z = none) : S'.w.heap[b]? = S.w.heap[b]? := by
  refine hf.kept b (h.wlt (hb.imp id (·.imp id fun ⟨z, hz, _⟩ => ⟨z, hz⟩))) ?_
  rcases hb with hb | hb | ⟨z, hz, hn⟩
  · exact callee_none (h.shared b hb).1
  · exact callee_none (h.WF.borrowed b hb).1
  · simp [St.callee, hz, hn]
theorem afterTr0 (hn : n = 1) : Tr false S' (S.after S' gs n d) (0, [0]) (d, []) where
  F _ h := h
  sF _ _ := rfl
  B h := by cases h
  sB h := by cases h
  hv r := by simp [St.after, pa, hn]
  own b r hb := ⟨by simp only [St.after, hb]; simp [pa, fromC, hn], rfl⟩
theorem afterTr (hn : n ≠ 1) (k : Nat) : Tr false S' (S.after S' gs n d) (0, [k]) (d, [k]) where
  F _ h := h
  sF _ _ := rfl
  B h := by cases h
  sB h := by cases h
  hv r := by simp [St.after, pa, hn]
  own b r hb := ⟨by simp only [St.after, hb]; simp [pa, fromC, hn], rfl⟩
theorem afterTrG (hk : okG gs = true) (hd : byR gs d = none) {k : Nat} {g : Gv} (hm : (k, g) ∈ gs) (hio : g.io = true) : Tr false S' (S.after S' gs n d) (k + 1, []) (g.r, g.π) where
  F _ h := h
  sF _ _ := rfl
  B h := by cases h
  sB h := by cases h
  hv r := by
    have hne : g.r ≠ d := byR_none hd _ hm
    simp only [St.after, pa, if_neg hne, byR_mem hk hm, hio, cut_app, if_true, List.nil_append]
  own b r hb := ⟨by simp only [St.after, hb]; simp [pa, fromC, byI_mem hk hm, hio], rfl⟩
theorem after_hv {z : Place} (hd : z.1 ≠ d) (hc : toC gs z = none) : (S.after S' gs n d).hv z = S.hv z := by
  simp only [St.after, if_neg hd]
  unfold toC at hc
  split
  · rename_i k g hb
    rw [hb] at hc
    simp only [Option.map_eq_none_iff] at hc
    split
    · rw [hc]
    · rfl
  · rfl
theorem after_hv_give {z : Place} (hd : z.1 ≠ d) (hk : ∀ k g, byR gs z.1 = some (k, g) → g.io = false) : (S.after S' gs n d).hv z = S.hv z := by
  simp only [St.after, if_neg hd]
  split
  · rename_i k g hb
    rw [hk k g hb]
    rfl
  · rfl
/-- Outside the given part nothing has turned. -/
theorem afterFr (h : InvOf P c σ a S) (hf : Frm (S.callee gs) S') (hk : okG gs = true) (hd : byR gs d = none) {k : Nat} {g : Gv} (hm : (k, g) ∈ gs) : Fr S (S.after S' gs n d) (g.r, []) g.π none where
  F b hb := hf.F b hb
  sF b hb := after_kept h hf (.inl hb)
  B b hb := .inr hb
  sB b hb := after_kept h hf (.inr (.inl hb))
  hv r hr := by
    rw [pa_nil0]
    refine after_hv (byR_none hd _ hm) ?_
    unfold toC
    simp only [byR_mem hk hm, Option.map_eq_none_iff]
    cases hc : cut g.π r with
    | none => rfl
    | some ρ => exact absurd ⟨ρ, (cut_some hc).symm⟩ hr
  own b r hr hb := by
    rw [pa_nil0] at hb ⊢
    have hc : toC gs (g.r, r) = none := by
      unfold toC
      simp only [byR_mem hk hm, Option.map_eq_none_iff]
      cases hc : cut g.π r with
      | none => rfl
      | some ρ => exact absurd ⟨ρ, (cut_some hc).symm⟩ hr
    exact ⟨after_old hf hb hc, fun _ => after_kept h hf (.inr (.inr ⟨_, hb, hc⟩))⟩
end
end Go.X
