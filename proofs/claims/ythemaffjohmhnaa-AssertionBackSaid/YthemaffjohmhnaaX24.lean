/- The invariant after a call. -/
import Derived.Test.YthemaffjohmhnaaX23
set_option linter.unusedSimpArgs false
set_option linter.unusedVariables false
namespace Go.X
open Go Go.RowKit
theorem locP_len : ∀ {π : List Nat} {t : Ty} {q : List Nat} {o : Nat}, locP π t = some (some q, o) → q.length < π.length
  | [], _, _, _, hl => by simp [locP] at hl
  | i :: π, .pair a b, q, o, hl => by
    match i with
    | 0 =>
      simp only [locP, Option.map_eq_some_iff] at hl
      obtain ⟨⟨q', o'⟩, h1, h2⟩ := hl
      cases q' with
      | none => simp at h2
      | some q' => have := locP_len (π := π) (t := a) h1; simp at h2; rw [← h2.1]; simpa using this
    | 1 =>
      simp only [locP, Option.map_eq_some_iff] at hl
      obtain ⟨⟨q', o'⟩, h1, h2⟩ := hl
      cases q' with
      | none => simp at h2
      | some q' => have := locP_len (π := π) (t := b) h1; simp at h2; rw [← h2.1]; simpa using this
    | i + 2 => simp [locP] at hl
  | i :: π, .arr n t, q, o, hl => by
    rw [locP_arr] at hl
    simp only [Option.map_eq_some_iff] at hl
    obtain ⟨⟨q', o'⟩, h1, h2⟩ := hl
    cases q' with
    | none => simp at h2
    | some q' => have := locP_len h1; simp at h2; rw [← h2.1]; simpa using this
  | i :: π, .slice t, q, o, hl => by
    rw [locP_slice] at hl
    simp only [Option.map_eq_some_iff] at hl
    obtain ⟨⟨q', o'⟩, h1, h2⟩ := hl
    cases q' with
    | none => simp at h2; rw [h2.1]; simp
    | some q' => have := locP_len h1; simp at h2; rw [← h2.1]; simpa using this
  | i :: π, .ptr t, q, o, hl => by
    match i with
    | 0 =>
      simp only [locP, Option.map_eq_some_iff] at hl
      obtain ⟨⟨q', o'⟩, h1, h2⟩ := hl
      cases q' with
      | none => simp at h2; rw [h2.1]; simp
      | some q' => have := locP_len (π := π) (t := t) h1; simp at h2; rw [← h2.1]; simpa using this
    | i + 1 => simp [locP] at hl
  | _ :: _, .int _, _, _, hl => by simp [locP] at hl
  | _ :: _, .bool, _, _, hl => by simp [locP] at hl
  | _ :: _, .str, _, _, hl => by simp [locP] at hl
  | _ :: _, .unit, _, _, hl => by simp [locP] at hl
  | _ :: _, .fn1 _ _, _, _, hl => by simp [locP] at hl
  | _ :: _, .fn2 _ _ _, _, _, hl => by simp [locP] at hl
  | _ :: _, .alt _ _ _, _, _, hl => by simp [locP] at hl
  | _ :: _, .nilI, _, _, hl => by simp [locP] at hl
theorem locP_nopre {π : List Nat} {t : Ty} {q : List Nat} {o : Nat} (h : locP π t = some (some q, o)) : ¬ π <+: q := fun hp => by
  have := hp.length_le
  have := locP_len h
  omega
section
variable {P : Program} {c : Ctx} {σ σ' : Env} {a : Act} {S S' : St} {gs : List (Nat × Gv)} {FT : List (TgE P)} {n d : Nat}
/-- A part of a slot after the call. -/
theorem partAfter (h : InvOf P c σ a S) (hf : Frm (S.callee gs) S') (hk : okG gs = true) (hd : byR gs d = none) {i : Nat} {g : Gv} (hm : (i, g) ∈ gs) (hr : (σ g.r).e = .v g.t g.m g.x) {k k' m' : Md} {u : Ty} {y' : u.den} {x' : g.t.den} (hmo : modeP g.π g.t g.m = some k) (hok : okP S g.π g.t (g.r, []))
    (hset : setM g.π g.t g.m k' = some m') (hsp : setP g.π g.t g.x ⟨u, y'⟩ = some x')
    (hrel : ∀ (s : Ty) (y : s.den) (cs' : Cs), getP g.π g.t g.x = some ⟨s, y⟩ → Rel P s S k (g.r, g.π) y cs' → Rel P u (S.after S' gs n d) k' (g.r, g.π) y' cs') : SR P g.t (S.after S' gs n d) m' (g.r, []) x' (tmv a g.r) := by
  have hsr := h.slot hr
  obtain ⟨s, y, l, cs', h1, h2, h3, h4⟩ := Rel.at hsr.1 hmo hok
  rw [pa_nil0] at h3
  have hnew := hrel s y cs' h1 h3
  have hfr : Fr S (S.after S' gs n d) (g.r, []) g.π none := afterFr h hf hk hd hm
  refine ⟨hsr.1.updAt h2 hset hsp hok ?_, hsr.2⟩
  obtain ⟨q, o⟩ := l
  cases q with
  | none =>
    refine ⟨hfr, ?_⟩
    rw [pa_nil0]
    have h4' : cs' = fun i => vcells g.t (tmv a g.r) (o + i) := h4
    rw [← h4']
    exact hnew
  | some q =>
    obtain ⟨b, h5, h6, h7, cur, e, h8⟩ := h4
    have hb := (hfr.own b q (locP_nopre h2) h6).2 (by simp)
    refine ⟨b, cur, cur, e, h5, h6, h8, hb.trans h8, rfl, fun _ _ => rfl, ⟨hfr.F, hfr.sF, hfr.B, hfr.sB, hfr.hv, fun b' r' h9 h10 => ⟨(hfr.own b' r' h9 h10).1, fun _ => (hfr.own b' r' h9 h10).2 (by simp)⟩⟩, ?_⟩
    rw [pa_nil0, ← blk_cur h8, ← h7]
    exact hnew
theorem giveSlot (h : InvOf P c σ a S) (hf : Frm (S.callee gs) S') (hk : okG gs = true) (hd : byR gs d = none) {i : Nat} {g : Gv} (hm : (i, g) ∈ gs) {v : Value} (hg : GvOK S σ g v) {out : Option TM} {e : Ent} {j : Nat} (hx : giveE g out = some (e, j))
    (ho : ∀ e, out = some e → e.m.nobw = true ∧ SR P e.t S' e.m (i + 1, []) e.x v) {tm : Nat → Value} (htm : tm g.r = tmv a g.r) (hs : σ' g.r = bump j (σ g.r) e) :
    SlotOK P (S.after S' gs n d) σ' tm g.r ∧ Chg S (S.after S' gs n d) σ σ' g.r := by
  obtain ⟨hr, hok, ⟨k, hmo, hmk⟩, ⟨y, hgp⟩, hio⟩ := hg
  have hne : g.r ≠ d := byR_none hd _ hm
  unfold giveE at hx
  split at hx
  · rename_i hi
    obtain ⟨hv, ⟨w, hw⟩, e1, k1, hk1⟩ := hio hi
    have hkk := hmk hi
    subst hkk
    split at hx
    case h_2 => cases hx
    rename_i e0
    split at hx
    case isFalse => cases hx
    rename_i hc
    split at hx
    case h_2 => cases hx
    rename_i x' m' hsp hset
    cases hx
    obtain ⟨hnb, hsr⟩ := ho e0 rfl
    obtain ⟨et, em, ex⟩ := e0
    simp only at hc hsp hset hnb hsr
    obtain ⟨hc1, hc2⟩ := hc
    have hgp' : ∃ y : (Ty.ptr w).den, getP g.π g.t g.x = some ⟨.ptr w, y⟩ := by rw [← hw]; exact ⟨y, hgp⟩
    rw [hw] at hc1
    subst hc1
    rw [hc2] at hnb hsr hset
    have hhv : v = S'.hv (i + 1, []) := by
      have h1 := hsr.1
      rw [hk1] at h1
      have := h1.1
      simpa [vcells, Ty.agg] using this
    have hkk1 := hk1
    refine ⟨.v (by rw [hs, bump_e]) ?_, .bump (k := 1) (h.gens _) hr hs (fun _ => ?_) fun _ h => absurd rfl h⟩
    · rw [htm]
      refine partAfter h hf hk hd hm hr hmo hok hset hsp fun s y1 cs' h1 h2 => ?_
      obtain ⟨y2, hgp2⟩ := hgp'
      rw [hgp2] at h1
      cases h1
      refine hsr.1.mono (q := false) (.inr hnb) (afterTrG hk hd hm hi) fun i hi => ?_
      have : i = 0 := by simp only [Ty.size] at hi; omega
      subst this
      rw [hk1] at h2
      rw [h2.1, ← hv]
      simp [vcells, Ty.agg]
    · show (S.after S' gs n d).hv (g.r, []) = _
      simp only [St.after, if_neg hne, byR_mem hk hm, hi, if_true]
      cases hc : cut g.π [] with
      | none => rfl
      | some ρ =>
        have := cut_some hc
        have hπ : g.π = [] ∧ ρ = [] := by
          have := this.symm
          simpa using this
        simp only [hπ.2]
        rw [← hhv, hv, hπ.1]
  · rename_i hi
    have hi' : g.io = false := by simpa using hi
    split at hx
    · cases hx
      refine ⟨?_, ?_⟩
      · unfold SlotOK
        rw [hs, bump_e]
        trivial
      · exact ⟨by rw [hs]; exact Nat.le_refl _, .inl (by rw [hs]; exact Nat.lt_succ_self _)⟩
    · simp only [Option.map_eq_some_iff, Prod.mk.injEq] at hx
      obtain ⟨m', hset, rfl, rfl⟩ := hx
      refine ⟨.v (by rw [hs, bump_e]) ?_, .bump (k := 1) (h.gens _) hr hs (fun _ => ?_) fun _ h => absurd rfl h⟩
      · rw [htm]
        refine partAfter h hf hk hd hm hr hmo hok hset (setP_getP hgp) fun s y1 cs' h1 h2 => ?_
        rw [hgp] at h1
        cases h1
        exact (h2.weaken (leM_dead _ k)).dead_any fun _ _ => rfl
      · refine after_hv_give hne fun k g' hb => ?_
        rw [byR_mem hk hm] at hb
        cases hb
        exact hi'
theorem resSlot (hf : Frm (S.callee gs) S') {rs : List TM} {v : Value} (hres : ResOK P S' rs v) (hnb : ∀ e ∈ rs, e.m.nobw = true) {tm : Nat → Value} (htm : tm d = v) (hs : (σ' d).e = resE rs) : SlotOK P (S.after S' gs rs.length d) σ' tm d := by
  unfold SlotOK
  rw [hs, htm]
  have htup : ∀ rs : List TM, rs.length ≠ 1 → (∃ us, v = .tuple us ∧ us.size = rs.length ∧ ∀ (k : Nat) (e : TM), rs[k]? = some e → ∃ u, us[k]? = some u ∧ SR P e.t S' e.m (0, [k]) e.x u) → (∀ e ∈ rs, e.m.nobw = true) →
      ∃ us, v = .tuple us ∧ us.size = rs.length ∧ ∀ (k : Nat) (e : TM), rs[k]? = some e → ∃ u, us[k]? = some u ∧ SR P e.t (S.after S' gs rs.length d) e.m (d, [k]) e.x u := fun rs hl ⟨us, h1, h2, h3⟩ hnb => ⟨us, h1, h2, fun k e hk => by
    obtain ⟨u, h4, h5⟩ := h3 k e hk
    exact ⟨u, h4, h5.mono (q := false) (.inr (hnb e (List.mem_of_getElem? hk))) (afterTr hl k)⟩⟩
  match rs, hres, hnb with
  | [], hres, hnb => exact htup [] (by simp) hres hnb
  | [e], hres, hnb => exact SR.mono (q := false) hres (.inr (hnb e (by simp))) (afterTr0 rfl)
  | e :: e' :: rs, hres, hnb => exact htup (e :: e' :: rs) (by simp) hres hnb
theorem InvOf.called (h : InvOf P c σ a S) (hk : okG gs = true) (hd : byR gs d = none) (hN : d < c.N) (hf : Frm (S.callee gs) S') {rs : List TM} {v : Value} (hres : ResOK P S' rs v) (hnb : ∀ e ∈ rs, e.m.nobw = true) {vs : List Value} {outs : List (Nat × TM)}
    (ho : ∀ (k : Nat) (e : TM), (k, e) ∈ outs → e.m.nobw = true ∧ ∃ u, vs[k]? = some u ∧ SR P e.t S' e.m (k + 1, []) e.x u) (hgv : ∀ (k : Nat) (g : Gv), (k, g) ∈ gs → ∃ u, vs[k]? = some u ∧ GvOK S σ g u) {us : Ups} (hus : giveU gs outs = some us) :
    InvOf P c (upd (us ++ [(d, resE rs, 0)]) σ) (a.put (some d) v) (S.after S' gs rs.length d) := by
  obtain ⟨hkeys, hgive⟩ := giveU_some hus
  have hdk : d ∉ us.map (·.1) := by
    rw [hkeys]
    intro hm
    obtain ⟨e, he, heq⟩ := List.mem_map.1 hm
    exact byR_none hd e he heq
  have hnd : ((us ++ [(d, resE rs, 0)] : Ups).map (·.1)).Nodup := by
    rw [List.map_append, List.nodup_append]
    refine ⟨by rw [hkeys]; exact okG_nodup hk, by simp, fun x hx y hy hxy => ?_⟩
    simp at hy
    exact hdk (by rw [← hy, ← hxy]; exact hx)
  have hσd : upd (us ++ [(d, resE rs, 0)]) σ d = bump 0 (σ d) (resE rs) := upd_at hnd (by simp)
  have hnone : ∀ t, t ≠ d → byR gs t = none → upd (us ++ [(d, resE rs, 0)]) σ t = σ t := fun t htd hb => upd_ne fun u hu hut => by
    rcases List.mem_append.1 hu with hu | hu
    · have : t ∈ gs.map (·.2.r) := by rw [← hkeys, ← hut]; exact List.mem_map_of_mem hu
      obtain ⟨e, he, heq⟩ := List.mem_map.1 this
      exact byR_none hb e he heq
    · simp at hu
      rw [hu] at hut
      exact htd hut.symm
  have hput : tmv (a.put (some d) v) d = v := tmv_put_same (by rw [h.size]; exact hN)
  have hslot : ∀ t, t ≠ d → ∀ e, byR gs t = some e → SlotOK P (S.after S' gs rs.length d) (upd (us ++ [(d, resE rs, 0)]) σ) (tmv (a.put (some d) v)) t ∧ Chg S (S.after S' gs rs.length d) σ (upd (us ++ [(d, resE rs, 0)]) σ) t := fun t htd e he => by
    obtain ⟨k, g⟩ := e
    obtain ⟨hm, hr⟩ := byR_some he
    simp only at hr
    subst hr
    obtain ⟨x, j, hx, hmem⟩ := hgive k g hm
    obtain ⟨u, hu, hg⟩ := hgv k g hm
    refine giveSlot h hf hk hd hm hg hx (fun e he => ?_) (tmv_put_ne htd) (upd_at hnd (List.mem_append_left _ hmem))
    obtain ⟨h1, u', h2, h3⟩ := ho k e (outAt_mem he)
    rw [hu] at h2
    cases h2
    exact ⟨h1, h3⟩
  have hnew : ∀ b, (S.callee gs).own b ≠ none → b < S.w.heap.size ∧ (c.w0.heap.size ≤ b ∨ c.O b) := fun b hb => by
    obtain ⟨z, hz⟩ := Option.ne_none_iff_exists'.1 hb
    obtain ⟨y, hy, _⟩ := callee_own hz
    exact h.owned b y hy
  refine h.rebuild (fun t => t = d ∨ byR gs t ≠ none) (by simpa [Act.put] using h.defers) (by simpa [Act.put] using h.size) (fun t ht => ?_) (fun t ht => ?_) (fun t ht => ?_) hf.F (fun b hb => after_kept h hf (.inl hb)) rfl (fun b hb => after_kept h hf (.inr (.inl hb)))
    (fun t ht q => ?_) (fun t ht b q hb => ?_) (fun b hb => ?_) (fun b hb => ?_) (fun b p hb => ?_) hf.os hf.tape hf.output hf.size (fun b hb hO => ?_)
  · have htd : t ≠ d := fun e => ht (.inl e)
    have htn : byR gs t = none := Decidable.byContradiction fun e => ht (.inr e)
    exact ⟨hnone t htd htn, tmv_put_ne htd⟩
  · by_cases htd : t = d
    · subst htd
      exact ⟨by rw [hσd]; exact Nat.le_refl _, .inl (by rw [hσd]; exact Nat.lt_succ_self _)⟩
    · obtain ⟨e, he⟩ := Option.ne_none_iff_exists'.1 (ht.resolve_left htd)
      exact (hslot t htd e he).2
  · by_cases htd : t = d
    · subst htd
      exact resSlot hf hres hnb hput (by rw [hσd, bump_e])
    · obtain ⟨e, he⟩ := Option.ne_none_iff_exists'.1 (ht.resolve_left htd)
      exact (hslot t htd e he).1
  · have htd : t ≠ d := fun e => ht (.inl e)
    have htn : byR gs t = none := Decidable.byContradiction fun e => ht (.inr e)
    exact after_hv htd (toC_none_of htn)
  · have htn : byR gs t = none := Decidable.byContradiction fun e => ht (.inr e)
    have hc : toC gs (t, q) = none := toC_none_of htn
    exact ⟨after_old hf hb hc, after_kept h hf (.inr (.inr ⟨_, hb, hc⟩))⟩
  · obtain ⟨h1, h2, h3⟩ := hf.shared b hb
    refine ⟨?_, h2, ?_⟩
    · show (S.after S' gs rs.length d).own b = none
      cases hs : S.own b with
      | none => simp only [St.after, h1, hs]
      | some z =>
        cases hz : toC gs z with
        | some y => simp only [St.after, h1, hs, hz]
        | none =>
          exfalso
          rcases h3 with h3 | h3 | h3
          · rw [(h.shared b h3).1] at hs; cases hs
          · have := (h.owned b z hs).1
            have h3' : S.w.heap.size ≤ b := h3
            omega
          · exact h3 (by simp [St.callee, hs, hz])
    · rcases h3 with h3 | h3 | h3
      · exact (h.shared b h3).2.2
      · exact .inr (.inl (Nat.le_trans h.grown h3))
      · exact .inr (hnew b h3).2
  · have h1 := (h.borrowed b hb).1
    have h2 : S'.own b = none := hf.lent b (.inl (by rw [h.lent]; exact hb))
    show (S.after S' gs rs.length d).own b = none
    simp only [St.after, h2, h1]
  · have hb' : (S.after S' gs rs.length d).own b = some p := hb
    cases hs' : S'.own b with
    | some z =>
      obtain ⟨h1, h2⟩ := hf.owned b z hs'
      refine ⟨h1, ?_⟩
      rcases h2 with h2 | h2
      · exact .inl (Nat.le_trans h.grown h2)
      · exact (hnew b h2).2
    | none =>
      cases hs : S.own b with
      | none => simp only [St.after, hs', hs] at hb'; cases hb'
      | some z => exact ⟨Nat.lt_of_lt_of_le (h.owned b z hs).1 hf.size, (h.owned b z hs).2⟩
  · refine hf.kept b (Nat.lt_of_lt_of_le hb h.grown) (Decidable.byContradiction fun hne => ?_)
    rcases (hnew b hne).2 with h1 | h1
    · omega
    · exact hO h1
end
end Go.X
