/- Plain laws: the document's Witness and Suffice. -/
import Derived.Test.YthlgoakkgmabaaaGreatS4
set_option linter.unusedSimpArgs false
set_option linter.unusedVariables false
open Go Go.Proofs Go.X
namespace Go.Proofs.YthlgoakkgmabaaaGreat
theorem bind_decide {α β : Type} {x : Option α} {g : α → β} {y : β} (h : (x.bind fun r => some (g r)) = some y) : ∃ r, x = some r ∧ g r = y := by
  cases x with
  | none => cases h
  | some r => exact ⟨r, rfl, Option.some.inj h⟩
/- FIRST OF THE CANDIDATES -/
theorem cands_get {n i : Nat} (hi : i < n) : (cands n)[i]? = some (i : Int) := by simp [cands, hi]
theorem firstS_at {β : Type} {f : Int → Option β} {n i : Nat} (hi : i < n) (hp : (f (i : Int)).isSome = true) (hj : ∀ j : Nat, j < i → (f (j : Int)).isSome = false) : firstS f (cands n) = f (i : Int) := by
  cases hs : firstS f (cands n) with
  | none =>
    have := firstS_none hs (i : Int) (mem_cands.2 ⟨by omega, by omega⟩)
    rw [this] at hp; cases hp
  | some y =>
    obtain ⟨a, x, b, h1, h2, h3⟩ := firstS_some hs
    have hx : (cands n)[a.length]? = some x := by rw [h1]; simp
    have hal : a.length < n := by
      have := congrArg List.length h1
      simp [cands] at this; omega
    rw [cands_get hal] at hx
    have hxe := Option.some.inj hx
    rcases Nat.lt_trichotomy a.length i with h | h | h
    · have := hj _ h
      rw [hxe, h2] at this; cases this
    · rw [← h, hxe, h2]
    · have hm : (i : Int) ∈ a := by
        have : (cands n)[i]? = some (i : Int) := cands_get hi
        rw [h1, List.getElem?_append_left h] at this
        exact List.mem_of_getElem? this
      have := h3 _ hm
      rw [this] at hp; cases hp
theorem firstS_no {β : Type} {f : Int → Option β} {n : Nat} (hj : ∀ j : Nat, j < n → (f (j : Int)).isSome = false) : firstS f (cands n) = none := by
  cases hs : firstS f (cands n) with
  | none => rfl
  | some y =>
    obtain ⟨a, x, b, h1, h2, _⟩ := firstS_some hs
    have hx : x ∈ cands n := by rw [h1]; simp
    have hb := mem_cands.1 hx
    have := hj x.toNat (by omega)
    rw [show ((x.toNat : Nat) : Int) = x by omega, h2] at this
    cases this
/- WITNESS -/
theorem ext_wit' {n : Nat} (hn : 1 ≤ n) (C : List Int → Bool) (w : Int) {k : Nat} (hk : n < k) : extO n C w k [] = witP n C w := by
  have h1 := extO_spec (n := n) (C := C) (w := w) k [] ⟨by simp, by simp⟩ (by simp; omega)
  have h2 := witP_spec hn C w
  cases he : extO n C w k [] with
  | none =>
    rw [he] at h1
    cases hw : witP n C w with
    | none => rfl
    | some o => rw [hw] at h2; exact absurd h2.1 (h1 o)
  | some o =>
    rw [he] at h1
    cases hw : witP n C w with
    | none => rw [hw] at h2; exact absurd h1.1 (h2 o)
    | some o' =>
      rw [hw] at h2
      rcases lex_tri o o' with h | h | h
      · exact absurd h (h2.2 o h1.1)
      · rw [h]
      · exact absurd h (h1.2.2 o' h2.1)
theorem okO_eq {n : Int} {l : List Asn} {w : Int} {o : List Int} : okO n.toNat (anyC n l) w o = (!decide (o.getD (n.toNat - 1) 0 = w) && !l.any (contrAll n o)) := by
  unfold okO
  congr 1
  rw [Bool.eq_iff_iff, List.all_eq_true, Bool.not_eq_true', List.any_eq_false]
  constructor
  · intro h a ha hc
    obtain ⟨k, k1, k2⟩ := any_range.1 hc
    have := h k (List.mem_range.2 k1)
    unfold anyC at this
    rw [Bool.not_eq_true', List.any_eq_false] at this
    exact this a ha k2
  · intro h k hk
    unfold anyC
    rw [Bool.not_eq_true', List.any_eq_false]
    intro a ha hc
    exact h a ha (any_range.2 ⟨k, List.mem_range.1 hk, hc⟩)
theorem extO_succ (n : Nat) (C : List Int → Bool) (w : Int) (k : Nat) (b : List Int) : extO n C w (k + 1) b = if b.length = n then (if okO n C w b then some b else none) else firstS (fun c => if c ∈ b then none else extO n C w k (b ++ [c])) (cands n) := rfl
def wres (n : Int) (l : List Asn) (wn : Int) (k : Nat) (b : List Int) : List Int × Bool := match extO n.toNat (anyC n l) wn k b with
  | some o => (o, true)
  | none => (if b.length = n.toNat then b else [], false)
theorem wres_get (n : Int) (l : List Asn) (wn : Int) (k : Nat) (b : List Int) : (wres n l wn k b).2 = (extO n.toNat (anyC n l) wn k b).isSome := by
  unfold wres; cases extO n.toNat (anyC n l) wn k b <;> rfl
theorem d27N_eq {n wn : Int} {l : List Asn} (h1 : 1 ≤ n) (hn : n ≤ 7) (hl : LOK l) : ∀ (k : Nat) (b : List Int), isB n b → n.toNat < k + b.length → d27N k n wn b l = some (wres n l wn k b)
  | 0, b, hb, hk => by
    have := nodup_len n.toNat b hb.1 fun x hx => by have := hb.2 x hx; omega
    omega
  | k + 1, b, hb, hk => by
    have hbl := nodup_len n.toNat b hb.1 fun x hx => by have := hb.2 x hx; omega
    show d27F (d27N k) n wn b l = _
    unfold d27F
    by_cases c0 : b.length = n.toNat
    · have c0' : (b.length : Int) = n := by omega
      have hw2 : w (n - 1) = n - 1 := w_id (by omega) (by omega)
      have i1 : (0 : Int) ≤ n - 1 := by omega
      have i2 : n - 1 < (b.length : Int) := by omega
      have i3 : (n - 1).toNat = n.toNat - 1 := by omega
      have hx : extO n.toNat (anyC n l) wn (k + 1) b = if okO n.toNat (anyC n l) wn b then some b else none := by
        unfold extO; rw [if_pos c0]
      simp only [c0', hw2, i1, show n - 1 < n by omega, i3, decide_true, cond_true, Bool.and_self]
      unfold wres
      rw [hx, okO_eq, d48_eq ⟨by omega, by omega⟩ c0' hl]
      by_cases c1 : b.getD (n.toNat - 1) 0 = wn
      · simp only [c1, decide_true, Bool.not_true, cond_false, Bool.false_and, Bool.false_eq_true, if_false, c0, if_true]
      · simp only [c1, decide_false, Bool.not_false, cond_true, Bool.true_and, Option.bind_some]
        cases l.any (contrAll n b) <;> simp [c0]
    · have c0' : ¬ (b.length : Int) = n := by omega
      simp only [c0', decide_false, cond_false]
      have hx : extO n.toNat (anyC n l) wn (k + 1) b = firstS (fun c => if c ∈ b then none else extO n.toNat (anyC n l) wn k (b ++ [c])) (cands n.toNat) := by
        rw [extO_succ, if_neg c0]
      have hfin : ∀ i : Nat, (i : Int) ∉ b → i < n.toNat → d27N k n wn (b ++ [(i : Int)]) l = some (wres n l wn k (b ++ [(i : Int)])) := fun i hi hin => by
        refine d27N_eq h1 hn hl k (b ++ [(i : Int)]) ⟨List.nodup_append.2 ⟨hb.1, by simp, fun x hx y hy e => hi (by rw [List.mem_singleton.1 hy] at e; rw [← e]; exact hx)⟩, fun x hx => ?_⟩ (by simp; omega)
        rcases List.mem_append.1 hx with hx | hx
        · exact hb.2 x hx
        · rw [List.mem_singleton.1 hx]; omega
      obtain ⟨F, hF⟩ : ∃ F : Int → Option (List Int), F = fun c => if c ∈ b then none else extO n.toNat (anyC n l) wn k (b ++ [c]) := ⟨_, rfl⟩
      rw [← hF] at hx
      refine while_first (fun i => (n, wn, b, l, (i : Int))) (fun i => (F (i : Int)).isSome) n.toNat (fun i => .inr ((F (i : Int)).getD [], true)) (.inl ()) rfl (fun i hi => ?_) ?_ (fun i hi hp hj => ?_) (fun hall => ?_)
      · have e1 : (i : Int) < n := by omega
        have e2 : w ((i : Int) + 1) = ((i + 1 : Nat) : Int) := by rw [w_id (by omega) (by omega)]; omega
        have l1 : ((([] : List Int).length : Int) + (b.length : Int) ≤ LIM) := by rw [LIM_eq]; simp; omega
        have l2 := lim_small b (i : Int) (by omega)
        simp only [e1, e2, l1, l2, decide_true, cond_true, letJ, d20_eq (l := b) (i : Int) (by omega), Option.bind_some]
        by_cases hm : (i : Int) ∈ b
        · have hFi : F (i : Int) = none := by rw [hF]; simp only [hm, if_true]
          simp only [hm, decide_true, Bool.not_true, cond_false, hFi, Option.isSome_none, Bool.false_eq_true, if_false]
        · have hFi : F (i : Int) = extO n.toNat (anyC n l) wn k (b ++ [(i : Int)]) := by rw [hF]; simp only [hm, if_false]
          have hr := wres_get n l wn k (b ++ [(i : Int)])
          simp only [hm, decide_false, Bool.not_false, cond_true, hfin i hm hi, Option.bind_some, hr, hFi]
          unfold wres
          cases extO n.toNat (anyC n l) wn k (b ++ [(i : Int)]) with
          | none => simp only [Option.isSome_none, cond_false, Bool.false_eq_true, if_false]
          | some o => simp only [Option.isSome_some, cond_true, if_true, Option.getD_some]
      · have : ¬ ((n.toNat : Int) < n) := by omega
        simp only [this, decide_false, cond_false]
      · unfold wres
        rw [hx, firstS_at hi hp hj]
        cases hq : F (i : Int) with
        | none => rw [hq] at hp; cases hp
        | some o => rfl
      · unfold wres
        rw [hx, firstS_no hall]
        simp only [c0, if_false]
theorem d14_eq {n wn : Int} {l : List Asn} (hl : LOK l) : d14 n wn l = some (if badW n wn l then ([], false) else match witA n l wn with | none => ([], false) | some o => (o, true)) := by
  unfold d14 letJ
  by_cases c1 : n < 1
  · rw [if_pos (show badW n wn l by unfold badW; omega)]
    simp only [c1, decide_true, Bool.not_true, cond_false, cond_true]
  by_cases c2 : 7 < n
  · rw [if_pos (show badW n wn l by unfold badW; omega)]
    simp only [c1, c2, decide_true, decide_false, Bool.not_true, Bool.not_false, cond_false, cond_true]
  by_cases c3 : wn < 0
  · rw [if_pos (show badW n wn l by unfold badW; omega)]
    simp only [c1, c2, c3, decide_true, decide_false, Bool.not_true, Bool.not_false, cond_false, cond_true]
  by_cases c4 : n ≤ wn
  · rw [if_pos (show badW n wn l by unfold badW; omega)]
    simp only [c1, c2, c3, c4, decide_true, decide_false, Bool.not_true, Bool.not_false, cond_false, cond_true]
  by_cases c5 : (1400 : Int) < (l.length : Int)
  · rw [if_pos (show badW n wn l by unfold badW; omega)]
    simp only [c1, c2, c3, c4, c5, decide_true, decide_false, Bool.not_true, Bool.not_false, cond_false, cond_true]
  rw [if_neg (show ¬ badW n wn l by unfold badW; omega)]
  simp only [c1, c2, c3, c4, c5, decide_true, decide_false, Bool.not_true, Bool.not_false, cond_false, cond_true]
  have e : d27 n wn [] l = some (wres n l wn 10 []) := d27N_eq (by omega) (by omega) hl 10 [] ⟨by simp, by simp⟩ (by simp; omega)
  rw [e, Option.bind_some]
  unfold wres witA
  rw [ext_wit' (by omega) (anyC n l) wn (by omega)]
  have : ¬ ([] : List Int).length = n.toNat := by simp; omega
  cases witP n.toNat (anyC n l) wn with
  | none => simp only [this, if_false]
  | some o => rfl
/- FIT -/
theorem d36_eq {n : Nat} (hn : n ≤ 100000) : d36 (n : Int) = some (idL n) := by
  unfold d36
  refine while_bind (b := idL n) (fun i => ((n : Int), idL i, (i : Int))) n rfl (fun i hi => ?_) ?_ rfl
  · have e1 : (i : Int) < (n : Int) := by omega
    have e2 : w ((i : Int) + 1) = ((i + 1 : Nat) : Int) := by rw [w_id (by omega) (by omega)]; omega
    simp only [e1, e2, decide_true, cond_true, lim_small (idL i) (i : Int) (by rw [idL_len]; omega), idL_succ]
  · have : ¬ ((n : Int) < (n : Int)) := by omega
    simp only [this, decide_false, cond_false]
theorem d55_id {n : Nat} (hn : n ≤ 7) : d55 (n : Int) (idL n) = some true := by
  rw [d55_eq _ (by rw [idL_len]; omega)]
  have := idL_isB n
  simp only [idL_len, this, decide_true, Bool.and_self]
theorem d35_ok (c : Con) {gs : List Grp} (hg : GsOK gs) : ∃ r : Int, d35 c.2.2.1 c gs (idL c.2.1.length) = some r ∧ decide (r = 0) = (fitB c && pileB (c.2.1.length : Int) gs) := by
  refine bind_decide ?_
  obtain ⟨nm, cs, m, s, x1, dg, ti, x2, x3⟩ := c
  have g0 : decide (m = m) = true := by simp
  by_cases c1 : m < 1
  · have c1' : ¬ 1 ≤ m := by omega
    simp only [d35, letJ, fitB, c1, c1', g0, decide_true, decide_false, Bool.not_true, Bool.not_false, cond_false, cond_true, Bool.false_and, Bool.and_false, Bool.true_and, Bool.and_true, Bool.cond_self, Option.bind_some, show ¬ (5 : Int) = 0 by omega, show ¬ (4 : Int) = 0 by omega]
  have c1' : 1 ≤ m := by omega
  by_cases c2 : 3 < m
  · have c2' : ¬ m ≤ 3 := by omega
    simp only [d35, letJ, fitB, c1, c1', c2, c2', g0, decide_true, decide_false, Bool.not_true, Bool.not_false, cond_false, cond_true, Bool.false_and, Bool.and_false, Bool.true_and, Bool.and_true, Bool.cond_self, Option.bind_some, show ¬ (5 : Int) = 0 by omega, show ¬ (4 : Int) = 0 by omega]
  have c2' : m ≤ 3 := by omega
  by_cases c3 : cs.length < 1
  · have c3' : ¬ 1 ≤ cs.length := by omega
    have c3'' : (cs.length : Int) < 1 := by omega
    simp only [d35, letJ, fitB, c1, c1', c2, c2', c3', c3'', g0, decide_true, decide_false, Bool.not_true, Bool.not_false, cond_false, cond_true, Bool.false_and, Bool.and_false, Bool.true_and, Bool.and_true, Bool.cond_self, Option.bind_some, show ¬ (5 : Int) = 0 by omega, show ¬ (4 : Int) = 0 by omega]
  have c3' : 1 ≤ cs.length := by omega
  have c3'' : ¬ (cs.length : Int) < 1 := by omega
  by_cases c4 : 7 < cs.length
  · have c4' : ¬ cs.length ≤ 7 := by omega
    have c4'' : (7 : Int) < (cs.length : Int) := by omega
    simp only [d35, letJ, fitB, c1, c1', c2, c2', c3', c3'', c4', c4'', g0, decide_true, decide_false, Bool.not_true, Bool.not_false, cond_false, cond_true, Bool.false_and, Bool.and_false, Bool.true_and, Bool.and_true, Bool.cond_self, Option.bind_some, show ¬ (5 : Int) = 0 by omega, show ¬ (4 : Int) = 0 by omega]
  have c4' : cs.length ≤ 7 := by omega
  have c4'' : ¬ (7 : Int) < (cs.length : Int) := by omega
  by_cases c5 : s < 1
  · have c5' : ¬ 1 ≤ s := by omega
    simp only [d35, letJ, fitB, c1, c1', c2, c2', c3', c3'', c4', c4'', c5, c5', g0, decide_true, decide_false, Bool.not_true, Bool.not_false, cond_false, cond_true, Bool.false_and, Bool.and_false, Bool.true_and, Bool.and_true, Bool.cond_self, Option.bind_some, show ¬ (5 : Int) = 0 by omega, show ¬ (4 : Int) = 0 by omega]
  have c5' : 1 ≤ s := by omega
  by_cases c6 : 5 < s
  · have c6' : ¬ s ≤ 5 := by omega
    simp only [d35, letJ, fitB, c1, c1', c2, c2', c3', c3'', c4', c4'', c5, c5', c6, c6', g0, decide_true, decide_false, Bool.not_true, Bool.not_false, cond_false, cond_true, Bool.false_and, Bool.and_false, Bool.true_and, Bool.and_true, Bool.cond_self, Option.bind_some, show ¬ (5 : Int) = 0 by omega, show ¬ (4 : Int) = 0 by omega]
  have c6' : s ≤ 5 := by omega
  have h54 := d54_eq (n := (cs.length : Int)) hg
  have h55 := d55_id c4'
  have ht1 : decide (1 ≤ ti) = !decide (ti < 1) := by rw [← decide_not]; exact decide_eq_decide.2 (by omega)
  have ht2 : decide (ti ≤ 3) = !decide (3 < ti) := by rw [← decide_not]; exact decide_eq_decide.2 (by omega)
  simp only [d35, letJ, fitB, c1, c1', c2, c2', c3', c3'', c4', c4'', c5, c5', c6, c6', h54, h55, ht1, ht2, g0, decide_true, decide_false, Bool.not_true, Bool.not_false, cond_false, cond_true, Bool.false_and, Bool.and_false, Bool.true_and, Bool.and_true, Bool.cond_self, Option.bind_some, show ¬ (5 : Int) = 0 by omega, show ¬ (4 : Int) = 0 by omega]
  generalize decide (m = 2) = b1
  generalize decide (1 ≤ dg) = b2
  generalize decide (dg ≤ 6) = b3
  generalize decide (dg = 0) = b4
  generalize decide (m = 1) = b5
  generalize decide (s = 1) = b6
  generalize decide (ti < 1) = b7
  generalize decide (3 < ti) = b8
  generalize pileB (cs.length : Int) gs = b9
  revert b1 b2 b3 b4 b5 b6 b7 b8 b9
  decide +kernel
theorem pileB_nil {n : Int} (h1 : 1 ≤ n) (h2 : n ≤ 7) : pileB n [] = true := by
  unfold pileB goodP
  simp [h1, h2]
theorem gsOK_nil : GsOK [] := ⟨by simp, by simp⟩
theorem d17_eq {c : Con} {ws : List Int} {l : List Asn} (hc : c.2.1.length ≤ 100000) (hws : ws.length ≤ 281474976710656) (hl : LOK l) : d17 c ws l = some (sufB c ws l) := by
  unfold d17 letJ
  simp only
  rw [d36_eq hc]
  obtain ⟨r, hr1, hr2⟩ := d35_ok c gsOK_nil
  simp only [Option.bind_some, Bool.not_not, hr1, hr2, d37_eq (c.2.1.length : Int) hws]
  unfold sufB
  cases hf : fitB c
  · simp
  obtain ⟨f1, f2, f3, f4, f5, f6, f7⟩ := fit_n hf
  rw [pileB_nil (n := (c.2.1.length : Int)) (by omega) (by omega)]
  simp only [Bool.and_self, cond_true, Bool.true_and]
  rcases (Decidable.em (isB (c.2.1.length : Int) ws)).symm with hB | hB
  · simp [hB]
  simp only [hB, decide_true, cond_true, Bool.and_true]
  rcases (Decidable.em (l.length ≤ 1400)).symm with h1 | h1
  · have h1' : (1400 : Int) < (l.length : Int) := by omega
    simp only [h1, h1', decide_true, decide_false, cond_true, Bool.false_and]
  have h1' : ¬ (1400 : Int) < (l.length : Int) := by omega
  simp only [h1, h1', decide_true, decide_false, cond_false, Bool.true_and]
  obtain ⟨nm, cs, m, s, x1, dg, ti, x2, x3⟩ := c
  simp only at f1 f2 f3 f4 f5 f6 f7 hB ⊢
  obtain ⟨n, hn⟩ : ∃ n : Int, (cs.length : Int) = n := ⟨_, rfl⟩
  have hcn : ∀ k : Nat, (k = cs.length) ↔ ((k : Int) = n) := fun k => by omega
  rw [hn] at hB
  simp only [hn, hcn]
  have hn1 : 1 ≤ n := by omega
  have hn7 : n ≤ 7 := by omega
  clear hcn hf f1 f2 hc hr1 hr2
  have hwl := isB_len hB hn7
  refine while_first (fun i => (ws, l, (nm, cs, m, s, x1, dg, ti, x2, x3), n, (i : Int))) (fun i => !validB n (l.getD i (0, 0, 0, [], 0))) l.length (fun _ => .inr false) (.inl (ws, l, (nm, cs, m, s, x1, dg, ti, x2, x3), n)) rfl (fun i hi => ?_) ?_ (fun i hi hp hj => ?_) (fun hall2 => ?_)
  · have h2 : (i : Int) < (l.length : Int) := by omega
    have h3 : (0 : Int) ≤ (i : Int) := by omega
    have hw : w ((i : Int) + 1) = ((i + 1 : Nat) : Int) := by rw [w_id (by omega) (by omega)]; omega
    have hm : l.getD i (0, 0, 0, [], 0) ∈ l := by rw [getD_get _ _ hi]; exact List.getElem_mem _
    have hlm := hl.2 _ hm
    simp only [h2, h3, decide_true, cond_true, Bool.and_self, Int.toNat_natCast, hw, d38_eq n (a := l.getD i (0, 0, 0, [], 0)) (by omega), Option.bind_some]
    cases validB n (l.getD i (0, 0, 0, [], 0))
    · simp only [Bool.not_false, cond_true, if_true]
    · simp only [Bool.not_true, cond_false, Bool.false_eq_true, if_false]
  · have : ¬ ((l.length : Int) < (l.length : Int)) := by omega
    simp only [this, decide_false, cond_false]
  · rw [all_false hi (by simpa using hp)]
    simp only [Bool.false_and]
  have hV : (l.all fun a => validB n a) = true := all_true fun i hi => by simpa using hall2 i hi
  simp only [hV, Bool.true_and]
  by_cases c1 : n ≤ s
  · simp only [c1, decide_true, cond_true, if_true]
  simp only [c1, decide_false, cond_false, if_false]
  rcases (Decidable.em ((ws.length : Int) = s)).symm with c2 | c2
  · simp only [c2, decide_false, Bool.not_false, cond_true, Bool.false_and]
  have hpos : (0 : Int) < (ws.length : Int) := by omega
  simp only [c2, decide_true, Bool.not_true, cond_false, Bool.true_and]
  by_cases c3 : m = 1
  · have hs0 : (0 : Int) < s := by omega
    have hz : (0 : Int) ≤ 0 := by omega
    simp only [c3, hs0, decide_true, cond_true, if_true, Bool.and_self, hz]
    have hw0 := hB.2 (ws.getD 0 0) (by rw [getD_get _ _ (by omega)]; exact List.getElem_mem _)
    rw [d14_eq hl, if_neg (show ¬ badW n (ws.getD 0 0) l by unfold badW; omega)]
    cases witA n l (ws.getD 0 0) <;> rfl
  · simp only [c3, decide_false, cond_false, if_false]
    have hsw : w (s + 1) = s + 1 := w_id (by omega) (by omega)
    refine while_first (fun i => (ws, l, (nm, cs, m, s, x1, dg, ti, x2, x3), (i : Int))) (fun i => !(l.any fun a => decide (a = (3, ws.getD i 0, 0, [], s + 1)))) ws.length (fun _ => .inr false) (.inl ()) rfl (fun i hi => ?_) ?_ (fun i hi hp hj => ?_) (fun hall3 => ?_)
    · have h2 : (i : Int) < s := by omega
      have h2' : (i : Int) < (ws.length : Int) := by omega
      have h3 : (0 : Int) ≤ (i : Int) := by omega
      have hw : w ((i : Int) + 1) = ((i + 1 : Nat) : Int) := by rw [w_id (by omega) (by omega)]; omega
      simp only [c2, h2, decide_true, cond_true]
      refine while_bind (b := (ws, l, (nm, cs, m, s, x1, dg, ti, x2, x3), (i : Int), l.any fun a => decide (a = (3, ws.getD i 0, 0, [], s + 1)))) (fun k => (ws, l, (nm, cs, m, s, x1, dg, ti, x2, x3), (i : Int), (l.take k).any fun a => decide (a = (3, ws.getD i 0, 0, [], s + 1)), (k : Int))) l.length rfl (fun k hk => ?_) ?_ ?_
      · have k1 : (k : Int) < (l.length : Int) := by omega
        have k2 : (0 : Int) ≤ (k : Int) := by omega
        have kw : w ((k : Int) + 1) = ((k + 1 : Nat) : Int) := by rw [w_id (by have := hl.1; omega) (by have := hl.1; omega)]; omega
        have hm : l.getD k (0, 0, 0, [], 0) ∈ l := by rw [getD_get _ _ hk]; exact List.getElem_mem _
        have e39 := d39_eq (a := l.getD k (0, 0, 0, [], 0)) (b := (3, ws.getD i 0, 0, [], s + 1)) (by have := hl.2 _ hm; omega) (by simp)
        have ht : (l.take (k + 1)).any (fun a => decide (a = (3, ws.getD i 0, 0, [], s + 1))) = ((l.take k).any (fun a => decide (a = (3, ws.getD i 0, 0, [], s + 1))) || decide (l.getD k (0, 0, 0, [], 0) = (3, ws.getD i 0, 0, [], s + 1))) := by
          rw [take_get l (0, 0, 0, [], 0) hk, List.any_append]
          simp only [List.any_cons, List.any_nil, Bool.or_false]
        simp only [c2, k1, k2, kw, h2, h3, decide_true, cond_true, Bool.and_self, Int.toNat_natCast, hsw, ht]
        cases (l.take k).any (fun a => decide (a = (3, ws.getD i 0, 0, [], s + 1)))
        · simp only [Bool.not_false, cond_true, e39, Option.bind_some, cmpA_zero, Bool.false_or]
        · simp only [Bool.not_true, cond_false, Bool.true_or]
      · have : ¬ ((l.length : Int) < (l.length : Int)) := by omega
        simp only [this, decide_false, cond_false, List.take_length]
      · simp only [hw]
        cases (l.any fun a => decide (a = (3, ws.getD i 0, 0, [], s + 1)))
        · simp only [Bool.not_false, cond_true, if_true]
        · simp only [Bool.not_true, cond_false, Bool.false_eq_true, if_false]
    · have : ¬ ((ws.length : Int) < (ws.length : Int)) := by omega
      simp only [this, decide_false, cond_false]
    · rw [all_false (g := fun x => l.any fun a => decide (a = (3, x, 0, [], s + 1))) hi (by simpa using hp)]
    · rw [all_true (g := fun x => l.any fun a => decide (a = (3, x, 0, [], s + 1))) (z := 0) fun i hi => by simpa using hall3 i hi]
end Go.Proofs.YthlgoakkgmabaaaGreat
