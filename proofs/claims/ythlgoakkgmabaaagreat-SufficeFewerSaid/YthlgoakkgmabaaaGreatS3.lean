/- Plain laws: suffice.Check, and what it says. -/
import Derived.Test.YthlgoakkgmabaaaGreatS1
import Derived.Test.YthlgoakkgmabaaaGreatP17
import Derived.Test.YthlgoakkgmabaaaGreatG2
set_option linter.unusedSimpArgs false
set_option linter.unusedVariables false
open Go Go.Proofs Go.X
namespace Go.Proofs.YthlgoakkgmabaaaGreat
abbrev Con := List Int × (List (List Int) × (Int × (Int × (Int × (Int × (Int × (Int × Int)))))))
/-- Some assertion contradicts the tail. -/
def anyC (n : Int) (l : List Asn) (t : List Int) : Bool := l.any fun a => contr n a t
theorem any_false {α : Type} {l : List α} {g : α → Bool} {z : α} (h : ∀ i, i < l.length → g (l.getD i z) = false) : l.any g = false := by
  rw [List.any_eq_false]
  intro x hx
  obtain ⟨i, hi, rfl⟩ := List.getElem_of_mem hx
  have := h i hi
  rw [getD_get l z hi] at this
  simp [this]
theorem any_true {α : Type} {l : List α} {g : α → Bool} {z : α} {i : Nat} (hi : i < l.length) (h : g (l.getD i z) = true) : l.any g = true := by
  rw [List.any_eq_true]
  exact ⟨l.getD i z, by rw [getD_get l z hi]; exact List.getElem_mem _, h⟩
theorem all_false {α : Type} {l : List α} {g : α → Bool} {z : α} {i : Nat} (hi : i < l.length) (h : g (l.getD i z) = false) : l.all g = false := by
  rw [List.all_eq_false]
  exact ⟨l.getD i z, by rw [getD_get l z hi]; exact List.getElem_mem _, by rw [h]; simp⟩
theorem all_true {α : Type} {l : List α} {g : α → Bool} {z : α} (h : ∀ i, i < l.length → g (l.getD i z) = true) : l.all g = true := by
  rw [List.all_eq_true]
  intro x hx
  obtain ⟨i, hi, rfl⟩ := List.getElem_of_mem hx
  have := h i hi
  rwa [getD_get l z hi] at this
theorem d32_eq {s : List Asn} {f : Asn → Option Bool} {g : Asn → Bool} (hf : ∀ a ∈ s, f a = some (g a)) (hs : s.length ≤ 281474976710656) : d32 s f = some (s.any g) := by
  unfold d32 d52
  rw [Option.bind_assoc]
  refine while_first (fun i => (s, f, (s.length : Int), (i : Int))) (fun i => g (s.getD i (0, 0, 0, [], 0))) s.length (fun i => .inr (i : Int)) (.inl ()) rfl (fun i hi => ?_) ?_ (fun i hi hp hj => ?_) (fun hall => ?_)
  · have h2 : (i : Int) < (s.length : Int) := by omega
    have h3 : (0 : Int) ≤ (i : Int) := by omega
    have hw : w ((i : Int) + 1) = ((i + 1 : Nat) : Int) := by rw [w_id (by omega) (by omega)]; omega
    have hm : s.getD i (0, 0, 0, [], 0) ∈ s := by rw [getD_get _ _ hi]; exact List.getElem_mem _
    simp only [h2, h3, hw, decide_true, cond_true, Bool.and_self, Int.toNat_natCast, hf _ hm, Option.bind_some]
    cases g (s.getD i (0, 0, 0, [], 0))
    · simp only [cond_false, Bool.false_eq_true, if_false]
    · simp only [cond_true, if_true]
  · simp
  · have h3 : (0 : Int) ≤ (i : Int) := by omega
    simp only [Option.bind_some, h3, decide_true, any_true hi hp]
  · simp only [Option.bind_some, any_false hall]
    rfl
def LOK (l : List Asn) : Prop := l.length ≤ 281474976710656 ∧ ∀ a ∈ l, a.2.2.2.1.length ≤ 1001
theorem d46_eq {n : Int} {l : List Asn} {t : List Int} (hl : LOK l) (ht : t.length ≤ 1000) : d46 n l t = some (anyC n l t) := by
  unfold d46
  rw [d32_eq (g := fun a => contr n a t) (fun a ha => ?_) hl.1]
  · rfl
  · unfold d60
    rw [d61_eq n (hl.2 a ha) ht]
    rfl
/- WITNESSES: they depend on the tails alone -/
theorem Others.congr {n : Nat} {C D : List Int → Bool} (h : ∀ t, isB n t → C t = D t) {w : Int} {o : List Int} : Others n C w o ↔ Others n D w o := by
  unfold Others
  constructor
  · rintro ⟨h1, h2, h3, h4⟩
    exact ⟨h1, h2, h3, fun j hj => by rw [← h _ ⟨h1.1.sublist (List.drop_sublist _ _), fun x hx => h1.2 x (List.mem_of_mem_drop hx)⟩]; exact h4 j hj⟩
  · rintro ⟨h1, h2, h3, h4⟩
    exact ⟨h1, h2, h3, fun j hj => by rw [h _ ⟨h1.1.sublist (List.drop_sublist _ _), fun x hx => h1.2 x (List.mem_of_mem_drop hx)⟩]; exact h4 j hj⟩
theorem witP_congr {n : Nat} (hn : 1 ≤ n) {C D : List Int → Bool} (h : ∀ t, isB n t → C t = D t) (w : Int) : witP n C w = witP n D w := by
  have h1 := witP_spec hn C w
  have h2 := witP_spec hn D w
  cases hc : witP n C w with
  | none =>
    rw [hc] at h1
    cases hd : witP n D w with
    | none => rfl
    | some o => rw [hd] at h2; exact absurd ((Others.congr h).2 h2.1) (h1 o)
  | some o =>
    rw [hc] at h1
    cases hd : witP n D w with
    | none => rw [hd] at h2; exact absurd ((Others.congr h).1 h1.1) (h2 o)
    | some o' =>
      rw [hd] at h2
      rcases lex_tri o o' with h3 | h3 | h3
      · exact absurd h3 (h2.2 o ((Others.congr h).1 h1.1))
      · rw [h3]
      · exact absurd h3 (h1.2 o' ((Others.congr h).2 h2.1))
def witA (n : Int) (l : List Asn) (wn : Int) : Option (List Int) := witP n.toNat (anyC n l) wn
theorem toN_isB {n : Int} (h : 0 ≤ n) {t : List Int} (ht : isB (n.toNat : Int) t) : isB n t := by rwa [show ((n.toNat : Nat) : Int) = n by omega] at ht
theorem d13_eq {n wn : Int} {l : List Asn} (hl : LOK l) : d13 n wn l = some (if badW n wn l then ([], false) else match witA n l wn with | none => ([], false) | some o => (o, true)) := by
  unfold d13
  by_cases hb : badW n wn l
  · rw [if_pos hb, if_pos hb]
  · rw [if_neg hb, if_neg hb]
    have hg := good_of hb
    have hd : ∀ t, isB n t → d46 n l t = some (anyC n l t) := fun t ht => d46_eq hl (by have := isB_len ht hg.2.1; omega)
    rw [if_pos fun t ht => by rw [hd t ht]; rfl]
    have : witP n.toNat (C29 n l) wn = witA n l wn := witP_congr (by omega) (fun t ht => by
      unfold C29
      rw [hd t (toN_isB (by omega) ht)]
      rfl) wn
    rw [this]
    cases witA n l wn <;> rfl
/- FITS -/
def fitB (c : Con) : Bool :=
  decide (1 ≤ c.2.2.1) && decide (c.2.2.1 ≤ 3) && decide (1 ≤ c.2.1.length) && decide (c.2.1.length ≤ 7) && decide (1 ≤ c.2.2.2.1) && decide (c.2.2.2.1 ≤ 5) && (!decide (c.2.2.1 = 1) || decide (c.2.2.2.1 = 1)) &&
    (bif decide (c.2.2.1 = 2) then decide (1 ≤ c.2.2.2.2.2.1) && decide (c.2.2.2.2.2.1 ≤ 6) else decide (c.2.2.2.2.2.1 = 0)) && decide (1 ≤ c.2.2.2.2.2.2.1) && decide (c.2.2.2.2.2.2.1 ≤ 3)
def idL (n : Nat) : List Int := (List.range n).map fun (i : Nat) => (i : Int)
theorem idL_len (n : Nat) : (idL n).length = n := by simp [idL]
theorem idL_isB (n : Nat) : isB (n : Int) (idL n) := ⟨List.pairwise_map.2 (List.nodup_range.imp fun h e => h (by omega)), fun x hx => by
  obtain ⟨i, h1, rfl⟩ := List.mem_map.1 hx
  have := List.mem_range.1 h1
  omega⟩
theorem idL_succ (n : Nat) : idL (n + 1) = idL n ++ [(n : Int)] := by simp [idL, List.range_succ]
theorem d64_nil {n : Int} (hn : n ≤ 7) : d64 n [] = some true := by
  rw [d64_eq hn (by simp) (by simp)]
  simp
theorem d65_id {n : Nat} (hn : n ≤ 7) : d65 (idL n) (n : Int) = some true := by
  unfold d65
  rw [d79_eq (by omega) (by rw [idL_len]; omega)]
  have := idL_isB n
  simp only [idL_len, decide_true, cond_true, Option.bind_some, this]
theorem d49_ok (c : Con) : ((d49 c.2.2.1 c [] (idL (min 7 c.2.1.length))).bind fun r => some (decide (r = 0))) = some (fitB c) := by
  obtain ⟨nm, cs, m, s, x1, dg, ti, x2, x3⟩ := c
  have g0 : decide (m = m) = true := by simp
  by_cases c1 : m < 1
  · have c1' : ¬ 1 ≤ m := by omega
    simp only [d49, letJ, fitB, c1, c1', g0, decide_true, decide_false, Bool.not_true, Bool.not_false, cond_false, cond_true, Bool.false_and, Bool.and_false, Bool.true_and, Bool.and_true, Bool.cond_self, Option.bind_some, show ¬ (5 : Int) = 0 by omega, show ¬ (4 : Int) = 0 by omega]
  have c1' : 1 ≤ m := by omega
  by_cases c2 : 3 < m
  · have c2' : ¬ m ≤ 3 := by omega
    simp only [d49, letJ, fitB, c1, c1', c2, c2', g0, decide_true, decide_false, Bool.not_true, Bool.not_false, cond_false, cond_true, Bool.false_and, Bool.and_false, Bool.true_and, Bool.and_true, Bool.cond_self, Option.bind_some, show ¬ (5 : Int) = 0 by omega, show ¬ (4 : Int) = 0 by omega]
  have c2' : m ≤ 3 := by omega
  by_cases c3 : cs.length < 1
  · have c3' : ¬ 1 ≤ cs.length := by omega
    have c3'' : (cs.length : Int) < 1 := by omega
    simp only [d49, letJ, fitB, c1, c1', c2, c2', c3', c3'', g0, decide_true, decide_false, Bool.not_true, Bool.not_false, cond_false, cond_true, Bool.false_and, Bool.and_false, Bool.true_and, Bool.and_true, Bool.cond_self, Option.bind_some, show ¬ (5 : Int) = 0 by omega, show ¬ (4 : Int) = 0 by omega]
  have c3' : 1 ≤ cs.length := by omega
  have c3'' : ¬ (cs.length : Int) < 1 := by omega
  by_cases c4 : 7 < cs.length
  · have c4' : ¬ cs.length ≤ 7 := by omega
    have c4'' : (7 : Int) < (cs.length : Int) := by omega
    simp only [d49, letJ, fitB, c1, c1', c2, c2', c3', c3'', c4', c4'', g0, decide_true, decide_false, Bool.not_true, Bool.not_false, cond_false, cond_true, Bool.false_and, Bool.and_false, Bool.true_and, Bool.and_true, Bool.cond_self, Option.bind_some, show ¬ (5 : Int) = 0 by omega, show ¬ (4 : Int) = 0 by omega]
  have c4' : cs.length ≤ 7 := by omega
  have c4'' : ¬ (7 : Int) < (cs.length : Int) := by omega
  by_cases c5 : s < 1
  · have c5' : ¬ 1 ≤ s := by omega
    simp only [d49, letJ, fitB, c1, c1', c2, c2', c3', c3'', c4', c4'', c5, c5', g0, decide_true, decide_false, Bool.not_true, Bool.not_false, cond_false, cond_true, Bool.false_and, Bool.and_false, Bool.true_and, Bool.and_true, Bool.cond_self, Option.bind_some, show ¬ (5 : Int) = 0 by omega, show ¬ (4 : Int) = 0 by omega]
  have c5' : 1 ≤ s := by omega
  by_cases c6 : 5 < s
  · have c6' : ¬ s ≤ 5 := by omega
    simp only [d49, letJ, fitB, c1, c1', c2, c2', c3', c3'', c4', c4'', c5, c5', c6, c6', g0, decide_true, decide_false, Bool.not_true, Bool.not_false, cond_false, cond_true, Bool.false_and, Bool.and_false, Bool.true_and, Bool.and_true, Bool.cond_self, Option.bind_some, show ¬ (5 : Int) = 0 by omega, show ¬ (4 : Int) = 0 by omega]
  have c6' : s ≤ 5 := by omega
  have h45 := d64_nil (n := (cs.length : Int)) (by omega)
  have h68 := d65_id c4'
  have ht1 : decide (1 ≤ ti) = !decide (ti < 1) := by rw [← decide_not]; exact decide_eq_decide.2 (by omega)
  have ht2 : decide (ti ≤ 3) = !decide (3 < ti) := by rw [← decide_not]; exact decide_eq_decide.2 (by omega)
  simp only [d49, letJ, fitB, c1, c1', c2, c2', c3', c3'', c4', c4'', c5, c5', c6, c6', h45, h68, ht1, ht2, Nat.min_eq_right c4', g0, decide_true, decide_false, Bool.not_true, Bool.not_false, cond_false, cond_true, Bool.false_and, Bool.and_false, Bool.true_and, Bool.and_true, Bool.cond_self, Option.bind_some, show ¬ (5 : Int) = 0 by omega, show ¬ (4 : Int) = 0 by omega]
  generalize decide (m = 2) = b1
  generalize decide (1 ≤ dg) = b2
  generalize decide (dg ≤ 6) = b3
  generalize decide (dg = 0) = b4
  generalize decide (m = 1) = b5
  generalize decide (s = 1) = b6
  generalize decide (ti < 1) = b7
  generalize decide (3 < ti) = b8
  revert b1 b2 b3 b4 b5 b6 b7 b8
  decide +kernel
theorem d29_eq {c : Con} (hc : c.2.1.length ≤ 281474976710656) : d29 c = some (fitB c) := by
  unfold d29
  have hmin : (bif (decide (7 < (c.2.1.length : Int))) then (7 : Int) else (c.2.1.length : Int)) = ((min 7 c.2.1.length : Nat) : Int) := by
    by_cases h : (7 : Int) < (c.2.1.length : Int)
    · simp only [h, decide_true, cond_true]; omega
    · simp only [h, decide_false, cond_false]; omega
  rw [hmin]
  refine while_bind (b := (c, idL (min 7 c.2.1.length))) (fun i => (c, idL i, ((min 7 c.2.1.length : Nat) : Int), (i : Int))) (min 7 c.2.1.length) rfl (fun i hi => ?_) ?_ ?_
  · have e1 : (i : Int) < ((min 7 c.2.1.length : Nat) : Int) := by omega
    have e2 : w ((i : Int) + 1) = ((i + 1 : Nat) : Int) := by rw [w_id (by omega) (by omega)]; omega
    simp only [e1, e2, decide_true, cond_true, lim_small (idL i) (i : Int) (by rw [idL_len]; omega), idL_succ]
  · have : ¬ (((min 7 c.2.1.length : Nat) : Int) < ((min 7 c.2.1.length : Nat) : Int)) := by omega
    simp only [this, decide_false, cond_false]
  · exact d49_ok c
/- CHECK -/
def sufB (c : Con) (ws : List Int) (l : List Asn) : Bool :=
  fitB c && decide (l.length ≤ 1400) && decide (isB (c.2.1.length : Int) ws) && (l.all fun a => validB (c.2.1.length : Int) a) &&
    (if (c.2.1.length : Int) ≤ c.2.2.2.1 then decide (ws.length = c.2.1.length) else decide ((ws.length : Int) = c.2.2.2.1) &&
      (if c.2.2.1 = 1 then (witA (c.2.1.length : Int) l (ws.getD 0 0)).isNone else ws.all fun x => l.any fun a => decide (a = (3, x, 0, [], c.2.2.2.1 + 1))))
theorem fit_n {c : Con} (h : fitB c = true) : 1 ≤ c.2.1.length ∧ c.2.1.length ≤ 7 ∧ 1 ≤ c.2.2.2.1 ∧ c.2.2.2.1 ≤ 5 ∧ 1 ≤ c.2.2.1 ∧ c.2.2.1 ≤ 3 ∧ (c.2.2.1 = 1 → c.2.2.2.1 = 1) := by
  unfold fitB at h
  simp only [Bool.and_eq_true, decide_eq_true_eq, Bool.or_eq_true, Bool.not_eq_true', decide_eq_false_iff_not] at h
  obtain ⟨⟨⟨⟨⟨⟨⟨⟨⟨h1, h2⟩, h3⟩, h4⟩, h5⟩, h6⟩, h7⟩, h8⟩, h9⟩, h10⟩ := h
  exact ⟨h3, h4, h5, h6, h1, h2, fun e => h7.resolve_left fun k => k e⟩
theorem d16_eq {c : Con} {ws : List Int} {l : List Asn} (hc : c.2.1.length ≤ 281474976710656) (hws : ws.length ≤ 281474976710656) (hl : LOK l) : d16 c ws l = some (sufB c ws l) := by
  unfold d16 letJ
  simp only
  rw [d29_eq hc]
  simp only [Option.bind_some, Bool.not_not]
  unfold sufB
  cases hf : fitB c
  · simp
  simp only [cond_true, Bool.true_and]
  rcases (Decidable.em (l.length ≤ 1400)).symm with h1 | h1
  · have h1' : (1400 : Int) < (l.length : Int) := by omega
    simp only [h1, h1', decide_true, decide_false, cond_true, Bool.false_and]
  have h1' : ¬ (1400 : Int) < (l.length : Int) := by omega
  simp only [h1, h1', decide_true, decide_false, cond_false, Bool.true_and]
  obtain ⟨f1, f2, f3, f4, f5, f6, f7⟩ := fit_n hf
  obtain ⟨nm, cs, m, s, x1, dg, ti, x2, x3⟩ := c
  simp only at f1 f2 f3 f4 f5 f6 f7 ⊢
  obtain ⟨n, hn⟩ : ∃ n : Int, (cs.length : Int) = n := ⟨_, rfl⟩
  have hcn : ∀ k : Nat, (k = cs.length) ↔ ((k : Int) = n) := fun k => by omega
  simp only [hn, hcn]
  have hn1 : 1 ≤ n := by omega
  have hn7 : n ≤ 7 := by omega
  clear hcn hf f1 f2 hc
  refine while_first (fun i => (ws, l, (nm, cs, m, s, x1, dg, ti, x2, x3), n, ws, (ws.length : Int), (i : Int))) (fun i => decide (ws.getD i 0 < 0) || (decide (n ≤ ws.getD i 0) || decide (ws.getD i 0 ∈ ws.take i))) ws.length (fun _ => .inr false) (.inl (ws, l, (nm, cs, m, s, x1, dg, ti, x2, x3), n)) rfl (fun i hi => ?_) ?_ (fun i hi hp hj => ?_) (fun hall => ?_)
  · have h2 : (i : Int) < (ws.length : Int) := by omega
    have h3 : (0 : Int) ≤ (i : Int) := by omega
    have hw : w ((i : Int) + 1) = ((i + 1 : Nat) : Int) := by rw [w_id (by omega) (by omega)]; omega
    simp only [h2, h3, decide_true, cond_true, Bool.and_self, Int.toNat_natCast, hw, cutOK_take (Nat.le_of_lt hi), List.drop_zero, d30_eq (s := ws.take i) _ (by simp; omega), Option.bind_some]
    by_cases c1 : ws.getD i 0 < 0
    · simp only [c1]; rfl
    · by_cases c2 : n ≤ ws.getD i 0
      · simp only [c1, c2]; rfl
      · by_cases c3 : ws.getD i 0 ∈ ws.take i
        · simp only [c1, c2, c3]; rfl
        · simp only [c1, c2, c3]; rfl
  · have : ¬ ((ws.length : Int) < (ws.length : Int)) := by omega
    simp only [this, decide_false, cond_false]
  · have : ¬ isB n ws := fun h => by
      have := (isB_iff n ws).1 h i hi
      simp only [Bool.or_eq_true, decide_eq_true_eq] at hp
      rcases hp with hp | hp | hp
      · omega
      · omega
      · exact this.2.2 hp
    simp only [this, decide_false, Bool.false_and]
  have hB : isB n ws := (isB_iff n ws).2 fun i hi => by
    have := hall i hi
    simp only [Bool.or_eq_false_iff, decide_eq_false_iff_not] at this
    exact ⟨by omega, by omega, this.2.2⟩
  have hwl := isB_len hB hn7
  simp only [hB, decide_true, Bool.true_and]
  refine while_first (fun i => (ws, l, (nm, cs, m, s, x1, dg, ti, x2, x3), n, l, (l.length : Int), (i : Int))) (fun i => !validB n (l.getD i (0, 0, 0, [], 0))) l.length (fun _ => .inr false) (.inl (ws, l, (nm, cs, m, s, x1, dg, ti, x2, x3), n)) rfl (fun i hi => ?_) ?_ (fun i hi hp hj => ?_) (fun hall2 => ?_)
  · have h2 : (i : Int) < (l.length : Int) := by omega
    have h3 : (0 : Int) ≤ (i : Int) := by omega
    have hw : w ((i : Int) + 1) = ((i + 1 : Nat) : Int) := by rw [w_id (by omega) (by omega)]; omega
    have hm : l.getD i (0, 0, 0, [], 0) ∈ l := by rw [getD_get _ _ hi]; exact List.getElem_mem _
    have hlm := hl.2 _ hm
    simp only [h2, h3, decide_true, cond_true, Bool.and_self, Int.toNat_natCast, hw, d31_eq n (a := l.getD i (0, 0, 0, [], 0)) (by omega), Option.bind_some]
    cases validB n (l.getD i (0, 0, 0, [], 0))
    · simp only [Bool.not_false, cond_true, if_true]
    · simp only [Bool.not_true, cond_false, Bool.false_eq_true, if_false]
  · have : ¬ ((l.length : Int) < (l.length : Int)) := by omega
    simp only [this, decide_false, cond_false]
  · rw [all_false hi (by simpa using hp)]
    simp only [Bool.false_and]
  have hV : (l.all fun a => validB n a) = true := all_true fun i hi => by simpa using hall2 i hi
  simp only [hV, Bool.true_and]
  by_cases c1 : n ≤ s
  · simp only [c1, decide_true, cond_true, if_true]
  simp only [c1, decide_false, cond_false, if_false]
  rcases (Decidable.em ((ws.length : Int) = s)).symm with c2 | c2
  · simp only [c2, decide_false, Bool.not_false, cond_true, Bool.false_and]
  have hpos : (0 : Int) < (ws.length : Int) := by omega
  simp only [c2, decide_true, Bool.not_true, cond_false, Bool.true_and]
  by_cases c3 : m = 1
  · have hs0 : (0 : Int) < s := by omega
    have hz : (0 : Int) ≤ 0 := by omega
    simp only [c3, hs0, decide_true, cond_true, if_true, Bool.and_self, hz]
    have hw0 := hB.2 (ws.getD 0 0) (by rw [getD_get _ _ (by omega)]; exact List.getElem_mem _)
    rw [d13_eq hl, if_neg (show ¬ badW n (ws.getD 0 0) l by unfold badW; omega)]
    cases witA n l (ws.getD 0 0) <;> rfl
  · simp only [c3, decide_false, cond_false, if_false]
    have hsw : w (s + 1) = s + 1 := w_id (by omega) (by omega)
    refine while_first (fun i => (l, (nm, cs, m, s, x1, dg, ti, x2, x3), ws, s, (i : Int))) (fun i => !(l.any fun a => decide (a = (3, ws.getD i 0, 0, [], s + 1)))) ws.length (fun _ => .inr false) (.inl ()) (by rw [← c2]; rfl) (fun i hi => ?_) ?_ (fun i hi hp hj => ?_) (fun hall3 => ?_)
    · have h2 : (i : Int) < s := by omega
      have h2' : (i : Int) < (ws.length : Int) := by omega
      have h3 : (0 : Int) ≤ (i : Int) := by omega
      have hw : w ((i : Int) + 1) = ((i + 1 : Nat) : Int) := by rw [w_id (by omega) (by omega)]; omega
      have e38 := d32_eq (s := l) (f := fun a => d33 a (3, ws.getD i 0, 0, [], s + 1)) (g := fun a => decide (a = (3, ws.getD i 0, 0, [], s + 1))) (fun a ha => by
        unfold d33
        rw [d34_eq (by have := hl.2 a ha; omega) (by simp)]
        simp only [Option.bind_some, cmpA_zero]) hl.1
      simp only [h2, h2', h3, decide_true, cond_true, Bool.and_self, Int.toNat_natCast, hw, hsw, e38, Option.bind_some]
      cases (l.any fun a => decide (a = (3, ws.getD i 0, 0, [], s + 1)))
      · simp only [Bool.not_false, cond_true, if_true]
      · simp only [Bool.not_true, cond_false, Bool.false_eq_true, if_false]
    · have : ¬ ((ws.length : Int) < s) := by omega
      simp only [this, decide_false, cond_false]
    · rw [all_false (g := fun x => l.any fun a => decide (a = (3, x, 0, [], s + 1))) hi (by simpa using hp)]
    · rw [all_true (g := fun x => l.any fun a => decide (a = (3, x, 0, [], s + 1))) (z := 0) fun i hi => by simpa using hall3 i hi]
end Go.Proofs.YthlgoakkgmabaaaGreat
