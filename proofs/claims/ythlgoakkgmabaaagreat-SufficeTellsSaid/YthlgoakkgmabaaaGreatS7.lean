/- Plain laws: derived assertions are valid; lists of assertions for a statement. -/
import Derived.Test.YthlgoakkgmabaaaGreatS6
set_option linter.unusedSimpArgs false
set_option linter.unusedVariables false
open Go Go.Proofs Go.X
namespace Go.Proofs.YthlgoakkgmabaaaGreat
def quotaA (x s : Int) : Asn := (3, x, 0, [], s + 1)
def derP (c : Con) (gs : List Grp) (ws : List Int) : List Asn × Bool :=
  if (fitB c && pileB (c.2.1.length : Int) gs) = true ∧ isB (c.2.1.length : Int) ws then
    if (c.2.1.length : Int) ≤ c.2.2.2.1 then ([], decide ((ws.length : Int) = (c.2.1.length : Int)))
    else if (ws.length : Int) = c.2.2.2.1 then
      if c.2.2.1 = 1 then (if (setP c.2.1.length gs (ws.getD 0 0)).1 < 1 then ([], false) else (sortedP (setP c.2.1.length gs (ws.getD 0 0)).2, true))
      else if (ws.all fun x => decide (1 ≤ mrg (c.2.1.length : Int) gs (quotaA x c.2.2.2.1))) = true then (sortedP (ws.map fun x => quotaA x c.2.2.2.1), true) else ([], false)
    else ([], false)
  else ([], false)
/- VALID -/
theorem ownA_valid {n : Nat} (hn : n ≤ 7) {tail : List Int} (ht : isB n tail) (h0 : 0 < tail.length) {x : Int} (hx : 0 ≤ x ∧ x < (n : Int)) (hne : x ≠ tail.getD 0 0) : validB (n : Int) (ownA tail x) = true := by
  have hm0 : tail.getD 0 0 ∈ tail := by rw [getD_get _ _ h0]; exact List.getElem_mem _
  have hb0 := ht.2 _ hm0
  have g1 : ¬ (n : Int) < 1 := by omega
  have g2 : ¬ (7 : Int) < (n : Int) := by omega
  have g3 : ¬ x < 0 := by omega
  have g4 : ¬ (n : Int) ≤ x := by omega
  unfold ownA
  generalize tail.getD 0 0 = t at *
  have g5 : ¬ t < 0 := by omega
  have g6 : ¬ (n : Int) ≤ t := by omega
  by_cases hm : x ∈ tail
  · have hasc : asc (n : Int) (risL tail) = true := (asc_iff _ _).2 ⟨risL_lt tail, fun y hy => ht.2 y (risL_mem.1 hy).2⟩
    have m1 : t ∈ risL tail := risL_mem.2 ⟨by omega, hm0⟩
    have m2 : x ∈ risL tail := risL_mem.2 ⟨by omega, hm⟩
    unfold validB
    simp only [hm, if_true, g1, g2, g3, g4, g5, g6, hasc, m1, m2, decide_true, decide_false, Bool.not_false, Bool.and_self, Bool.and_true, show ¬ (2 : Int) = 1 by omega, if_false, Ne.symm hne, ne_eq, not_false_eq_true]
  · unfold validB
    simp only [hm, if_true, if_false, g1, g2, g3, g4, g5, g6, decide_true, decide_false, Bool.not_false, Bool.and_self, Bool.and_true, List.length_nil, hne, ne_eq, not_false_eq_true]
theorem ownTo_ok {n : Nat} (hn : n ≤ 7) (gs : List Grp) {tail : List Int} (ht : isB n tail) (h0 : 0 < tail.length) : ∀ i, i ≤ n → ((ownTo (n : Int) gs tail i).2.2 = true → validB (n : Int) (ownTo (n : Int) gs tail i).1 = true) ∧ ((∃ j : Nat, j < i ∧ (j : Int) ≠ tail.getD 0 0) → (ownTo (n : Int) gs tail i).2.2 = true)
  | 0, _ => ⟨fun h => by simp [ownTo, idL] at h, fun ⟨j, hj, _⟩ => by omega⟩
  | i + 1, hi => by
    obtain ⟨h1, h2⟩ := ownTo_ok hn gs ht h0 i (by omega)
    rw [ownTo_succ]
    unfold ownStep
    by_cases c : (i : Int) = tail.getD 0 0
    · rw [if_pos c]
      refine ⟨h1, fun ⟨j, hj, hne⟩ => h2 ⟨j, ?_, hne⟩⟩
      have : j ≠ i := fun e => hne (by rw [e]; exact c)
      omega
    · rw [if_neg c]
      by_cases hb : better (ownTo (n : Int) gs tail i) (ownA tail (i : Int)) (mrg (n : Int) gs (ownA tail (i : Int))) = true
      · rw [if_pos hb]
        exact ⟨fun _ => ownA_valid hn ht h0 (by omega) c, fun _ => rfl⟩
      · rw [if_neg hb]
        refine ⟨h1, fun _ => ?_⟩
        unfold better at hb
        simp only [Bool.or_eq_true, not_or, Bool.not_eq_true', Bool.not_eq_false] at hb
        exact hb.1
theorem ownP_valid {n : Nat} (h2 : 2 ≤ n) (hn : n ≤ 7) (gs : List Grp) {tail : List Int} (ht : isB n tail) (h0 : 0 < tail.length) : validB (n : Int) (ownP n gs tail).1 = true := by
  obtain ⟨a, b⟩ := ownTo_ok hn gs ht h0 n (Nat.le_refl n)
  refine a (b ?_)
  by_cases c : (0 : Int) = tail.getD 0 0
  · exact ⟨1, by omega, by rw [← c]; decide⟩
  · exact ⟨0, by omega, c⟩
theorem valP_valid {n : Nat} (h2 : 2 ≤ n) (hn : n ≤ 7) (gs : List Grp) : ∀ (k : Nat) (tail : List Int), isB n tail → 0 < tail.length → ∀ a ∈ (valP n gs k tail).2, validB (n : Int) a = true
  | 0, tail, _, _ => by simp [valP]
  | k + 1, tail, ht, h0 => by
    rw [valP_succ]
    have hown := ownP_valid h2 hn gs ht h0
    split
    · intro a ha; rw [List.mem_singleton.1 ha]; exact hown
    · split
      · intro a ha; rw [List.mem_singleton.1 ha]; exact hown
      · exact valTo_all (f := valP n gs k) (tail := tail) (P := fun a => validB (n : Int) a = true) n fun j hj hm => valP_valid h2 hn gs k _ (isB_cons ht hj hm) (by simp)
theorem setTo_valid {n : Nat} (h2 : 2 ≤ n) (hn : n ≤ 7) (gs : List Grp) (wn : Int) : ∀ i, i ≤ n → ∀ a ∈ (setTo n gs wn i).2, validB (n : Int) a = true
  | 0, _ => by simp [setTo, idL]
  | i + 1, hi => by
    have ih := setTo_valid h2 hn gs wn i (by omega)
    rw [setTo_succ]
    unfold setStep
    split
    · exact ih
    · intro a ha
      rcases List.mem_append.1 ha with ha | ha
      · exact ih a ha
      · exact valP_valid h2 hn gs 10 [(i : Int)] (isB_one (by omega)) (by simp) a ha
theorem setP_valid {n : Nat} (h2 : 2 ≤ n) (hn : n ≤ 7) (gs : List Grp) (wn : Int) : ∀ a ∈ (setP n gs wn).2, validB (n : Int) a = true := by
  unfold setP
  split
  · exact setTo_valid h2 hn gs wn n (Nat.le_refl n)
  · simp
theorem setP_len {n : Nat} (hn : n ≤ 7) (gs : List Grp) (wn : Int) : (setP n gs wn).2.length ≤ 5764801 := by
  unfold setP
  split
  · have := setTo_len hn gs wn n (Nat.le_refl n)
    show (setTo n gs wn n).2.length ≤ _
    omega
  · simp
theorem quotaA_valid {n : Int} (h1 : 1 ≤ n) (hn : n ≤ 7) {x s : Int} (hx : 0 ≤ x ∧ x < n) (hs : 1 ≤ s ∧ s ≤ 5) : validB n (quotaA x s) = true := by
  unfold validB quotaA
  simp
  omega
theorem derP_valid (c : Con) (gs : List Grp) (ws : List Int) : ∀ a ∈ (derP c gs ws).1, validB (c.2.1.length : Int) a = true := by
  unfold derP
  intro a ha
  split at ha
  · rename_i h
    obtain ⟨h1, h2⟩ := h
    simp only [Bool.and_eq_true] at h1
    obtain ⟨f1, f2, f3, f4, f5, f6, f7⟩ := fit_n h1.1
    split at ha
    · simp at ha
    · rename_i hns
      split at ha
      · split at ha
        · split at ha
          · simp at ha
          · exact setP_valid (by omega) f2 gs _ a (sorted_mem ha)
        · split at ha
          · obtain ⟨x, hx, rfl⟩ := List.mem_map.1 (sorted_mem ha)
            exact quotaA_valid (by omega) (by omega) (h2.2 x hx) ⟨f3, f4⟩
          · simp at ha
      · simp at ha
  · simp at ha
theorem derP_small {c : Con} {gs : List Grp} {ws : List Int} (h : c.2.1.length ≤ 1) : (derP c gs ws).1 = [] := by
  unfold derP
  split
  · rename_i h1
    simp only [Bool.and_eq_true] at h1
    obtain ⟨f1, f2, f3, f4, f5, f6, f7⟩ := fit_n h1.1.1
    rw [if_pos (by omega)]
  · rfl
theorem derP_len (c : Con) (gs : List Grp) (ws : List Int) : (derP c gs ws).1.length ≤ 5764801 := by
  unfold derP
  split
  · rename_i h
    obtain ⟨h1, h2⟩ := h
    simp only [Bool.and_eq_true] at h1
    obtain ⟨f1, f2, f3, f4, f5, f6, f7⟩ := fit_n h1.1
    split
    · simp
    · split
      · split
        · split
          · simp
          · have := (sorted_inv (setP c.2.1.length gs (ws.getD 0 0)).2 []).1
            have h3 := setP_len f2 gs (ws.getD 0 0)
            simp only [List.length_nil] at this
            show (sortedP _).length ≤ _
            unfold sortedP
            omega
        · split
          · have := (sorted_inv (ws.map fun x => quotaA x c.2.2.2.1) []).1
            have h3 := isB_len h2 (by omega)
            simp only [List.length_nil, List.length_map] at this
            show (sortedP _).length ≤ _
            unfold sortedP
            omega
          · simp
      · simp
  · simp
theorem d21_eq {c : Con} {gs : List Grp} {ws : List Int} (hc : c.2.1.length ≤ 100000) (hg : GsOK gs) (hws : ws.length ≤ 281474976710656) : d21 c gs ws = some (derP c gs ws) := by
  unfold d21 letJ
  simp only
  rw [d36_eq hc]
  obtain ⟨r, hr1, hr2⟩ := d35_ok c hg
  simp only [Option.bind_some, Bool.not_not, hr1, hr2, d37_eq (c.2.1.length : Int) hws]
  unfold derP
  cases hf : (fitB c && pileB (c.2.1.length : Int) gs)
  · simp
  simp only [Bool.and_eq_true] at hf
  obtain ⟨f1, f2, f3, f4, f5, f6, f7⟩ := fit_n hf.1
  rcases (Decidable.em (isB (c.2.1.length : Int) ws)).symm with hB | hB
  · simp [hB]
  simp only [hB, decide_true, cond_true, Bool.not_true, cond_false, and_self, if_true]
  by_cases c1 : (c.2.1.length : Int) ≤ c.2.2.2.1
  · simp only [c1, decide_true, cond_true, if_true]
  simp only [c1, decide_false, cond_false, if_false]
  rcases (Decidable.em ((ws.length : Int) = c.2.2.2.1)).symm with c2 | c2
  · simp only [c2, decide_false, Bool.not_false, cond_true, if_false]
  simp only [c2, decide_true, Bool.not_true, cond_false, if_true]
  have hs0 : (0 : Int) < c.2.2.2.1 := by omega
  have hz : (0 : Int) ≤ 0 := by omega
  by_cases c3 : c.2.2.1 = 1
  · simp only [c3, hs0, hz, decide_true, cond_true, Bool.and_self, if_true, d40_eq hg, Option.bind_some]
    by_cases c4 : (setP c.2.1.length gs (ws.getD 0 0)).1 < 1
    · simp only [c4, decide_true, cond_true, if_true]
      rfl
    · have hv := setP_valid (n := c.2.1.length) (by omega) f2 gs (ws.getD 0 0)
      have hl := setP_len f2 gs (ws.getD 0 0)
      simp only [c4, decide_false, cond_false, if_false, d41_eq (l := (setP c.2.1.length gs (ws.getD 0 0)).2) (by omega) (fun a ha => by have := valid_short (hv a ha); omega), Option.bind_some]
      rfl
  · simp only [c3, decide_false, cond_false, if_false]
    have hwl := isB_len hB (by omega)
    have hsw : w (c.2.2.2.1 + 1) = c.2.2.2.1 + 1 := w_id (by omega) (by omega)
    refine while_first (fun i => (gs, ws, c, (c.2.1.length : Int), (ws.take i).map (fun x => quotaA x c.2.2.2.1), (i : Int))) (fun i => !decide (1 ≤ mrg (c.2.1.length : Int) gs (quotaA (ws.getD i 0) c.2.2.2.1))) ws.length (fun _ => .inr ([], false)) (.inl (ws.map fun x => quotaA x c.2.2.2.1)) rfl (fun i hi => ?_) ?_ (fun i hi hp hj => ?_) (fun hall => ?_)
    · have h2 : (i : Int) < c.2.2.2.1 := by omega
      have h2' : (i : Int) < (ws.length : Int) := by omega
      have h3 : (0 : Int) ≤ (i : Int) := by omega
      have hw : w ((i : Int) + 1) = ((i + 1 : Nat) : Int) := by rw [w_id (by omega) (by omega)]; omega
      have e42 := d42_eq (n := (c.2.1.length : Int)) hg (a := quotaA (ws.getD i 0) c.2.2.2.1) (by simp [quotaA])
      have hq : ((3 : Int), ws.getD i 0, (0 : Int), ([] : List Int), c.2.2.2.1 + 1) = quotaA (ws.getD i 0) c.2.2.2.1 := rfl
      have hlim := lim_small ((ws.take i).map (fun x => quotaA x c.2.2.2.1)) (quotaA (ws.getD i 0) c.2.2.2.1) (by simp; omega)
      have ht : (ws.take (i + 1)).map (fun x => quotaA x c.2.2.2.1) = (ws.take i).map (fun x => quotaA x c.2.2.2.1) ++ [quotaA (ws.getD i 0) c.2.2.2.1] := by rw [take_get ws 0 hi, List.map_append]; rfl
      simp only [h2, h2', h3, hw, hsw, hq, c2, decide_true, cond_true, Bool.and_self, Int.toNat_natCast, e42, Option.bind_some, hlim, ht]
      by_cases c4 : mrg (c.2.1.length : Int) gs (quotaA (ws.getD i 0) c.2.2.2.1) < 1
      · have c4' : ¬ 1 ≤ mrg (c.2.1.length : Int) gs (quotaA (ws.getD i 0) c.2.2.2.1) := by omega
        simp only [c4, c4', decide_true, decide_false, cond_true, Bool.not_false, if_true]
      · have c4' : 1 ≤ mrg (c.2.1.length : Int) gs (quotaA (ws.getD i 0) c.2.2.2.1) := by omega
        simp only [c4, c4', decide_true, decide_false, cond_false, Bool.not_true, Bool.false_eq_true, if_false]
    · have : ¬ ((ws.length : Int) < (ws.length : Int)) := by omega
      simp only [this, decide_false, cond_false, List.take_length]
    · rw [all_false (g := fun x => decide (1 ≤ mrg (c.2.1.length : Int) gs (quotaA x c.2.2.2.1))) (z := 0) hi (by simpa using hp)]
      simp only [Bool.false_eq_true, if_false]
    · rw [all_true (g := fun x => decide (1 ≤ mrg (c.2.1.length : Int) gs (quotaA x c.2.2.2.1))) (z := 0) fun i hi => by simpa using hall i hi]
      simp only [if_true]
      rw [d41_eq (by simp; omega) (fun a ha => by
        obtain ⟨x, _, rfl⟩ := List.mem_map.1 ha
        simp [quotaA])]
      rfl
/- MIXED -/
def mixTo (l : List Asn) (drop : Int) : Nat → List Asn
  | 0 => []
  | i + 1 => if drop < 0 ∨ (i : Int) ≠ drop % (l.length : Int) then mixTo l drop i ++ [l.getD i zA] else mixTo l drop i
theorem mixTo_len (l : List Asn) (drop : Int) : ∀ i, (mixTo l drop i).length ≤ i
  | 0 => by simp [mixTo]
  | i + 1 => by have := mixTo_len l drop i; unfold mixTo; split <;> simp <;> omega
theorem mixTo_mem {l : List Asn} {drop : Int} {a : Asn} : ∀ i, i ≤ l.length → a ∈ mixTo l drop i → a ∈ l
  | 0, _, h => by simp [mixTo] at h
  | i + 1, hi, h => by
    unfold mixTo at h
    split at h
    · rcases List.mem_append.1 h with h | h
      · exact mixTo_mem i (by omega) h
      · rw [List.mem_singleton.1 h, getD_get _ _ (by omega)]; exact List.getElem_mem _
    · exact mixTo_mem i (by omega) h
def mixP (c : Con) (n : Int) (gs : List Grp) (ws : List Int) (x : List (List Int)) (drop : Int) : List Asn :=
  mixTo (derP c gs ws).1 drop (min (derP c gs ws).1.length 30) ++ (if 2 ≤ n then alls n x else [])
theorem mixP_ok {c : Con} {n : Int} (hn : (c.2.1.length : Int) = n) (hn7 : n ≤ 7) (gs : List Grp) (ws : List Int) (x : List (List Int)) (drop : Int) : (mixP c n gs ws x drop).length ≤ 42 ∧ ∀ a ∈ mixP c n gs ws x drop, validB n a = true := by
  unfold mixP
  refine ⟨?_, fun a ha => ?_⟩
  · have h1 := mixTo_len (derP c gs ws).1 drop (min (derP c gs ws).1.length 30)
    rw [List.length_append]
    split
    · rename_i h2
      have := (alls_ok h2 hn7 x).1
      omega
    · simp only [List.length_nil]; omega
  · rcases List.mem_append.1 ha with ha | ha
    · have := mixTo_mem _ (Nat.min_le_left _ _) ha
      rw [← hn]
      exact derP_valid c gs ws a this
    · split at ha
      · rename_i h2
        exact alls_valid h2 hn7 x a ha
      · simp at ha
theorem lok_of {n : Int} {l : List Asn} (hl : l.length ≤ 100000) (h : ∀ a ∈ l, validB n a = true) : LOK l := ⟨by omega, fun a ha => by have := valid_short (h a ha); omega⟩
theorem d10_eq {c : Con} {n : Int} {gs : List Grp} {ws : List Int} {x : List (List Int)} {drop : Int} (hc : c.2.1.length ≤ 100000) (hg : GsOK gs) (hws : ws.length ≤ 281474976710656) (hn : n ≤ 7) (hx : x.length ≤ 281474976710656) (hw : ∀ y ∈ x, WT (.slice (.int .i64)) y) (hd : WT (.int .i64) drop) :
    d10 c n gs ws x drop = some (mixP c n gs ws x drop) := by
  unfold d10
  rw [d21_eq hc hg hws]
  simp only [Option.bind_some]
  unfold mixP
  have hlen := derP_len c gs ws
  generalize (derP c gs ws).1 = l at hlen
  refine while_bind (b := (n, x, mixTo l drop (min l.length 30))) (fun i => (n, x, drop, l, mixTo l drop i, (i : Int))) (min l.length 30) rfl (fun i hi => ?_) ?_ ?_
  · have e1 : (i : Int) < (l.length : Int) := by omega
    have e2 : (i : Int) < 30 := by omega
    have e0 : (0 : Int) ≤ (i : Int) := by omega
    have ew : w ((i : Int) + 1) = ((i + 1 : Nat) : Int) := by rw [w_id (by omega) (by omega)]; omega
    have hml := mixTo_len l drop i
    have hz : ((0 : Int), (0 : Int), (0 : Int), ([] : List Int), (0 : Int)) = zA := rfl
    simp only [e1, e2, decide_true, cond_true, letJ, hz, mixTo]
    by_cases c1 : drop < 0
    · simp only [c1, decide_true, Bool.not_true, cond_false, cond_true, e0, e1, Bool.and_self, Int.toNat_natCast, lim_small (mixTo l drop i) (l.getD i zA) (by omega), true_or, if_true, ew]
    · have e7 := d7_eq (x := drop) (n := (l.length : Int)) hd (by omega) (by omega)
      simp only [c1, decide_false, Bool.not_false, cond_true, e7, Option.bind_some, false_or]
      by_cases c2 : (i : Int) = drop % (l.length : Int)
      · simp only [c2, decide_true, Bool.not_true, cond_false, ne_eq, not_true_eq_false, if_false]
        rw [← c2, ew]
      · simp only [c2, decide_false, Bool.not_false, cond_true, ne_eq, not_false_eq_true, if_true, e0, e1, decide_true, Bool.and_self, Int.toNat_natCast, lim_small (mixTo l drop i) (l.getD i zA) (by omega), ew]
  · by_cases c1 : l.length ≤ 30
    · have : ¬ (((min l.length 30 : Nat) : Int) < (l.length : Int)) := by omega
      simp only [this, decide_false, cond_false, letJ]
    · have k1 : ((min l.length 30 : Nat) : Int) < (l.length : Int) := by omega
      have k2 : ¬ ((min l.length 30 : Nat) : Int) < 30 := by omega
      simp only [k1, k2, decide_true, decide_false, cond_true, cond_false, letJ]
  · have hml := mixTo_len l drop (min l.length 30)
    simp only [letJ]
    by_cases c1 : 2 ≤ n
    · have := (alls_ok c1 hn x).1
      simp only [c1, decide_true, cond_true, d22_eq c1 hn hx hw, Option.bind_some, lim_app (mixTo l drop (min l.length 30)) (alls n x) (by omega) (by omega), if_true]
    · simp only [c1, decide_false, cond_false, if_false, List.append_nil]
end Go.Proofs.YthlgoakkgmabaaaGreat
