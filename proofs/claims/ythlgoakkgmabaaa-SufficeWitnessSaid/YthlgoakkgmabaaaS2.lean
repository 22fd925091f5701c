/- Plain laws: the candidates that can win by some way of breaking ties. -/
import Derived.Test.YthlgoakkgmabaaaP21
import Derived.Test.YthlgoakkgmabaaaS1
set_option linter.unusedSimpArgs false
set_option linter.unusedVariables false
open Go Go.Proofs Go.X
namespace Go.Proofs.Ythlgoakkgmabaaa
/- SETS AS NUMBERS -/
theorem shl_eq : ∀ c : Nat, c < 8 → w (1 * 2 ^ (min (Int.toNat (c : Int)) 64)) = ((2 ^ c : Nat) : Int) := by decide +kernel
theorem bit_eq : ∀ S : Nat, S < 128 → ∀ c : Nat, c < 7 → decide ((w ((BitVec.ofInt 64 (w (Int.fdiv (S : Int) (2 ^ (min (Int.toNat (c : Int)) 64)))) &&& BitVec.ofInt 64 1).toNat : Int)) = 1) = S.testBit c := by decide +kernel
theorem off_eq : ∀ S : Nat, S < 128 → ∀ c : Nat, c < 7 → S.testBit c = true → w ((BitVec.ofInt 64 (S : Int) &&& ~~~(BitVec.ofInt 64 ((2 ^ c : Nat) : Int))).toNat : Int) = ((S - 2 ^ c : Nat) : Int) := by decide +kernel
theorem tb_off : ∀ S : Nat, S < 128 → ∀ c : Nat, c < 7 → S.testBit c = true → ∀ d : Nat, d < 7 → (S - 2 ^ c).testBit d = (S.testBit d && decide (d ≠ c)) := by decide +kernel
theorem tb_ge : ∀ S : Nat, S < 128 → ∀ c : Nat, c < 7 → S.testBit c = true → 2 ^ c ≤ S := by decide +kernel
theorem tb_ex : ∀ S : Nat, S < 128 → 0 < S → ∃ c : Nat, c < 7 ∧ S.testBit c = true := by decide +kernel
def flags (n S : Nat) : List Bool := (List.range n).map fun c => S.testBit c
def flagsTo (n S : Nat) : Nat → List Bool
  | 0 => List.replicate n false
  | c + 1 => (flagsTo n S c).set c (S.testBit c)
theorem flags_len (n S : Nat) : (flags n S).length = n := by simp [flags]
theorem flagsTo_len (n S : Nat) : ∀ c, (flagsTo n S c).length = n
  | 0 => by simp [flagsTo]
  | c + 1 => by unfold flagsTo; rw [List.length_set]; exact flagsTo_len n S c
theorem flagsTo_get (n S : Nat) {i : Nat} (hi : i < n) : ∀ c, c ≤ n → (flagsTo n S c).getD i false = if i < c then S.testBit i else false
  | 0, _ => by simp [flagsTo, List.getD_eq_getElem?_getD, hi]
  | c + 1, hc => by
    have ih := flagsTo_get n S hi c (by omega)
    unfold flagsTo
    rw [List.getD_eq_getElem?_getD, List.getElem?_set, flagsTo_len]
    by_cases e : c = i
    · subst e; simp [hi]
    · rw [if_neg e, ← List.getD_eq_getElem?_getD, ih]
      by_cases h : i < c
      · simp [h, show i < c + 1 by omega]
      · simp [h, show ¬ i < c + 1 by omega]
theorem flags_get (n S : Nat) {i : Nat} (hi : i < n) : (flags n S).getD i false = S.testBit i := by
  rw [getD_get _ _ (by rw [flags_len]; exact hi)]; simp [flags]
theorem flagsTo_all (n S : Nat) : flagsTo n S n = flags n S := by
  apply List.ext_getElem
  · rw [flagsTo_len, flags_len]
  · intro i h1 h2
    rw [flagsTo_len] at h1
    have e1 := flagsTo_get n S h1 n (Nat.le_refl n)
    have e2 := flags_get n S h1
    rw [if_pos h1, getD_get _ _ (by rw [flagsTo_len]; exact h1)] at e1
    rw [getD_get _ _ (by rw [flags_len]; exact h1)] at e2
    rw [e1, e2]
theorem rem_flags (n S : Nat) {c : Int} (h : 0 ≤ c ∧ c < (n : Int)) : rem (flags n S) c = S.testBit c.toNat := by
  unfold rem
  rw [flags_len, if_pos h.2, flags_get _ _ (by omega)]
/- WHICH SETS ARE REACHED -/
def markTo (gs : List Grp) (n : Nat) (R : List Bool) (S : Nat) : Nat → List Bool
  | 0 => R
  | c + 1 => if lowAt (votesAt (flags n S) gs) (flags n S) c n then (markTo gs n R S c).set (S - 2 ^ c) true else markTo gs n R S c
theorem markTo_len (gs : List Grp) (n : Nat) (R : List Bool) (S : Nat) : ∀ c, (markTo gs n R S c).length = R.length
  | 0 => rfl
  | c + 1 => by unfold markTo; split <;> simp [markTo_len gs n R S c]
def reachA (gs : List Grp) (n M : Nat) : Nat → List Bool
  | 0 => (List.replicate M false).set (M - 1) true
  | k + 1 => if (reachA gs n M k).getD (M - 1 - k) false then markTo gs n (reachA gs n M k) (M - 1 - k) n else reachA gs n M k
theorem reachA_len (gs : List Grp) (n M : Nat) : ∀ k, (reachA gs n M k).length = M
  | 0 => by simp [reachA]
  | k + 1 => by unfold reachA; split <;> simp [markTo_len, reachA_len gs n M k]
def possL (gs : List Grp) (n M : Nat) : Nat → List Int
  | 0 => []
  | c + 1 => if (reachA gs n M (M - 1)).getD (2 ^ c) false then possL gs n M c ++ [(c : Int)] else possL gs n M c
theorem possL_len (gs : List Grp) (n M : Nat) : ∀ c, (possL gs n M c).length ≤ c
  | 0 => by simp [possL]
  | c + 1 => by have := possL_len gs n M c; unfold possL; split <;> simp <;> omega
theorem d14_eq {n : Int} {gs : List Grp} {N : Int} (h : PileOK n gs N) (h1 : 1 ≤ n) (hn : n ≤ 7) : d14 n gs = some (possL gs n.toNat (2 ^ n.toNat) n.toNat) := by
  obtain ⟨m, rfl⟩ : ∃ m : Nat, n = (m : Int) := ⟨n.toNat, by omega⟩
  have hm : m ≤ 7 := by omega
  unfold d14
  rw [d26_eq (h.gs hn), h.pileB h1 hn]
  have s0 := shl_eq m (by omega)
  have hM : 2 ^ m ≤ 128 := Nat.le_trans (Nat.pow_le_pow_right (by omega) hm) (by decide)
  have hM1 : 2 ≤ 2 ^ m := Nat.le_trans (show 2 ≤ 2 ^ 1 by decide) (Nat.pow_le_pow_right (by omega) (by omega))
  have hc7 : ∀ c, c < m → 2 ^ c < 2 ^ m := fun c hc => Nat.pow_lt_pow_right (by omega) hc
  simp only [Int.toNat_natCast] at s0 ⊢
  generalize hMM : 2 ^ m = M at s0 hM hM1 hc7 ⊢
  have s1 : w ((M : Int) - 1) = ((M - 1 : Nat) : Int) := by rw [w_id (by omega) (by omega)]; omega
  have l0 : (0 : Int) ≤ (m : Int) := by omega
  have l1 : (M : Int) ≤ LIM := by rw [LIM_eq]; omega
  have l2 : (0 : Int) ≤ (M : Int) := by omega
  have l3 : (0 : Int) ≤ ((M - 1 : Nat) : Int) := by omega
  have l4 : ((M - 1 : Nat) : Int) < (M : Int) := by omega
  have l5 : (m : Int) ≤ LIM := by rw [LIM_eq]; omega
  simp only [Option.bind_some, Bool.not_true, cond_false, s0, s1, l0, l1, l2, l3, l4, decide_true, Bool.and_self, cond_true, Int.toNat_natCast, List.length_replicate]
  refine while_bind (b := ((m : Int), reachA gs m M (M - 1))) (fun k => ((m : Int), gs, reachA gs m M k, ((M - 1 - k : Nat) : Int))) (M - 1) rfl (fun k hk => ?_) ?_ ?_
  · obtain ⟨S, hS⟩ : ∃ S, M - 1 - k = S := ⟨_, rfl⟩
    have hS' : M - 1 - (k + 1) = S - 1 := by omega
    have hS0 : 0 < S := by omega
    have c0 : (0 : Int) < (S : Int) := by omega
    have c1 : (0 : Int) ≤ (S : Int) := by omega
    have c2 : (S : Int) < (M : Int) := by omega
    have c3 : w ((S : Int) - 1) = ((S - 1 : Nat) : Int) := by rw [w_id (by omega) (by omega)]; omega
    simp only [hS, hS', c0, c1, c2, c3, decide_true, cond_true, letJ, Bool.and_self, Int.toNat_natCast, reachA_len]
    have hstep : reachA gs m M (k + 1) = if (reachA gs m M k).getD S false then markTo gs m (reachA gs m M k) S m else reachA gs m M k := by rw [← hS]; rfl
    rw [hstep]
    have hRl := reachA_len gs m M k
    generalize reachA gs m M k = R at hRl ⊢
    cases hR : R.getD S false
    · simp only [Bool.not_false, cond_true, Bool.false_eq_true, if_false]
    · simp only [Bool.not_true, cond_false, if_true, l0, l5, decide_true, Bool.and_self, cond_true, List.length_replicate, Int.toNat_natCast]
      refine while_bind (b := ((m : Int), gs, R, (S : Int), flags m S)) (fun c => ((m : Int), gs, R, (S : Int), flagsTo m S c, (m : Int), (c : Int))) m rfl (fun c hc => ?_) ?_ ?_
      · have d1 : (c : Int) < (m : Int) := by omega
        have d2 : (0 : Int) ≤ (c : Int) := by omega
        have d3 : w ((c : Int) + 1) = ((c + 1 : Nat) : Int) := by rw [w_id (by omega) (by omega)]; omega
        have d4 := bit_eq S (by omega) c (by omega)
        rw [Int.toNat_natCast] at d4
        simp only [d1, d2, d3, decide_true, cond_true, Bool.and_self, flagsTo_len, Int.toNat_natCast, d4]
        rfl
      · have : ¬ ((m : Int) < (m : Int)) := by omega
        simp only [this, decide_false, cond_false, flagsTo_all]
      · have hfl := flags_len m S
        simp only
        rw [h.d27 hn (by omega)]
        simp only [Option.bind_some, votesAt_len, hfl]
        obtain ⟨v, hv⟩ : ∃ v, votesAt (flags m S) gs = v := ⟨_, rfl⟩
        have hvl : v.length = m := by rw [← hv, votesAt_len, hfl]
        have hmk : ∀ c, markTo gs m R S (c + 1) = if lowAt v (flags m S) c m then (markTo gs m R S c).set (S - 2 ^ c) true else markTo gs m R S c := fun c => by rw [← hv]; rfl
        have hml := markTo_len gs m R S
        rw [hv]
        refine while_bind (b := ((m : Int), gs, markTo gs m R S m, (S : Int))) (fun c => ((m : Int), gs, markTo gs m R S c, (S : Int), flags m S, v, (m : Int), (c : Int))) m rfl (fun c hc => ?_) ?_ (by simp only [c3])
        · have d1 : (c : Int) < (m : Int) := by omega
          have d2 : (0 : Int) ≤ (c : Int) := by omega
          have d3 : w ((c : Int) + 1) = ((c + 1 : Nat) : Int) := by rw [w_id (by omega) (by omega)]; omega
          simp only [d1, d2, d3, decide_true, cond_true, Bool.and_self, hfl, hvl, Int.toNat_natCast]
          refine while_bind (b := ((m : Int), gs, markTo gs m R S c, (S : Int), flags m S, v, (c : Int), lowAt v (flags m S) c m, (m : Int), (c : Int))) (fun d => ((m : Int), gs, markTo gs m R S c, (S : Int), flags m S, v, (c : Int), lowAt v (flags m S) c d, (m : Int), (c : Int), (m : Int), (d : Int))) m ?_ (fun d hd => ?_) ?_ ?_
          · have : lowAt v (flags m S) c 0 = (flags m S).getD c false := by
              unfold lowAt; rw [rem_flags m S (by omega), Int.toNat_natCast, flags_get m S hc]
            simp only [this]; rfl
          · have e1 : (d : Int) < (m : Int) := by omega
            have e2 : (0 : Int) ≤ (d : Int) := by omega
            have e3 : w ((d : Int) + 1) = ((d + 1 : Nat) : Int) := by rw [w_id (by omega) (by omega)]; omega
            have e4 : rem (flags m S) (d : Int) = (flags m S).getD d false := by rw [rem_flags m S (by omega), Int.toNat_natCast, flags_get m S hd]
            simp only [d1, d2, e1, e2, e3, decide_true, cond_true, Bool.and_self, hfl, hvl, Int.toNat_natCast]
            have e5 : lowAt v (flags m S) c (d + 1) = (lowAt v (flags m S) c d && !((flags m S).getD d false && decide (v.getD d 0 < v.getD c 0))) := by rw [← e4]; rfl
            rw [e5]
            cases lowAt v (flags m S) c d
            · simp only [cond_false, Bool.false_and]
            · cases (flags m S).getD d false
              · simp only [cond_true, cond_false, Bool.not_false, Bool.not_true, Bool.false_and, Bool.and_true]
              · by_cases e6 : v.getD d 0 < v.getD c 0
                · have e7 : ¬ v.getD c 0 ≤ v.getD d 0 := by omega
                  simp only [e6, e7, cond_true, cond_false, Bool.not_false, Bool.not_true, Bool.true_and, decide_true, decide_false]
                · have e7 : v.getD c 0 ≤ v.getD d 0 := by omega
                  simp only [e6, e7, cond_true, cond_false, Bool.not_false, Bool.not_true, Bool.true_and, decide_true, decide_false]
          · have : ¬ ((m : Int) < (m : Int)) := by omega
            simp only [this, decide_false, cond_false]
          · have hsh := shl_eq c (by omega)
            rw [Int.toNat_natCast] at hsh
            simp only [hmk, d2, decide_true, cond_true, Int.toNat_natCast, hsh]
            cases hl : lowAt v (flags m S) c m
            · simp only [cond_false, Bool.false_eq_true, if_false, d3]
            · have ht : S.testBit c = true := by
                have := ((lowAt_iff v (flags m S) c m).1 hl).1
                rwa [rem_flags m S (by omega), Int.toNat_natCast] at this
              have ho := off_eq S (by omega) c (by omega) ht
              have o1 : (0 : Int) ≤ ((S - 2 ^ c : Nat) : Int) := by omega
              have o2 : ((S - 2 ^ c : Nat) : Int) < (M : Int) := by have := Nat.sub_le S (2 ^ c); generalize S - 2 ^ c = T at *; omega
              simp only [cond_true, if_true, ho, o1, o2, hml, hRl, decide_true, Bool.and_self, Int.toNat_natCast, d3]
        · have : ¬ ((m : Int) < (m : Int)) := by omega
          simp only [this, decide_false, cond_false]
  · have : ¬ ((0 : Int) < ((M - 1 - (M - 1) : Nat) : Int)) := by omega
    simp only [this, decide_false, cond_false]
  · simp only
    refine while_bind (b := possL gs m M m) (fun c => (reachA gs m M (M - 1), possL gs m M c, (m : Int), (c : Int))) m rfl (fun c hc => ?_) ?_ rfl
    · have d1 : (c : Int) < (m : Int) := by omega
      have d2 : (0 : Int) ≤ (c : Int) := by omega
      have d3 : w ((c : Int) + 1) = ((c + 1 : Nat) : Int) := by rw [w_id (by omega) (by omega)]; omega
      have hsh := shl_eq c (by omega)
      rw [Int.toNat_natCast] at hsh
      have o1 : (0 : Int) ≤ ((2 ^ c : Nat) : Int) := Int.natCast_nonneg _
      have o2 : ((2 ^ c : Nat) : Int) < (M : Int) := by have := hc7 c hc; omega
      have hpl := possL_len gs m M c
      have hlim : ((possL gs m M c).length : Int) + (([(c : Int)] : List Int).length : Int) ≤ LIM := by rw [LIM_eq]; simp; omega
      simp only [d1, d2, d3, hsh, o1, o2, decide_true, cond_true, Bool.and_self, letJ, reachA_len, Int.toNat_natCast, possL]
      cases (reachA gs m M (M - 1)).getD (2 ^ c) false
      · simp only [cond_false, Bool.false_eq_true, if_false]
      · simp only [cond_true, if_true, hlim, decide_true]
    · have : ¬ ((m : Int) < (m : Int)) := by omega
      simp only [this, decide_false, cond_false]
/- WHAT IS REACHED -/
def lowP (gs : List Grp) (o : List Int) (m : Nat) : Prop := ∀ j, j < m → ∀ c ∈ o.drop j, wsum (isTopM (o.drop j) (o.getD j 0)) gs ≤ wsum (isTopM (o.drop j) c) gs
/-- Somebody's exclusion leads to the set S. -/
def Reach (gs : List Grp) (n : Nat) (S : Nat) : Prop := ∃ b : List Int, isB n b ∧ (∀ c : Nat, c < n → (S.testBit c = true ↔ (c : Int) ∉ b)) ∧ ∀ s : List Int, isB n (b ++ s) → (b ++ s).length = n → lowP gs (b ++ s) b.length
theorem reach_step {n : Nat} {gs : List Grp} {N : Int} (h : PileOK n gs N) (hn : n ≤ 7) {S c : Nat} (hS : S < 128) (hc : c < n) (hr : Reach gs n S) (hl : lowAt (votesAt (flags n S) gs) (flags n S) c n = true) : Reach gs n (S - 2 ^ c) := by
  obtain ⟨b, hb, hset, hlow⟩ := hr
  obtain ⟨h1, h2⟩ := (lowAt_iff _ _ _ _).1 hl
  rw [rem_flags n S (by omega), Int.toNat_natCast] at h1
  have hcb := (hset c hc).1 h1
  refine ⟨b ++ [(c : Int)], ⟨List.nodup_append.2 ⟨hb.1, by simp, fun x hx y hy e => hcb (by rw [List.mem_singleton.1 hy] at e; rw [← e]; exact hx)⟩, fun x hx => ?_⟩, fun d hd => ?_, fun s hs hsl j hj x hx => ?_⟩
  · rcases List.mem_append.1 hx with hx | hx
    · exact hb.2 x hx
    · rw [List.mem_singleton.1 hx]; omega
  · rw [tb_off S hS c (by omega) h1 d (by omega), Bool.and_eq_true, hset d hd, decide_eq_true_eq, List.mem_append, List.mem_singleton]
    constructor
    · rintro ⟨p, q⟩ (e | e)
      · exact p e
      · exact q (by omega)
    · intro p
      exact ⟨fun e => p (.inl e), fun e => p (.inr (by rw [e]))⟩
  · have ea : b ++ [(c : Int)] ++ s = b ++ (c : Int) :: s := by simp
    rw [ea] at hs hsl hx ⊢
    rcases Nat.lt_or_ge j b.length with hlt | hge
    · exact hlow _ hs hsl j hlt x hx
    · have hj' : j = b.length := by simp at hj; omega
      subst hj'
      have e1 : (b ++ (c : Int) :: s).drop b.length = (c : Int) :: s := by simp
      have e2 : (b ++ (c : Int) :: s).getD b.length 0 = (c : Int) := by simp [List.getD_eq_getElem?_getD]
      rw [e1] at hx ⊢
      rw [e2]
      have hmem : ∀ y : Int, 0 ≤ y → y < n → rem (flags n S) y = decide (y ∈ (c : Int) :: s) := fun y hy hy' => by
        rw [rem_flags n S ⟨hy, hy'⟩, Bool.eq_iff_iff, hset y.toNat (by omega), decide_eq_true_eq, show ((y.toNat : Nat) : Int) = y by omega]
        have hm := full_isB (by omega) hs (by rw [hsl]; omega) ⟨hy, hy'⟩
        constructor
        · intro hnb
          rcases List.mem_append.1 hm with hm | hm
          · exact absurd hm hnb
          · exact hm
        · intro hy2 hyb
          exact (List.nodup_append.1 hs.1).2.2 _ hyb _ hy2 rfl
      have hv : ∀ y : Nat, y < n → (votesAt (flags n S) gs).getD y 0 = wsum (isTopM ((c : Int) :: s) (y : Int)) gs := fun y hy => by
        rw [votesAt_get _ gs (by rw [flags_len]; omega)]
        refine wsum_congr fun g hg => ?_
        have hgb := (h.ballots g hg).1
        unfold isTop isTopM
        rw [firstAt_congr fun z hz => hmem z (hgb.2 z hz).1 (hgb.2 z hz).2]
      have hxb := hs.2 x (List.mem_append.2 (.inr hx))
      have hxn : ((x.toNat : Nat) : Int) = x := by omega
      have h3 := h2 x.toNat (by omega) (by rw [hxn, hmem x hxb.1 hxb.2]; exact decide_eq_true hx)
      rwa [hv c hc, hv x.toNat (by omega), hxn] at h3
theorem get_set {R : List Bool} {i j : Nat} (hj : j < R.length) (h : (R.set i true).getD j false = true) : j = i ∨ R.getD j false = true := by
  rw [List.getD_eq_getElem?_getD, List.getElem?_set] at h
  by_cases e : i = j
  · exact .inl e.symm
  · rw [if_neg e, ← List.getD_eq_getElem?_getD] at h; exact .inr h
theorem set_get {R : List Bool} {i j : Nat} (hj : j < R.length) (h : j = i ∨ R.getD j false = true) : (R.set i true).getD j false = true := by
  rw [List.getD_eq_getElem?_getD, List.getElem?_set]
  by_cases e : i = j
  · subst e; simp [hj]
  · rw [if_neg e, ← List.getD_eq_getElem?_getD]; exact h.resolve_left fun h => e h.symm
theorem mark_reach {n : Nat} {gs : List Grp} {N : Int} (h : PileOK n gs N) (hn : n ≤ 7) {S : Nat} (hS : S < 128) (hr : Reach gs n S) {R : List Bool} (hR : ∀ T, T < R.length → R.getD T false = true → Reach gs n T) : ∀ c, c ≤ n → ∀ T, T < R.length → (markTo gs n R S c).getD T false = true → Reach gs n T
  | 0, _, T, hT, hg => hR T hT hg
  | c + 1, hc, T, hT, hg => by
    unfold markTo at hg
    split at hg
    · rename_i hl
      rcases get_set (by rw [markTo_len]; exact hT) hg with rfl | hg
      · exact reach_step h hn hS (by omega) hr hl
      · exact mark_reach h hn hS hr hR c (by omega) T hT hg
    · exact mark_reach h hn hS hr hR c (by omega) T hT hg
theorem reach_all {n : Nat} {gs : List Grp} {N : Int} (h : PileOK n gs N) (hn : n ≤ 7) : ∀ k, ∀ T, T < 2 ^ n → (reachA gs n (2 ^ n) k).getD T false = true → Reach gs n T
  | 0, T, hT, hg => by
    unfold reachA at hg
    rcases get_set (by simpa using hT) hg with rfl | hg
    · refine ⟨[], ⟨by simp, by simp⟩, fun c hc => ?_, fun s _ _ j hj => absurd hj (by simp)⟩
      rw [Nat.testBit_two_pow_sub_one]; simp [hc]
    · simp [List.getD_eq_getElem?_getD, hT] at hg
  | k + 1, T, hT, hg => by
    have hM : 2 ^ n ≤ 128 := Nat.le_trans (Nat.pow_le_pow_right (by omega) hn) (by decide)
    have ih := reach_all h hn k
    have hl := reachA_len gs n (2 ^ n) k
    unfold reachA at hg
    split at hg
    · rename_i hs
      exact mark_reach h hn (by omega) (ih _ (by omega) hs) (R := reachA gs n (2 ^ n) k) (fun T hT' hg' => ih T (by omega) hg') n (Nat.le_refl n) T (by rw [hl]; exact hT) hg
    · exact ih T hT hg
/- SOMEBODY WINS -/
theorem mark_keep {n : Nat} {gs : List Grp} {R : List Bool} {S T : Nat} (hT : T < R.length) : ∀ c, R.getD T false = true → (markTo gs n R S c).getD T false = true
  | 0, hg => hg
  | c + 1, hg => by
    have ih := mark_keep (n := n) (gs := gs) (S := S) hT c hg
    unfold markTo
    split
    · exact set_get (by rw [markTo_len]; exact hT) (.inr ih)
    · exact ih
theorem mark_new {n : Nat} {gs : List Grp} {R : List Bool} {S d : Nat} (hS : S < R.length) (hl : lowAt (votesAt (flags n S) gs) (flags n S) d n = true) : ∀ c, d < c → (markTo gs n R S c).getD (S - 2 ^ d) false = true
  | 0, h => by omega
  | c + 1, h => by
    unfold markTo
    by_cases e : d = c
    · subst e
      rw [if_pos hl]
      exact set_get (by rw [markTo_len]; exact Nat.lt_of_le_of_lt (Nat.sub_le _ _) hS) (.inl rfl)
    · have ih := mark_new hS hl c (by omega)
      split
      · exact set_get (by rw [markTo_len]; exact Nat.lt_of_le_of_lt (Nat.sub_le _ _) hS) (.inr ih)
      · exact ih
theorem reach_keep {n M : Nat} {gs : List Grp} {T : Nat} (hT : T < M) : ∀ k j, j ≤ k → (reachA gs n M j).getD T false = true → (reachA gs n M k).getD T false = true
  | 0, j, hj, hg => by obtain rfl : j = 0 := by omega
                       exact hg
  | k + 1, j, hj, hg => by
    by_cases e : j = k + 1
    · rw [← e]; exact hg
    · have ih := reach_keep hT k j (by omega) hg
      unfold reachA
      split
      · exact mark_keep (by rw [reachA_len]; exact hT) n ih
      · exact ih
theorem mark_low {n : Nat} {gs : List Grp} {R : List Bool} {S T : Nat} (hS : S < 128) (hn : n ≤ 7) (hT : T < R.length) (hST : S ≤ T) : ∀ c, c ≤ n → (markTo gs n R S c).getD T false = true → R.getD T false = true
  | 0, _, hg => hg
  | c + 1, hc, hg => by
    unfold markTo at hg
    split at hg
    · rename_i hl
      have h1 := ((lowAt_iff _ _ _ _).1 hl).1
      rw [rem_flags n S (by omega), Int.toNat_natCast] at h1
      have h2 := tb_ge S hS c (by omega) h1
      have h3 : 0 < 2 ^ c := Nat.pow_pos (by omega)
      rcases get_set (by rw [markTo_len]; exact hT) hg with e | hg
      · omega
      · exact mark_low hS hn hT hST c (by omega) hg
    · exact mark_low hS hn hT hST c (by omega) hg
/-- What is reached at last was so when its turn came. -/
theorem reach_turn {n M : Nat} {gs : List Grp} (hn : n ≤ 7) (hM : M ≤ 128) {T : Nat} (hT : T < M) : ∀ k, M - 1 - k ≤ T → (reachA gs n M (k + 1)).getD T false = true → (reachA gs n M (M - 1 - T)).getD T false = true := by
  intro k hk hg
  have key : ∀ k, M - 1 - T ≤ k → (reachA gs n M k).getD T false = true → (reachA gs n M (M - 1 - T)).getD T false = true := by
    intro k
    induction k with
    | zero => intro h hg; rw [show M - 1 - T = 0 by omega]; exact hg
    | succ k ih =>
      intro h hg
      by_cases e : M - 1 - T = k + 1
      · rw [e]; exact hg
      · refine ih (by omega) ?_
        unfold reachA at hg
        split at hg
        · exact mark_low (by omega) hn (by rw [reachA_len]; exact hT) (by omega) n (Nat.le_refl n) hg
        · exact hg
  exact key (k + 1) (by omega) hg
theorem low_ex (v : List Int) (r : List Bool) (n : Nat) (hex : ∃ c : Nat, c < n ∧ rem r (c : Int) = true) : ∃ c : Nat, c < n ∧ lowAt v r c n = true := by
  have key : ∀ (k : Nat) (c : Nat), c < n → rem r (c : Int) = true → (∀ j : Nat, j < n → rem r (j : Int) = true → (v.getD j 0 < v.getD c 0) → j < k) → ∃ c : Nat, c < n ∧ lowAt v r c n = true := by
    intro k
    induction k with
    | zero =>
      intro c hc hr hk
      refine ⟨c, hc, (lowAt_iff _ _ _ _).2 ⟨hr, fun j hj hr' => ?_⟩⟩
      by_cases h : v.getD j 0 < v.getD c 0
      · exact absurd (hk j hj hr' h) (by omega)
      · omega
    | succ k ih =>
      intro c hc hr hk
      by_cases h : k < n ∧ rem r (k : Int) = true ∧ v.getD k 0 < v.getD c 0
      · refine ih k h.1 h.2.1 fun j hj hr' hlt => ?_
        have h1 := hk j hj hr' (by omega)
        have : j ≠ k := fun e => by rw [e] at hlt; omega
        omega
      · refine ih c hc hr fun j hj hr' hlt => ?_
        have h1 := hk j hj hr' hlt
        have : j ≠ k := fun e => h ⟨by omega, by rw [← e]; exact hr', by rw [← e]; exact hlt⟩
        omega
  obtain ⟨c, hc, hr⟩ := hex
  exact key n c hc hr fun j hj _ _ => hj
theorem some_single {n : Nat} {gs : List Grp} (hn : n ≤ 7) : ∀ S : Nat, 0 < S → S < 2 ^ n → (reachA gs n (2 ^ n) (2 ^ n - 1)).getD S false = true → ∃ c, c < n ∧ (reachA gs n (2 ^ n) (2 ^ n - 1)).getD (2 ^ c) false = true := by
  have hM : 2 ^ n ≤ 128 := Nat.le_trans (Nat.pow_le_pow_right (by omega) hn) (by decide)
  intro S
  induction S using Nat.strongRecOn with
  | _ S ih =>
    intro h0 hS hg
    obtain ⟨d, hd, hdt⟩ := tb_ex S (by omega) h0
    have hdn : d < n := by
      have h1 := tb_ge S (by omega) d hd hdt
      rcases Nat.lt_or_ge d n with h | h
      · exact h
      · have := Nat.pow_le_pow_right (show 0 < 2 by omega) h; omega
    obtain ⟨c, hc, hl⟩ := low_ex (votesAt (flags n S) gs) (flags n S) n ⟨d, hdn, by rw [rem_flags n S (by omega), Int.toNat_natCast]; exact hdt⟩
    have hct := ((lowAt_iff _ _ _ _).1 hl).1
    rw [rem_flags n S (by omega), Int.toNat_natCast] at hct
    have hge := tb_ge S (by omega) c (by omega) hct
    have hpos : 0 < 2 ^ c := Nat.pow_pos (by omega)
    have hturn := reach_turn (gs := gs) hn hM hS (2 ^ n - 2) (by omega) (by rw [show 2 ^ n - 2 + 1 = 2 ^ n - 1 by omega]; exact hg)
    have hnew : (reachA gs n (2 ^ n) (2 ^ n - 1 - S + 1)).getD (S - 2 ^ c) false = true := by
      unfold reachA
      rw [show 2 ^ n - 1 - (2 ^ n - 1 - S) = S by omega, if_pos hturn]
      exact mark_new (by rw [reachA_len]; exact hS) hl n hc
    have hfin := reach_keep (n := n) (M := 2 ^ n) (gs := gs) (T := S - 2 ^ c) (by omega) (2 ^ n - 1) _ (by omega) hnew
    by_cases e : S - 2 ^ c = 0
    · obtain rfl : S = 2 ^ c := by omega
      exact ⟨c, hc, hg⟩
    · exact ih (S - 2 ^ c) (by omega) (by omega) (by omega) hfin
theorem possL_mem {gs : List Grp} {n M : Nat} {x : Int} : ∀ {c : Nat}, x ∈ possL gs n M c ↔ ∃ d : Nat, x = (d : Int) ∧ d < c ∧ (reachA gs n M (M - 1)).getD (2 ^ d) false = true
  | 0 => by simp [possL]
  | c + 1 => by
    have ih := possL_mem (gs := gs) (n := n) (M := M) (x := x) (c := c)
    unfold possL
    split
    · rename_i h
      rw [List.mem_append, ih, List.mem_singleton]
      constructor
      · rintro (⟨d, h1, h2, h3⟩ | h1)
        · exact ⟨d, h1, by omega, h3⟩
        · exact ⟨c, h1, by omega, h⟩
      · rintro ⟨d, h1, h2, h3⟩
        by_cases e : d = c
        · exact .inr (by rw [h1, e])
        · exact .inl ⟨d, h1, by omega, h3⟩
    · rename_i h
      rw [ih]
      constructor
      · rintro ⟨d, h1, h2, h3⟩; exact ⟨d, h1, by omega, h3⟩
      · rintro ⟨d, h1, h2, h3⟩
        refine ⟨d, h1, ?_, h3⟩
        have : d ≠ c := fun e => h (by rw [← e]; exact h3)
        omega
theorem possL_nodup {gs : List Grp} {n M : Nat} : ∀ c : Nat, (possL gs n M c).Nodup
  | 0 => by simp [possL]
  | c + 1 => by
    have ih := possL_nodup (gs := gs) (n := n) (M := M) c
    unfold possL
    split
    · refine List.nodup_append.2 ⟨ih, by simp, fun x hx y hy e => ?_⟩
      obtain ⟨d, h1, h2, _⟩ := possL_mem.1 hx
      rw [List.mem_singleton.1 hy] at e
      omega
    · exact ih
/-- Who can win: the last of some order of exclusion that is possible; and somebody can. -/
theorem poss_ok {n : Nat} {gs : List Grp} {N : Int} (h : PileOK n gs N) (h1 : 1 ≤ n) (hn : n ≤ 7) : possL gs n (2 ^ n) n ≠ [] ∧ ∀ x ∈ possL gs n (2 ^ n) n, ∃ o, isB n o ∧ o.length = n ∧ lowest gs o 0 ∧ o.getD (n - 1) 0 = x := by
  constructor
  · have hM1 : 2 ≤ 2 ^ n := Nat.le_trans (show 2 ≤ 2 ^ 1 by decide) (Nat.pow_le_pow_right (by omega) (by omega))
    have h0 : (reachA gs n (2 ^ n) 0).getD (2 ^ n - 1) false = true := by
      unfold reachA
      exact set_get (by simp; omega) (.inl rfl)
    obtain ⟨c, hc, hg⟩ := some_single (gs := gs) hn (2 ^ n - 1) (by omega) (by omega) (reach_keep (by omega) _ 0 (by omega) h0)
    intro e
    have := (possL_mem (gs := gs) (n := n) (M := 2 ^ n) (x := (c : Int)) (c := n)).2 ⟨c, rfl, hc, hg⟩
    rw [e] at this
    simp at this
  · intro x hx
    obtain ⟨c, rfl, hc, hg⟩ := possL_mem.1 hx
    obtain ⟨b, hb, hset, hlow⟩ := reach_all h hn _ _ (Nat.pow_lt_pow_right (by omega) hc) hg
    have hset' : ∀ d : Nat, d < n → (d = c ↔ (d : Int) ∉ b) := fun d hd => by
      rw [← hset d hd, Nat.testBit_two_pow]
      simp [eq_comm]
    have hcb := (hset' c hc).1 rfl
    have hB : isB n (b ++ [(c : Int)]) := ⟨List.nodup_append.2 ⟨hb.1, by simp, fun x hx y hy e => hcb (by rw [List.mem_singleton.1 hy] at e; rw [← e]; exact hx)⟩, fun x hx => by
      rcases List.mem_append.1 hx with hx | hx
      · exact hb.2 x hx
      · rw [List.mem_singleton.1 hx]; omega⟩
    have hlen : (b ++ [(c : Int)]).length = n := by
      have hp := perm_of_sub ((List.range n).map fun (i : Nat) => (i : Int)) (b ++ [(c : Int)]) ?_ ?_ ?_
      · have := hp.length_eq; simpa using this.symm
      · refine List.pairwise_map.2 (List.nodup_range.imp fun h e => h (by omega))
      · intro x hx
        obtain ⟨d, hd, rfl⟩ := List.mem_map.1 hx
        have hd' := List.mem_range.1 hd
        by_cases e : d = c
        · subst e; simp
        · have : (d : Int) ∈ b := Classical.byContradiction fun hh => e ((hset' d hd').2 hh)
          exact List.mem_append.2 (.inl this)
      · have := nodup_len n (b ++ [(c : Int)]) hB.1 hB.2
        simpa using this
    refine ⟨b ++ [(c : Int)], hB, hlen, fun j _ hj y hy => ?_, ?_⟩
    · rcases Nat.lt_or_ge j b.length with hlt | hge
      · exact hlow [(c : Int)] hB hlen j hlt y hy
      · have hj' : j = b.length := by simp at hj; omega
        subst hj'
        have e1 : (b ++ [(c : Int)]).drop b.length = [(c : Int)] := by simp
        have e2 : (b ++ [(c : Int)]).getD b.length 0 = (c : Int) := by simp [List.getD_eq_getElem?_getD]
        rw [e1] at hy ⊢
        rw [e2, List.mem_singleton.1 hy]
        exact Int.le_refl _
    · have : n - 1 = b.length := by simp at hlen; omega
      rw [this]
      simp [List.getD_eq_getElem?_getD]
end Go.Proofs.Ythlgoakkgmabaaa
