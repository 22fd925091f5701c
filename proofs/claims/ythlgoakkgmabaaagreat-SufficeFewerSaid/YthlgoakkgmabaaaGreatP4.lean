/- Plain laws on the functions that the statements of the assorter reach: assertions and ballots that are made. -/
import Derived.Test.YthlgoakkgmabaaaGreatP3
set_option linter.unusedSimpArgs false
set_option linter.unusedVariables false
open Go Go.Proofs Go.X
namespace Go.Proofs.YthlgoakkgmabaaaGreat
/- MAKE -/
def bitB (r : Int) (i : Int) : Bool := decide ((w ((BitVec.ofInt 64 (w (Int.fdiv r (2 ^ (min (Int.toNat (wu64 i)) 64)))) &&& BitVec.ofInt 64 1).toNat : Int)) = 1)
/-- The candidates of a made assertion, up to i. -/
def amL (A B r : Int) : Nat → List Int
  | 0 => []
  | i + 1 => if decide ((i : Int) = A) || decide ((i : Int) = B) || bitB r i then amL A B r i ++ [(i : Int)] else amL A B r i
theorem amL_lt (A B r : Int) : ∀ (n : Nat), (amL A B r n).length ≤ n ∧ ∀ x ∈ amL A B r n, 0 ≤ x ∧ x < (n : Int)
  | 0 => ⟨Nat.le_refl 0, fun x hx => by simp [amL] at hx⟩
  | n + 1 => by
    obtain ⟨h1, h2⟩ := amL_lt A B r n
    unfold amL
    split
    · refine ⟨by simp; omega, fun x hx => ?_⟩
      rcases List.mem_append.1 hx with hx | hx
      · have := h2 x hx; omega
      · simp at hx; omega
    · exact ⟨by omega, fun x hx => by have := h2 x hx; omega⟩
theorem amL_mem (A B r : Int) : ∀ (n : Nat) (x : Nat), x < n → ((x : Int) = A ∨ (x : Int) = B) → (x : Int) ∈ amL A B r n
  | 0, x, h, _ => by omega
  | n + 1, x, h, hx => by
    unfold amL
    rcases Nat.lt_or_ge x n with h1 | h1
    · have := amL_mem A B r n x h1 hx
      split
      · exact List.mem_append_left _ this
      · exact this
    · have : x = n := by omega
      subst this
      have hc : (decide ((x : Int) = A) || decide ((x : Int) = B) || bitB r x) = true := by rcases hx with h | h <;> simp [h]
      rw [if_pos hc]
      simp
theorem amL_sorted (A B r : Int) : ∀ (n : Nat), (amL A B r n).Pairwise (· < ·)
  | 0 => List.Pairwise.nil
  | n + 1 => by
    unfold amL
    split
    · refine List.pairwise_append.2 ⟨amL_sorted A B r n, by simp, fun x hx y hy => ?_⟩
      have := (amL_lt A B r n).2 x hx
      simp at hy
      omega
    · exact amL_sorted A B r n
theorem asc_of_sorted {n : Int} {l : List Int} (hs : l.Pairwise (· < ·)) (hb : ∀ x ∈ l, 0 ≤ x ∧ x < n) : asc n l = true := by
  unfold asc
  refine decide_eq_true ((firstN_end _ _).2 fun i hi => ?_)
  unfold badAt
  have hm : l.getD i 0 ∈ l := by rw [List.getD_eq_getElem?_getD, List.getElem?_eq_getElem hi]; exact List.getElem_mem hi
  have h1 := hb _ hm
  have c1 : ¬ l.getD i 0 < 0 := by omega
  have c2 : ¬ n ≤ l.getD i 0 := by omega
  simp only [c1, c2, decide_false, Bool.false_or]
  by_cases c3 : 0 < i
  · have h2 : l.getD (i - 1) 0 < l.getD i 0 := by
      rw [List.getD_eq_getElem?_getD, List.getD_eq_getElem?_getD, List.getElem?_eq_getElem hi, List.getElem?_eq_getElem (by omega : i - 1 < l.length)]
      exact List.pairwise_iff_getElem.1 hs (i - 1) i (by omega) hi (by omega)
    have : ¬ l.getD i 0 ≤ l.getD (i - 1) 0 := by omega
    simp only [this, decide_false, Bool.and_false]
  · simp [c3]
/-- What Make makes. -/
def mk (n k a b m q : Int) : Int × (Int × (Int × (List Int × Int))) :=
  if 1 + k % 3 = 3 then (3, a % n, 0, [], 2 + q % 5)
  else if 1 + k % 3 = 2 then (2, a % n, (a % n + 1 + b % (n - 1)) % n, amL (a % n) ((a % n + 1 + b % (n - 1)) % n) (m % 128) n.toNat, 0)
  else (1 + k % 3, a % n, (a % n + 1 + b % (n - 1)) % n, [], 0)
theorem d43_eq {n k a b m q : Int} (hn : 2 ≤ n) (hn' : n ≤ 7) (hk : WT (.int .i64) k) (ha : WT (.int .i64) a) (hb : WT (.int .i64) b) (hm : WT (.int .i64) m) (hq : WT (.int .i64) q) : d43 n k a b m q = some (mk n k a b m q) := by
  unfold d43 mk
  have b1 := mod_bounds k (n := 3) (by omega)
  have b2 := mod_bounds a (n := n) (by omega)
  have b3 := mod_bounds q (n := 5) (by omega)
  have b4 := mod_bounds b (n := n - 1) (by omega)
  have b5 := mod_bounds m (n := 128) (by omega)
  rw [d7_eq hk (by omega) (by omega), d7_eq ha (by omega) (by omega)]
  simp only [Option.bind_some]
  have w1 : w (1 + k % 3) = 1 + k % 3 := w_id (by omega) (by omega)
  rw [w1]
  by_cases k3 : 1 + k % 3 = 3
  · simp only [k3, decide_true, cond_true, if_true]
    rw [d7_eq hq (by omega) (by omega)]
    have w2 : w (2 + q % 5) = 2 + q % 5 := w_id (by omega) (by omega)
    simp [w2]
  · have w2 : w (n - 1) = n - 1 := w_id (by omega) (by omega)
    have w3 : w (a % n + 1) = a % n + 1 := w_id (by omega) (by omega)
    simp only [k3, decide_false, cond_false, if_false]
    rw [w2, d7_eq hb (by omega) (by omega)]
    simp only [Option.bind_some]
    have w4 : w (a % n + 1 + b % (n - 1)) = a % n + 1 + b % (n - 1) := w_id (by omega) (by omega)
    rw [w3, w4, d7_eq (x := a % n + 1 + b % (n - 1)) w4 (by omega) (by omega)]
    simp only [Option.bind_some]
    generalize hA : a % n = A
    generalize hB : (A + 1 + b % (n - 1)) % n = B
    by_cases k2 : 1 + k % 3 = 2
    · simp only [k2, decide_true, cond_true, if_true]
      show (whileO _ _).bind _ = _
      have hnn : ((n.toNat : Nat) : Int) = n := by omega
      refine while_bind (b := (((0, 0, 0, [], 0) : Int × (Int × (Int × (List Int × Int)))), ((2, A, B, amL A B (m % 128) n.toNat, 0) : Int × (Int × (Int × (List Int × Int)))))) (fun i => (n, m, ((0, 0, 0, [], 0) : Int × (Int × (Int × (List Int × Int)))), ((2, A, B, amL A B (m % 128) i, 0) : Int × (Int × (Int × (List Int × Int)))), (i : Int))) n.toNat rfl (fun i hi => ?_) ?_ rfl
      · have h2 : (i : Int) < n := by omega
        have w5 : w ((i : Int) + 1) = ((i + 1 : Nat) : Int) := by rw [w_id (by omega) (by omega)]; omega
        have hlen := (amL_lt A B (m % 128) i).1
        have hlim : ((amL A B (m % 128) i).length : Int) + (([(i : Int)] : List Int).length : Int) ≤ LIM := by rw [LIM_eq]; simp; omega
        simp only [h2, decide_true, cond_true, letJ, d7_eq hm (show (0 : Int) < 128 by omega) (by omega), Option.bind_some]
        have hu : (0 : Int) ≤ wu64 (i : Int) := by
          have : wu64 (i : Int) = (i : Int) := IntWalk.u64_in _ ⟨by omega, by omega⟩
          rw [this]; omega
        have e : amL A B (m % 128) (i + 1) = if decide ((i : Int) = A) || decide ((i : Int) = B) || bitB (m % 128) i then amL A B (m % 128) i ++ [(i : Int)] else amL A B (m % 128) i := rfl
        by_cases c1 : (i : Int) = A
        · simp only [c1, decide_true, Bool.not_true, cond_false, cond_true, Bool.true_or, if_true] at e ⊢
          rw [c1] at hlim w5
          simp only [hlim, decide_true, cond_true, w5, e]
        · by_cases c2 : (i : Int) = B
          · simp only [c1, c2, decide_true, decide_false, Bool.not_true, Bool.not_false, cond_false, cond_true, Bool.true_or, Bool.false_or, if_true] at e ⊢
            rw [c2] at hlim w5 c1
            simp only [c1, hlim, decide_true, decide_false, Bool.not_false, cond_true, w5, e]
            simp
          · simp only [c1, c2, decide_false, Bool.not_false, cond_true, hu, decide_true, Bool.false_or] at e ⊢
            have hbit : decide ((w ((BitVec.ofInt 64 (w (Int.fdiv (m % 128) (2 ^ (min (Int.toNat (wu64 (i : Int))) 64)))) &&& BitVec.ofInt 64 1).toNat : Int)) = 1) = bitB (m % 128) i := rfl
            rw [hbit]
            cases hbb : bitB (m % 128) i
            · rw [hbb] at e
              simp only [cond_false, w5, e]
              simp
            · rw [hbb] at e
              simp only [cond_true, hlim, decide_true, w5, e]
              simp
      · have h2 : ¬ ((n.toNat : Nat) : Int) < n := by omega
        simp only [h2, decide_false, cond_false]
    · simp [k2, letJ]
/- VALID -/
theorem mk_next_valid {n a b m q : Int} (hn : 2 ≤ n) (hn' : n ≤ 7) : validB 7 (mk n 1 a b m q) = true ∧ validB 7 (2, (mk n 1 a b m q).2.2.1, (mk n 1 a b m q).2.1, (mk n 1 a b m q).2.2.2.1, 0) = true ∧ (mk n 1 a b m q).2.1 ≠ (mk n 1 a b m q).2.2.1 ∧ (mk n 1 a b m q).1 = 2 ∧ (mk n 1 a b m q).2.2.2.2 = 0 ∧ (mk n 1 a b m q).2.2.2.1.length ≤ 7 := by
  have e : mk n 1 a b m q = (2, a % n, (a % n + 1 + b % (n - 1)) % n, amL (a % n) ((a % n + 1 + b % (n - 1)) % n) (m % 128) n.toNat, 0) := by
    unfold mk
    simp
  rw [e]
  have b2 := mod_bounds a (n := n) (by omega)
  have b4 := mod_bounds b (n := n - 1) (by omega)
  have b6 := mod_bounds (a % n + 1 + b % (n - 1)) (n := n) (by omega)
  have hne : a % n ≠ (a % n + 1 + b % (n - 1)) % n := by
    generalize a % n = A at *
    generalize b % (n - 1) = B at *
    rcases Int.lt_or_le (A + 1 + B) n with h | h
    · rw [Int.emod_eq_of_lt (by omega) h]; omega
    · have : (A + 1 + B) % n = A + 1 + B - n := by
        rw [← Int.sub_emod_right, Int.emod_eq_of_lt (by omega) (by omega)]
      rw [this]; omega
  generalize a % n = A at *
  generalize (A + 1 + b % (n - 1)) % n = B at *
  have hl := amL_lt A B (m % 128) n.toNat
  have hA : A ∈ amL A B (m % 128) n.toNat := by
    have := amL_mem A B (m % 128) n.toNat A.toNat (by omega) (.inl (by omega))
    rwa [show ((A.toNat : Nat) : Int) = A by omega] at this
  have hB : B ∈ amL A B (m % 128) n.toNat := by
    have := amL_mem A B (m % 128) n.toNat B.toNat (by omega) (.inr (by omega))
    rwa [show ((B.toNat : Nat) : Int) = B by omega] at this
  have hs : asc 7 (amL A B (m % 128) n.toNat) = true := asc_of_sorted (amL_sorted A B (m % 128) n.toNat) fun x hx => by have := hl.2 x hx; omega
  refine ⟨?_, ?_, hne, rfl, rfl, by have := hl.1; show (amL A B (m % 128) n.toNat).length ≤ 7; omega⟩
  · unfold validB
    have c1 : ¬ A < 0 := by omega
    have c2 : ¬ 7 ≤ A := by omega
    have c3 : ¬ B < 0 := by omega
    have c4 : ¬ 7 ≤ B := by omega
    simp [c1, c2, c3, c4, hne, hs, hA, hB]
  · unfold validB
    have c1 : ¬ A < 0 := by omega
    have c2 : ¬ 7 ≤ A := by omega
    have c3 : ¬ B < 0 := by omega
    have c4 : ¬ 7 ≤ B := by omega
    simp [c1, c2, c3, c4, Ne.symm hne, hs, hA, hB]
/- BALLOT -/
def outs (n : Int) (l : List Int) : Nat → List Int
  | 0 => []
  | i + 1 => if l.getD i 0 % n ∈ outs n l i then outs n l i else outs n l i ++ [l.getD i 0 % n]
/-- What a made ballot is. -/
def bal (n : Int) (l : List Int) : List Int := outs n l (firstN (fun i => decide (n ≤ ((outs n l i).length : Int))) l.length)
theorem outs_len (n : Int) (l : List Int) : ∀ i, (outs n l i).length ≤ i
  | 0 => Nat.le_refl 0
  | i + 1 => by
    have := outs_len n l i
    unfold outs
    split
    · omega
    · simp; omega
theorem outs_in {n : Int} (hn : 0 < n) (l : List Int) : ∀ i, ∀ x ∈ outs n l i, 0 ≤ x ∧ x < n
  | 0, x, hx => by simp [outs] at hx
  | i + 1, x, hx => by
    unfold outs at hx
    split at hx
    · exact outs_in hn l i x hx
    · rcases List.mem_append.1 hx with hx | hx
      · exact outs_in hn l i x hx
      · simp at hx
        rw [hx]
        exact mod_bounds _ hn
theorem outs_nodup (n : Int) (l : List Int) : ∀ i, (outs n l i).Nodup
  | 0 => List.nodup_nil
  | i + 1 => by
    unfold outs
    split
    · exact outs_nodup n l i
    · rename_i h
      refine List.nodup_append.2 ⟨outs_nodup n l i, by simp, fun x hx y hy => ?_⟩
      simp at hy
      rintro rfl
      exact h (by rw [List.getD_eq_getElem?_getD, ← hy]; exact hx)
theorem d9_eq {n : Int} {l : List Int} (hn : 0 < n) (hn' : n ≤ 1000) (hl : WT (.slice (.int .i64)) l) : d9 n l = some (bal n l) := by
  unfold d9 bal
  have hlen := wt_len hl
  have hle := firstN_le (fun i => decide (n ≤ ((outs n l i).length : Int))) l.length
  have hstep : ∀ i : Nat, i < l.length → w ((i : Int) + 1) = ((i + 1 : Nat) : Int) := fun i hi => by rw [w_id (by omega) (by omega)]; omega
  refine while_bind (b := outs n l (firstN (fun i => decide (n ≤ ((outs n l i).length : Int))) l.length)) (fun i => (n, l, outs n l i, (i : Int))) (firstN (fun i => decide (n ≤ ((outs n l i).length : Int))) l.length) rfl (fun i hi => ?_) ?_ rfl
  · have h1 := firstN_lt _ _ i hi
    simp only [decide_eq_false_iff_not] at h1
    have h1' : ((outs n l i).length : Int) < n := by omega
    have h2 : (i : Int) < (l.length : Int) := by omega
    have h3 : (0 : Int) ≤ (i : Int) := by omega
    have hx : WT (.int .i64) (l.getD i 0) := by
      rw [List.getD_eq_getElem?_getD, List.getElem?_eq_getElem (by omega)]
      exact hl.2 _ (List.getElem_mem _)
    have hlim : ((outs n l i).length : Int) + (([l.getD i 0 % n] : List Int).length : Int) ≤ LIM := by rw [LIM_eq]; simp; omega
    have ho := outs_len n l i
    simp only [h2, h3, h1', decide_true, cond_true, Bool.and_self, letJ, Int.toNat_natCast, d7_eq hx hn (by omega), Option.bind_some, d20_eq (l := outs n l i) _ (by omega), hstep i (by omega), hlim]
    have e : outs n l (i + 1) = if l.getD i 0 % n ∈ outs n l i then outs n l i else outs n l i ++ [l.getD i 0 % n] := rfl
    by_cases c : l.getD i 0 % n ∈ outs n l i
    · rw [if_pos c] at e
      simp only [c, e]; rfl
    · rw [if_neg c] at e
      simp only [c, e]; rfl
  · by_cases h : firstN (fun i => decide (n ≤ ((outs n l i).length : Int))) l.length < l.length
    · have h1 := firstN_at _ _ h
      simp only [decide_eq_true_eq] at h1
      have h1' : ¬ ((outs n l (firstN (fun i => decide (n ≤ ((outs n l i).length : Int))) l.length)).length : Int) < n := by omega
      have h2 : ((firstN (fun i => decide (n ≤ ((outs n l i).length : Int))) l.length : Nat) : Int) < (l.length : Int) := by omega
      simp only [h2, h1', letJ, decide_true, decide_false, cond_true, cond_false]
    · have h2 : ¬ ((firstN (fun i => decide (n ≤ ((outs n l i).length : Int))) l.length : Nat) : Int) < (l.length : Int) := by omega
      simp only [h2, letJ, decide_false, cond_false]
end Go.Proofs.YthlgoakkgmabaaaGreat
