/- Plain laws on piles of ballots: votes for the first remaining candidates, tallies and margins of assertions. -/
import Derived.Test.YthlgoakkgmabaaaP8
set_option linter.unusedSimpArgs false
set_option linter.unusedVariables false
open Go Go.Proofs Go.X
namespace Go.Proofs.Ythlgoakkgmabaaa
/-- Whether c remains. -/
def rem (r : List Bool) (c : Int) : Bool := if c < (r.length : Int) then r.getD (Int.toNat c) false else false
theorem d48_eq (r : List Bool) {c : Int} (hc : 0 ≤ c) : d48 c r = some (rem r c) := by
  unfold d48 d49 rem
  by_cases h : c < (r.length : Int)
  · simp only [h, hc, if_true, decide_true, cond_true, Bool.and_self, Option.bind_some]
  · simp only [h, if_false, decide_false, cond_false, Option.bind_some]
theorem firstAt_congr {p q : Int → Bool} : ∀ {l : List Int}, (∀ x ∈ l, p x = q x) → firstAt p l = firstAt q l
  | [], _ => rfl
  | x :: l, h => by
    unfold firstAt
    rw [h x (by simp), firstAt_congr fun y hy => h y (List.mem_cons_of_mem _ hy)]
theorem d47_on {s : List Int} {f : Int → Option Bool} {g : Int → Bool} (hf : ∀ c ∈ s, f c = some (g c)) (hs : s.length ≤ 281474976710656) : d47 s f = some (if firstAt g s < s.length then (firstAt g s : Int) else -1) := by
  have hle := firstAt_le g s
  unfold d47
  have hstep : ∀ i, i < firstAt g s → w ((i : Int) + 1) = ((i + 1 : Nat) : Int) := fun i hi => by rw [w_id (by omega) (by omega)]; omega
  have hfi : ∀ i, i < s.length → f (s.getD i 0) = some (g (s.getD i 0)) := fun i hi => by rw [getD_get s 0 hi]; exact hf _ (List.getElem_mem _)
  by_cases h : firstAt g s < s.length
  · have hat := firstAt_at _ s h
    refine while_bind (b := .inr (firstAt g s : Int)) (fun i => (s, f, (s.length : Int), (i : Int))) (firstAt g s) rfl ?_ ?_ (by simp [h])
    · intro i hi
      have h1 := firstAt_lt g s i hi
      have h2 : (i : Int) < (s.length : Int) := by omega
      have h3 : (0 : Int) ≤ (i : Int) := by omega
      simp only [h2, h3, decide_true, cond_true, Bool.and_self, Int.toNat_natCast, hfi i (by omega), h1, Option.bind_some, hstep i hi, cond_false]
    · have h2 : (firstAt g s : Int) < (s.length : Int) := by omega
      have h3 : (0 : Int) ≤ (firstAt g s : Int) := by omega
      simp only [h2, h3, decide_true, cond_true, Bool.and_self, Int.toNat_natCast, hfi _ h, hat, Option.bind_some]
  · refine while_bind (b := .inl ()) (fun i => (s, f, (s.length : Int), (i : Int))) s.length rfl ?_ ?_ (by simp [h])
    · intro i hi
      have h1 := firstAt_lt g s i (by omega)
      have h2 : (i : Int) < (s.length : Int) := by omega
      have h3 : (0 : Int) ≤ (i : Int) := by omega
      simp only [h2, h3, decide_true, cond_true, Bool.and_self, Int.toNat_natCast, hfi i (by omega), h1, Option.bind_some, hstep i (by omega), cond_false]
    · simp
/-- The first that remains is c. -/
def isTop (r : List Bool) (c : Int) (p : List Int) : Int := if firstAt (rem r) p < p.length ∧ p.getD (firstAt (rem r) p) 0 = c then 1 else 0
def votesAt (r : List Bool) (gs : List Grp) : List Int := (List.range r.length).map fun (c : Nat) => wsum (isTop r (c : Int)) gs
theorem votesAt_len (r : List Bool) (gs : List Grp) : (votesAt r gs).length = r.length := by simp [votesAt]
theorem votesAt_get (r : List Bool) (gs : List Grp) {c : Nat} (h : c < r.length) : (votesAt r gs).getD c 0 = wsum (isTop r (c : Int)) gs := by
  rw [getD_get _ _ (by rw [votesAt_len]; exact h)]
  simp [votesAt]
def none1 (r : List Bool) (p : List Int) : Int := if firstAt (rem r) p < p.length then 0 else 1
theorem PileOK.d27 {n : Int} {gs : List Grp} {N : Int} (h : PileOK n gs N) (hn : n ≤ 7) {r : List Bool} (hr : r.length ≤ 7) : d27 gs r = some (votesAt r gs, wsum (none1 r) gs) := by
  obtain ⟨hl, hg⟩ := h.sizes hn
  have hf : ∀ c p, 0 ≤ isTop r c p ∧ isTop r c p ≤ 1 := fun c p => by unfold isTop; split <;> omega
  have hf0 : ∀ p, 0 ≤ none1 r p ∧ none1 r p ≤ 1 := fun p => by unfold none1; split <;> omega
  unfold Go.Proofs.Ythlgoakkgmabaaa.d27
  rw [h.d46 hn]
  have hr1 : ¬ (7 : Int) < (r.length : Int) := by omega
  have hr2 : (r.length : Int) ≤ LIM := by rw [LIM_eq]; omega
  have hr3 : (0 : Int) ≤ (r.length : Int) := by omega
  simp only [Option.bind_some, Bool.not_true, Bool.not_false, cond_true, hr1, hr2, hr3, decide_true, decide_false, letJ, cond_false, Bool.and_self, Int.toNat_natCast]
  refine while_bind (b := (votesAt r gs, wsum (none1 r) gs)) (fun i => (r, votesAt r (gs.take i), wsum (none1 r) (gs.take i), gs, (gs.length : Int), (i : Int))) gs.length ?_ (fun i hi => ?_) ?_ rfl
  · have : votesAt r (gs.take 0) = List.replicate r.length 0 := by
      apply List.ext_getElem
      · simp [votesAt]
      · intro i h1 h2
        simp [votesAt, wsum]
    simp only [this]
    rfl
  · have h2 : (i : Int) < (gs.length : Int) := by omega
    have h3 : (0 : Int) ≤ (i : Int) := by omega
    have hw : w ((i : Int) + 1) = ((i + 1 : Nat) : Int) := by rw [w_id (by omega) (by omega)]; omega
    have e : ∀ f, wsum f (gs.take (i + 1)) = wsum f (gs.take i) + (gs.getD i ([], 0)).2 * f (gs.getD i ([], 0)).1 := fun f => wsum_take f gs hi
    have b0 := h.part hf0 i
    have b1 := h.part hf0 (i + 1)
    have b2 := fun c => h.part (hf c) i
    have b3 := fun c => h.part (hf c) (i + 1)
    have hm : gs.getD i ([], 0) ∈ gs := by rw [getD_get gs _ hi]; exact List.getElem_mem _
    have hgl := (hg _ hm).1
    have hgb := (h.ballots _ hm).1
    simp only [h2, h3, hw, decide_true, cond_true, Bool.and_self, Int.toNat_natCast]
    obtain ⟨g, hgd⟩ : ∃ g, gs.getD i ([], 0) = g := ⟨_, rfl⟩
    simp only [hgd] at e hgl hgb ⊢
    obtain ⟨p, k⟩ := g
    simp only at e hgl hgb ⊢
    rw [d47_on (g := rem r) (fun c hc => d48_eq r (hgb.2 c hc).1) (by omega)]
    simp only [Option.bind_some]
    by_cases c1 : firstAt (rem r) p < p.length
    · have hx := firstAt_at (rem r) p c1
      have c2 : ¬ (firstAt (rem r) p : Int) < 0 := by omega
      have c3 : (0 : Int) ≤ (firstAt (rem r) p : Int) := by omega
      have c4 : (firstAt (rem r) p : Int) < (p.length : Int) := by omega
      have hxm : p.getD (firstAt (rem r) p) 0 ∈ p := by rw [getD_get p 0 c1]; exact List.getElem_mem _
      have hx0 := (hgb.2 _ hxm).1
      simp only [c1, c2, c3, c4, if_true, decide_true, decide_false, cond_true, cond_false, Bool.and_self, Int.toNat_natCast]
      have ht : ∀ c, isTop r c p = if p.getD (firstAt (rem r) p) 0 = c then 1 else 0 := fun c => by unfold isTop; simp only [c1, true_and]
      have hn0 : none1 r p = 0 := by unfold none1; rw [if_pos c1]
      generalize p.getD (firstAt (rem r) p) 0 = x at *
      have hxr : x < (r.length : Int) := by
        unfold rem at hx
        split at hx
        · assumption
        · cases hx
      have hv : (votesAt r (gs.take i)).getD (Int.toNat x) 0 = wsum (isTop r x) (gs.take i) := by
        rw [votesAt_get r _ (by omega), show ((Int.toNat x : Nat) : Int) = x by omega]
      have ex := e (isTop r x)
      rw [ht x, if_pos rfl] at ex
      have bx0 := b2 x
      have bx1 := b3 x
      have hw2 : w (wsum (isTop r x) (gs.take i) + k) = wsum (isTop r x) (gs.take (i + 1)) := by rw [w_id (by omega) (by omega)]; omega
      have hset : (votesAt r (gs.take i)).set (Int.toNat x) (wsum (isTop r x) (gs.take (i + 1))) = votesAt r (gs.take (i + 1)) := by
        apply List.ext_getElem
        · simp [votesAt]
        · intro j h1 h2
          rw [List.getElem_set]
          by_cases hj : Int.toNat x = j
          · rw [if_pos hj]
            simp only [votesAt, List.getElem_map, List.getElem_range]
            rw [show (j : Int) = x by omega]
          · rw [if_neg hj]
            simp only [votesAt, List.getElem_map, List.getElem_range]
            have ej := e (isTop r (j : Int))
            rw [ht (j : Int), if_neg (by omega)] at ej
            omega
      have e0 := e (none1 r)
      rw [hn0] at e0
      have e0' : wsum (none1 r) (gs.take (i + 1)) = wsum (none1 r) (gs.take i) := by omega
      simp only [votesAt_len, hx0, hxr, decide_true, cond_true, Bool.and_self, hv, hw2, hset, e0']
    · have c2 : (-1 : Int) < 0 := by omega
      have hn1 : none1 r p = 1 := by unfold none1; rw [if_neg c1]
      have e0 := e (none1 r)
      rw [hn1] at e0
      have hw2 : w (wsum (none1 r) (gs.take i) + k) = wsum (none1 r) (gs.take (i + 1)) := by rw [w_id (by omega) (by omega)]; omega
      have hv : votesAt r (gs.take (i + 1)) = votesAt r (gs.take i) := by
        unfold votesAt
        refine List.map_congr_left fun c _ => ?_
        have ec := e (isTop r (c : Int))
        have : isTop r (c : Int) p = 0 := by unfold isTop; simp only [c1, false_and, if_false]
        rw [this] at ec
        omega
      simp only [c1, c2, if_false, decide_true, cond_true, hw2, hv]
  · have h1 : ¬ ((gs.length : Int) < (gs.length : Int)) := by omega
    simp only [h1, decide_false, cond_false, List.take_length]
def remOf (n : Nat) (m : List Int) : Nat → List Bool
  | 0 => List.replicate n false
  | i + 1 => (remOf n m i).set (Int.toNat (m.getD i 0)) true
theorem remOf_len (n : Nat) (m : List Int) : ∀ i, (remOf n m i).length = n
  | 0 => by simp [remOf]
  | i + 1 => by unfold remOf; rw [List.length_set]; exact remOf_len n m i
theorem rem_remOf (n : Nat) (m : List Int) (hb : ∀ x ∈ m, 0 ≤ x ∧ x < (n : Int)) {c : Int} (hc : 0 ≤ c ∧ c < (n : Int)) : ∀ i, i ≤ m.length → rem (remOf n m i) c = decide (c ∈ m.take i)
  | 0, _ => by
    have : c < ((List.replicate n false).length : Int) := by simp; omega
    unfold rem remOf
    rw [if_pos this, getD_get _ _ (by simp; omega)]
    simp
  | i + 1, hi => by
    have ih := rem_remOf n m hb hc i (by omega)
    have hl := remOf_len n m i
    have hl' := remOf_len n m (i + 1)
    have hx := hb (m.getD i 0) (by rw [getD_get m 0 (by omega)]; exact List.getElem_mem _)
    rw [Bool.eq_iff_iff, decide_eq_true_iff] at ih
    unfold rem at ih ⊢
    rw [hl, if_pos (by omega)] at ih
    rw [hl', if_pos (by omega), Bool.eq_iff_iff, decide_eq_true_iff, take_get m 0 (by omega), List.mem_append, ← ih]
    rw [show remOf n m (i + 1) = (remOf n m i).set (Int.toNat (m.getD i 0)) true from rfl, List.getD_eq_getElem?_getD, List.getElem?_set, hl]
    generalize m.getD i 0 = x at hx
    by_cases e : x.toNat = c.toNat
    · have e' : c = x := by omega
      rw [if_pos e, if_pos (by omega)]
      simp [e']
    · have e' : ¬ c = x := fun h => e (by rw [h])
      rw [if_neg e]
      simp [e', List.getD_eq_getElem?_getD]
/-- The first of a ballot that is in m is c. -/
def isTopM (m : List Int) (c : Int) (p : List Int) : Int := if firstAt (fun x => decide (x ∈ m)) p < p.length ∧ p.getD (firstAt (fun x => decide (x ∈ m)) p) 0 = c then 1 else 0
theorem wsum_congr {f g : List Int → Int} : ∀ {gs : List Grp}, (∀ x ∈ gs, f x.1 = g x.1) → wsum f gs = wsum g gs
  | [], _ => rfl
  | a :: gs, h => by
    unfold wsum
    rw [h a (by simp), wsum_congr fun x hx => h x (List.mem_cons_of_mem _ hx)]
theorem PileOK.d61 {n : Int} {gs : List Grp} {N : Int} (h : PileOK n gs N) (h1 : 1 ≤ n) (hn : n ≤ 7) {m : List Int} (hm : ∀ x ∈ m, 0 ≤ x ∧ x < n) (hml : m.length ≤ 1000) :
    ∃ v : List Int, d61 n gs m = some v ∧ v.length = n.toNat ∧ ∀ c : Int, 0 ≤ c → c < n → v.getD c.toNat 0 = wsum (isTopM m c) gs := by
  have hnn : ((n.toNat : Nat) : Int) = n := by omega
  refine ⟨votesAt (remOf n.toNat m m.length) gs, ?_, by rw [votesAt_len, remOf_len], fun c hc hc' => ?_⟩
  · unfold Go.Proofs.Ythlgoakkgmabaaa.d61
    have l1 : n ≤ LIM := by rw [LIM_eq]; omega
    have l2 : 0 ≤ n := by omega
    simp only [l1, l2, decide_true, Bool.and_self, cond_true]
    refine while_bind (b := (gs, remOf n.toNat m m.length)) (fun i => (gs, remOf n.toNat m i, m, (m.length : Int), (i : Int))) m.length rfl (fun i hi => ?_) ?_ ?_
    · have h2 : (i : Int) < (m.length : Int) := by omega
      have h3 : (0 : Int) ≤ (i : Int) := by omega
      have hw : w ((i : Int) + 1) = ((i + 1 : Nat) : Int) := by rw [w_id (by omega) (by omega)]; omega
      have hx := hm (m.getD i 0) (by rw [getD_get m 0 hi]; exact List.getElem_mem _)
      simp only [h2, h3, hw, decide_true, cond_true, Bool.and_self, Int.toNat_natCast, remOf_len, hnn, hx.1, hx.2]
      rfl
    · have h1 : ¬ ((m.length : Int) < (m.length : Int)) := by omega
      simp only [h1, decide_false, cond_false]
    · simp only
      rw [h.d27 hn (by rw [remOf_len]; omega)]
      rfl
  · rw [votesAt_get _ _ (by rw [remOf_len]; omega), show ((c.toNat : Nat) : Int) = c by omega]
    refine wsum_congr fun x hx => ?_
    have hb := (h.ballots x hx).1
    have : firstAt (rem (remOf n.toNat m m.length)) x.1 = firstAt (fun y => decide (y ∈ m)) x.1 := firstAt_congr fun y hy => by
      rw [rem_remOf n.toNat m (fun z hz => by have := hm z hz; omega) (by have := hb.2 y hy; omega) m.length (Nat.le_refl _), List.take_length]
    unfold isTop isTopM
    rw [this]
end Go.Proofs.Ythlgoakkgmabaaa
