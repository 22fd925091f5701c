/- Plain laws: the document's derived assertions. -/
import Derived.Test.YthlgoakkgmabaaaGreatS5
set_option linter.unusedSimpArgs false
set_option linter.unusedVariables false
open Go Go.Proofs Go.X
namespace Go.Proofs.YthlgoakkgmabaaaGreat
def zA : Asn := (0, 0, 0, [], 0)
def risTo (l : List Int) (i : Nat) : List Int := (idL i).filter fun x => decide (x ∈ l)
def risL (l : List Int) : List Int := risTo l 7
theorem risTo_succ (l : List Int) (i : Nat) : risTo l (i + 1) = if (i : Int) ∈ l then risTo l i ++ [(i : Int)] else risTo l i := by
  unfold risTo
  rw [idL_succ, List.filter_append]
  by_cases h : (i : Int) ∈ l <;> simp [List.filter, h]
theorem risTo_len (l : List Int) (i : Nat) : (risTo l i).length ≤ i := by
  have := List.length_filter_le (fun x => decide (x ∈ l)) (idL i)
  rw [idL_len] at this
  exact this
theorem risL_mem {l : List Int} {x : Int} : x ∈ risL l ↔ (0 ≤ x ∧ x < 7) ∧ x ∈ l := by
  unfold risL risTo
  rw [List.mem_filter, decide_eq_true_eq]
  have : x ∈ idL 7 ↔ 0 ≤ x ∧ x < 7 := by
    have := mem_cands (n := 7) (c := x)
    simpa [cands, idL] using this
  rw [this]
theorem idL_lt (n : Nat) : (idL n).Pairwise (· < ·) := List.pairwise_map.2 (List.pairwise_lt_range.imp fun h => by omega)
theorem risL_lt (l : List Int) : (risL l).Pairwise (· < ·) := by unfold risL risTo; exact (idL_lt 7).filter _
theorem d80_eq {l : List Int} (hl : l.length ≤ 281474976710656) : d80 l = some (risL l) := by
  unfold d80
  refine while_bind (b := risL l) (fun i => (l, risTo l i, (i : Int))) 7 rfl (fun i hi => ?_) ?_ rfl
  · have e1 : (i : Int) < 7 := by omega
    have e2 : w ((i : Int) + 1) = ((i + 1 : Nat) : Int) := by rw [w_id (by omega) (by omega)]; omega
    have hlen := risTo_len l i
    simp only [e1, e2, decide_true, cond_true, letJ, d20_eq (l := l) (i : Int) hl, Option.bind_some, risTo_succ]
    by_cases h : (i : Int) ∈ l
    · simp only [h, decide_true, cond_true, if_true, lim_small (risTo l i) (i : Int) (by omega)]
    · simp only [h, decide_false, cond_false, if_false]
  · simp only [show ¬ (((7 : Nat) : Int) < 7) by omega, decide_false, cond_false]
    rfl
/- MARGINS -/
def mrg (n : Int) (gs : List Grp) (a : Asn) : Int := (tal n gs a).1 - (tal n gs a).2
theorem d42_eq {n : Int} {gs : List Grp} (h : GsOK gs) {a : Asn} (hl : a.2.2.2.1.length ≤ 1000) : d42 n gs a = some (mrg n gs a) := by
  unfold d42
  rw [d59_eq h hl]
  have := tal_bounds n gs a
  simp only [Option.bind_some, w_id (show -9223372036854775808 ≤ (tal n gs a).1 - (tal n gs a).2 by omega) (by omega)]
  rfl
/- THE OWN ASSERTION OF A TAIL -/
def ownA (tail : List Int) (x : Int) : Asn := if x ∈ tail then (2, tail.getD 0 0, x, risL tail, 0) else (1, x, tail.getD 0 0, [], 0)
theorem ownA_len (tail : List Int) (x : Int) : (ownA tail x).2.2.2.1.length ≤ 7 := by
  unfold ownA
  split
  · exact risTo_len tail 7
  · simp
def better (st : Asn × (Int × Bool)) (a : Asn) (m : Int) : Bool := !st.2.2 || (decide (st.2.1 < m) || (decide (m = st.2.1) && decide (cmpA a st.1 < 0)))
def ownStep (n : Int) (gs : List Grp) (tail : List Int) (st : Asn × (Int × Bool)) (x : Int) : Asn × (Int × Bool) :=
  if x = tail.getD 0 0 then st else if better st (ownA tail x) (mrg n gs (ownA tail x)) then (ownA tail x, mrg n gs (ownA tail x), true) else st
def ownTo (n : Int) (gs : List Grp) (tail : List Int) (i : Nat) : Asn × (Int × Bool) := (idL i).foldl (ownStep n gs tail) (zA, 0, false)
theorem ownTo_succ (n : Int) (gs : List Grp) (tail : List Int) (i : Nat) : ownTo n gs tail (i + 1) = ownStep n gs tail (ownTo n gs tail i) (i : Int) := by
  unfold ownTo
  rw [idL_succ, List.foldl_append]
  rfl
theorem ownTo_len (n : Int) (gs : List Grp) (tail : List Int) : ∀ i, (ownTo n gs tail i).1.2.2.2.1.length ≤ 7
  | 0 => by simp [ownTo, idL, zA]
  | i + 1 => by
    rw [ownTo_succ]
    unfold ownStep
    split
    · exact ownTo_len n gs tail i
    · split
      · exact ownA_len tail i
      · exact ownTo_len n gs tail i
def ownP (n : Nat) (gs : List Grp) (tail : List Int) : Asn × (Int × Bool) := ownTo (n : Int) gs tail n
theorem d66_eq {n : Nat} {gs : List Grp} (h : GsOK gs) (hn : n ≤ 7) {tail : List Int} (ht : 0 < tail.length) (htl : tail.length ≤ 1000) : d66 (n : Int) gs tail = some ((ownP n gs tail).1, (ownP n gs tail).2.1) := by
  unfold d66
  have t0 : (0 : Int) < (tail.length : Int) := by omega
  have z0 : (0 : Int) ≤ 0 := by omega
  refine while_bind (b := (zA, (ownP n gs tail).1, (ownP n gs tail).2.1)) (fun i => ((n : Int), gs, tail, zA, (ownTo (n : Int) gs tail i).1, (ownTo (n : Int) gs tail i).2.1, (ownTo (n : Int) gs tail i).2.2, (i : Int))) n rfl (fun i hi => ?_) ?_ rfl
  · have e1 : (i : Int) < (n : Int) := by omega
    have e2 : w ((i : Int) + 1) = ((i + 1 : Nat) : Int) := by rw [w_id (by omega) (by omega)]; omega
    have hol := ownTo_len (n : Int) gs tail i
    have hal := ownA_len tail (i : Int)
    rw [ownTo_succ]
    obtain ⟨⟨A, M, B⟩, hst⟩ : ∃ st, ownTo (n : Int) gs tail i = st := ⟨_, rfl⟩
    rw [hst] at hol ⊢
    simp only at hol
    have hA : ((bif decide ((i : Int) ∈ tail) then (2, tail.getD 0 0, (i : Int), risL tail, 0) else (1, (i : Int), tail.getD 0 0, [], 0)) : Asn) = ownA tail (i : Int) := by
      unfold ownA
      by_cases hm : (i : Int) ∈ tail <;> simp only [hm, decide_true, decide_false, cond_true, cond_false, if_true, if_false]
    have e42 := d42_eq (n := (n : Int)) h (a := ownA tail (i : Int)) (by omega)
    have e39 := d39_eq (a := ownA tail (i : Int)) (b := A) (by omega) (by omega)
    simp only [e1, e2, t0, z0, decide_true, cond_true, Bool.and_self, letJ, d20_eq (l := tail) (i : Int) (by omega), Option.bind_some]
    have hmain : ∀ a : Asn, a = ownA tail (i : Int) → (bif decide ((i : Int) = tail.getD 0 0) then (some (Sum.inl ((n : Int), gs, tail, zA, A, M, B, ((i + 1 : Nat) : Int))) : Option ((Int × (List Grp × (List Int × (Asn × (Asn × (Int × (Bool × Int))))))) ⊕ (Asn × (Asn × Int)))) else
        (d42 (n : Int) gs a).bind fun r_2 => bif !(!B) then bif !(decide (M < r_2)) then bif (decide (r_2 = M)) then (d39 a A).bind fun r_3 => bif decide (r_3 < 0) then some (Sum.inl ((n : Int), gs, tail, zA, a, r_2, true, ((i + 1 : Nat) : Int))) else some (Sum.inl ((n : Int), gs, tail, zA, A, M, B, ((i + 1 : Nat) : Int))) else (some (Sum.inl ((n : Int), gs, tail, zA, A, M, B, ((i + 1 : Nat) : Int)))) else some (Sum.inl ((n : Int), gs, tail, zA, a, r_2, true, ((i + 1 : Nat) : Int))) else some (Sum.inl ((n : Int), gs, tail, zA, a, r_2, true, ((i + 1 : Nat) : Int)))) =
        some (Sum.inl ((n : Int), gs, tail, zA, (ownStep (n : Int) gs tail (A, M, B) (i : Int)).1, (ownStep (n : Int) gs tail (A, M, B) (i : Int)).2.1, (ownStep (n : Int) gs tail (A, M, B) (i : Int)).2.2, ((i + 1 : Nat) : Int))) := by
      rintro a rfl
      unfold ownStep
      by_cases c1 : (i : Int) = tail.getD 0 0
      · simp only [c1, decide_true, cond_true, if_true]
      · simp only [c1, decide_false, cond_false, if_false, e42, Option.bind_some]
        unfold better
        generalize mrg (n : Int) gs (ownA tail (i : Int)) = m
        cases B
        · simp only [Bool.not_false, Bool.not_true, cond_false, Bool.true_or, if_true]
        · by_cases c2 : M < m
          · simp only [Bool.not_true, Bool.not_false, cond_true, c2, decide_true, cond_false, Bool.false_or, Bool.true_or, if_true]
          · by_cases c3 : m = M
            · simp only [Bool.not_true, Bool.not_false, cond_true, c2, c3, decide_true, decide_false, cond_false, Bool.false_or, Bool.true_and, e39, Option.bind_some, show ¬ M < M by omega]
              by_cases c4 : cmpA (ownA tail (i : Int)) A < 0
              · simp only [c4, decide_true, cond_true, if_true]
              · simp only [c4, decide_false, cond_false, Bool.false_eq_true, if_false]
            · simp only [Bool.not_true, Bool.not_false, cond_true, c2, c3, decide_false, cond_false, Bool.false_or, Bool.false_and, Bool.false_eq_true, if_false]
    by_cases hm : (i : Int) ∈ tail
    · simp only [hm, decide_true, cond_true, d80_eq (l := tail) (by omega), Option.bind_some]
      have := hmain (2, tail.getD 0 0, (i : Int), risL tail, 0) (by rw [← hA]; simp only [hm, decide_true, cond_true])
      exact this
    · simp only [hm, decide_false, cond_false]
      have := hmain (1, (i : Int), tail.getD 0 0, [], 0) (by rw [← hA]; simp only [hm, decide_false, cond_false])
      exact this
  · have : ¬ ((n : Int) < (n : Int)) := by omega
    simp only [this, decide_false, cond_false]
    rfl
/- THE VALUE OF A TAIL -/
abbrev VSt := Int × (Bool × List Asn)
def valStep (f : List Int → Int × List Asn) (tail : List Int) (st : VSt) (c : Int) : VSt :=
  if c ∈ tail then st else (if !st.2.1 || decide ((f (c :: tail)).1 < st.1) then ((f (c :: tail)).1, true, st.2.2 ++ (f (c :: tail)).2) else (st.1, st.2.1, st.2.2 ++ (f (c :: tail)).2))
def valTo (f : List Int → Int × List Asn) (tail : List Int) (i : Nat) : VSt := (idL i).foldl (valStep f tail) (0, false, [])
theorem valTo_succ (f : List Int → Int × List Asn) (tail : List Int) (i : Nat) : valTo f tail (i + 1) = valStep f tail (valTo f tail i) (i : Int) := by
  unfold valTo
  rw [idL_succ, List.foldl_append]
  rfl
def valP (n : Nat) (gs : List Grp) : Nat → List Int → Int × List Asn
  | 0, _ => (0, [])
  | k + 1, tail =>
    if tail.length = n then ((ownP n gs tail).2.1, [(ownP n gs tail).1])
    else if (valTo (valP n gs k) tail n).1 ≤ (ownP n gs tail).2.1 then ((ownP n gs tail).2.1, [(ownP n gs tail).1])
    else ((valTo (valP n gs k) tail n).1, (valTo (valP n gs k) tail n).2.2)
theorem valP_succ (n : Nat) (gs : List Grp) (k : Nat) (tail : List Int) : valP n gs (k + 1) tail = if tail.length = n then ((ownP n gs tail).2.1, [(ownP n gs tail).1])
    else if (valTo (valP n gs k) tail n).1 ≤ (ownP n gs tail).2.1 then ((ownP n gs tail).2.1, [(ownP n gs tail).1])
    else ((valTo (valP n gs k) tail n).1, (valTo (valP n gs k) tail n).2.2) := rfl
theorem valTo_len {f : List Int → Int × List Asn} {tail : List Int} {B : Nat} : ∀ i, (∀ j : Nat, j < i → (j : Int) ∉ tail → (f ((j : Int) :: tail)).2.length ≤ B) → (valTo f tail i).2.2.length ≤ i * B
  | 0, _ => by simp [valTo, idL]
  | i + 1, h => by
    have ih := valTo_len i fun j hj => h j (by omega)
    rw [valTo_succ, Nat.succ_mul]
    unfold valStep
    by_cases c : (i : Int) ∈ tail
    · rw [if_pos c]; omega
    · rw [if_neg c]
      have := h i (by omega) c
      split <;> (simp only [List.length_append]; omega)
theorem valTo_all {f : List Int → Int × List Asn} {tail : List Int} {P : Asn → Prop} : ∀ i, (∀ j : Nat, j < i → (j : Int) ∉ tail → ∀ a ∈ (f ((j : Int) :: tail)).2, P a) → ∀ a ∈ (valTo f tail i).2.2, P a
  | 0, _ => by simp [valTo, idL]
  | i + 1, h => by
    have ih := valTo_all i fun j hj => h j (by omega)
    rw [valTo_succ]
    unfold valStep
    by_cases c : (i : Int) ∈ tail
    · rw [if_pos c]; exact ih
    · rw [if_neg c]
      have := h i (by omega) c
      intro a ha
      split at ha <;> (rcases List.mem_append.1 ha with ha | ha; exact ih a ha; exact this a ha)
theorem isB_cons {n : Nat} {j : Nat} {tail : List Int} (h : isB n tail) (hj : j < n) (hm : (j : Int) ∉ tail) : isB n ((j : Int) :: tail) := ⟨List.nodup_cons.2 ⟨hm, h.1⟩, fun x hx => by
  rcases List.mem_cons.1 hx with rfl | hx
  · omega
  · exact h.2 x hx⟩
theorem valP_len {n : Nat} (hn : n ≤ 7) (gs : List Grp) : ∀ (k : Nat) (tail : List Int), isB n tail → (valP n gs k tail).2.length ≤ 7 ^ (n - tail.length)
  | 0, tail, _ => by simp [valP]
  | k + 1, tail, ht => by
    have h1 : 1 ≤ 7 ^ (n - tail.length) := Nat.pow_pos (by omega)
    have htl := nodup_len n tail ht.1 ht.2
    rw [valP_succ]
    split
    · simpa using h1
    · split
      · simpa using h1
      · rename_i c1 c2
        have hp : 7 ^ (n - tail.length) = 7 * 7 ^ (n - tail.length - 1) := by
          rw [show n - tail.length = (n - tail.length - 1) + 1 by omega, Nat.pow_succ, Nat.mul_comm]; rfl
        have := valTo_len (f := valP n gs k) (tail := tail) (B := 7 ^ (n - tail.length - 1)) n (fun j hj hm => by
          have := valP_len hn gs k ((j : Int) :: tail) (isB_cons ht hj hm)
          rw [List.length_cons, show n - (tail.length + 1) = n - tail.length - 1 by omega] at this
          exact this)
        have h7 := Nat.mul_le_mul_right (7 ^ (n - tail.length - 1)) hn
        show (valTo (valP n gs k) tail n).2.2.length ≤ _
        omega
theorem pow7 {n k : Nat} (hn : n ≤ 7) : 7 ^ (n - k) ≤ 823543 := Nat.le_trans (Nat.pow_le_pow_right (by omega) (show n - k ≤ 7 by omega)) (by decide)
theorem d67_eq {x : Int} {l : List Int} (hl : l.length ≤ 1000000) : d67 x l = some (x :: l) := by
  unfold d67
  have : ((([x] : List Int).length : Int) + (l.length : Int) ≤ LIM) := by rw [LIM_eq]; simp; omega
  simp only [this, decide_true, cond_true]
  rfl
theorem lim_app {α : Type} (l m : List α) (h : l.length ≤ 6000000) (h' : m.length ≤ 1000000) : ((l.length : Int) + (m.length : Int) ≤ LIM) := by rw [LIM_eq]; omega
theorem d58N_eq {n : Nat} {gs : List Grp} (h : GsOK gs) (hn : n ≤ 7) : ∀ (k : Nat) (tail : List Int), isB n tail → 0 < tail.length → n < k + tail.length → d58N k (n : Int) gs tail = some (valP n gs k tail)
  | 0, tail, ht, _, hk => by
    have := nodup_len n tail ht.1 ht.2
    omega
  | k + 1, tail, ht, h0, hk => by
    have htl := nodup_len n tail ht.1 ht.2
    show d58F (d58N k) (n : Int) gs tail = _
    unfold d58F
    rw [d66_eq h hn h0 (by omega), valP_succ]
    simp only [Option.bind_some]
    by_cases c0 : tail.length = n
    · have c0' : (tail.length : Int) = (n : Int) := by omega
      simp only [c0, c0', decide_true, cond_true, if_true]
    · have c0' : ¬ (tail.length : Int) = (n : Int) := by omega
      simp only [c0, c0', decide_false, cond_false, if_false]
      generalize ownP n gs tail = o
      obtain ⟨f, hf⟩ : ∃ f, valP n gs k = f := ⟨_, rfl⟩
      have hfl : ∀ i, i ≤ n → (valTo f tail i).2.2.length ≤ 5764801 := fun i hi => by
        have := valTo_len (f := f) (tail := tail) (B := 823543) i (fun j hj hm => by rw [← hf]; exact Nat.le_trans (valP_len hn gs k _ (isB_cons ht (by omega) hm)) (pow7 hn))
        have h7 : i ≤ 7 := by omega
        omega
      rw [hf]
      refine while_bind (b := (o.1, o.2.1, (valTo f tail n).1, (valTo f tail n).2.2)) (fun i => ((n : Int), gs, tail, o.1, o.2.1, (valTo f tail i).1, (valTo f tail i).2.1, (valTo f tail i).2.2, (i : Int))) n rfl (fun i hi => ?_) ?_ ?_
      · have e1 : (i : Int) < (n : Int) := by omega
        have e2 : w ((i : Int) + 1) = ((i + 1 : Nat) : Int) := by rw [w_id (by omega) (by omega)]; omega
        rw [valTo_succ]
        have hlen := hfl i (by omega)
        simp only [e1, e2, decide_true, cond_true, letJ, d20_eq (l := tail) (i : Int) (by omega), Option.bind_some]
        unfold valStep
        by_cases hm : (i : Int) ∈ tail
        · simp only [hm, decide_true, cond_true, if_true]
        · have hrec : d58N k (n : Int) gs ((i : Int) :: tail) = some (f ((i : Int) :: tail)) := by
            rw [← hf]
            exact d58N_eq h hn k ((i : Int) :: tail) (isB_cons ht hi hm) (by simp) (by simp; omega)
          have hvl : (f ((i : Int) :: tail)).2.length ≤ 1000000 := by
            rw [← hf]
            exact Nat.le_trans (Nat.le_trans (valP_len hn gs k _ (isB_cons ht hi hm)) (pow7 hn)) (by omega)
          simp only [hm, decide_false, cond_false, if_false, d67_eq (x := (i : Int)) (l := tail) (by omega), Option.bind_some, hrec, lim_app _ _ (show (valTo f tail i).2.2.length ≤ 6000000 by omega) hvl, decide_true, cond_true]
          cases (valTo f tail i).2.1
          · simp only [Bool.not_false, Bool.not_true, cond_false, cond_true, Bool.true_or, if_true]
          · simp only [Bool.not_true, Bool.not_false, cond_true, Bool.false_or]
            by_cases c2 : (f ((i : Int) :: tail)).1 < (valTo f tail i).1
            · simp only [c2, decide_true, cond_true, if_true]
            · simp only [c2, decide_false, cond_false, Bool.false_eq_true, if_false]
      · have : ¬ ((n : Int) < (n : Int)) := by omega
        simp only [this, decide_false, cond_false]
      · simp only
        by_cases c2 : (valTo f tail n).1 ≤ o.2.1
        · simp only [c2, decide_true, cond_true, if_true]
        · simp only [c2, decide_false, cond_false, if_false]
theorem d58_eq {n : Nat} {gs : List Grp} (h : GsOK gs) (hn : n ≤ 7) {tail : List Int} (ht : isB n tail) (h0 : 0 < tail.length) : d58 (n : Int) gs tail = some (valP n gs 10 tail) := d58N_eq h hn 10 tail ht h0 (by omega)
/- THE SET -/
def setStep (n : Nat) (gs : List Grp) (wn : Int) (st : Int × List Asn) (x : Int) : Int × List Asn :=
  if x = wn then st else ((if (valP n gs 10 [x]).1 < st.1 then (valP n gs 10 [x]).1 else st.1), st.2 ++ (valP n gs 10 [x]).2)
def setTo (n : Nat) (gs : List Grp) (wn : Int) (i : Nat) : Int × List Asn := (idL i).foldl (setStep n gs wn) (100000, [])
theorem setTo_succ (n : Nat) (gs : List Grp) (wn : Int) (i : Nat) : setTo n gs wn (i + 1) = setStep n gs wn (setTo n gs wn i) (i : Int) := by
  unfold setTo
  rw [idL_succ, List.foldl_append]
  rfl
theorem isB_one {n i : Nat} (hi : i < n) : isB n [(i : Int)] := ⟨by simp, fun x hx => by rw [List.mem_singleton.1 hx]; omega⟩
theorem setTo_len {n : Nat} (hn : n ≤ 7) (gs : List Grp) (wn : Int) : ∀ i, i ≤ n → (setTo n gs wn i).2.length ≤ i * 823543
  | 0, _ => by simp [setTo, idL]
  | i + 1, hi => by
    have ih := setTo_len hn gs wn i (by omega)
    have := Nat.le_trans (valP_len hn gs 10 [(i : Int)] (isB_one (by omega))) (pow7 hn)
    rw [setTo_succ, Nat.succ_mul]
    unfold setStep
    split
    · exact Nat.le_trans ih (Nat.le_add_right _ _)
    · simp only [List.length_append]; exact Nat.add_le_add ih this
def setP (n : Nat) (gs : List Grp) (wn : Int) : Int × List Asn :=
  if pileB (n : Int) gs = true ∧ 0 ≤ wn ∧ wn < (n : Int) then ((if (setTo n gs wn n).1 < 0 then 0 else (setTo n gs wn n).1), (setTo n gs wn n).2) else (0, [])
theorem d40_eq {n : Nat} {gs : List Grp} (h : GsOK gs) (wn : Int) : d40 (n : Int) gs wn = some (setP n gs wn) := by
  unfold d40 setP letJ
  rw [d54_eq h]
  simp only [Option.bind_some]
  cases hp : pileB (n : Int) gs
  · simp only [Bool.not_false, Bool.not_true, cond_false, cond_true, Bool.false_eq_true, false_and, if_false]
  obtain ⟨p1, p2, _⟩ := pileB_ok hp
  have hn : n ≤ 7 := by omega
  by_cases c1 : wn < 0
  · have : ¬ (0 ≤ wn) := by omega
    simp only [Bool.not_false, Bool.not_true, cond_false, cond_true, c1, this, decide_true, false_and, and_false, if_false]
  by_cases c2 : (n : Int) ≤ wn
  · have : ¬ (wn < (n : Int)) := by omega
    simp only [Bool.not_false, Bool.not_true, cond_false, cond_true, c1, c2, this, decide_true, decide_false, false_and, and_false, if_false]
  have c1' : 0 ≤ wn := by omega
  have c2' : wn < (n : Int) := by omega
  simp only [Bool.not_false, Bool.not_true, cond_false, cond_true, c1, c2, c1', c2', decide_true, decide_false, and_self, if_true]
  refine while_bind (b := setTo n gs wn n) (fun i => ((n : Int), gs, wn, (setTo n gs wn i).1, (setTo n gs wn i).2, (i : Int))) n rfl (fun i hi => ?_) ?_ ?_
  · have e1 : (i : Int) < (n : Int) := by omega
    have e2 : w ((i : Int) + 1) = ((i + 1 : Nat) : Int) := by rw [w_id (by omega) (by omega)]; omega
    have hlen := setTo_len hn gs wn i (by omega)
    have hl7 : i ≤ 7 := by omega
    have hvl := Nat.le_trans (valP_len hn gs 10 [(i : Int)] (isB_one hi)) (pow7 hn)
    rw [setTo_succ]
    unfold setStep
    simp only [e1, e2, decide_true, cond_true]
    by_cases c3 : (i : Int) = wn
    · simp only [c3, decide_true, Bool.not_true, cond_false, if_true]
    · simp only [c3, decide_false, Bool.not_false, cond_true, if_false, d58_eq h hn (isB_one hi) (by simp), Option.bind_some, lim_app _ _ (show (setTo n gs wn i).2.length ≤ 6000000 by omega) (show (valP n gs 10 [(i : Int)]).2.length ≤ 1000000 by omega), decide_true]
      by_cases c4 : (valP n gs 10 [(i : Int)]).1 < (setTo n gs wn i).1
      · simp only [c4, decide_true, cond_true, if_true]
      · simp only [c4, decide_false, cond_false, if_false]
  · have : ¬ ((n : Int) < (n : Int)) := by omega
    simp only [this, decide_false, cond_false]
  · by_cases c4 : (setTo n gs wn n).1 < 0
    · simp only [c4, decide_true, cond_true, if_true]
    · simp only [c4, decide_false, cond_false, if_false]
/- SORTED -/
theorem firstN_is {p : Nat → Bool} {n i : Nat} (hi : i < n) (hp : p i = true) (hj : ∀ j, j < i → p j = false) : firstN p n = i := by
  rcases Nat.lt_trichotomy (firstN p n) i with h | h | h
  · have := firstN_at p n (by omega)
    rw [hj _ h] at this; cases this
  · exact h
  · have := firstN_lt p n i h
    rw [hp] at this; cases this
theorem firstN_no {p : Nat → Bool} {n : Nat} (h : ∀ j, j < n → p j = false) : firstN p n = n := by
  have := firstN_le p n
  by_cases c : firstN p n < n
  · have h2 := firstN_at p n c
    rw [h _ c] at h2; cases h2
  · omega
def insAt (out : List Asn) (a : Asn) : Nat := firstN (fun k => !decide (cmpA (out.getD k zA) a < 0)) out.length
def insA (out : List Asn) (a : Asn) : List Asn := if insAt out a < out.length ∧ cmpA (out.getD (insAt out a) zA) a = 0 then out else (out.take (insAt out a) ++ [a]) ++ out.drop (insAt out a)
def sortedP (l : List Asn) : List Asn := l.foldl insA []
theorem insA_len (out : List Asn) (a : Asn) : (insA out a).length ≤ out.length + 1 := by
  unfold insA
  split
  · omega
  · have := firstN_le (fun k => !decide (cmpA (out.getD k zA) a < 0)) out.length
    simp only [List.length_append, List.length_take, List.length_drop, List.length_singleton]
    omega
theorem insA_mem {out : List Asn} {a x : Asn} (h : x ∈ insA out a) : x = a ∨ x ∈ out := by
  unfold insA at h
  split at h
  · exact .inr h
  · rcases List.mem_append.1 h with h | h
    · rcases List.mem_append.1 h with h | h
      · exact .inr (List.mem_of_mem_take h)
      · exact .inl (List.mem_singleton.1 h)
    · exact .inr (List.mem_of_mem_drop h)
theorem foldl_take {α β : Type} (f : β → α → β) (b : β) (l : List α) (d : α) {i : Nat} (h : i < l.length) : (l.take (i + 1)).foldl f b = f ((l.take i).foldl f b) (l.getD i d) := by
  rw [take_get l d h, List.foldl_append]
  rfl
theorem sorted_inv : ∀ (l out : List Asn), (l.foldl insA out).length ≤ out.length + l.length ∧ ∀ x ∈ l.foldl insA out, x ∈ out ∨ x ∈ l
  | [], out => by simp
  | a :: l, out => by
    obtain ⟨h1, h2⟩ := sorted_inv l (insA out a)
    have := insA_len out a
    refine ⟨by simp only [List.foldl_cons, List.length_cons]; omega, fun x hx => ?_⟩
    rcases h2 x hx with h | h
    · rcases insA_mem h with rfl | h
      · exact .inr (by simp)
      · exact .inl h
    · exact .inr (List.mem_cons_of_mem _ h)
theorem sorted_mem {l : List Asn} {x : Asn} (h : x ∈ sortedP l) : x ∈ l := by
  rcases (sorted_inv l []).2 x h with h | h
  · simp at h
  · exact h
theorem d41_eq {l : List Asn} (hl : l.length ≤ 6000000) (ha : ∀ a ∈ l, a.2.2.2.1.length ≤ 1001) : d41 l = some (sortedP l) := by
  unfold d41
  refine while_bind (b := sortedP l) (fun i => (l, (l.take i).foldl insA [], (i : Int))) l.length rfl (fun i hi => ?_) ?_ rfl
  · have e1 : (i : Int) < (l.length : Int) := by omega
    have e0 : (0 : Int) ≤ (i : Int) := by omega
    have e2 : w ((i : Int) + 1) = ((i + 1 : Nat) : Int) := by rw [w_id (by omega) (by omega)]; omega
    obtain ⟨s1, s2⟩ := sorted_inv (l.take i) []
    rw [foldl_take insA [] l zA hi]
    have hout : ∀ a ∈ (l.take i).foldl insA [], a.2.2.2.1.length ≤ 1001 := fun a h => by
      rcases s2 a h with h | h
      · simp at h
      · exact ha a (List.mem_of_mem_take h)
    have hx : (l.getD i zA).2.2.2.1.length ≤ 1001 := ha _ (by rw [getD_get _ _ hi]; exact List.getElem_mem _)
    have hz : ((0 : Int), (0 : Int), (0 : Int), ([] : List Int), (0 : Int)) = zA := rfl
    have hol : ((l.take i).foldl insA []).length ≤ i := by
      have : (l.take i).length ≤ i := by simp; omega
      simp only [List.length_nil] at s1; omega
    generalize (l.take i).foldl insA [] = out at hout hol
    simp only [e1, e0, e2, decide_true, cond_true, Bool.and_self, letJ, Int.toNat_natCast, hz]
    have hcmp : ∀ k, k < out.length → d39 (out.getD k zA) (l.getD i zA) = some (cmpA (out.getD k zA) (l.getD i zA)) := fun k hk =>
      d39_eq (by have := hout _ (show out.getD k zA ∈ out by rw [getD_get _ _ hk]; exact List.getElem_mem _); omega) (by omega)
    have hle := firstN_le (fun k => !decide (cmpA (out.getD k zA) (l.getD i zA) < 0)) out.length
    refine while_first (fun k => (l, out, (i : Int), (k : Int))) (fun k => !decide (cmpA (out.getD k zA) (l.getD i zA) < 0)) out.length (fun k => (l, out, (i : Int), (k : Int))) (l, out, (i : Int), (out.length : Int)) rfl (fun k hk => ?_) ?_ (fun k hk hp hj => ?_) (fun hall => ?_)
    · have k1 : (k : Int) < (out.length : Int) := by omega
      have k0 : (0 : Int) ≤ (k : Int) := by omega
      have kw : w ((k : Int) + 1) = ((k + 1 : Nat) : Int) := by rw [w_id (by omega) (by omega)]; omega
      simp only [k1, k0, kw, e0, e1, decide_true, cond_true, Bool.and_self, Int.toNat_natCast, hcmp k hk, Option.bind_some]
      by_cases c : cmpA (out.getD k zA) (l.getD i zA) < 0
      · simp only [c, decide_true, cond_true, Bool.not_true, Bool.false_eq_true, if_false]
      · simp only [c, decide_false, cond_false, Bool.not_false, if_true]
    · have : ¬ ((out.length : Int) < (out.length : Int)) := by omega
      simp only [this, decide_false, cond_false]
    · have hat : insAt out (l.getD i zA) = k := firstN_is hk hp hj
      have k1 : (k : Int) < (out.length : Int) := by omega
      have k0 : (0 : Int) ≤ (k : Int) := by omega
      unfold insA
      rw [hat]
      simp only [k1, k0, e0, e1, decide_true, cond_true, Bool.and_self, Int.toNat_natCast, hcmp k hk, Option.bind_some, hk, true_and]
      by_cases c : cmpA (out.getD k zA) (l.getD i zA) = 0
      · simp only [c, decide_true, cond_true, if_true, e2]
      · have l1 : ((([] : List Asn).length : Int) + ((List.take k out).length : Int) ≤ LIM) := by rw [LIM_eq]; simp; omega
        have l2 : (((List.take k out).length : Int) + (([l.getD i zA] : List Asn).length : Int) ≤ LIM) := by rw [LIM_eq]; simp; omega
        have l3 : (((List.take k out ++ [l.getD i zA]).length : Int) + ((List.drop k out).length : Int) ≤ LIM) := by rw [LIM_eq]; simp; omega
        simp only [c, decide_false, cond_false, if_false, cutOK_take (Nat.le_of_lt hk), cutOK_drop (Nat.le_of_lt hk), List.drop_zero, List.take_length, l1, l2, l3, decide_true, cond_true, e2]
    · have hat : insAt out (l.getD i zA) = out.length := firstN_no hall
      unfold insA
      rw [hat]
      have k1 : ¬ ((out.length : Int) < (out.length : Int)) := by omega
      have l1 : ((([] : List Asn).length : Int) + (out.length : Int) ≤ LIM) := by rw [LIM_eq]; simp; omega
      have l2 : ((out.length : Int) + (([l.getD i zA] : List Asn).length : Int) ≤ LIM) := by rw [LIM_eq]; simp; omega
      have l3 : (((out ++ [l.getD i zA]).length : Int) + ((List.drop out.length out).length : Int) ≤ LIM) := by rw [LIM_eq]; simp; omega
      simp only [k1, e0, e1, Nat.lt_irrefl, false_and, if_false, decide_true, decide_false, cond_true, cond_false, Bool.and_self, Int.toNat_natCast, cutOK_take (Nat.le_refl _), cutOK_drop (Nat.le_refl _), List.drop_zero, List.take_length, l1, l2, l3, e2]
  · have : ¬ ((l.length : Int) < (l.length : Int)) := by omega
    simp only [this, decide_false, cond_false, List.take_length]
    rfl
end Go.Proofs.YthlgoakkgmabaaaGreat
