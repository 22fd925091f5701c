/- Plain laws: orders of exclusion that are possible; an assertion that holds contradicts none of them (AssertionRight). -/
import Derived.Test.YthemaffjohmhnaaP20
import Derived.Test.YthemaffjohmhnaaG35
set_option linter.unusedSimpArgs false
set_option linter.unusedVariables false
open Go Go.Proofs Go.X
namespace Go.Proofs.Ythemaffjohmhnaa
/- THE LOWEST -/
def lowAt (v : List Int) (r : List Bool) (i : Nat) : Nat → Bool
  | 0 => rem r (i : Int)
  | k + 1 => lowAt v r i k && !(rem r (k : Int) && decide (v.getD k 0 < v.getD i 0))
theorem lowAt_iff (v : List Int) (r : List Bool) (i : Nat) : ∀ k, lowAt v r i k = true ↔ rem r (i : Int) = true ∧ ∀ j, j < k → rem r (j : Int) = true → v.getD i 0 ≤ v.getD j 0
  | 0 => by simp [lowAt]
  | k + 1 => by
    have ih := lowAt_iff v r i k
    unfold lowAt
    rw [Bool.and_eq_true, ih]
    constructor
    · rintro ⟨⟨h1, h2⟩, h3⟩
      refine ⟨h1, fun j hj hr => ?_⟩
      rcases Nat.lt_or_ge j k with h | h
      · exact h2 j h hr
      · obtain rfl : j = k := by omega
        simp only [hr, Bool.true_and, Bool.not_eq_true', decide_eq_false_iff_not] at h3
        omega
    · rintro ⟨h1, h2⟩
      refine ⟨⟨h1, fun j hj hr => h2 j (by omega) hr⟩, ?_⟩
      cases hr : rem r (k : Int)
      · rfl
      · have := h2 k (by omega) hr
        have h3 : ¬ v.getD k 0 < v.getD i 0 := by omega
        simp only [h3, decide_false, Bool.and_false, Bool.not_false]
def lowTo (v : List Int) (r : List Bool) (i : Nat) : List Int := ((List.range i).filter fun j => lowAt v r j v.length).map fun (j : Nat) => (j : Int)
def lowL (v : List Int) (r : List Bool) : List Int := lowTo v r v.length
theorem lowTo_succ (v : List Int) (r : List Bool) (i : Nat) : lowTo v r (i + 1) = if lowAt v r i v.length then lowTo v r i ++ [(i : Int)] else lowTo v r i := by
  unfold lowTo
  rw [List.range_succ, List.filter_append, List.map_append]
  cases h : lowAt v r i v.length
  · simp [List.filter, h]
  · simp [List.filter, h]
theorem lowTo_len (v : List Int) (r : List Bool) (i : Nat) : (lowTo v r i).length ≤ i := by
  unfold lowTo
  rw [List.length_map]
  exact Nat.le_trans (List.length_filter_le _ _) (by simp)
theorem lowL_mem {v : List Int} {r : List Bool} {c : Int} (h : c ∈ lowL v r) : ∃ i : Nat, c = (i : Int) ∧ i < v.length ∧ lowAt v r i v.length = true := by
  unfold lowL lowTo at h
  obtain ⟨i, h1, h2⟩ := List.mem_map.1 h
  obtain ⟨h3, h4⟩ := List.mem_filter.1 h1
  exact ⟨i, h2.symm, List.mem_range.1 h3, h4⟩
theorem d112_eq {v : List Int} {r : List Bool} (hv : v.length ≤ 1000) : d112 v r = some (lowL v r) := by
  unfold d112
  refine while_bind (b := lowL v r) (fun i => (v, r, lowTo v r i, (i : Int))) v.length rfl (fun i hi => ?_) ?_ rfl
  · have h2 : (i : Int) < (v.length : Int) := by omega
    have h3 : (0 : Int) ≤ (i : Int) := by omega
    have hw : w ((i : Int) + 1) = ((i + 1 : Nat) : Int) := by rw [w_id (by omega) (by omega)]; omega
    simp only [h2, decide_true, cond_true, letJ, d124_eq r h3, Option.bind_some, hw]
    refine while_bind (b := (v, r, lowTo v r i, (i : Int), lowAt v r i v.length)) (fun k => (v, r, lowTo v r i, (i : Int), lowAt v r i k, (k : Int))) v.length rfl (fun k hk => ?_) ?_ ?_
    · have h4 : (k : Int) < (v.length : Int) := by omega
      have h5 : (0 : Int) ≤ (k : Int) := by omega
      have hw' : w ((k : Int) + 1) = ((k + 1 : Nat) : Int) := by rw [w_id (by omega) (by omega)]; omega
      simp only [h2, h3, h4, h5, decide_true, cond_true, Bool.and_self, d124_eq r h5, Option.bind_some, hw', Int.toNat_natCast, lowAt]
      cases rem r (k : Int)
      · simp
      · by_cases c : v.getD k 0 < v.getD i 0
        · simp only [c, decide_true, cond_true, Bool.and_self, Bool.not_true, Bool.and_false]
        · simp only [c, decide_false, cond_true, cond_false, Bool.and_false, Bool.not_false, Bool.and_true]
    · have h6 : ¬ ((v.length : Int) < (v.length : Int)) := by omega
      simp only [h6, decide_false, cond_false]
    · rw [lowTo_succ]
      have hlen := lowTo_len v r i
      cases lowAt v r i v.length
      · simp only [cond_false, Bool.false_eq_true, if_false, hw]
      · have hlim : ((lowTo v r i).length : Int) + (([(i : Int)] : List Int).length : Int) ≤ LIM := by rw [LIM_eq]; simp; omega
        simp only [hlim, decide_true, cond_true, if_true, hw]
  · have h6 : ¬ ((v.length : Int) < (v.length : Int)) := by omega
    simp only [h6, decide_false, cond_false]
    rfl
/- THE ORDERS -/
theorem nodup_len_le : ∀ (m l : List Int), m.Nodup → (∀ c ∈ m, c ∈ l) → m.length ≤ l.length
  | [], l, _, _ => by simp
  | c :: m, l, hd, h => by
    have hc : c ∈ l := h c List.mem_cons_self
    have hd' := List.nodup_cons.1 hd
    have ih := nodup_len_le m (l.erase c) hd'.2 fun x hx => (List.mem_erase_of_ne (fun e => hd'.1 (by rw [← e]; exact hx))).2 (h x (List.mem_cons_of_mem _ hx))
    rw [List.length_erase_of_mem hc] at ih
    have : 0 < l.length := List.length_pos_of_mem hc
    simp
    omega
theorem full_isB {n : Int} (hn : 0 ≤ n) {o : List Int} (h : isB n o) (hl : o.length = n.toNat) {x : Int} (hx : 0 ≤ x ∧ x < n) : x ∈ o := by
  have hp := perm_of_sub o ((List.range n.toNat).map fun (i : Nat) => (i : Int)) h.1 (fun c hc => by
    have := h.2 c hc
    exact List.mem_map.2 ⟨c.toNat, List.mem_range.2 (by omega), by omega⟩) (by simp; omega)
  exact hp.mem_iff.2 (List.mem_map.2 ⟨x.toNat, List.mem_range.2 (by omega), by omega⟩)
/-- At every step from i on the candidate that goes has the fewest votes of those that remain. -/
def lowest (gs : List Grp) (o : List Int) (i : Nat) : Prop := ∀ j, i ≤ j → j < o.length → ∀ c ∈ o.drop j, wsum (isTopM (o.drop j) (o.getD j 0)) gs ≤ wsum (isTopM (o.drop j) c) gs
theorem flat_len {f : Int → List (List Int)} {B : Nat} : ∀ {l : List Int}, (∀ x ∈ l, (f x).length ≤ B) → (l.flatMap f).length ≤ l.length * B
  | [], _ => by simp
  | x :: l, h => by
    have ih := flat_len (l := l) fun y hy => h y (List.mem_cons_of_mem _ hy)
    have h1 := h x List.mem_cons_self
    rw [List.flatMap_cons, List.length_append, List.length_cons, Nat.add_mul]
    omega
theorem take_flat {f : Int → List (List Int)} (l : List Int) {i : Nat} (hi : i < l.length) : (l.take (i + 1)).flatMap f = (l.take i).flatMap f ++ f (l.getD i 0) := by
  rw [getD_get _ _ hi, ← List.take_append_getElem hi, List.flatMap_append]
  simp
theorem rem_set {r : List Bool} {c x : Int} (hc : 0 ≤ c ∧ c < (r.length : Int)) (hx : 0 ≤ x) : rem (r.set c.toNat false) x = (rem r x && decide (x ≠ c)) := by
  unfold rem
  rw [List.length_set]
  by_cases h : x < (r.length : Int)
  · simp only [h, if_true]
    by_cases e : x = c
    · subst e
      have : x.toNat < r.length := by omega
      simp [List.getD_eq_getElem?_getD, this]
    · have : c.toNat ≠ x.toNat := by omega
      simp [List.getD_eq_getElem?_getD, List.getElem?_set_ne this, e]
  · simp only [h, if_false, Bool.false_and]
theorem orders_ok {n : Int} {gs : List Grp} {N : Int} (h : PileOK n gs N) (h1 : 1 ≤ n) (hn : n ≤ 7) : ∀ (k : Nat) (r : List Bool) (b : List Int), r.length = n.toNat → isB n b → (∀ c, 0 ≤ c → c < n → rem r c = decide (c ∉ b)) → n.toNat - b.length < k →
    ∃ out : List (List Int), d88N k n gs r b = some out ∧ out.length ≤ 7 ^ (n.toNat - b.length) ∧ ∀ o ∈ out, o.length = n.toNat ∧ isB n o ∧ (∃ s, o = b ++ s) ∧ lowest gs o b.length
  | 0, _, _, _, _, _, hk => absurd hk (Nat.not_lt_zero _)
  | k + 1, r, b, hr, hb, hrem, hk => by
    have hbl := isB_len hb hn
    have hnn : ((n.toNat : Nat) : Int) = n := by omega
    have hble : b.length ≤ n.toNat := by
      have hp : b.length ≤ ((List.range n.toNat).map fun (i : Nat) => (i : Int)).length := by
        refine nodup_len_le b _ hb.1 fun c hc => ?_
        have := hb.2 c hc
        exact List.mem_map.2 ⟨c.toNat, List.mem_range.2 (by omega), by omega⟩
      simpa using hp
    show ∃ out : List (List Int), d88F (d88N k) n gs r b = some out ∧ _
    unfold d88F
    by_cases c0 : b.length = n.toNat
    · have c0' : (b.length : Int) = n := by omega
      simp only [c0', decide_true, cond_true]
      refine ⟨[b], rfl, by rw [c0]; simp, fun o ho => ?_⟩
      obtain rfl := List.mem_singleton.1 ho
      exact ⟨c0, hb, ⟨[], by simp⟩, fun j h1 h2 => by omega⟩
    · have c0' : ¬ (b.length : Int) = n := by omega
      simp only [c0', decide_false, cond_false]
      rw [h.d72 hn (by omega)]
      simp only [Option.bind_some]
      have hvl : (votesAt r gs).length = n.toNat := by rw [votesAt_len, hr]
      rw [d112_eq (by omega)]
      simp only [Option.bind_some]
      -- what the recursion gives
      have hmem : ∀ c ∈ lowL (votesAt r gs) r, ∃ i : Nat, c = (i : Int) ∧ i < n.toNat ∧ lowAt (votesAt r gs) r i (votesAt r gs).length = true ∧ c ∉ b := fun c hc => by
        obtain ⟨i, rfl, h2, h3⟩ := lowL_mem hc
        have h4 := ((lowAt_iff _ _ _ _).1 h3).1
        rw [hrem _ (by omega) (by omega)] at h4
        exact ⟨i, rfl, by omega, h3, of_decide_eq_true h4⟩
      have hb' : ∀ c ∈ lowL (votesAt r gs) r, isB n (b ++ [c]) := fun c hc => by
        obtain ⟨i, rfl, h2, _, h4⟩ := hmem c hc
        refine ⟨List.nodup_append.2 ⟨hb.1, by simp, fun x hx y hy e => ?_⟩, fun x hx => ?_⟩
        · rw [List.mem_singleton.1 hy] at e
          exact h4 (by rw [← e]; exact hx)
        · rcases List.mem_append.1 hx with hx | hx
          · exact hb.2 x hx
          · rw [List.mem_singleton.1 hx]; omega
      have hrec : ∀ c ∈ lowL (votesAt r gs) r, ∃ out : List (List Int), d88N k n gs (r.set c.toNat false) (b ++ [c]) = some out ∧ out.length ≤ 7 ^ (n.toNat - (b.length + 1)) ∧ ∀ o ∈ out, o.length = n.toNat ∧ isB n o ∧ (∃ s, o = (b ++ [c]) ++ s) ∧ lowest gs o (b.length + 1) := fun c hc => by
        obtain ⟨i, rfl, h2, h3, h4⟩ := hmem c hc
        have := orders_ok h h1 hn k (r.set (i : Int).toNat false) (b ++ [(i : Int)]) (by simp [hr]) (hb' _ hc) (fun x hx hx' => by
          rw [rem_set (by omega) hx, hrem x hx hx']
          by_cases e1 : x ∈ b <;> by_cases e2 : x = (i : Int) <;> simp [e1, e2]) (by simp; omega)
        simpa using this
      have hch : ∀ c, ∃ out : List (List Int), c ∈ lowL (votesAt r gs) r → d88N k n gs (r.set c.toNat false) (b ++ [c]) = some out ∧ out.length ≤ 7 ^ (n.toNat - (b.length + 1)) ∧ ∀ o ∈ out, o.length = n.toNat ∧ isB n o ∧ (∃ s, o = (b ++ [c]) ++ s) ∧ lowest gs o (b.length + 1) := fun c => by
        by_cases hc : c ∈ lowL (votesAt r gs) r
        · obtain ⟨out, h2⟩ := hrec c hc
          exact ⟨out, fun _ => h2⟩
        · exact ⟨[], fun h => absurd h hc⟩
      obtain ⟨f, hf0⟩ := Classical.axiomOfChoice hch
      have hf : ∀ c ∈ lowL (votesAt r gs) r, d88N k n gs (r.set c.toNat false) (b ++ [c]) = some (f c) := fun c hc => (hf0 c hc).1
      have hf2 := fun c (hc : c ∈ lowL (votesAt r gs) r) => (hf0 c hc).2
      obtain ⟨L, hL⟩ : ∃ L, lowL (votesAt r gs) r = L := ⟨_, rfl⟩
      have hLl : L.length ≤ 7 := by
        have := lowTo_len (votesAt r gs) r (votesAt r gs).length
        have e : L.length = (lowTo (votesAt r gs) r (votesAt r gs).length).length := by rw [← hL]; rfl
        omega
      rw [hL] at hmem hf hf2 ⊢
      have hpow : 7 ^ (n.toNat - b.length) = 7 * 7 ^ (n.toNat - (b.length + 1)) := by
        rw [show n.toNat - b.length = (n.toNat - (b.length + 1)) + 1 by omega, Nat.pow_succ, Nat.mul_comm]
      have hpow2 : 7 ^ (n.toNat - b.length) ≤ 823543 := Nat.le_trans (Nat.pow_le_pow_right (by omega) (show n.toNat - b.length ≤ 7 by omega)) (by decide)
      have hlen : ∀ i, ((L.take i).flatMap f).length ≤ 7 ^ (n.toNat - b.length) := fun i => by
        have h1 := flat_len (f := f) (B := 7 ^ (n.toNat - (b.length + 1))) (l := L.take i) fun x hx => (hf2 x (List.mem_of_mem_take hx)).1
        have h2 : (L.take i).length ≤ 7 := by rw [List.length_take]; omega
        have h3 := Nat.mul_le_mul_right (7 ^ (n.toNat - (b.length + 1))) h2
        omega
      refine ⟨L.flatMap f, ?_, by have := hlen L.length; rwa [List.take_length] at this, fun o ho => ?_⟩
      · refine while_bind (b := L.flatMap f) (fun i => (n, gs, r, b, L, (L.take i).flatMap f, (i : Int))) L.length rfl (fun i hi => ?_) ?_ rfl
        · have h2 : (i : Int) < (L.length : Int) := by omega
          have h3 : (0 : Int) ≤ (i : Int) := by omega
          have hw : w ((i : Int) + 1) = ((i + 1 : Nat) : Int) := by rw [w_id (by omega) (by omega)]; omega
          have hcm : L.getD i 0 ∈ L := by rw [getD_get _ _ hi]; exact List.getElem_mem _
          obtain ⟨q, hq, hq2, _, _⟩ := hmem _ hcm
          have h4 : (0 : Int) ≤ L.getD i 0 := by omega
          have h5 : L.getD i 0 < (r.length : Int) := by omega
          have l1 : ((([] : List Bool).length : Int) + (r.length : Int) ≤ LIM) := by rw [LIM_eq]; simp; omega
          have l2 : ((([] : List Int).length : Int) + (b.length : Int) ≤ LIM) := by rw [LIM_eq]; simp; omega
          have l3 : ((b.length : Int) + (([L.getD i 0] : List Int).length : Int) ≤ LIM) := by rw [LIM_eq]; simp; omega
          have l4 : ((((L.take i).flatMap f).length : Int) + ((f (L.getD i 0)).length : Int) ≤ LIM) := by
            have := hlen (i + 1)
            rw [take_flat L hi, List.length_append] at this
            rw [LIM_eq]; omega
          simp only [h2, h3, h4, h5, l1, l2, l3, l4, hw, decide_true, cond_true, Bool.and_self, Int.toNat_natCast, hf _ hcm, Option.bind_some, take_flat L hi]
        · have h6 : ¬ ((L.length : Int) < (L.length : Int)) := by omega
          simp only [h6, decide_false, cond_false, List.take_length]
      · obtain ⟨c, hc, hoc⟩ := List.mem_flatMap.1 ho
        obtain ⟨q1, q2, ⟨s, q3⟩, q4⟩ := (hf2 c hc).2 o hoc
        refine ⟨q1, q2, ⟨c :: s, by rw [q3]; simp⟩, fun j hj hjl x hx => ?_⟩
        rcases Nat.lt_or_ge b.length j with hlt | hge
        · exact q4 j (by omega) hjl x hx
        obtain rfl : j = b.length := by omega
        have e1 : o.drop b.length = c :: s := by rw [q3]; simp
        have e2 : o.getD b.length 0 = c := by rw [q3]; simp [List.getD_eq_getElem?_getD]
        obtain ⟨i, rfl, hi2, hi3, hi4⟩ := hmem c hc
        have hset : ∀ y : Int, 0 ≤ y → y < n → rem r y = decide (y ∈ o.drop b.length) := fun y hy hy' => by
          rw [hrem y hy hy']
          refine decide_eq_decide.2 ⟨fun hn' => ?_, fun hd hbm => ?_⟩
          · have hm := full_isB (by omega) q2 q1 ⟨hy, hy'⟩
            rw [e1]
            rw [q3] at hm
            rcases List.mem_append.1 hm with hm | hm
            · rcases List.mem_append.1 hm with hm | hm
              · exact absurd hm hn'
              · rw [List.mem_singleton.1 hm]; exact List.mem_cons_self
            · exact List.mem_cons_of_mem _ hm
          · have hd2 := q2.1
            rw [show o = b ++ (((i : Nat) : Int) :: s) by rw [q3]; simp] at hd2
            rw [e1] at hd
            exact (List.nodup_append.1 hd2).2.2 _ hbm _ hd rfl
        have hv : ∀ y : Nat, y < n.toNat → (votesAt r gs).getD y 0 = wsum (isTopM (o.drop b.length) (y : Int)) gs := fun y hy => by
          rw [votesAt_get r gs (by omega)]
          refine wsum_congr fun g hg => ?_
          have hb := (h.ballots g hg).1
          unfold isTop isTopM
          rw [firstAt_congr fun z hz => hset z (hb.2 z hz).1 (hb.2 z hz).2]
        have hxm : x ∈ o := List.mem_of_mem_drop hx
        have hxb := q2.2 x hxm
        have hxn : ((x.toNat : Nat) : Int) = x := by omega
        have hlow := ((lowAt_iff _ _ _ _).1 hi3).2 x.toNat (by omega) (by rw [hxn, hset x hxb.1 hxb.2]; exact decide_eq_true hx)
        rw [hv i (by omega), hv x.toNat (by omega), hxn] at hlow
        rw [e2]
        exact hlow
theorem d34_ok {n : Int} {gs : List Grp} {N : Int} (h : PileOK n gs N) (h1 : 1 ≤ n) (hn : n ≤ 7) : ∃ out : List (List Int), d34 n gs = some out ∧ out.length ≤ 823543 ∧ ∀ o ∈ out, o.length = n.toNat ∧ isB n o ∧ lowest gs o 0 := by
  obtain ⟨out, e, hl, ho⟩ := orders_ok h h1 hn 10 (allOf n.toNat n.toNat) [] (allOf_len _ _) ⟨by simp, by simp⟩ (fun c hc hc' => by rw [rem_all (by omega) ⟨hc, hc'⟩]; simp) (by simp; omega)
  refine ⟨out, ?_, Nat.le_trans hl (Nat.le_trans (Nat.pow_le_pow_right (by omega) (show n.toNat - ([] : List Int).length ≤ 7 by simp; omega)) (by decide)), fun o hm => ⟨(ho o hm).1, (ho o hm).2.1, (ho o hm).2.2.2⟩⟩
  unfold d34 d88
  rw [d73_eq (by omega) hn]
  simp only [Option.bind_some, e]
/- NONE OF THEM IS CONTRADICTED -/
theorem wsum_mono {n : Int} : ∀ {gs : List Grp}, (∀ g ∈ gs, isB n g.1 ∧ 1 ≤ g.2) → ∀ {f h : List Int → Int}, (∀ g ∈ gs, f g.1 ≤ h g.1) → wsum f gs ≤ wsum h gs
  | [], _, f, h, _ => Int.le_refl _
  | g :: gs, hg, f, h, hf => by
    have ih := wsum_mono (fun x hx => hg x (List.mem_cons_of_mem _ hx)) fun x hx => hf x (List.mem_cons_of_mem _ hx)
    have h1 := (hg g (by simp)).2
    have h2 := hf g (by simp)
    have h3 := Int.mul_le_mul_of_nonneg_left h2 (show 0 ≤ g.2 by omega)
    unfold wsum
    omega
theorem firstAt_min (p : Int → Bool) {l : List Int} {i : Nat} (hi : i < l.length) (hp : p (l.getD i 0) = true) : firstAt p l ≤ i := by
  rcases Nat.lt_or_ge i (firstAt p l) with h | h
  · have := firstAt_lt p l i h
    rw [hp] at this
    cases this
  · exact h
theorem first_le_top {R : List Int} {A : Int} (hA : A ∈ R) (p : List Int) : isFirst A p ≤ isTopM R A p := by
  unfold isFirst isTopM
  by_cases c : p ≠ [] ∧ p.getD 0 0 = A
  · obtain ⟨c1, c2⟩ := c
    have hl : 0 < p.length := List.length_pos_iff.2 c1
    have h0 : firstAt (fun x => decide (x ∈ R)) p = 0 := by
      have := firstAt_min (fun x => decide (x ∈ R)) hl (by rw [c2]; exact decide_eq_true hA)
      omega
    rw [if_pos ⟨c1, c2⟩, if_pos (by rw [h0]; exact ⟨hl, c2⟩)]
    exact Int.le_refl _
  · rw [if_neg c]
    split <;> omega
theorem top_le_before {R : List Int} {A B : Int} (hA : A ∈ R) (hne : B ≠ A) (p : List Int) : isTopM R B p ≤ isBefore B A p := by
  unfold isTopM isBefore
  simp only
  by_cases c : firstAt (fun x => decide (x ∈ R)) p < p.length ∧ p.getD (firstAt (fun x => decide (x ∈ R)) p) 0 = B
  · obtain ⟨c1, c2⟩ := c
    have h1 := firstAt_min (fun z => decide (B = z)) c1 (by rw [c2]; simp)
    have h2 : p.length ≤ firstAt (fun z => decide (A = z)) p ∨ firstAt (fun z => decide (B = z)) p < firstAt (fun z => decide (A = z)) p := by
      rcases Nat.lt_or_ge (firstAt (fun z => decide (A = z)) p) p.length with h | h
      · refine .inr ?_
        have ha := firstAt_at _ _ h
        simp only [decide_eq_true_eq] at ha
        have h3 := firstAt_min (fun x => decide (x ∈ R)) h (by rw [← ha]; exact decide_eq_true hA)
        rcases Nat.lt_or_ge (firstAt (fun x => decide (x ∈ R)) p) (firstAt (fun z => decide (A = z)) p) with h4 | h4
        · omega
        · have h5 : firstAt (fun x => decide (x ∈ R)) p = firstAt (fun z => decide (A = z)) p := by omega
          rw [h5] at c2
          exact absurd (c2.symm.trans ha.symm) hne
      · exact .inl h
    rw [if_pos ⟨c1, c2⟩, if_pos ⟨by omega, h2⟩]
    exact Int.le_refl _
  · rw [if_neg c]
    split <;> omega
theorem topM_perm {M R : List Int} (h : M.Perm R) (c : Int) (p : List Int) : isTopM M c p = isTopM R c p := by
  unfold isTopM
  rw [firstAt_congr (p := fun x => decide (x ∈ M)) (q := fun x => decide (x ∈ R)) fun x _ => decide_eq_decide.2 h.mem_iff]
theorem right_none {n : Int} {gs : List Grp} {N : Int} (h : PileOK n gs N) (h1 : 1 ≤ n) {a : Asn} (hv : validB n a = true) (hk : a.1 = 1 ∨ a.1 = 2) (hf : (fav a gs).2 < (fav a gs).1) {o : List Int} (ho : isB n o) (hol : o.length = n.toNat) (hlow : lowest gs o 0) (j : Nat) :
    contr n a (o.drop j) = false := by
  cases hc : contr n a (o.drop j) with
  | false => rfl
  | true =>
    exfalso
    unfold contr at hc
    simp only [Bool.and_eq_true] at hc
    obtain ⟨_, hc⟩ := hc
    have hw := valid_who hv
    rcases hk with k | k
    · unfold fav at hf
      simp only [k, if_true, Bool.and_eq_true, decide_eq_true_eq, Bool.not_eq_true', decide_eq_false_iff_not] at hc hf
      obtain ⟨c1, c2⟩ := hc
      have hne : a.2.1 ≠ a.2.2.1 := by
        unfold validB at hv
        simp only [k, if_true, Bool.and_eq_true, decide_eq_true_eq] at hv
        exact hv.2.1.1
      obtain ⟨x, hx⟩ : ∃ x, firstAt (fun z => decide (a.2.2.1 = z)) (o.drop j) = x := ⟨_, rfl⟩
      have hat := firstAt_at _ _ c1
      rw [hx] at c1 c2 hat
      simp only [decide_eq_true_eq] at hat
      rw [List.length_drop] at c1
      rw [List.drop_drop] at c2
      have hB : o.getD (j + x) 0 = a.2.2.1 := by
        rw [hat]
        simp [List.getD_eq_getElem?_getD]
      have hA := full_isB (by omega) ho hol ⟨hw.1, hw.2.1⟩
      obtain ⟨i, hi, hie⟩ := List.getElem_of_mem hA
      have hil : i < j + x := by
        rcases Nat.lt_or_ge i (j + x) with h | h
        · exact h
        · refine absurd ?_ c2
          rw [← hie]
          refine List.mem_iff_getElem.2 ⟨i - (j + x), by simp; omega, ?_⟩
          rw [List.getElem_drop]
          congr 1
          omega
      have hAi : o.getD i 0 = a.2.1 := by rw [getD_get _ _ hi]; exact hie
      have hBm : a.2.2.1 ∈ o.drop i := by
        refine List.mem_iff_getElem.2 ⟨j + x - i, by simp; omega, ?_⟩
        rw [List.getElem_drop, ← hB, getD_get _ _ (by omega)]
        congr 1
        omega
      have hAm : a.2.1 ∈ o.drop i := by
        refine List.mem_iff_getElem.2 ⟨0, by simp; omega, ?_⟩
        rw [List.getElem_drop, ← hie]
        congr 1
      have h3 := hlow i (Nat.zero_le _) hi _ hBm
      rw [hAi] at h3
      have h4 := wsum_mono h.ballots (f := isFirst a.2.1) (h := isTopM (o.drop i) a.2.1) fun g _ => first_le_top hAm g.1
      have h5 := wsum_mono h.ballots (f := isTopM (o.drop i) a.2.2.1) (h := isBefore a.2.2.1 a.2.1) fun g _ => top_le_before hAm (Ne.symm hne) g.1
      omega
    · obtain ⟨m1, m2, m3, m4⟩ := valid_next hv k
      unfold fav at hf
      simp only [k, if_true, if_false, show ¬ (2 : Int) = 1 by omega, Bool.and_eq_true, decide_eq_true_eq] at hc hf
      obtain ⟨c1, c2, c3⟩ := hc
      have hpos : 0 < a.2.2.2.1.length := List.length_pos_of_mem m3
      unfold lastOf at c3
      rw [List.length_drop] at c1 c2 c3
      rw [List.drop_drop] at c3
      obtain ⟨i, hi⟩ : ∃ i, j + (o.length - j - a.2.2.2.1.length) = i := ⟨_, rfl⟩
      rw [hi] at c3
      have hA : o.getD i 0 = a.2.1 := by
        rw [← c2, ← hi]
        simp [List.getD_eq_getElem?_getD]
      have hp : a.2.2.2.1.Perm (o.drop i) := perm_of_sub _ _ (nodup_of_lt m1) c3 (by rw [List.length_drop]; omega)
      have h3 := hlow i (Nat.zero_le _) (by omega) _ (c3 _ m4)
      rw [hA] at h3
      have e1 : wsum (isTopM a.2.2.2.1 a.2.1) gs = wsum (isTopM (o.drop i) a.2.1) gs := wsum_congr fun g _ => topM_perm hp _ _
      have e2 : wsum (isTopM a.2.2.2.1 a.2.2.1) gs = wsum (isTopM (o.drop i) a.2.2.1) gs := wsum_congr fun g _ => topM_perm hp _ _
      omega
/- THE LAW -/
theorem d5_true {n : Int} {x : List (List Int)} {kind who whom among : Int} (hx : x.length ≤ 281474976710656) (hw : ∀ y ∈ x, WT y23 y)
    (hn : WT y2 n) (h1 : WT y2 kind) (h2 : WT y2 who) (h3 : WT y2 whom) (h4 : WT y2 among) : d5 n x kind who whom among = some true := by
  unfold d5
  rw [d18_eq hn (by omega) (by omega)]
  simp only [Option.bind_some]
  have b := mod_bounds n (n := 4) (by omega)
  have w1 : w (2 + n % 4) = 2 + n % 4 := w_id (by omega) (by omega)
  rw [w1]
  have hN : 2 ≤ 2 + n % 4 := by omega
  have hN' : 2 + n % 4 ≤ 7 := by omega
  generalize 2 + n % 4 = N at hN hN'
  have e20 : d20 x 24 = some (cuts x 24) := d20_eq hx hw (k := 24) (by omega)
  obtain ⟨cl, cw⟩ := cuts_wt (k := 24) hw
  have e19 : d19 N (cuts x 24) 24 = some (pileOf (bals N (cuts x 24) 24)) := d19_eq (n := N) (by omega) hN' (by omega) cw (most := 24) (by omega)
  have hbl := bals_len (n := N) (l := cuts x 24) (most := 24)
  have hbb := bals_isB (n := N) (by omega) (l := cuts x 24) (most := 24)
  have hp := (pileOf_ok (bals N (cuts x 24) 24) hbb (by omega)).1
  have b2 := mod_bounds kind (n := 2) (by omega)
  have hk2 : WT y2 (kind % 2) := wt_of (by omega) (by omega)
  have hml := mk_len (n := N) (k := kind % 2) (a := who) (b := whom) (m := among) (q := 0) hN'
  have hv := mk_valid (n := N) (k := kind % 2) (a := who) (b := whom) (m := among) (q := 0) hN hN'
  have hkk : (mk N (kind % 2) who whom among 0).1 = 1 ∨ (mk N (kind % 2) who whom among 0).1 = 2 := by
    have hm : kind % 2 = 0 ∨ kind % 2 = 1 := by omega
    unfold mk
    rcases hm with hm | hm <;> rw [hm]
    · exact .inl (by simp)
    · exact .inr (by simp)
  rw [e20]
  simp only [Option.bind_some]
  rw [e19]
  simp only [Option.bind_some]
  rw [d18_eq h1 (by omega) (by omega)]
  simp only [Option.bind_some]
  rw [d22_eq hN hN' hk2 h2 h3 h4 (wt_of (by omega) (by omega) : WT y2 0)]
  simp only [Option.bind_some]
  generalize mk N (kind % 2) who whom among 0 = a at hml hv hkk
  generalize pileOf (bals N (cuts x 24) 24) = gs at hp
  rw [d28_eq (hp.gs hN') (by omega)]
  have ht : tal N gs a = fav a gs := by
    unfold tal
    rw [hv, hp.pileB (by omega) hN']
    rfl
  simp only [Option.bind_some, ht]
  by_cases c : (fav a gs).2 < (fav a gs).1
  · simp only [c, decide_true, Bool.not_true, cond_false]
    obtain ⟨out, e34, hol, hout⟩ := d34_ok hp (by omega) hN'
    rw [e34]
    simp only [Option.bind_some]
    refine while_bind (b := .inl ()) (fun i => (N, a, out, (i : Int))) out.length rfl (fun i hi => ?_) ?_ (by rw [d17_eq]; rfl)
    · have h5 : (i : Int) < (out.length : Int) := by omega
      have h6 : (0 : Int) ≤ (i : Int) := by omega
      have hw : w ((i : Int) + 1) = ((i + 1 : Nat) : Int) := by rw [w_id (by omega) (by omega)]; omega
      have hom : out.getD i [] ∈ out := by rw [getD_get _ _ hi]; exact List.getElem_mem _
      obtain ⟨o1, o2, o3⟩ := hout _ hom
      simp only [h5, h6, hw, decide_true, cond_true, Bool.and_self, Int.toNat_natCast]
      refine while_bind (b := .inl (N, a, out, (i : Int))) (fun j => (N, a, out, (i : Int), (j : Int))) N.toNat rfl (fun j hj => ?_) ?_ (by simp only [hw])
      · have h7 : (j : Int) < N := by omega
        have hw' : w ((j : Int) + 1) = ((j + 1 : Nat) : Int) := by rw [w_id (by omega) (by omega)]; omega
        have hcut : cutOK (j : Int) ((out.getD i []).length : Int) (out.getD i []).length = true := cutOK_drop (by omega)
        simp only [h5, h6, h7, hw', hcut, decide_true, cond_true, Bool.and_self, Int.toNat_natCast, List.take_length]
        rw [d30_eq N (by omega) (by rw [List.length_drop]; omega), right_none hp (by omega) hv hkk c o2 o1 o3 j]
        rfl
      · have h8 : ¬ (((N.toNat : Nat) : Int) < N) := by omega
        simp only [h8, decide_false, cond_false]
    · have h9 : ¬ ((out.length : Int) < (out.length : Int)) := by omega
      simp only [h9, decide_false, cond_false]
  · have hbd := fav_bounds hp hv
    simp only [c, decide_false, Bool.not_false, cond_true, d17_eq, Option.bind_some]
    unfold d33
    rw [d24_eq (hp.gs hN') (by omega), ht]
    simp only [Option.bind_some]
    rw [w_id (by omega) (by omega)]
    have : (fav a gs).1 - (fav a gs).2 ≤ 0 := by omega
    simp only [this, decide_true]
end Go.Proofs.Ythemaffjohmhnaa
