/- Plain laws on the records of the assorter's laws: ballots, items, papers, tallies, piles that are made. -/
import Derived.Test.YthlgoakkgmabaaaGreatP10
set_option linter.unusedSimpArgs false
set_option linter.unusedVariables false
open Go Go.Proofs Go.X
namespace Go.Proofs.YthlgoakkgmabaaaGreat
theorem wt_part {l : List Int} (h : WT (.slice (.int .i64)) l) (k : Nat) : WT (.slice (.int .i64)) (l.take k) := ⟨by have := h.1; simp; omega, fun x hx => h.2 x (List.mem_of_mem_take hx)⟩
theorem wt_rest {l : List Int} (h : WT (.slice (.int .i64)) l) (k : Nat) : WT (.slice (.int .i64)) (l.drop k) := ⟨by have := h.1; simp; omega, fun x hx => h.2 x (List.mem_of_mem_drop hx)⟩
theorem d18_gen {l : List Int} (hl : WT (.slice (.int .i64)) l) (k : Nat) (hk : k ≤ 1000) : d18 l (k : Int) = some (l.take k) := by
  have h := wt_len hl
  unfold d18
  by_cases h9 : k < l.length
  · have h1 : (k : Int) < (l.length : Int) := by omega
    simp only [h1, decide_true, cond_true, cutOK_take (Nat.le_of_lt h9), Int.toNat_natCast, List.drop_zero]
  · have h1 : ¬ (k : Int) < (l.length : Int) := by omega
    simp only [h1, decide_false, cond_false, cutOK_take (Nat.le_refl _), cond_true, Int.toNat_natCast, List.drop_zero]
    rw [List.take_of_length_le (by omega), List.take_of_length_le (by omega)]
theorem bal_isB {n : Int} (hn : 0 < n) (l : List Int) : isB n (bal n l) := ⟨outs_nodup n l _, fun x hx => outs_in hn l _ x hx⟩
/- BALLOTS -/
def balF (n : Int) (x : List Int) : List Int := bal n (x.take 12)
def bals (n : Int) (l : List (List Int)) (most : Nat) : List (List Int) := (l.take most).map (balF n)
theorem lim_small {α : Type} (l : List α) (z : α) (h : l.length ≤ 1000000) : ((l.length : Int) + (([z] : List α).length : Int) ≤ LIM) := by rw [LIM_eq]; simp; omega
theorem d24_eq {n : Int} (hn : 0 < n) (hn' : n ≤ 7) {l : List (List Int)} (hl : l.length ≤ 281474976710656) (hw : ∀ x ∈ l, WT (.slice (.int .i64)) x) {most : Nat} (hm : most ≤ 100) : d24 n l (most : Int) = some (bals n l most) := by
  unfold d24
  refine while_bind (b := bals n l most) (fun i => (n, l, (most : Int), (l.take i).map (balF n), (i : Int))) (min l.length most) rfl (fun i hi => ?_) ?_ rfl
  · have h1 : (i : Int) < (l.length : Int) := by omega
    have h2 : (i : Int) < (most : Int) := by omega
    have h3 : (0 : Int) ≤ (i : Int) := by omega
    have hwi : w ((i : Int) + 1) = ((i + 1 : Nat) : Int) := by rw [w_id (by omega) (by omega)]; omega
    have hx := hw (l.getD i []) (by rw [getD_get l [] (by omega)]; exact List.getElem_mem _)
    have ht := take_get l [] (by omega : i < l.length)
    simp only [h1, h2, h3, hwi, letJ, decide_true, cond_true, Bool.and_self, Int.toNat_natCast]
    obtain ⟨x, hxd⟩ : ∃ x, l.getD i [] = x := ⟨_, rfl⟩
    simp only [hxd] at hx ht ⊢
    have hc : cutOK 0 (bif decide (12 < (x.length : Int)) then 12 else (x.length : Int)) x.length = true ∧ List.drop 0 (List.take (Int.toNat (bif decide (12 < (x.length : Int)) then 12 else (x.length : Int))) x) = x.take 12 := by
      by_cases c : 12 < x.length
      · have c' : (12 : Int) < (x.length : Int) := by omega
        simp only [c', decide_true, cond_true, List.drop_zero]
        exact ⟨cutOK_take (i := 12) (by omega), rfl⟩
      · have c' : ¬ (12 : Int) < (x.length : Int) := by omega
        simp only [c', decide_false, cond_false, List.drop_zero, Int.toNat_natCast]
        exact ⟨cutOK_take (Nat.le_refl _), by rw [List.take_of_length_le (Nat.le_refl _), List.take_of_length_le (by omega)]⟩
    rw [hc.1, hc.2, d9_eq hn (by omega) (wt_part hx 12)]
    have hlim := lim_small ((l.take i).map (balF n)) (bal n (x.take 12)) (by simp; omega)
    simp only [cond_true, Option.bind_some, hlim, decide_true, ht, List.map_append, List.map_cons, List.map_nil]
    rfl
  · have hb : (l.take (min l.length most)).map (balF n) = bals n l most := by
      unfold bals
      congr 1
      by_cases c : l.length ≤ most
      · rw [Nat.min_eq_left c, List.take_of_length_le (Nat.le_refl _), List.take_of_length_le c]
      · rw [Nat.min_eq_right (by omega)]
    simp only [letJ, hb]
    by_cases c : l.length ≤ most
    · have h1 : ¬ ((min l.length most : Nat) : Int) < (l.length : Int) := by omega
      simp only [h1, decide_false, cond_false]
    · have h1 : ((min l.length most : Nat) : Int) < (l.length : Int) := by omega
      have h2 : ¬ ((min l.length most : Nat) : Int) < (most : Int) := by omega
      simp only [h1, h2, decide_true, decide_false, cond_true, cond_false]
theorem bals_isB {n : Int} (hn : 0 < n) {l : List (List Int)} {most : Nat} : ∀ b ∈ bals n l most, isB n b := fun b hb => by
  obtain ⟨x, _, rfl⟩ := List.mem_map.1 hb
  exact bal_isB hn _
theorem bals_len {n : Int} {l : List (List Int)} {most : Nat} : (bals n l most).length ≤ most := by simp [bals]; omega
/- ITEMS -/
def itemOf (ph : List Bool) (bs : List (List Int)) (i : Nat) : Itm := if ph.getD i false then ((0, 0, 0), true, []) else ((1, (w (1 + (w (Int.tdiv (i : Int) 16)))), (w (Int.tmod (i : Int) 16))), false, bs.getD i [])
def itemsOf (ph : List Bool) (bs : List (List Int)) : List Itm := (List.range bs.length).map (itemOf ph bs)
theorem itemsOf_len (ph : List Bool) (bs : List (List Int)) : (itemsOf ph bs).length = bs.length := by simp [itemsOf]
theorem itemsOf_isB {n : Int} {ph : List Bool} {bs : List (List Int)} (h : ∀ b ∈ bs, isB n b) : ∀ x ∈ itemsOf ph bs, isB n x.2.2 := fun x hx => by
  obtain ⟨i, hi, rfl⟩ := List.mem_map.1 hx
  unfold itemOf
  split
  · exact ⟨List.nodup_nil, fun x hx => by cases hx⟩
  · have := List.mem_range.1 hi
    show isB n (bs.getD i [])
    rw [getD_get bs [] this]
    exact h _ (List.getElem_mem _)
/- TALLIES -/
def isum (a : Asn) : List Itm → Int
  | [] => 0
  | x :: l => item a x + isum a l
theorem isum_app (a : Asn) : ∀ l m, isum a (l ++ m) = isum a l + isum a m
  | [], m => by simp [isum]
  | x :: l, m => by have := isum_app a l m; simp only [List.cons_append, isum, this]; omega
theorem val_range {a : Asn} (h : validB 7 a = true) (p : List Int) : 0 ≤ val a p ∧ val a p ≤ upper a := by
  by_cases hp : isB 7 p
  · exact val_bounds h hp
  · have e : val a p = val a [] := by
      unfold val
      rw [ballotB_eq, decide_eq_false hp]
      have : ballotB [] = true := by rw [ballotB_eq]; exact decide_eq_true ⟨List.nodup_nil, fun x hx => by cases hx⟩
      simp only [this]
      simp
    rw [e]
    exact val_bounds h ⟨List.nodup_nil, fun x hx => by cases hx⟩
theorem item_range {a : Asn} (h : validB 7 a = true) (x : Itm) : 0 ≤ item a x ∧ item a x ≤ upper a := by
  have h1 := val_range h x.2.2
  have h2 := upper_bounds h
  unfold item
  split <;> omega
theorem isum_range {a : Asn} (h : validB 7 a = true) : ∀ l : List Itm, 0 ≤ isum a l ∧ isum a l ≤ 6 * (l.length : Int)
  | [] => by simp [isum]
  | x :: l => by
    have h1 := isum_range h l
    have h2 := item_range h x
    have h3 := upper_bounds h
    simp only [isum, List.length_cons]
    omega
def tally (a : Asn) (items : List Itm) : Int × (Int × Int) := if validB 7 a ∧ items.length ≤ 1024 then ((items.length : Int), isum a items - (items.length : Int), upper a) else (0, 0, 0)
/- PILES THAT ARE MADE -/
def pileOf (bs : List (List Int)) : List Grp := bs.foldl (fun gs b => addG gs b 1) []
def bsum (f : List Int → Int) : List (List Int) → Int
  | [] => 0
  | b :: bs => f b + bsum f bs
theorem bsum_app (f : List Int → Int) : ∀ a b, bsum f (a ++ b) = bsum f a + bsum f b
  | [], b => by simp [bsum]
  | x :: a, b => by have := bsum_app f a b; simp only [List.cons_append, bsum, this]; omega
theorem pileOf_snoc (bs : List (List Int)) (b : List Int) : pileOf (bs ++ [b]) = addG (pileOf bs) b 1 := by simp [pileOf]
theorem pileOf_ok {n : Int} (bs : List (List Int)) (hb : ∀ b ∈ bs, isB n b) (hl : bs.length ≤ 100000) : PileOK n (pileOf bs) (bs.length : Int) ∧ ∀ f, wsum f (pileOf bs) = bsum f bs := by
  have key : ∀ k, k ≤ bs.length → PileOK n (pileOf (bs.take k)) (k : Int) ∧ ∀ f, wsum f (pileOf (bs.take k)) = bsum f (bs.take k) := by
    intro k
    induction k with
    | zero => intro _; exact ⟨PileOK.nil n, fun f => rfl⟩
    | succ k ih =>
      intro hk
      obtain ⟨h1, h2⟩ := ih (by omega)
      have ht := take_get bs [] (by omega : k < bs.length)
      have hm := hb (bs.getD k []) (by rw [getD_get bs [] (by omega)]; exact List.getElem_mem _)
      rw [ht, pileOf_snoc]
      refine ⟨?_, fun f => by rw [wsum_addG, h2 f, bsum_app]; simp [bsum]⟩
      have := h1.add hm (by omega)
      rwa [show (k : Int) + 1 = ((k + 1 : Nat) : Int) by omega] at this
  have := key bs.length (Nat.le_refl _)
  rwa [List.take_length] at this
theorem d23_eq {n : Int} (h1 : 1 ≤ n) (hn : n ≤ 7) {bs : List (List Int)} (hb : ∀ b ∈ bs, isB n b) (hl : bs.length ≤ 100000) : d23 n bs = some (pileOf bs, 0) := by
  unfold d23 letJ
  have c1 : ¬ n < 1 := by omega
  have c2 : ¬ 7 < n := by omega
  have c3 : ¬ (100000 : Int) < (bs.length : Int) := by omega
  simp only [c1, c2, c3, decide_false, Bool.not_false, cond_true, cond_false]
  refine while_bind (b := .inl (pileOf bs)) (fun i => (n, bs, pileOf (bs.take i), (i : Int))) bs.length rfl (fun i hi => ?_) ?_ rfl
  · have h2 : (i : Int) < (bs.length : Int) := by omega
    have h3 : (0 : Int) ≤ (i : Int) := by omega
    have hwi : w ((i : Int) + 1) = ((i + 1 : Nat) : Int) := by rw [w_id (by omega) (by omega)]; omega
    have hm := hb (bs.getD i []) (by rw [getD_get bs [] hi]; exact List.getElem_mem _)
    have hbl := isB_len hm hn
    have ht := take_get bs [] hi
    have hp := (pileOf_ok (bs.take i) (fun b h => hb b (List.mem_of_mem_take h)) (by simp; omega)).1
    simp only [h2, h3, hwi, decide_true, cond_true, Bool.and_self, Int.toNat_natCast, ht, pileOf_snoc]
    obtain ⟨x, hxd⟩ : ∃ x, bs.getD i [] = x := ⟨_, rfl⟩
    simp only [hxd] at hm hbl ⊢
    have hlim : (([] : List Int).length : Int) + (x.length : Int) ≤ LIM := by rw [LIM_eq]; simp; omega
    rw [d37_eq n (by omega), hp.d44 hn hm]
    simp only [hm, hlim, decide_true, cond_true, Bool.not_true, cond_false, Option.bind_some]
  · have h1 : ¬ ((bs.length : Int) < (bs.length : Int)) := by omega
    simp only [h1, decide_false, cond_false, List.take_length]
theorem d11_eq {n : Int} (h1 : 1 ≤ n) (hn : n ≤ 7) {l : List (List Int)} (hl : l.length ≤ 281474976710656) (hw : ∀ x ∈ l, WT (.slice (.int .i64)) x) {most : Nat} (hm : most ≤ 100) : d11 n l (most : Int) = some (pileOf (bals n l most)) := by
  have hbl := bals_len (n := n) (l := l) (most := most)
  unfold d11
  rw [d24_eq (by omega) hn hl hw hm]
  simp only [Option.bind_some]
  rw [d23_eq h1 hn (bals_isB (by omega)) (by omega)]
  rfl
/- PAPERS -/
def paperOf (n : Int) (items : List Itm) (changed : List (List Int)) (missing : List Bool) (i : Nat) : Bool × List Int :=
  if missing.getD i false then (true, []) else (false, if 0 < (changed.getD i []).length then bal n (((changed.getD i []).drop 1).take 8) else (items.getD i ((0, 0, 0), false, [])).2.2)
def papersOf (n : Int) (items : List Itm) (changed : List (List Int)) (missing : List Bool) : List (Bool × List Int) := (List.range items.length).map (paperOf n items changed missing)
theorem papersOf_len (n : Int) (items : List Itm) (changed : List (List Int)) (missing : List Bool) : (papersOf n items changed missing).length = items.length := by simp [papersOf]
theorem papersOf_isB {n : Int} (hn : 0 < n) {items : List Itm} {changed : List (List Int)} {missing : List Bool} (h : ∀ x ∈ items, isB n x.2.2) : ∀ p ∈ papersOf n items changed missing, isB n p.2 := fun p hp => by
  obtain ⟨i, hi, rfl⟩ := List.mem_map.1 hp
  have hi := List.mem_range.1 hi
  unfold paperOf
  split
  · exact ⟨List.nodup_nil, fun x hx => by cases hx⟩
  · split
    · exact bal_isB hn _
    · show isB n (items.getD i ((0, 0, 0), false, [])).2.2
      rw [getD_get items _ hi]
      exact h _ (List.getElem_mem _)
end Go.Proofs.YthlgoakkgmabaaaGreat
