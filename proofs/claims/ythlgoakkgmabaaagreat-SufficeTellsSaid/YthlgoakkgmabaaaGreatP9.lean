/- Plain laws on piles of ballots: votes for the first remaining candidates, tallies and margins of assertions. -/
import Derived.Test.YthlgoakkgmabaaaGreatP8
set_option linter.unusedSimpArgs false
set_option linter.unusedVariables false
open Go Go.Proofs Go.X
namespace Go.Proofs.YthlgoakkgmabaaaGreat
/-- Whether c remains. -/
def rem (r : List Bool) (c : Int) : Bool := if c < (r.length : Int) then r.getD (Int.toNat c) false else false
theorem firstAt_congr {p q : Int → Bool} : ∀ {l : List Int}, (∀ x ∈ l, p x = q x) → firstAt p l = firstAt q l
  | [], _ => rfl
  | x :: l, h => by
    unfold firstAt
    rw [h x (by simp), firstAt_congr fun y hy => h y (List.mem_cons_of_mem _ hy)]
/-- The first that remains is c. -/
def isTop (r : List Bool) (c : Int) (p : List Int) : Int := if firstAt (rem r) p < p.length ∧ p.getD (firstAt (rem r) p) 0 = c then 1 else 0
def votesAt (r : List Bool) (gs : List Grp) : List Int := (List.range r.length).map fun (c : Nat) => wsum (isTop r (c : Int)) gs
theorem votesAt_len (r : List Bool) (gs : List Grp) : (votesAt r gs).length = r.length := by simp [votesAt]
theorem votesAt_get (r : List Bool) (gs : List Grp) {c : Nat} (h : c < r.length) : (votesAt r gs).getD c 0 = wsum (isTop r (c : Int)) gs := by
  rw [getD_get _ _ (by rw [votesAt_len]; exact h)]
  simp [votesAt]
def none1 (r : List Bool) (p : List Int) : Int := if firstAt (rem r) p < p.length then 0 else 1
def remOf (n : Nat) (m : List Int) : Nat → List Bool
  | 0 => List.replicate n false
  | i + 1 => (remOf n m i).set (Int.toNat (m.getD i 0)) true
theorem remOf_len (n : Nat) (m : List Int) : ∀ i, (remOf n m i).length = n
  | 0 => by simp [remOf]
  | i + 1 => by unfold remOf; rw [List.length_set]; exact remOf_len n m i
theorem rem_remOf (n : Nat) (m : List Int) (hb : ∀ x ∈ m, 0 ≤ x ∧ x < (n : Int)) {c : Int} (hc : 0 ≤ c ∧ c < (n : Int)) : ∀ i, i ≤ m.length → rem (remOf n m i) c = decide (c ∈ m.take i)
  | 0, _ => by
    have : c < ((List.replicate n false).length : Int) := by simp; omega
    unfold rem remOf
    rw [if_pos this, getD_get _ _ (by simp; omega)]
    simp
  | i + 1, hi => by
    have ih := rem_remOf n m hb hc i (by omega)
    have hl := remOf_len n m i
    have hl' := remOf_len n m (i + 1)
    have hx := hb (m.getD i 0) (by rw [getD_get m 0 (by omega)]; exact List.getElem_mem _)
    rw [Bool.eq_iff_iff, decide_eq_true_iff] at ih
    unfold rem at ih ⊢
    rw [hl, if_pos (by omega)] at ih
    rw [hl', if_pos (by omega), Bool.eq_iff_iff, decide_eq_true_iff, take_get m 0 (by omega), List.mem_append, ← ih]
    rw [show remOf n m (i + 1) = (remOf n m i).set (Int.toNat (m.getD i 0)) true from rfl, List.getD_eq_getElem?_getD, List.getElem?_set, hl]
    generalize m.getD i 0 = x at hx
    by_cases e : x.toNat = c.toNat
    · have e' : c = x := by omega
      rw [if_pos e, if_pos (by omega)]
      simp [e']
    · have e' : ¬ c = x := fun h => e (by rw [h])
      rw [if_neg e]
      simp [e', List.getD_eq_getElem?_getD]
/-- The first of a ballot that is in m is c. -/
def isTopM (m : List Int) (c : Int) (p : List Int) : Int := if firstAt (fun x => decide (x ∈ m)) p < p.length ∧ p.getD (firstAt (fun x => decide (x ∈ m)) p) 0 = c then 1 else 0
theorem wsum_congr {f g : List Int → Int} : ∀ {gs : List Grp}, (∀ x ∈ gs, f x.1 = g x.1) → wsum f gs = wsum g gs
  | [], _ => rfl
  | a :: gs, h => by
    unfold wsum
    rw [h a (by simp), wsum_congr fun x hx => h x (List.mem_cons_of_mem _ hx)]
end Go.Proofs.YthlgoakkgmabaaaGreat
