/- Plain laws on the functions that the statements of the assorter reach: third part. -/
import Derived.Test.YthemaffjohmhnaaP2
set_option linter.unusedSimpArgs false
set_option linter.unusedVariables false
open Go Go.Proofs Go.X
namespace Go.Proofs.Ythemaffjohmhnaa
/- BALLOTS -/
def seenAt (l : List Int) : Nat → List Bool
  | 0 => [false, false, false, false, false, false, false]
  | i + 1 => (seenAt l i).set (Int.toNat (l.getD i 0)) true
def badB (l : List Int) (i : Nat) : Bool := decide (l.getD i 0 < 0) || decide (7 ≤ l.getD i 0) || (seenAt l i).getD (Int.toNat (l.getD i 0)) false
def ballotB (l : List Int) : Bool := decide (¬ firstN (badB l) l.length < l.length)
theorem d96_eq {l : List Int} (hl : l.length ≤ 281474976710656) : d96 l = some (if ballotB l then l else []) := by
  unfold d96
  have hle := firstN_le (badB l) l.length
  have hstep : ∀ i : Nat, i < l.length → w ((i : Int) + 1) = ((i + 1 : Nat) : Int) := fun i hi => by rw [w_id (by omega) (by omega)]; omega
  have body : ∀ i : Nat, i < l.length → (fun ((prefs_1, seen, t6, t7, t8) : (List Int) × (List Bool) × (List Int) × Int × Int) =>
      bif (decide (t8 < t7)) then
        bif (decide (0 ≤ t8) && decide (t8 < (t6.length : Int))) then
          letJ (fun ((prefs_2, seen_1, c, t6_1, t7_1, t8_1, t22) : (List Int) × (List Bool) × Int × (List Int) × Int × Int × Bool) =>
              bif t22 then
                some (Sum.inr (Sum.inr []))
              else
                bif (decide (0 ≤ c) && decide (c < 7)) then
                  some (Sum.inl (prefs_2, (List.set seen_1 (Int.toNat c) true), t6_1, t7_1, (w (t8_1 + 1))))
                else none) fun j_ =>
          bif !(decide ((List.getD t6 (Int.toNat t8) 0) < 0)) then
            bif !(decide (7 ≤ (List.getD t6 (Int.toNat t8) 0))) then
              bif (decide (0 ≤ (List.getD t6 (Int.toNat t8) 0)) && decide ((List.getD t6 (Int.toNat t8) 0) < 7)) then
                j_ (prefs_1, seen, (List.getD t6 (Int.toNat t8) 0), t6, t7, t8, (List.getD seen (Int.toNat (List.getD t6 (Int.toNat t8) 0)) false))
              else none
            else
              j_ (prefs_1, seen, (List.getD t6 (Int.toNat t8) 0), t6, t7, t8, true)
          else
            j_ (prefs_1, seen, (List.getD t6 (Int.toNat t8) 0), t6, t7, t8, true)
        else none
      else
        some (Sum.inr (Sum.inl prefs_1)) : (List Int) × (List Bool) × (List Int) × Int × Int → Option (((List Int) × (List Bool) × (List Int) × Int × Int) ⊕ ((List Int) ⊕ (List Int)))) (l, seenAt l i, l, (l.length : Int), (i : Int)) =
        if badB l i then some (.inr (.inr [])) else some (.inl (l, seenAt l (i + 1), l, (l.length : Int), ((i + 1 : Nat) : Int))) := fun i hi => by
    have h2 : (i : Int) < (l.length : Int) := by omega
    have h3 : (0 : Int) ≤ (i : Int) := by omega
    unfold badB letJ
    simp only [h2, h3, decide_true, cond_true, Bool.and_self, Int.toNat_natCast, hstep i hi]
    by_cases c1 : l.getD i 0 < 0
    · simp only [c1]; rfl
    · by_cases c2 : 7 ≤ l.getD i 0
      · simp only [c1, c2]; rfl
      · have c3 : 0 ≤ l.getD i 0 := by omega
        have c4 : l.getD i 0 < 7 := by omega
        simp only [c1, c2, c3, c4]
        cases (seenAt l i).getD (Int.toNat (l.getD i 0)) false <;> rfl
  by_cases h : firstN (badB l) l.length < l.length
  · refine while_bind (b := .inr []) (fun i => (l, seenAt l i, l, (l.length : Int), (i : Int))) (firstN (badB l) l.length) rfl (fun i hi => ?_) ?_ (by simp [ballotB, h])
    · have := body i (by omega)
      rw [firstN_lt _ _ i hi] at this
      exact this
    · have := body _ h
      rw [firstN_at _ _ h] at this
      exact this
  · have hall := (firstN_end (badB l) l.length).1 h
    refine while_bind (b := .inl l) (fun i => (l, seenAt l i, l, (l.length : Int), (i : Int))) l.length rfl (fun i hi => ?_) ?_ (by simp [ballotB, h])
    · have := body i hi
      rw [hall i hi] at this
      exact this
    · simp
/- VALUES -/
theorem d95_eq {a : Int × (Int × (Int × (List Int × Int)))} (hl : a.2.2.2.1.length ≤ 281474976710656) : d95 a = some (if validB 7 a then (if a.1 = 1 then .inl (a.2.1, a.2.2.1) else if a.1 = 2 then .inr (.inl (a.2.1, a.2.2.1, a.2.2.2.1)) else .inr (.inr (.inl (a.2.1, a.2.2.2.2)))) else .inr (.inr (.inr ()))) := by
  unfold d95 d97
  rw [d25_eq 7 hl]
  cases hv : validB 7 a
  · rfl
  · by_cases k1 : a.1 = 1
    · simp [k1]
    · by_cases k2 : a.1 = 2
      · simp [k2]
      · simp [k1, k2]
def vBeats (a b : Int) (l : List Int) : Int :=
  let x := if firstAt (fun z => decide (a = z)) l < l.length then (firstAt (fun z => decide (a = z)) l : Int) else -1
  let y := if firstAt (fun z => decide (b = z)) l < l.length then (firstAt (fun z => decide (b = z)) l : Int) else -1
  if x = 0 then 2 else if 0 ≤ y ∧ (x < 0 ∨ y < x) then 0 else 1
def vNext (a b : Int) (m l : List Int) : Int :=
  let r := firstAt (fun c => decide (c ∈ m)) l
  if r < l.length then (if l.getD r 0 = a then 2 else if l.getD r 0 = b then 0 else 1) else 1
def vQuota (a q : Int) (l : List Int) : Int := if l.length = 0 then 1 else if l.getD 0 0 = a then q else 0
def val (a : Int × (Int × (Int × (List Int × Int)))) (l : List Int) : Int :=
  let p := if ballotB l then l else []
  if validB 7 a then (if a.1 = 1 then vBeats a.2.1 a.2.2.1 p else if a.1 = 2 then vNext a.2.1 a.2.2.1 a.2.2.2.1 p else vQuota a.2.1 a.2.2.2.2 p) else 0
theorem d165_eq (k : Int × Int) {l : List Int} (hl : l.length ≤ 281474976710656) : d165 k l = some (vBeats k.1 k.2 l) := by
  unfold d165 vBeats letJ
  rw [d82_eq _ hl, d82_eq _ hl]
  simp only [Option.bind_some]
  generalize (if firstAt (fun z => decide (k.1 = z)) l < l.length then (firstAt (fun z => decide (k.1 = z)) l : Int) else -1) = x
  generalize (if firstAt (fun z => decide (k.2 = z)) l < l.length then (firstAt (fun z => decide (k.2 = z)) l : Int) else -1) = y
  by_cases c1 : x = 0
  · simp [c1]
  · by_cases c2 : 0 ≤ y
    · by_cases c3 : x < 0
      · simp [c1, c2, c3]
      · by_cases c4 : y < x
        · simp [c1, c2, c3, c4]
        · simp [c1, c2, c3, c4]
    · simp [c1, c2]
theorem d167_eq (k : Int × (Int × List Int)) (hk : k.2.2.length ≤ 281474976710656) {l : List Int} (hl : l.length ≤ 281474976710656) : d167 k l = some (vNext k.1 k.2.1 k.2.2 l) := by
  unfold d167 vNext letJ
  have hf : ∀ c, (fun a => d168 a k) c = some (decide (c ∈ k.2.2)) := fun c => by
    show d168 c k = _
    unfold d168
    rw [d78_eq c hk]
    rfl
  rw [d120_eq hf hl]
  simp only [Option.bind_some]
  by_cases h : firstAt (fun c => decide (c ∈ k.2.2)) l < l.length
  · have h1 : (0 : Int) ≤ (firstAt (fun c => decide (c ∈ k.2.2)) l : Int) := by omega
    have h2 : (firstAt (fun c => decide (c ∈ k.2.2)) l : Int) < (l.length : Int) := by omega
    simp only [h, if_true, h1, h2, decide_true, Bool.and_self, cond_true, Int.toNat_natCast]
    by_cases c1 : l.getD (firstAt (fun c => decide (c ∈ k.2.2)) l) 0 = k.1
    · simp only [c1]; rfl
    · by_cases c2 : l.getD (firstAt (fun c => decide (c ∈ k.2.2)) l) 0 = k.2.1
      · have c3 : ¬ k.2.1 = k.1 := by rw [← c2]; exact c1
        simp only [c1, c2]; simp [c3]
      · simp only [c1, c2]; rfl
  · simp [h]
theorem d170_eq (k : Int × Int) (l : List Int) : d170 k l = some (vQuota k.1 k.2 l) := by
  unfold d170 vQuota
  by_cases h : l.length = 0
  · have : l = [] := List.eq_nil_of_length_eq_zero h
    simp [this]
  · have h1 : ¬ (l.length : Int) = 0 := by omega
    have h2 : (0 : Int) < (l.length : Int) := by omega
    simp only [h, h1, h2]
    by_cases c : l.getD 0 0 = k.1
    · simp only [c]; rfl
    · simp only [c]; rfl
theorem d45_eq {a : Int × (Int × (Int × (List Int × Int)))} (ha : a.2.2.2.1.length ≤ 281474976710656) {l : List Int} (hl : l.length ≤ 281474976710656) : d45 a l = some (val a l) := by
  unfold d45 val
  rw [d95_eq ha, d96_eq hl]
  have hp : (if ballotB l then l else []).length ≤ 281474976710656 := by split <;> simp [hl]
  generalize (if ballotB l then l else []) = p at hp
  cases hv : validB 7 a
  · rfl
  · by_cases k1 : a.1 = 1
    · simp only [k1, if_true, Option.bind_some]
      show (d165 (a.2.1, a.2.2.1) p).bind (fun r => some r) = _
      rw [d165_eq _ hp]
      rfl
    · by_cases k2 : a.1 = 2
      · simp only [k2, if_true, Option.bind_some]
        show (d167 (a.2.1, a.2.2.1, a.2.2.2.1) p).bind (fun r => some r) = _
        rw [d167_eq _ ha hp]
        rfl
      · simp only [k1, k2, if_true, if_false, Option.bind_some]
        show (d170 (a.2.1, a.2.2.2.2) p).bind (fun r => some r) = _
        rw [d170_eq]
        rfl
def upper (a : Int × (Int × (Int × (List Int × Int)))) : Int := if validB 7 a then (if a.1 = 1 then 2 else if a.1 = 2 then 2 else a.2.2.2.2) else 0
theorem d46_eq {a : Int × (Int × (Int × (List Int × Int)))} (ha : a.2.2.2.1.length ≤ 281474976710656) : d46 a = some (upper a) := by
  unfold d46 upper
  rw [d95_eq ha]
  cases hv : validB 7 a
  · rfl
  · by_cases k1 : a.1 = 1
    · simp only [k1, if_true, Option.bind_some]; rfl
    · by_cases k2 : a.1 = 2
      · simp only [k2, if_true, Option.bind_some]; rfl
      · simp only [k1, k2, if_true, if_false, Option.bind_some]; rfl
theorem d44_eq : d44 = some true := by
  unfold d44
  rw [d45_eq (by simp) (by simp), d45_eq (by simp) (by simp), d45_eq (by simp) (by simp), d45_eq (by simp) (by simp), d46_eq (by simp)]
  decide
end Go.Proofs.Ythemaffjohmhnaa
