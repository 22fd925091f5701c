/- Plain laws on the functions that the statements of the assorter reach: items, papers, and assertions that are spoilt. -/
import Derived.Test.YthemaffjohmhnaaP5
set_option linter.unusedSimpArgs false
set_option linter.unusedVariables false
open Go Go.Proofs Go.X
namespace Go.Proofs.Ythemaffjohmhnaa
abbrev Asn := Int × (Int × (Int × (List Int × Int)))
abbrev Itm := (Int × (Int × Int)) × (Bool × List Int)
def item (a : Asn) (x : Itm) : Int := if validB 7 a && x.2.1 then 1 else val a x.2.2
def paper (a : Asn) (p : Bool × List Int) : Int := if p.1 then 0 else val a p.2
theorem d97_eq {a : Asn} (ha : a.2.2.2.1.length ≤ 281474976710656) : d97 a = some (validB 7 a) := by
  unfold d97
  rw [d25_eq 7 ha]
  rfl
theorem upper_pos (a : Asn) : decide (0 < upper a) = validB 7 a := by
  unfold upper
  cases hv : validB 7 a
  · rfl
  · rcases valid_kinds hv with k | k | k
    · simp [k]
    · simp [k]
    · have := valid_quota hv k
      have h : (0 : Int) < a.2.2.2.2 := by omega
      simp [k, h]
theorem d49_eq {a : Asn} (ha : a.2.2.2.1.length ≤ 281474976710656) {x : Itm} (hx : x.2.2.length ≤ 281474976710656) : d49 a x = some (item a x) := by
  unfold d49 item letJ
  rw [d97_eq ha]
  simp only [Option.bind_some]
  rw [d45_eq ha hx]
  cases validB 7 a
  · simp
  · cases x.2.1 <;> simp
theorem d50_eq {a : Asn} (ha : a.2.2.2.1.length ≤ 281474976710656) {x : Itm} (hx : x.2.2.length ≤ 281474976710656) : d50 a x = some (item a x) := by
  unfold d50 item letJ
  rw [d47_eq ha]
  simp only [Option.bind_some]
  rw [upper_pos, d48_eq ha hx]
  cases x.2.1
  · simp
  · cases validB 7 a <;> simp
theorem d51_eq {a : Asn} (ha : a.2.2.2.1.length ≤ 281474976710656) {p : Bool × List Int} (hp : p.2.length ≤ 281474976710656) : d51 a p = some (paper a p) := by
  unfold d51 paper
  rw [d45_eq ha hp]
  cases p.1 <;> simp
theorem d52_eq {a : Asn} (ha : a.2.2.2.1.length ≤ 281474976710656) {p : Bool × List Int} (hp : p.2.length ≤ 281474976710656) : d52 a p = some (paper a p) := by
  unfold d52 paper
  rw [d48_eq ha hp]
  cases p.1 <;> simp
theorem d53_eq {a : Asn} (ha : a.2.2.2.1.length ≤ 281474976710656) {x : Itm} (hx : x.2.2.length ≤ 281474976710656) {p : Bool × List Int} (hp : p.2.length ≤ 281474976710656) : d53 a x p = some (w (item a x - paper a p)) := by
  unfold d53
  rw [d49_eq ha hx, d51_eq ha hp]
  rfl
theorem d21_eq {a : Asn} {u v : Int} (ha : a.2.2.2.1.length ≤ 1000) (hu : WT y2 u) (hv : WT y2 v) : ∃ b : Asn, d21 a u v = some b ∧ b.2.2.2.1.length ≤ a.2.2.2.1.length + 1 := by
  unfold d21 letJ
  have b8 := mod_bounds u (n := 8) (by omega)
  have l1 : (([] : List Int).length : Int) + (a.2.2.2.1.length : Int) ≤ LIM := by rw [LIM_eq]; simp; omega
  have l2 : ∀ z : Int, (a.2.2.2.1.length : Int) + (([z] : List Int).length : Int) ≤ LIM := fun z => by rw [LIM_eq]; simp; omega
  rw [d18_eq hu (by omega) (by omega), d18_eq hv (by omega) (by omega), d18_eq hv (by omega) (by omega), d18_eq hv (by omega) (by omega)]
  simp only [l1, decide_true, cond_true, Option.bind_some]
  generalize u % 8 = r
  by_cases c0 : r = 0
  · simp only [c0, decide_true, cond_true]
    exact ⟨_, rfl, by show a.2.2.2.1.length ≤ _; omega⟩
  · by_cases c1 : r = 1
    · simp only [c1, decide_true, cond_true, show ¬ (1 : Int) = 0 by omega, decide_false, cond_false]
      exact ⟨_, rfl, by show a.2.2.2.1.length ≤ _; omega⟩
    · by_cases c2 : r = 2
      · simp only [c0, c1, c2, decide_true, cond_true, decide_false, cond_false, show ¬ (2 : Int) = 0 by omega, show ¬ (2 : Int) = 1 by omega]
        exact ⟨_, rfl, by show a.2.2.2.1.length ≤ _; omega⟩
      · by_cases c3 : r = 3
        · simp only [c3, decide_true, cond_true, decide_false, cond_false, show ¬ (3 : Int) = 0 by omega, show ¬ (3 : Int) = 1 by omega, show ¬ (3 : Int) = 2 by omega]
          exact ⟨_, rfl, by show a.2.2.2.1.length ≤ _; omega⟩
        · by_cases c4 : r = 4
          · simp only [c4, decide_true, cond_true, decide_false, cond_false, show ¬ (4 : Int) = 0 by omega, show ¬ (4 : Int) = 1 by omega, show ¬ (4 : Int) = 2 by omega, show ¬ (4 : Int) = 3 by omega, l2]
            exact ⟨_, rfl, by show (a.2.2.2.1 ++ [_]).length ≤ _; simp⟩
          · by_cases c5 : r = 5
            · simp only [c5, decide_true, cond_true, decide_false, cond_false, show ¬ (5 : Int) = 0 by omega, show ¬ (5 : Int) = 1 by omega, show ¬ (5 : Int) = 2 by omega, show ¬ (5 : Int) = 3 by omega, show ¬ (5 : Int) = 4 by omega]
              exact ⟨_, rfl, by show ([] : List Int).length ≤ _; simp⟩
            · simp only [c0, c1, c2, c3, c4, c5, decide_false, cond_false]
              exact ⟨_, rfl, by show a.2.2.2.1.length ≤ _; omega⟩
theorem mk_len {n k a b m q : Int} (hn' : n ≤ 7) : (mk n k a b m q).2.2.2.1.length ≤ 7 := by
  unfold mk
  split
  · simp
  · split
    · have := (amL_lt (a % n) ((a % n + 1 + b % (n - 1)) % n) (m % 128) n.toNat).1
      show (amL _ _ _ _).length ≤ 7
      omega
    · simp
theorem bal_len (n : Int) (l : List Int) : (bal n l).length ≤ l.length := by
  have h1 := outs_len n l (firstN (fun i => decide (n ≤ ((outs n l i).length : Int))) l.length)
  have h2 := firstN_le (fun i => decide (n ≤ ((outs n l i).length : Int))) l.length
  unfold bal
  omega
theorem d10_true {a : Asn} {x : Itm} {p : Bool × List Int} {raw : Bool} {n kind who whom among quota u v : Int} (ha : a.2.2.2.1.length ≤ 281474976710656) (hx : WT y23 x.2.2) (hp : WT y23 p.2)
    (hn : WT y2 n) (h1 : WT y2 kind) (h2 : WT y2 who) (h3 : WT y2 whom) (h4 : WT y2 among) (h5 : WT y2 quota) (h6 : WT y2 u) (h7 : WT y2 v) : d10 a x p raw n kind who whom among quota u v = some true := by
  have hxl := wt_len hx
  have hpl := wt_len hp
  unfold d10
  simp only [d44_eq, Option.bind_some, cond_true]
  have main : ∀ (a : Asn) (x : Itm) (p : Bool × List Int), a.2.2.2.1.length ≤ 281474976710656 → x.2.2.length ≤ 281474976710656 → p.2.length ≤ 281474976710656 →
      ((d46 a).bind fun r_7 => (d47 a).bind fun r_8 => bif (decide (r_7 = r_8)) then (d45 a x.2.2).bind fun r_9 => (d48 a x.2.2).bind fun r_10 =>
        bif (decide (r_9 = r_10)) then (d49 a x).bind fun r_11 => (d50 a x).bind fun r_12 => bif (decide (r_11 = r_12)) then (d51 a p).bind fun r_13 => (d52 a p).bind fun r_14 =>
        bif (decide (r_13 = r_14)) then (d53 a x p).bind fun r_15 => (d50 a x).bind fun r_16 => (d52 a p).bind fun r_17 => some (decide (r_15 = (w (r_16 - r_17))))
        else some false else some false else some false else some false) = some true := by
    intro a x p ha hx hp
    simp only [d46_eq ha, d47_eq ha, d45_eq ha hx, d48_eq ha hx, d49_eq ha hx, d50_eq ha hx, d51_eq ha hp, d52_eq ha hp, d53_eq ha hx hp, Option.bind_some, decide_true, cond_true]
  simp only [letJ]
  have done : ∀ b : Bool, (bif b then some true else bif !raw then (d18 n 6).bind fun r_1 => (d22 (w (2 + r_1)) kind who whom among quota).bind fun r_2 => (d21 r_2 u v).bind fun r_3 =>
          (d29 (w (2 + r_1)) x.2.2).bind fun r_4 => (d29 (w (2 + r_1)) p.2).bind fun r_5 => 
          ((d46 r_3).bind fun r_7 => (d47 r_3).bind fun r_8 => bif (decide (r_7 = r_8)) then (d45 r_3 r_4).bind fun r_9 => (d48 r_3 r_4).bind fun r_10 =>
        bif (decide (r_9 = r_10)) then (d49 r_3 (x.1, x.2.1, r_4)).bind fun r_11 => (d50 r_3 (x.1, x.2.1, r_4)).bind fun r_12 => bif (decide (r_11 = r_12)) then (d51 r_3 (p.1, r_5)).bind fun r_13 => (d52 r_3 (p.1, r_5)).bind fun r_14 =>
        bif (decide (r_13 = r_14)) then (d53 r_3 (x.1, x.2.1, r_4) (p.1, r_5)).bind fun r_15 => (d50 r_3 (x.1, x.2.1, r_4)).bind fun r_16 => (d52 r_3 (p.1, r_5)).bind fun r_17 => some (decide (r_15 = (w (r_16 - r_17))))
        else some false else some false else some false else some false)
      else ((d46 a).bind fun r_7 => (d47 a).bind fun r_8 => bif (decide (r_7 = r_8)) then (d45 a x.2.2).bind fun r_9 => (d48 a x.2.2).bind fun r_10 =>
        bif (decide (r_9 = r_10)) then (d49 a x).bind fun r_11 => (d50 a x).bind fun r_12 => bif (decide (r_11 = r_12)) then (d51 a p).bind fun r_13 => (d52 a p).bind fun r_14 =>
        bif (decide (r_13 = r_14)) then (d53 a x p).bind fun r_15 => (d50 a x).bind fun r_16 => (d52 a p).bind fun r_17 => some (decide (r_15 = (w (r_16 - r_17))))
        else some false else some false else some false else some false) : Option Bool) = some true := by
    intro b
    cases b
    · cases raw
      · simp only [cond_false, Bool.not_false, cond_true]
        rw [d18_eq hn (by omega) (by omega)]
        simp only [Option.bind_some]
        have b := mod_bounds n (n := 6) (by omega)
        have w1 : w (2 + n % 6) = 2 + n % 6 := w_id (by omega) (by omega)
        rw [w1]
        have hN : 2 ≤ 2 + n % 6 := by omega
        have hN' : 2 + n % 6 ≤ 7 := by omega
        generalize 2 + n % 6 = N at hN hN'
        rw [d22_eq hN hN' h1 h2 h3 h4 h5]
        simp only [Option.bind_some]
        have hm := mk_len (n := N) (k := kind) (a := who) (b := whom) (m := among) (q := quota) hN'
        obtain ⟨a', e, hl⟩ := d21_eq (a := mk N kind who whom among quota) (by omega) h6 h7
        rw [e]
        simp only [Option.bind_some]
        rw [d29_eq (by omega) (by omega) hx, d29_eq (by omega) (by omega) hp]
        simp only [Option.bind_some]
        have l1 := bal_len N x.2.2
        have l2 := bal_len N p.2
        exact main a' (x.1, x.2.1, bal N x.2.2) (p.1, bal N p.2) (by omega) (by show (bal N x.2.2).length ≤ _; omega) (by show (bal N p.2).length ≤ _; omega)
      · exact main a x p ha hxl hpl
    · rfl
  cases h9 : decide (9 < (a.2.2.2.1.length : Int))
  · cases h9' : decide (9 < (x.2.2.length : Int))
    · exact done _
    · rfl
  · rfl
end Go.Proofs.Ythemaffjohmhnaa
