/- Plain laws: the sum of the values of the ballots less their number is the margin (AssorterMean), what was found (AssorterFound). -/
import Derived.Test.YthemaffjohmhnaaP11
set_option linter.unusedSimpArgs false
set_option linter.unusedVariables false
open Go Go.Proofs Go.X
namespace Go.Proofs.Ythemaffjohmhnaa
theorem bsum_sub1 (f : List Int → Int) : ∀ bs : List (List Int), bsum (fun p => f p - 1) bs = bsum f bs - (bs.length : Int)
  | [] => by simp [bsum]
  | b :: bs => by
    have := bsum_sub1 f bs
    simp only [bsum, this, List.length_cons]
    omega
theorem getD_nil (i : Nat) : ([] : List Bool).getD i false = false := by simp
theorem isum_plain (a : Asn) (bs : List (List Int)) : isum a (itemsOf [] bs) = bsum (val a) bs := by
  have key : ∀ k, k ≤ bs.length → isum a ((List.range k).map (itemOf [] bs)) = bsum (val a) (bs.take k) := by
    intro k
    induction k with
    | zero => intro _; rfl
    | succ k ih =>
      intro hk
      have e : item a (itemOf [] bs k) = val a (bs.getD k []) := by
        unfold itemOf item
        rw [getD_nil]
        simp
      rw [List.range_succ, List.map_append, isum_app, ih (by omega), take_get bs [] (by omega), bsum_app]
      simp only [List.map_cons, List.map_nil, isum, bsum, e]
  have := key bs.length (Nat.le_refl _)
  rwa [List.take_length] at this
theorem d15_true {n kind who whom among quota : Int} {x : List (List Int)} (hn : WT y2 n) (hx : x.length ≤ 281474976710656) (hw : ∀ y ∈ x, WT y23 y) (h1 : WT y2 kind) (h2 : WT y2 who) (h3 : WT y2 whom) (h4 : WT y2 among) (h5 : WT y2 quota) :
    d15 n x kind who whom among quota = some true := by
  unfold d15
  rw [d18_eq hn (by omega) (by omega)]
  simp only [Option.bind_some]
  have b := mod_bounds n (n := 6) (by omega)
  have w1 : w (2 + n % 6) = 2 + n % 6 := w_id (by omega) (by omega)
  rw [w1]
  have hN : 2 ≤ 2 + n % 6 := by omega
  have hN' : 2 + n % 6 ≤ 7 := by omega
  generalize 2 + n % 6 = N at hN hN'
  have hv := mk_valid (n := N) (k := kind) (a := who) (b := whom) (m := among) (q := quota) hN hN'
  have hml := mk_len (n := N) (k := kind) (a := who) (b := whom) (m := among) (q := quota) hN'
  rw [d22_eq hN hN' h1 h2 h3 h4 h5]
  simp only [Option.bind_some]
  generalize mk N kind who whom among quota = a at *
  have hv7 := valid_wide hN' hv
  have e54 := d54_eq (n := N) (by omega) hN' hx hw [] (by simp) (most := 40) (by omega)
  have e19 := d19_eq (n := N) (by omega) hN' hx hw (most := 40) (by omega)
  have e54' : d54 N x [] 40 = some (itemsOf [] (bals N x 40)) := e54
  have e19' : d19 N x 40 = some (pileOf (bals N x 40)) := e19
  rw [e54', e19']
  simp only [Option.bind_some]
  have hbl := bals_len (n := N) (l := x) (most := 40)
  have hbb := bals_isB (n := N) (by omega) (l := x) (most := 40)
  generalize bals N x 40 = bs at *
  obtain ⟨hp, hs⟩ := pileOf_ok bs hbb (by omega)
  have hil := itemsOf_len [] bs
  have hib := itemsOf_isB (ph := []) hbb
  have hiw : ∀ y ∈ itemsOf [] bs, y.2.2.length ≤ 281474976710656 := fun y hy => by have := isB_len (hib y hy) hN'; omega
  rw [d55_eq (by omega) (by omega) hiw, hp.d27 (by omega) hN' hv (by omega), d47_eq (by omega), hp.d28 (by omega) hN' hv (by omega), d44_eq]
  have hm : marg a (pileOf bs) = bsum (val a) bs - (bs.length : Int) := by
    unfold marg
    rw [hs, bsum_sub1]
  have ht : tally a (itemsOf [] bs) = ((bs.length : Int), bsum (val a) bs - (bs.length : Int), upper a) := by
    unfold tally
    rw [if_pos ⟨hv7, by omega⟩, isum_plain, hil]
  rw [ht, hm]
  simp only [Option.bind_some, hil, letJ, decide_true, Bool.not_true, Bool.not_false, cond_true, cond_false]
  cases decide (0 < bsum (val a) bs - (bs.length : Int)) <;> cases decide (a.1 = 3) <;> rfl
/- WHAT WAS FOUND -/
def psum (a : Asn) : List (Bool × List Int) → Int
  | [] => 0
  | p :: l => paper a p + psum a l
theorem psum_app (a : Asn) : ∀ l m, psum a (l ++ m) = psum a l + psum a m
  | [], m => by simp [psum]
  | x :: l, m => by have := psum_app a l m; simp only [List.cons_append, psum, this]; omega
def found (l : List (Bool × List Int)) : List (List Int) := (l.filter fun p => !p.1).map (·.2)
theorem found_app (l m : List (Bool × List Int)) : found (l ++ m) = found l ++ found m := by simp [found]
theorem found_len (l : List (Bool × List Int)) : (found l).length ≤ l.length := by
  unfold found
  rw [List.length_map]
  exact List.length_filter_le _ _
theorem paper_range {a : Asn} (h : validB 7 a = true) (p : Bool × List Int) : 0 ≤ paper a p ∧ paper a p ≤ upper a := by
  have h1 := val_range h p.2
  have h2 := upper_bounds h
  unfold paper
  split <;> omega
theorem psum_range {a : Asn} (h : validB 7 a = true) : ∀ l : List (Bool × List Int), 0 ≤ psum a l ∧ psum a l ≤ 6 * (l.length : Int)
  | [] => by simp [psum]
  | x :: l => by
    have h1 := psum_range h l
    have h2 := paper_range h x
    have h3 := upper_bounds h
    simp only [psum, List.length_cons]
    omega
theorem psum_found (a : Asn) : ∀ l : List (Bool × List Int), psum a l - (l.length : Int) ≤ bsum (fun p => val a p - 1) (found l)
  | [] => by simp [psum, found, bsum]
  | p :: l => by
    have ih := psum_found a l
    unfold found at ih ⊢
    simp only [psum, List.length_cons, paper]
    cases hp : p.1
    · simp only [List.filter_cons, hp, Bool.not_false, if_true, List.map_cons, bsum, Bool.false_eq_true, if_false]
      omega
    · simp only [List.filter_cons, hp, Bool.not_true, Bool.false_eq_true, if_false, if_true]
      omega
theorem d14_true {n kind who whom among quota : Int} {x changed : List (List Int)} {ph mi : List Bool} (hn : WT y2 n) (hx : x.length ≤ 281474976710656) (hw : ∀ y ∈ x, WT y23 y) (hc : changed.length ≤ 281474976710656) (hcw : ∀ y ∈ changed, WT y23 y)
    (hph : ph.length ≤ 281474976710656) (hmi : mi.length ≤ 281474976710656) (h1 : WT y2 kind) (h2 : WT y2 who) (h3 : WT y2 whom) (h4 : WT y2 among) (h5 : WT y2 quota) : d14 n x changed ph mi kind who whom among quota = some true := by
  unfold d14
  rw [d18_eq hn (by omega) (by omega)]
  simp only [Option.bind_some]
  have b := mod_bounds n (n := 6) (by omega)
  have w1 : w (2 + n % 6) = 2 + n % 6 := w_id (by omega) (by omega)
  rw [w1]
  have hN : 2 ≤ 2 + n % 6 := by omega
  have hN' : 2 + n % 6 ≤ 7 := by omega
  generalize 2 + n % 6 = N at hN hN'
  have hv := mk_valid (n := N) (k := kind) (a := who) (b := whom) (m := among) (q := quota) hN hN'
  have hml := mk_len (n := N) (k := kind) (a := who) (b := whom) (m := among) (q := quota) hN'
  rw [d22_eq hN hN' h1 h2 h3 h4 h5]
  simp only [Option.bind_some]
  generalize mk N kind who whom among quota = a at *
  have hv7 := valid_wide hN' hv
  have e54 := d54_eq (n := N) (by omega) hN' hx hw ph hph (most := 30) (by omega)
  have e54' : d54 N x ph 30 = some (itemsOf ph (bals N x 30)) := e54
  rw [e54']
  simp only [Option.bind_some]
  have hbl := bals_len (n := N) (l := x) (most := 30)
  have hbb := bals_isB (n := N) (by omega) (l := x) (most := 30)
  generalize bals N x 30 = bs at *
  have hil := itemsOf_len ph bs
  have hib := itemsOf_isB (ph := ph) hbb
  generalize itemsOf ph bs = items at *
  rw [d57_eq (by omega) hN' (by omega) hc hcw hmi]
  simp only [Option.bind_some]
  have hpl := papersOf_len N items changed mi
  have hpb := papersOf_isB (n := N) (by omega) (changed := changed) (missing := mi) hib
  generalize papersOf N items changed mi = ps at *
  have hpil : ∀ i, i ≤ ps.length → PileOK N (pileOf (found (ps.take i))) ((found (ps.take i)).length : Int) ∧ ∀ f, wsum f (pileOf (found (ps.take i))) = bsum f (found (ps.take i)) := fun i hi => by
    have := found_len (ps.take i)
    refine pileOf_ok _ (fun b hb => ?_) (by simp at this; omega)
    obtain ⟨p, hp, rfl⟩ := List.mem_map.1 hb
    exact hpb p (List.mem_of_mem_take (List.mem_filter.1 hp).1)
  refine while_bind (b := (N, a, items, psum a ps, pileOf (found ps))) (fun i => (N, a, items, ps, psum a (ps.take i), pileOf (found (ps.take i)), (i : Int))) ps.length rfl (fun i hi => ?_) ?_ ?_
  · have g1 : (i : Int) < (ps.length : Int) := by omega
    have g3 : (0 : Int) ≤ (i : Int) := by omega
    have hwi : w ((i : Int) + 1) = ((i + 1 : Nat) : Int) := by rw [w_id (by omega) (by omega)]; omega
    have hm := hpb (ps.getD i (false, [])) (by rw [getD_get ps _ hi]; exact List.getElem_mem _)
    have ht := take_get ps (false, []) hi
    have hr := psum_range hv7 (ps.take i)
    have hr2 := paper_range hv7 (ps.getD i (false, []))
    have hu := upper_bounds hv7
    have hlt : (ps.take i).length ≤ 30 := by simp; omega
    obtain ⟨hpi, _⟩ := hpil i (by omega)
    have he : psum a (ps.take (i + 1)) = psum a (ps.take i) + paper a (ps.getD i (false, [])) := by rw [ht, psum_app]; simp [psum]
    have hw2 : w (psum a (ps.take i) + paper a (ps.getD i (false, []))) = psum a (ps.take (i + 1)) := by rw [he, w_id (by omega) (by omega)]
    have hf : found (ps.take (i + 1)) = found (ps.take i) ++ found [ps.getD i (false, [])] := by rw [ht, found_app]
    simp only [g1, g3, hwi, letJ, decide_true, cond_true, Bool.and_self, Int.toNat_natCast]
    obtain ⟨p, hpd⟩ : ∃ p, ps.getD i (false, []) = p := ⟨_, rfl⟩
    simp only [hpd] at hm hw2 hf ⊢
    rw [d51_eq (by omega) (by have := isB_len hm hN'; omega)]
    simp only [Option.bind_some, hw2]
    cases hp1 : p.1
    · have hf1 : found [p] = [p.2] := by simp [found, hp1]
      rw [hf1] at hf
      rw [hf, pileOf_snoc, hpi.d63 hN' hm]
      simp only [Bool.not_false, cond_true, Option.bind_some]
    · have hf1 : found [p] = [] := by simp [found, hp1]
      rw [hf1, List.append_nil] at hf
      rw [hf]
      simp only [Bool.not_true, cond_false]
  · have g1 : ¬ ((ps.length : Int) < (ps.length : Int)) := by omega
    simp only [g1, decide_false, cond_false, List.take_length]
  · simp only [d44_eq, Option.bind_some, cond_true]
    obtain ⟨hp, hs⟩ := hpil ps.length (Nat.le_refl _)
    rw [List.take_length] at hp hs
    have hsum := psum_found a ps
    by_cases c : psum a ps ≤ (items.length : Int)
    · simp only [c, decide_true, Bool.not_true, cond_false]
    · simp only [c, decide_false, Bool.not_false, cond_true]
      rw [hp.d28 (by omega) hN' hv (by omega)]
      have : 0 < marg a (pileOf (found ps)) := by
        unfold marg
        rw [hs]
        omega
      simp only [this, decide_true, Option.bind_some]
end Go.Proofs.Ythemaffjohmhnaa
