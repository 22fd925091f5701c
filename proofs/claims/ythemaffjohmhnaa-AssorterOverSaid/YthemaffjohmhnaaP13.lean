/- Plain laws: the tally that the document prescribes (AssorterTally), the overstatements (AssorterOver). -/
import Derived.Test.YthemaffjohmhnaaP12
set_option linter.unusedSimpArgs false
set_option linter.unusedVariables false
open Go Go.Proofs Go.X
namespace Go.Proofs.Ythemaffjohmhnaa
theorem upper_zero (a : Asn) : decide (upper a = 0) = !validB 7 a := by
  cases hv : validB 7 a
  · unfold upper; simp [hv]
  · have := upper_bounds hv
    have h : ¬ upper a = 0 := by omega
    simp [h]
theorem d56_eq {a : Asn} (ha : a.2.2.2.1.length ≤ 281474976710656) {items : List Itm} (hl : items.length ≤ 281474976710656) (hx : ∀ x ∈ items, x.2.2.length ≤ 281474976710656) : d56 a items = some (tally a items) := by
  unfold d56 tally
  simp only [letJ]
  by_cases c : items.length ≤ 1024
  · have c' : ¬ (1024 : Int) < (items.length : Int) := by omega
    simp only [c', decide_false, Bool.not_false, cond_true, d47_eq ha, Option.bind_some, upper_zero]
    cases hv : validB 7 a
    · simp
    · simp only [Bool.not_true, cond_false, c, and_self, if_true]
      have w0 : w (0 - (items.length : Int)) = -(items.length : Int) := by rw [w_id (by omega) (by omega)]; omega
      rw [w0]
      refine while_bind (b := ((0, 0, 0), ((items.length : Int), isum a items - (items.length : Int), upper a))) (fun i => (items, a, (0, 0, 0), ((items.length : Int), isum a (items.take i) - (items.length : Int), upper a), (i : Int))) items.length ?_ (fun i hi => ?_) ?_ rfl
      · simp [isum]
      · have h1 : (i : Int) < (items.length : Int) := by omega
        have h3 : (0 : Int) ≤ (i : Int) := by omega
        have hwi : w ((i : Int) + 1) = ((i + 1 : Nat) : Int) := by rw [w_id (by omega) (by omega)]; omega
        have hm : items.getD i ((0, 0, 0), false, []) ∈ items := by rw [getD_get items _ hi]; exact List.getElem_mem _
        have hxl := hx _ hm
        have ht := take_get items ((0, 0, 0), false, []) hi
        have b1 := isum_range hv (items.take i)
        have b2 := item_range hv (items.getD i ((0, 0, 0), false, []))
        have b3 := upper_bounds hv
        have b4 : (items.take i).length ≤ 1024 := by simp; omega
        have e : isum a (items.take (i + 1)) = isum a (items.take i) + item a (items.getD i ((0, 0, 0), false, [])) := by rw [ht, isum_app]; simp [isum]
        simp only [h1, h3, hwi, decide_true, cond_true, Bool.and_self, Int.toNat_natCast]
        rw [d50_eq ha hxl]
        simp only [Option.bind_some]
        have e5 : isum a (items.take i) - (items.length : Int) + item a (items.getD i ((0, 0, 0), false, [])) = isum a (items.take (i + 1)) - (items.length : Int) := by omega
        rw [w_id (by omega) (by omega), e5]
      · have h1 : ¬ ((items.length : Int) < (items.length : Int)) := by omega
        simp only [h1, decide_false, cond_false, List.take_length]
  · have c' : (1024 : Int) < (items.length : Int) := by omega
    simp [c', c]
theorem d11_true {a : Asn} {items : List Itm} {raw : Bool} {n kind who whom among quota many : Int} {x : List (List Int)} {ph : List Bool} (ha : a.2.2.2.1.length ≤ 281474976710656) (hi : items.length ≤ 281474976710656) (hiw : ∀ y ∈ items, WT y23 y.2.2)
    (hn : WT y2 n) (hx : x.length ≤ 281474976710656) (hw : ∀ y ∈ x, WT y23 y) (hph : ph.length ≤ 281474976710656) (h1 : WT y2 kind) (h2 : WT y2 who) (h3 : WT y2 whom) (h4 : WT y2 among) (h5 : WT y2 quota) :
    d11 a items raw n x ph kind who whom among quota many = some true := by
  have main : ∀ (b : Asn) (it : List Itm), b.2.2.2.1.length ≤ 281474976710656 → it.length ≤ 281474976710656 → (∀ y ∈ it, y.2.2.length ≤ 281474976710656) →
      ((d55 b it).bind fun r_7 => (d56 b it).bind fun r_8 => some (decide (r_7.1 = r_8.1) && (decide (r_7.2.1 = r_8.2.1) && decide (r_7.2.2 = r_8.2.2)))) = some true := by
    intro b it h h' h''
    rw [d55_eq h h' h'', d56_eq h h' h'']
    simp
  unfold d11
  simp only [d44_eq, Option.bind_some, cond_true, letJ]
  cases h9 : decide (9 < (a.2.2.2.1.length : Int))
  · simp only [Bool.not_false, cond_true]
    cases h30 : decide (30 < (items.length : Int))
    · have h30' := of_decide_eq_false h30
      simp only [cond_false]
      refine while_first (fun i => (items, raw, n, x, ph, kind, who, whom, among, quota, many, a, (i : Int))) (fun i => decide (9 < ((items.getD i ((0, 0, 0), false, [])).2.2.length : Int))) items.length (fun _ => .inr true) (.inl (items, raw, n, x, ph, kind, who, whom, among, quota, many, a)) rfl (fun i hi => ?_) ?_ (fun i hi hp hj => rfl) (fun hall => ?_)
      · have g1 : (i : Int) < (items.length : Int) := by omega
        have g3 : (0 : Int) ≤ (i : Int) := by omega
        have hwi : w ((i : Int) + 1) = ((i + 1 : Nat) : Int) := by rw [w_id (by omega) (by omega)]; omega
        simp only [g1, g3, hwi, decide_true, cond_true, Bool.and_self, Int.toNat_natCast]
        cases decide (9 < ((items.getD i ((0, 0, 0), false, [])).2.2.length : Int)) <;> rfl
      · have g1 : ¬ ((items.length : Int) < (items.length : Int)) := by omega
        simp only [g1, decide_false, cond_false]
      · simp only
        cases raw
        · simp only [Bool.not_false, cond_true]
          rw [d18_eq hn (by omega) (by omega)]
          simp only [Option.bind_some]
          have b := mod_bounds n (n := 6) (by omega)
          have w1 : w (2 + n % 6) = 2 + n % 6 := w_id (by omega) (by omega)
          rw [w1]
          have hN : 2 ≤ 2 + n % 6 := by omega
          have hN' : 2 + n % 6 ≤ 7 := by omega
          generalize 2 + n % 6 = N at hN hN'
          have hml := mk_len (n := N) (k := kind) (a := who) (b := whom) (m := among) (q := quota) hN'
          rw [d22_eq hN hN' h1 h2 h3 h4 h5]
          simp only [Option.bind_some]
          have e54 := d54_eq (n := N) (by omega) hN' hx hw ph hph (most := 30) (by omega)
          have e54' : d54 N x ph 30 = some (itemsOf ph (bals N x 30)) := e54
          rw [e54']
          simp only [Option.bind_some]
          have hbl := bals_len (n := N) (l := x) (most := 30)
          have hbb := bals_isB (n := N) (by omega) (l := x) (most := 30)
          have hil := itemsOf_len ph (bals N x 30)
          have hib := itemsOf_isB (ph := ph) hbb
          generalize itemsOf ph (bals N x 30) = it at *
          have hit : ∀ y ∈ it, y.2.2.length ≤ 281474976710656 := fun y hy => by have := isB_len (hib y hy) hN'; omega
          by_cases c7 : many = 7
          · simp only [c7, decide_true, cond_true]
            rw [d18_eq h2 (by omega) (by omega)]
            simp only [Option.bind_some]
            have b2 := mod_bounds who (n := 2) (by omega)
            have w2 : w (1024 - (it.length : Int)) = 1024 - (it.length : Int) := w_id (by omega) (by omega)
            have w3 : w (1024 - (it.length : Int) + who % 2) = 1024 - (it.length : Int) + who % 2 := w_id (by omega) (by omega)
            rw [w2, w3]
            have g1 : 0 ≤ 1024 - (it.length : Int) + who % 2 := by omega
            have g2 : (it.length : Int) + (1024 - (it.length : Int) + who % 2) ≤ LIM := by rw [LIM_eq]; omega
            simp only [g1, g2, decide_true, cond_true, Bool.and_self]
            refine main _ _ (by omega) (by simp; omega) fun y hy => ?_
            rcases List.mem_append.1 hy with hy | hy
            · exact hit y hy
            · rw [(List.mem_replicate.1 hy).2]; simp
          · simp only [c7, decide_false, cond_false]
            exact main _ _ (by omega) (by omega) hit
        · simp only [Bool.not_true, cond_false]
          exact main a items ha hi fun y hy => wt_len (hiw y hy)
    · simp
  · simp
/- OVERSTATEMENTS -/
theorem d12_true {n kind who whom among quota : Int} {x changed : List (List Int)} {ph mi : List Bool} (hn : WT y2 n) (hx : x.length ≤ 281474976710656) (hw : ∀ y ∈ x, WT y23 y) (hc : changed.length ≤ 281474976710656) (hcw : ∀ y ∈ changed, WT y23 y)
    (hph : ph.length ≤ 281474976710656) (hmi : mi.length ≤ 281474976710656) (h1 : WT y2 kind) (h2 : WT y2 who) (h3 : WT y2 whom) (h4 : WT y2 among) (h5 : WT y2 quota) : d12 n x changed ph mi kind who whom among quota = some true := by
  unfold d12
  rw [d18_eq hn (by omega) (by omega)]
  simp only [Option.bind_some]
  have b := mod_bounds n (n := 6) (by omega)
  have w1 : w (2 + n % 6) = 2 + n % 6 := w_id (by omega) (by omega)
  rw [w1]
  have hN : 2 ≤ 2 + n % 6 := by omega
  have hN' : 2 + n % 6 ≤ 7 := by omega
  generalize 2 + n % 6 = N at hN hN'
  have hv := mk_valid (n := N) (k := kind) (a := who) (b := whom) (m := among) (q := quota) hN hN'
  have hml := mk_len (n := N) (k := kind) (a := who) (b := whom) (m := among) (q := quota) hN'
  rw [d22_eq hN hN' h1 h2 h3 h4 h5]
  simp only [Option.bind_some]
  generalize mk N kind who whom among quota = a at *
  have hv7 := valid_wide hN' hv
  have e54 := d54_eq (n := N) (by omega) hN' hx hw ph hph (most := 30) (by omega)
  have e54' : d54 N x ph 30 = some (itemsOf ph (bals N x 30)) := e54
  rw [e54']
  simp only [Option.bind_some]
  have hbl := bals_len (n := N) (l := x) (most := 30)
  have hbb := bals_isB (n := N) (by omega) (l := x) (most := 30)
  generalize bals N x 30 = bs at *
  have hil := itemsOf_len ph bs
  have hib := itemsOf_isB (ph := ph) hbb
  generalize itemsOf ph bs = items at *
  rw [d57_eq (by omega) hN' (by omega) hc hcw hmi]
  simp only [Option.bind_some]
  have hpl := papersOf_len N items changed mi
  have hpb := papersOf_isB (n := N) (by omega) (changed := changed) (missing := mi) hib
  generalize papersOf N items changed mi = ps at *
  have hu := upper_bounds hv7
  have hiw : ∀ y ∈ items, y.2.2.length ≤ 281474976710656 := fun y hy => by have := isB_len (hib y hy) hN'; omega
  refine while_bind (b := .inl (a, items, isum a items - psum a ps, psum a ps)) (fun i => (a, items, ps, isum a (items.take i) - psum a (ps.take i), psum a (ps.take i), (i : Int))) items.length ?_ (fun i hi => ?_) ?_ ?_
  · simp [isum, psum]
  · have g1 : (i : Int) < (items.length : Int) := by omega
    have g2 : (i : Int) < (ps.length : Int) := by omega
    have g3 : (0 : Int) ≤ (i : Int) := by omega
    have hwi : w ((i : Int) + 1) = ((i + 1 : Nat) : Int) := by rw [w_id (by omega) (by omega)]; omega
    have hpm := hpb (ps.getD i (false, [])) (by rw [getD_get ps _ (by omega)]; exact List.getElem_mem _)
    have him := hib (items.getD i ((0, 0, 0), false, [])) (by rw [getD_get items _ hi]; exact List.getElem_mem _)
    have ht := take_get items ((0, 0, 0), false, []) hi
    have htp := take_get ps (false, []) (by omega : i < ps.length)
    have b1 := isum_range hv7 (items.take i)
    have b2 := item_range hv7 (items.getD i ((0, 0, 0), false, []))
    have b4 : (items.take i).length ≤ 30 := by simp; omega
    have c1 := psum_range hv7 (ps.take i)
    have c2 := paper_range hv7 (ps.getD i (false, []))
    have c4 : (ps.take i).length ≤ 30 := by simp; omega
    have e : isum a (items.take (i + 1)) = isum a (items.take i) + item a (items.getD i ((0, 0, 0), false, [])) := by rw [ht, isum_app]; simp [isum]
    have ep : psum a (ps.take (i + 1)) = psum a (ps.take i) + paper a (ps.getD i (false, [])) := by rw [htp, psum_app]; simp [psum]
    have hpl2 : (ps.getD i (false, [])).2.length ≤ 281474976710656 := by have := isB_len hpm hN'; omega
    have hil2 : (items.getD i ((0, 0, 0), false, [])).2.2.length ≤ 281474976710656 := by have := isB_len him hN'; omega
    simp only [g1, g2, g3, hwi, letJ, decide_true, cond_true, Bool.and_self, Int.toNat_natCast]
    rw [d53_eq (by omega) hil2 hpl2]
    simp only [d46_eq (a := a) (by omega), d51_eq (a := a) (by omega) hpl2, Option.bind_some]
    have w2 : w (item a (items.getD i ((0, 0, 0), false, [])) - paper a (ps.getD i (false, []))) = item a (items.getD i ((0, 0, 0), false, [])) - paper a (ps.getD i (false, [])) := w_id (by omega) (by omega)
    have w3 : w (0 - upper a) = -upper a := by rw [w_id (by omega) (by omega)]; omega
    have k1 : ¬ item a (items.getD i ((0, 0, 0), false, [])) - paper a (ps.getD i (false, [])) < -upper a := by omega
    have k2 : ¬ upper a < item a (items.getD i ((0, 0, 0), false, [])) - paper a (ps.getD i (false, [])) := by omega
    have w4 : w (isum a (items.take i) - psum a (ps.take i) + (item a (items.getD i ((0, 0, 0), false, [])) - paper a (ps.getD i (false, [])))) = isum a (items.take (i + 1)) - psum a (ps.take (i + 1)) := by rw [w_id (by omega) (by omega)]; omega
    have w5 : w (psum a (ps.take i) + paper a (ps.getD i (false, []))) = psum a (ps.take (i + 1)) := by rw [w_id (by omega) (by omega)]; omega
    simp only [w2, w3, w4, w5, k1, k2, decide_false, Bool.not_false, cond_true, cond_false, d46_eq (a := a) (by omega), Option.bind_some]
  · have g1 : ¬ ((items.length : Int) < (items.length : Int)) := by omega
    have g2 : ps.take items.length = ps := by rw [List.take_of_length_le (by omega)]
    simp only [g1, g2, decide_false, cond_false, List.take_length]
  · simp only [d44_eq, Option.bind_some, cond_true]
    have ht : tally a items = ((items.length : Int), isum a items - (items.length : Int), upper a) := by
      unfold tally
      rw [if_pos ⟨hv7, by omega⟩]
    have k : (2 : Int) ≤ upper a := hu.1
    have k' : ¬ upper a < 2 := by omega
    have he : (isum a items - (items.length : Int) ≤ isum a items - psum a ps) ↔ (psum a ps ≤ (items.length : Int)) := by omega
    simp only [d46_eq (a := a) (by omega), d55_eq (a := a) (by omega) (by omega) hiw, ht, Option.bind_some, k, k', he, decide_true, decide_false, Bool.not_false, cond_true]
    simp
end Go.Proofs.Ythemaffjohmhnaa
