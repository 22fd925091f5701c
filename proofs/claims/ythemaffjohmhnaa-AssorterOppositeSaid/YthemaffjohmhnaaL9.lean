/- For an assertion of the kind Next and the same one with A and B exchanged, the values of every ballot add up to two halves: AssorterOpposite answers true for every input. -/
import Derived.Test.YthemaffjohmhnaaP4
import Derived.Test.YthemaffjohmhnaaX35
import Derived.Test.YthemaffjohmhnaaRows
import Derived.WalkKit
import Derived.ProofKit
open Go Go.Proofs Go.X
namespace Go.Proofs.Ythemaffjohmhnaa
theorem vNext_opposite {A B : Int} (h : A ≠ B) (m l : List Int) : vNext A B m l + vNext B A m l = 2 := by
  unfold vNext
  simp only
  split
  · generalize l.getD (firstAt (fun c => decide (c ∈ m)) l) 0 = c
    by_cases h1 : c = A
    · have : c ≠ B := fun h2 => h (h1.symm.trans h2)
      simp [h1, this, h]
    · by_cases h2 : c = B
      · simp [h1, h2, Ne.symm h]
      · simp [h1, h2]
  · rfl
theorem wt_take {l : List Int} (h : WT y23 l) (k : Nat) : WT y23 (l.take k) := ⟨by have := h.1; simp; omega, fun x hx => h.2 x (List.mem_of_mem_take hx)⟩
theorem d9_true {n who whom among : Int} {prefs : List Int} (hn : WT y2 n) (h1 : WT y2 who) (h2 : WT y2 whom) (h3 : WT y2 among) (hp : WT y23 prefs) : d9 n who whom among prefs = some true := by
  unfold d9
  rw [d18_eq hn (by omega) (by omega)]
  simp only [Option.bind_some]
  have b := mod_bounds n (n := 6) (by omega)
  have w1 : w (2 + n % 6) = 2 + n % 6 := w_id (by omega) (by omega)
  rw [w1]
  have hN : 2 ≤ 2 + n % 6 := by omega
  have hN' : 2 + n % 6 ≤ 7 := by omega
  generalize 2 + n % 6 = N at hN hN'
  have k1 : WT y2 (1 : Int) := w_id (n := 1) (by omega) (by omega)
  have k0 : WT y2 (0 : Int) := w_id (n := 0) (by omega) (by omega)
  rw [d22_eq hN hN' k1 h1 h2 h3 k0]
  simp only [Option.bind_some]
  rw [d43_eq hp]
  simp only [Option.bind_some]
  rw [d29_eq (by omega) (by omega) (wt_take hp 9)]
  simp only [Option.bind_some]
  rw [d44_eq]
  simp only [Option.bind_some, cond_true]
  obtain ⟨v1, v2, hne, hk, hq, hl⟩ := mk_next_valid (n := N) (a := who) (b := whom) (m := among) (q := 0) hN hN'
  generalize mk N 1 who whom among 0 = a at *
  obtain ⟨K, A, B, M, Q⟩ := a
  simp only at hk hq hl hne v1 v2 ⊢
  subst hk hq
  have hbl : (bal N (prefs.take 9)).length ≤ 281474976710656 := by
    have h1 := outs_len N (prefs.take 9) (firstN (fun i => decide (N ≤ ((outs N (prefs.take 9) i).length : Int))) (prefs.take 9).length)
    have h2 := firstN_le (fun i => decide (N ≤ ((outs N (prefs.take 9) i).length : Int))) (prefs.take 9).length
    have h3 : (prefs.take 9).length ≤ 9 := by simp; omega
    unfold bal
    omega
  rw [d45_eq (by show M.length ≤ _; omega) hbl, d45_eq (by show M.length ≤ _; omega) hbl]
  simp only [Option.bind_some]
  generalize hpp : (if ballotB (bal N (prefs.take 9)) then bal N (prefs.take 9) else []) = p
  have e1 : val (2, A, B, M, 0) (bal N (prefs.take 9)) = vNext A B M p := by
    unfold val
    simp only [v1, hpp]
    simp
  have e2 : val (2, B, A, M, 0) (bal N (prefs.take 9)) = vNext B A M p := by
    unfold val
    simp only [v2, hpp]
    simp
  rw [e1, e2, vNext_opposite hne]
  have : w 2 = 2 := w_id (by omega) (by omega)
  simp [this]
namespace assorterOpposite
theorem own : ownKnob Try.prog.godebug = none := by kernel_rfl
theorem laid : laidOutB Try.prog = true := by kernel_rfl
set_option maxRecDepth 100000 in
theorem lifted (os : Os) (started : os.Started) (H : Type) (enc : TypeId × Value → H) :
    ReturnsInHanded {} Try.checked os 9 .any (Rows.assorterOppositeSpec.pre6 enc Try.prog Try.f9 Rows.assorterOppositeRow.domain false) (Rows.assorterOppositeSpec.post enc Try.prog Try.f9 false true false false) := by
  refine returnsInHanded_of_change_sized (C := Try.checked) own started (by kernel_rfl) Try.func9
    (ChangeSpec.witness6 (enc := enc) (C := Try.checked) false ⟨#[], #[.int .i64 0, .int .i64 0, .int .i64 0, .int .i64 0, .slice none 0 0], []⟩ 8 (by kernel_rfl) (by kernel_rfl) (by kernel_rfl) (by kernel_rfl)) ?_
  intro W base args ds gs before hval hW hcnd hwt _
  have hW' := hW
  obtain ⟨p, q, hA, hV, rfl, hfz, hnd⟩ := hW
  obtain ⟨rfl, rfl⟩ := Go.ChangeShapes.trodVars_none hV
  have hwt' : ∀ n ∈ DataW.weightsEach Try.prog Try.f9.params.toList ds, n ≤ reachBytes := fun n hn => by
    have := List.all_eq_true.1 hwt n (by
      have e1 : (Rows.assorterOppositeSpec.plain.varTypes Try.checked.prog) = [] := rfl
      rw [e1, List.append_nil, List.append_nil]
      exact hn)
    simpa using this
  refine (law_calls (sp := fun _ => true) (n := 9) (base := base) (fun _ => rfl) sim9 (fun xs hx => ⟨true, d9_true hx.1 hx.2.1 hx.2.2.1 hx.2.2.2.1 hx.2.2.2.2.1, rfl⟩) (by kernel_rfl) hA (fun j t v ht hv => hval j t v (by rw [← Array.getElem?_toList]; exact ht) (by rw [← Array.getElem?_toList]; exact hv)) hwt').mono fun e W' ⟨he, hb⟩ => ?_
  subst he
  refine ⟨_, rfl, law_post (t := 4) laid (by kernel_rfl) rfl hW' hb (by kernel_rfl) Try.underlying4 fun ds hds => ?_⟩
  have hds' : ds.length = 5 := hds
  match ds, hds' with
  | [d1, d2, d3, d4, d5], _ => rfl
theorem proved : Rows.AssorterOppositeSaid :=
  OpenClaim.holds_of_wide 9 Try.f9 rfl rfl rfl rfl rfl rfl rfl ⟨rfl, rfl, rfl, rfl, rfl⟩ rfl rfl rfl rfl rfl (by kernel_rfl) Try.func9 (by kernel_rfl)
    (of_decide_eq_true (by kernel_rfl)) (by unfold Func.isWrapper; first | (rw [if_pos (by decide +kernel)]; kernel_rfl) | (rw [if_neg (by decide +kernel)]; exact ⟨rfl, rfl⟩))
    (fun os started H enc _ => lifted os started H enc)
#print axioms proved
end assorterOpposite
end Go.Proofs.Ythemaffjohmhnaa
