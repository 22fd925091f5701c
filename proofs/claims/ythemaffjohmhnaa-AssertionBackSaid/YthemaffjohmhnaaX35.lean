/- A law's contract and its given statement: the arguments read, the call, what it leaves. -/
import Derived.Test.YthemaffjohmhnaaX34
import Derived.OpenShut
set_option linter.unusedSimpArgs false
set_option linter.unusedVariables false
namespace Go.X
open Go Go.RowKit Go.ChangeShapes
section
variable {H : Type} {enc : TypeId × Value → H} {P : Program} {w : World} {sp : Nat → Bool} {held : Bool} {base : Nat}
theorem okCell_one {t : TypeId} {v : Value} (h : Cell.okWide P w .any base t v) : v.cells = #[v] := by
  unfold Cell.okWide at h
  split at h <;> first | rfl | (unfold Cell.ok at h; split at h <;> first | rfl | exact h.elim)
theorem arg_rel (hsp : ∀ b, sp b = true) {n : Nat} {t : TypeId} {u : Ty} {v : Value} {d : DataW H} {ps : List MemPlace} (hf : fits P n t u = true) (hv : Value.okWide P w .any base t v) (h : DataW.Trod enc P w 0 sp held t v d ps) (hw : ∀ n ∈ d.weights P t, n ≤ reachBytes) :
    ∃ x : u.den, ∀ p, SR P u (S0 w) .sh p x v := by
  obtain ⟨fuel, h⟩ := h
  cases n with
  | zero => cases hf
  | succ n =>
    have hf0 := hf
    unfold fits at hf
    have scal : u.agg = false → u.size = 1 → Cell.okWide P w .any base t v → ∃ x : u.den, ∀ p, SR P u (S0 w) .sh p x v := fun hag hsz hc => by
      have h1 := okCell_one hc
      obtain ⟨x, hx⟩ := trod_rel hsp hf0 h (by rw [h1, hsz]; rfl) hw
      refine ⟨x, fun p => ⟨(hx p).cong fun i hi => ?_, fun h => by rw [hag] at h; cases h⟩⟩
      have : i = 0 := by omega
      subst this
      rw [h1]
      unfold vcells
      rw [hag]
      rfl
    have aggr : u.agg = true → P.cellsOf t = u.size → (∃ cs, v = .agg cs ∧ cs.size = P.cellsOf t ∧ Row.okWide P w .any base t cs) → ∃ x : u.den, ∀ p, SR P u (S0 w) .sh p x v := fun hag hsz hc => by
      obtain ⟨cs, rfl, h1, ts, _, _, h2⟩ := hc
      obtain ⟨x, hx⟩ := trod_rel hsp hf0 h (by show cs.toList.length = _; rw [Array.length_toList, h1, hsz]) hw
      refine ⟨x, fun p => ⟨(hx p).cong fun i hi => ?_, fun _ => ⟨cs, rfl, by rw [h1, hsz]⟩⟩⟩
      unfold vcells
      rw [hag]
      show cs[i]? = cs.toList[i]?
      rw [Array.getElem?_toList]
    unfold Value.okWide at hv
    split at hf
    · rename_i k hu
      simp only [hu] at hv
      cases u <;> first | (simp at hf; done) | exact scal rfl rfl hv
    · rename_i hu
      simp only [hu] at hv
      cases u <;> first | (simp at hf; done) | exact scal rfl rfl hv
    · rename_i hu
      simp only [hu] at hv
      cases u <;> first | (simp at hf; done) | exact scal rfl rfl hv
    · rename_i e hu
      simp only [hu] at hv
      cases u <;> first | (simp at hf; done) | exact scal rfl rfl hv
    · rename_i m e hu
      simp only [hu] at hv
      cases u <;> first | (simp at hf; done) | skip
      simp only [Bool.and_eq_true, decide_eq_true_eq] at hf
      exact aggr rfl hf.2.2.1 hv
    · rename_i fs hu
      simp only [hu] at hv
      simp only [Bool.and_eq_true, decide_eq_true_eq] at hf
      refine aggr ?_ hf.1 hv
      have hS := hf.2
      generalize fs.toList = l at hS
      match l, hS with
      | [f], hS => cases u <;> first | rfl | (simp [fitsS] at hS)
      | f :: g :: l, hS => cases u <;> first | rfl | (simp [fitsS, fitsL] at hS)
    · cases hf
def fitsAll (P : Program) (n : Nat) : List TypeId → List (Ty × PM) → Bool
  | [], [] => true
  | t :: ts, (u, pm) :: ps => (match pm with | .sh => true | .bw => true | _ => false) && (fits P n t u && fitsAll P n ts ps)
  | _, _ => false
/-- Values in the bounds of their types. -/
def WTs : (ps : List (Ty × PM)) → Vals (ptys ps) → Prop
  | [], _ => True
  | (t, _) :: ps, x => WT t x.1 ∧ WTs ps x.2
theorem args_rel (hsp : ∀ b, sp b = true) {n : Nat} : ∀ {ps : List (Ty × PM)} {ts : List TypeId} {vs : List Value} {ds : List (DataW H)} {p : List MemPlace}, fitsAll P n ts ps = true → DataW.TrodAll enc P w 0 sp held ts vs ds p →
    (∀ (j : Nat) (t : TypeId) (v : Value), ts[j]? = some t → vs[j]? = some v → Value.okWide P w .any base t v) → (∀ n ∈ DataW.weightsEach P ts ds, n ≤ reachBytes) →
    ∃ xs : Vals (ptys ps), WTs ps xs ∧ vs.length = (ptms ps xs).length ∧ ∀ (i : Nat) (e : TM), (ptms ps xs)[i]? = some e → ∃ v, vs[i]? = some v ∧ ∀ q, SR P e.t (S0 w) e.m q e.x v
  | [], [], [], [], _, _, _, _, _ => ⟨(), trivial, rfl, fun i e h => by simp [ptms] at h⟩
  | [], [], _ :: _, _, _, _, h, _, _ => h.elim
  | [], [], [], _ :: _, _, _, h, _, _ => h.elim
  | (u, pm) :: ps, t :: ts, [], _, _, _, h, _, _ => by cases h
  | (u, pm) :: ps, t :: ts, _ :: _, [], _, _, h, _, _ => by cases h
  | (u, pm) :: ps, t :: ts, v :: vs, d :: ds, p, hf, h, hv, hw => by
    obtain ⟨p1, p2, h1, h2, _⟩ := h
    simp only [fitsAll, Bool.and_eq_true] at hf
    obtain ⟨hpm, hf1, hf2⟩ := hf
    simp only [DataW.weightsEach, List.mem_append] at hw
    obtain ⟨x, hx⟩ := arg_rel hsp hf1 (hv 0 t v rfl rfl) h1 fun n hn => hw n (.inl hn)
    obtain ⟨xs, hwt, h3, h4⟩ := args_rel hsp hf2 h2 (fun j t v ht hv' => hv (j + 1) t v ht hv') fun n hn => hw n (.inr hn)
    refine ⟨(x, xs), ⟨(hx (0, [])).1.wt (live_shbw (.inl rfl) _), hwt⟩, by simp [ptms, h3], fun i e hi => ?_⟩
    cases i with
    | succ i => exact h4 i e hi
    | zero =>
      cases hi
      refine ⟨v, rfl, fun q => ?_⟩
      cases pm with
      | sh => exact hx q
      | bw => exact ⟨(hx q).1.weaken (leM_sh (.inr rfl) _), (hx q).2⟩
      | give m => simp at hpm
      | io m => simp at hpm
  | [], _ :: _, _, _, _, hf, _, _, _ => by simp [fitsAll] at hf
  | _ :: _, [], _, _, _, hf, _, _, _ => by simp [fitsAll] at hf
/-- A law that always answers true. -/
theorem law_calls (hsp : ∀ b, sp b = true) {n : Nat} {f : FuncId} {sg : Sig} {den : Arr (ptys sg.ps) (Option (Ret sg.res))} (hs : Sim P f sg den) (htrue : ∀ xs, WTs sg.ps xs → ∃ y, app _ den xs = some y ∧ sg.resTM y = [⟨.bool, .sh, true⟩])
    {ts : List TypeId} {args : Array Value} {ds : List (DataW H)} {p : List MemPlace} (hf : fitsAll P n ts sg.ps = true) (h : DataW.TrodAll enc P w 0 sp held ts args.toList ds p)
    (hv : ∀ (j : Nat) (t : TypeId) (v : Value), ts[j]? = some t → args.toList[j]? = some v → Value.okWide P w .any base t v) (hw : ∀ n ∈ DataW.weightsEach P ts ds, n ≤ reachBytes) :
    Calls P f args w fun e w' => e = .returned (.bool true) ∧ Below w.heap.size w w' := by
  obtain ⟨xs, hwt, h1, h2⟩ := args_rel (base := base) hsp hf h hv hw
  obtain ⟨y, hy, hres⟩ := htrue xs hwt
  have hcall := hs.2 xs y hy (S0 w) (S0_WF w) args.toList h1 fun i e hi => by
    obtain ⟨v, h3, h4⟩ := h2 i e hi
    exact ⟨v, h3, h4 _⟩
  have ha : args.toList.toArray = args := by simp
  rw [ha] at hcall
  refine Calls.mono hcall fun e w' hR => ?_
  obtain ⟨v, S', rfl, rfl, hfr, hr, _⟩ := hR
  rw [hres] at hr
  have hb := SR.bool_inv (show SR P .bool S' .sh (0, [0]) true v from hr) (by simp)
  subst hb
  exact ⟨rfl, hfr.os, hfr.tape, hfr.output, hfr.size, fun k hk => hfr.kept k hk rfl⟩
theorem trodAll_below (hl : laidOutB P = true) {w' : World} (hb : Below w.heap.size w w') : ∀ {ts : List TypeId} {vs : List Value} {ds : List (DataW H)} {p : List MemPlace}, (ts.all fun t => P.readableRec t && decide (t < P.types.size)) = true →
    DataW.TrodAll enc P w 0 (fun _ => true) true ts vs ds p → (∀ x ∈ p, x.block < w.heap.size) → DataW.TrodAll enc P w' 0 (fun b => decide (b < w.heap.size)) true ts vs ds p
  | [], [], [], _, _, h, _ => h
  | [], _ :: _, _, _, _, h, _ => h.elim
  | [], [], _ :: _, _, _, h, _ => h.elim
  | _ :: _, [], _, _, _, h, _ => by cases h
  | _ :: _, _ :: _, [], _, _, h, _ => by cases h
  | t :: ts, v :: vs, d :: ds, p, hr, h, hlt => by
    obtain ⟨p1, p2, h1, h2, rfl⟩ := h
    simp only [List.all_cons, Bool.and_eq_true, decide_eq_true_eq] at hr
    exact ⟨p1, p2, Below.trod hl hr.1.1 hr.1.2 h1 hb fun x hx => hlt x (List.mem_append_left _ hx), trodAll_below hl hb (by simpa using hr.2) h2 fun x hx => hlt x (List.mem_append_right _ hx), rfl⟩
theorem trodAll_len : ∀ {ts : List TypeId} {vs : List Value} {ds : List (DataW H)} {p : List MemPlace}, DataW.TrodAll enc P w 0 sp held ts vs ds p → ds.length = ts.length
  | [], [], [], _, _ => rfl
  | [], _ :: _, _, _, h => h.elim
  | [], [], _ :: _, _, h => h.elim
  | _ :: _, [], _, _, h => by cases h
  | _ :: _, _ :: _, [], _, h => by cases h
  | t :: ts, v :: vs, d :: ds, p, h => by
    obtain ⟨p1, p2, _, h2, _⟩ := h
    simp [trodAll_len h2]
/-- What a law leaves. -/
theorem law_post {f : Func} {s : ChangeSpec} {apart fresh handsOn : Bool} {w' : World} {args : Array Value} {ds gs : List (DataW H)} {before : List MemPlace} {t : TypeId} (hl : laidOutB P = true) (hp : (f.params.toList.all fun t => P.readableRec t && decide (t < P.types.size)) = true)
    (hvars : s.vars = []) (hW : DataW.Whole enc P f.params.toList s.vars apart w args.toList ds gs before) (hb : Below w.heap.size w w') (hr : f.resultTypes = #[t]) (ht : P.underlying t = some .bool)
    (hfn : ∀ ds : List (DataW H), ds.length = f.params.toList.length → s.fn H (ds ++ []) = { results := [.lit (.bool true)], args := ds }) : s.post enc P f apart fresh handsOn false w args (.bool true) w' := by
  have hW' := hW
  obtain ⟨p, q, hA, hV, rfl, hfz, hnd⟩ := hW
  rw [hvars] at hV
  obtain ⟨rfl, rfl⟩ := trodVars_none hV
  have hlt := hW'.lt
  have hlen := trodAll_len hA
  refine ⟨ds, [], p ++ [], [], p, [], hW', ?_, ?_, ?_, hb.frame _, fun h => by cases h⟩
  · rw [hfn ds hlen, hr]
    exact trodAll_cons_mk (shut_bool ht _) trodAll_mk0
  · rw [hfn ds hlen]
    exact trodAll_below hl hb hp hA fun x hx => hlt x (List.mem_append_left _ hx)
  · rw [hfn ds hlen, hvars]
    rfl
end
end Go.X
