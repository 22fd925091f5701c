/- A function's contract from its code's evaluation: the theorem. -/
import Derived.Test.YthemaffjohmhnaaX31
namespace Go.X
open Go Go.RowKit
def ioKs : Nat → List (Ty × PM) → List Nat
  | _, [] => []
  | k, (_, .io _) :: ps => k :: ioKs (k + 1) ps
  | k, (_, .bw) :: ps => ioKs (k + 1) ps
  | k, (_, .sh) :: ps => ioKs (k + 1) ps
  | k, (_, .give _) :: ps => ioKs (k + 1) ps
theorem out_ks : ∀ {ps : List (Ty × PM)} {k : Nat} {x : Vals (tys (outsOf ps))} {i : Nat} {e : TM}, (i, e) ∈ outTM k ps x → i ∈ ioKs k ps ∧ i < k + ps.length
  | [], k, x, i, e, h => by cases h
  | (t, .io m) :: ps, k, x, i, e, h => by
    rcases List.mem_cons.1 h with h | h
    · cases h; exact ⟨List.mem_cons_self, by simp⟩
    · obtain ⟨h1, h2⟩ := out_ks h
      exact ⟨List.mem_cons_of_mem _ h1, by simp; omega⟩
  | (t, .bw) :: ps, k, x, i, e, h => by
    obtain ⟨h1, h2⟩ := out_ks (ps := ps) (k := k + 1) h
    exact ⟨h1, by simp; omega⟩
  | (t, .sh) :: ps, k, x, i, e, h => by
    obtain ⟨h1, h2⟩ := out_ks (ps := ps) (k := k + 1) h
    exact ⟨h1, by simp; omega⟩
  | (t, .give _) :: ps, k, x, i, e, h => by
    obtain ⟨h1, h2⟩ := out_ks (ps := ps) (k := k + 1) h
    exact ⟨h1, by simp; omega⟩
theorem ptms_length : ∀ (ps : List (Ty × PM)) (x : Vals (ptys ps)), (ptms ps x).length = ps.length
  | [], _ => rfl
  | _ :: ps, x => by simp [ptms, ptms_length ps x.2]
theorem tms_length : ∀ (rs : List (Ty × Md)) (x : Vals (tys rs)), (tms rs x).length = rs.length
  | [], _ => rfl
  | _ :: rs, x => by simp [tms, tms_length rs x.2]
def cur {r : Type} : (ts : List Ty) → (Vals ts → r) → Arr ts r
  | [], f => f ()
  | _ :: ts, f => fun x => cur ts fun y => f (x, y)
theorem app_cur {r : Type} : ∀ (ts : List Ty) (f : Vals ts → r) (x : Vals ts), app ts (cur ts f) x = f x
  | [], _, _ => rfl
  | _ :: ts, f, x => app_cur ts (fun y => f (x.1, y)) x.2
/-- What a function comes to. -/
noncomputable def evF {P : Program} (T : Tab) (FT : List (TgE P)) (sg : Sig) (vs : List ResultVar) (code : Code) (plan : Plan) (xs : Vals (ptys sg.ps)) : Option (Ret sg.res) :=
  ev T FT plan code (Ret sg.res) (initL 0 (ptms sg.ps xs)) fun e l => match e with
    | .normal => fin T sg vs l
    | .ret => fin T sg vs l
    | _ => none
section
variable {P : Program} {T : Tab} {FT : List (TgE P)}
theorem sim_ev (hm : P.follows .mixedOrders = true) (hT : TabOK P T) {f : FuncId} {fn : Func} {code : Code} (hf : P.funcs[f]? = some fn) (hb : fn.body = some code) (hcall : Enters P f) {sg : Sig} (hlen : sg.ps.length ≤ fn.ntmps)
    (hok : okCode fn.ntmps (ioKs 0 sg.ps) code = true) (plan : Plan) (den : Arr (ptys sg.ps) (Option (Ret sg.res))) (h : ∀ xs y, app _ den xs = some y → evF T FT sg fn.results.toList code plan xs = some y) : Sim P f sg den := by
  refine ⟨hcall, fun xs y hy S hS vs hvs hargs => ?_⟩
  have hev := h xs y hy
  unfold evF at hev
  rw [ptms_length] at hvs
  let c : Ctx := ⟨S.w, S.F, S.B, fun b => S.own b ≠ none, fn.ntmps, fun t => if t ∈ ioKs 0 sg.ps then vs[t]? else none⟩
  refine calls_of_wp hf hb ?_
  have htm : ∀ t v, vs[t]? = some v → tmv { tmps := vs.toArray ++ Array.replicate (fn.ntmps - vs.toArray.size) undef, defers := [] } t = v := fun t v hv => by
    have hlt : t < vs.length := (List.getElem?_eq_some_iff.1 hv).1
    unfold tmv
    rw [Array.getD_eq_getD_getElem?, Array.getElem?_append_left (by simpa using hlt)]
    simp [hv]
  have hinv : InvOf P c (E (initL 0 (ptms sg.ps xs))) { tmps := vs.toArray ++ Array.replicate (fn.ntmps - vs.toArray.size) undef, defers := [] } S := by
    refine ⟨rfl, by simp only [Array.size_append, Array.size_replicate, List.size_toArray, hvs]; exact Nat.add_sub_cancel' hlen, fun t => ?_, fun t => ?_, rfl, fun b hb => ⟨(hS.shared b hb).1, (hS.shared b hb).2, .inl hb⟩, fun b hb => hb,
      fun b hb => ⟨(hS.borrowed b hb).1, (hS.borrowed b hb).2, fun hn => hn (hS.borrowed b hb).1⟩, fun b p hp => ⟨hS.owned b p hp, .inr (show S.own b ≠ none by rw [hp]; simp)⟩, rfl, rfl, rfl, Nat.le_refl _, fun _ _ _ => rfl⟩
    · cases he : (ptms sg.ps xs)[t]? with
      | none =>
        unfold SlotOK
        rw [E_initL]
        simp only [Nat.sub_zero, he]
      | some e =>
        obtain ⟨v, h1, h2⟩ := hargs t e he
        refine .v (t := e.t) (m := e.m) (x := e.x) (by rw [E_initL]; simp only [Nat.sub_zero, he, Nat.zero_le, if_true]) ?_
        rw [htm t v h1]
        exact h2
    · rw [E_initL]
      split
      · split <;> exact Nat.le_refl _
      · exact Nat.le_refl _
  have hinvK : InvK P c (E (initL 0 (ptms sg.ps xs))) { tmps := vs.toArray ++ Array.replicate (fn.ntmps - vs.toArray.size) undef, defers := [] } S.w := by
    refine ⟨⟨S, rfl, hinv⟩, fun t v hv => ?_⟩
    have hv' : (if t ∈ ioKs 0 sg.ps then vs[t]? else none) = some v := hv
    split at hv'
    · exact htm t v hv'
    · cases hv'
  have key : ∀ (l : LEnv) (a' : Act) (w' : World), fin T sg fn.results.toList l = some y → InvK P c (E l) a' w' → bodyPost P fn (fun e w' => ∃ v S', e = .returned v ∧ S'.w = w' ∧ Frm S S' ∧ ResOK P S' (sg.resTM y) v ∧
      ∀ (k : Nat) (e : TM), (k, e) ∈ sg.outTM y → ∃ u, vs[k]? = some u ∧ SR P e.t S' e.m (k + 1, []) e.x u) .ret a' w' := fun l a' w' hfin hK => by
    obtain ⟨⟨S1, rfl, h1⟩, hkeep⟩ := hK
    unfold fin at hfin
    split at hfin
    case h_2 => cases hfin
    rename_i x ms x' ms' hret hout
    obtain ⟨hokm, hfin⟩ := cond_none hfin
    cases hfin
    obtain ⟨us, h2, h3, h4⟩ := retL_sound h1 hT hret
    have h5 := outL_sound h1 hout
    have hres : sg.resTM (toRet _ (joinV _ _ x x')) = tms sg.rs x := by unfold Sig.resTM; rw [vals_toRet, split_join]
    have houts : sg.outTM (toRet _ (joinV _ _ x x')) = outTM 0 sg.ps x' := by unfold Sig.outTM; rw [vals_toRet, split_join]
    have hsr : ∀ (k : Nat) (e : TM), (tms sg.rs x)[k]? = some e → ∃ u, us[k]? = some u ∧ SR P e.t (S1.ret (ms ++ ms')) e.m (0, [k]) e.x u := fun k e hk => by
      obtain ⟨m, h6, h7, u, h8, h9⟩ := h4 k e hk
      have hT := retTr (S := S1) hokm (m := m) (List.mem_append_left _ h6)
      rw [h7] at hT
      have h10 := h9.mono (.inl rfl) hT
      rw [Nat.zero_add] at h10
      exact ⟨u, h8, h10⟩
    refine ⟨h1.defers, _, results_rv fn a'.tmps h3, _, S1.ret (ms ++ ms'), rfl, rfl, ⟨h1.shared0, h1.lent, fun b hb => ?_, fun b hb => ?_, fun b p hp => ?_, h1.os, h1.tape, h1.output, h1.grown, fun b hb hn => h1.kept b hb fun h => h hn⟩, ?_, fun k e he => ?_⟩
    · obtain ⟨h6, h7, h8⟩ := h1.shared b hb
      exact ⟨ret_none h6, h7, h8⟩
    · exact ret_none (h1.borrowed b hb).1
    · obtain ⟨z, hz⟩ := ret_some hp
      exact h1.owned b z hz
    · rw [hres]
      have hlen : us.length = (tms sg.rs x).length := by rw [h2, tms_length]
      generalize tms sg.rs x = rs at hsr hlen
      match rs, hsr, hlen with
      | [], hsr, hlen =>
        rw [dif_neg (by rw [hlen]; simp)]
        exact ⟨_, rfl, by simpa using hlen, fun k e hk => by simp at hk⟩
      | [e], hsr, hlen =>
        have hl : us.length = 1 := by simpa using hlen
        rw [dif_pos hl]
        obtain ⟨u, h6, h7⟩ := hsr 0 e rfl
        have : us[0] = u := by
          have := List.getElem?_eq_getElem (l := us) (i := 0) (by omega)
          rw [this] at h6
          exact Option.some.inj h6
        rw [this]
        exact h7
      | e :: e' :: rs, hsr, hlen =>
        rw [dif_neg (by rw [hlen]; simp)]
        exact ⟨_, rfl, by simpa using hlen, fun k e hk => by
          obtain ⟨u, h6, h7⟩ := hsr k e hk
          exact ⟨u, by simpa using h6, h7⟩⟩
    · rw [houts] at he
      obtain ⟨m, h6, h7, h8, h9⟩ := h5 k e he
      have hT := retTr (S := S1) hokm (m := m) (List.mem_append_right _ h6)
      rw [h7] at hT
      obtain ⟨h10, h11⟩ := out_ks he
      have hkl : k < vs.length := by rw [hvs]; omega
      have hvk : vs[k]? = some vs[k] := List.getElem?_eq_getElem hkl
      have hKk : c.K k = some vs[k] := by show (if k ∈ ioKs 0 sg.ps then vs[k]? else none) = _; rw [if_pos h10]; exact hvk
      refine ⟨_, hvk, ?_⟩
      rw [← hkeep k _ hKk]
      exact h9.mono (.inl rfl) hT
  refine ev_sound (c := c) hm hT (ks := ioKs 0 sg.ps) (fun t ht => by show (if t ∈ ioKs 0 sg.ps then vs[t]? else none) = none; rw [if_neg ht]) plan code _ _ _ y _ _ _ hok hev hinvK fun e l a' w' h1 h2 => ?_
  cases e with
  | normal => exact key l a' w' h1 h2
  | ret => exact key l a' w' h1 h2
  | _ => cases h1
end
end Go.X
