/- suffice.Witness: its contract. -/
import Derived.Test.YthlgoakkgmabaaaGreatW4
set_option linter.unusedSimpArgs false
set_option linter.unusedVariables false
set_option linter.unnecessarySimpa false
namespace Go.Proofs.YthlgoakkgmabaaaGreat
open Go Go.Proofs Go.RowKit Go.X
attribute [local go_sem] Oper.semAt_some
set_option maxRecDepth 100000 in
theorem wit_bad {n wn : Int} {la : Option Addr} {ll lc : Nat} {W : World} (hb : n < 1 ∨ 7 < n ∨ wn < 0 ∨ n ≤ wn ∨ (1400 : Int) < (ll : Int)) :
    Calls Tryz.prog 13 #[.int .i64 n, .int .i64 wn, .slice la ll lc] W fun e W' => e = .returned (.tuple #[.slice none 0 0, .bool false]) ∧ Ext W W' := by
  refine (callsIn_wide (n := 0)).1 (callsIn_of_wp_marks Tryz.func13 rfl trivial ?_ rfl)
  simp only [Tryz.ntmps13, List.size_toArray, List.length_cons, List.length_nil, Nat.reduceAdd, Nat.reduceSub, Array.replicate_succ, Array.replicate_zero, List.push_toArray, List.append_toArray, List.nil_append, List.cons_append]
  by_cases g1 : n < 1
  · gi_wp2
    exact ⟨_, results_tmp2 (t := 6) (u := 7) rfl _ _ _, rfl, Ext.refl _⟩
  by_cases g2 : (7 : Int) < n
  · gi_wp2
    exact ⟨_, results_tmp2 (t := 6) (u := 7) rfl _ _ _, rfl, Ext.refl _⟩
  by_cases g3 : wn < 0
  · gi_wp2
    exact ⟨_, results_tmp2 (t := 6) (u := 7) rfl _ _ _, rfl, Ext.refl _⟩
  by_cases g4 : n ≤ wn
  · gi_wp2
    exact ⟨_, results_tmp2 (t := 6) (u := 7) rfl _ _ _, rfl, Ext.refl _⟩
  have g5 : (1400 : Int) < (ll : Int) := by omega
  gi_wp2
  exact ⟨_, results_tmp2 (t := 6) (u := 7) rfl _ _ _, rfl, Ext.refl _⟩
noncomputable def C29 (n : Int) (l : List (Int × (Int × (Int × (List Int × Int))))) (t : List Int) : Bool := (d46 n l t).getD false
def badW (n wn : Int) (l : List (Int × (Int × (Int × (List Int × Int))))) : Prop := n < 1 ∨ 7 < n ∨ wn < 0 ∨ n ≤ wn ∨ (1400 : Int) < (l.length : Int)
theorem good_of {n wn : Int} {l : List (Int × (Int × (Int × (List Int × Int))))} (h : ¬ badW n wn l) : 1 ≤ n ∧ n ≤ 7 ∧ 0 ≤ wn ∧ wn < n ∧ l.length ≤ 1400 := by unfold badW at h; omega
instance (n wn : Int) (l : List (Int × (Int × (Int × (List Int × Int))))) : Decidable (badW n wn l) := by unfold badW; infer_instance
open Classical in
noncomputable def d13 (n wn : Int) (l : List (Int × (Int × (Int × (List Int × Int))))) : Option (List Int × Bool) :=
  if badW n wn l then some ([], false)
  else if ∀ t, isB n t → (d46 n l t).isSome = true then some (match witP n.toNat (C29 n l) wn with | none => ([], false) | some o => (o, true))
  else none
def sg13 : Sig := ⟨[(y2, .sh), (y2, .sh), (y26, .bw)], [(y25, .sh), (y4, .sh)]⟩
theorem enters6 : Enters Tryz.prog 13 := enters_of Tryz.func13 (by kernel_rfl) rfl
set_option maxRecDepth 100000 in
theorem sim13 : Sim Tryz.prog 13 sg13 d13 := by
  refine ⟨enters6, fun xs y hy S hS vs hvs hargs => ?_⟩
  obtain ⟨n, wn, l, u⟩ := xs
  have hy0 : d13 n wn l = some y := hy
  have hl : vs.length = 3 := hvs
  obtain ⟨v0, v1, v2, rfl⟩ : ∃ v0 v1 v2, vs = [v0, v1, v2] := by
    match vs, hl with
    | [a, b, c], _ => exact ⟨a, b, c, rfl⟩
  obtain ⟨q0, e0, r0⟩ := hargs 0 ⟨.int .i64, .sh, n⟩ rfl
  obtain ⟨q1, e1, r1⟩ := hargs 1 ⟨.int .i64, .sh, wn⟩ rfl
  obtain ⟨q2, e2, r2⟩ := hargs 2 ⟨y26, .bw, l⟩ rfl
  obtain rfl : v0 = q0 := by simpa using e0
  obtain rfl : v1 = q1 := by simpa using e1
  obtain rfl : v2 = q2 := by simpa using e2
  dsimp only at r0 r1 r2
  obtain ⟨h0, _⟩ := r0.1
  obtain ⟨h1, _⟩ := r1.1
  obtain rfl : v0 = .int .i64 n := by simpa [vcells, Ty.agg] using h0
  obtain rfl : v1 = .int .i64 wn := by simpa [vcells, Ty.agg] using h1
  have hlv : ∃ la lc, v2 = .slice la l.length lc := by
    obtain ⟨_, _, a, len, cap, h, h', _⟩ := r2.1
    exact ⟨a, cap, by subst h'; simpa [vcells, Ty.agg] using h⟩
  -- what comes back
  have hnil : ∀ (S' : St) (p : X.Place), SR Tryz.prog (.slice (.int .i64)) S' .sh p ([] : List Int) (.slice none 0 0) := fun S' p => ⟨⟨by simp [maxL], by simp [Ty.size], none, 0, 0, by simp [vcells, Ty.agg], rfl, Nat.le_refl _, .inl ⟨rfl, rfl⟩⟩, fun h => by cases h⟩
  have hbo : ∀ (S' : St) (p : X.Place) (b : Bool), SR Tryz.prog .bool S' .sh p b (.bool b) := fun S' p b => ⟨by simp [Rel, vcells, Ty.agg], fun h => by cases h⟩
  have hsl : ∀ (S' : St) (p : X.Place) (o : List Int) (v : Value) (b : Nat), HI S'.w v o b → S'.F b → SR Tryz.prog (.slice (.int .i64)) S' .sh p o v := fun S' p o v b hHI hF => by
    obtain ⟨h1, h2, cap, cur, e', rfl, h4, h5, h6⟩ := hHI
    refine ⟨⟨Nat.le_trans h2.1 (by decide), by simp [Ty.size], some ⟨b, 0, none⟩, _, cap, by simp [vcells, Ty.agg], rfl, h4, .inr ⟨b, 0, rfl, fun _ => .inl hF, fun i hi => ⟨?_, h2.2 _ (List.getElem_mem hi)⟩⟩⟩, fun h => by cases h⟩
    have := h6 i hi
    simp [blk, World.cell?, h5, Ty.size, this]
  have fin0 : ∀ (e : Ending) (w' : World), Ext S.w w' → e = .returned (.tuple #[.slice none 0 0, .bool false]) → (([], false) : List Int × Bool) = y →
      ∃ v S', e = .returned v ∧ S'.w = w' ∧ Frm S S' ∧ ResOK Tryz.prog S' (Sig.resTM sg13 y) v ∧ ∀ (q : Nat) (e : TM), (q, e) ∈ Sig.outTM sg13 y → ∃ u, [Value.int .i64 n, .int .i64 wn, v2][q]? = some u ∧ SR Tryz.prog e.t S' e.m (q + 1, []) e.x u := fun e w' hx he hyy => by
    subst hyy
    refine ⟨_, { S with w := w' }, he, rfl, ⟨fun _ h => h, rfl, fun b hb => ⟨(hS.shared b hb).1, Nat.lt_of_lt_of_le (hS.shared b hb).2 hx.size, .inl hb⟩, fun b hb => (hS.borrowed b hb).1, fun b p hb => ⟨Nat.lt_of_lt_of_le (hS.owned b p hb) hx.size, .inr (by rw [show S.own b = some p from hb]; simp)⟩, hx.os, hx.tape, hx.output, hx.size, fun b hb _ => hx.block b hb⟩, ⟨_, rfl, rfl, fun k e hk => ?_⟩, fun q e hq => by cases hq⟩
    match k, hk with
    | 0, hk => cases hk; exact ⟨_, rfl, hnil _ _⟩
    | 1, hk => cases hk; exact ⟨_, rfl, hbo _ _ false⟩
    | k + 2, hk => cases hk
  have fin1 : ∀ (e : Ending) (w' : World) (o : List Int) (v : Value) (b : Nat), Ext S.w w' → e = .returned (.tuple #[v, .bool true]) → HI w' v o b → S.w.heap.size ≤ b → ((o, true) : List Int × Bool) = y →
      ∃ v S', e = .returned v ∧ S'.w = w' ∧ Frm S S' ∧ ResOK Tryz.prog S' (Sig.resTM sg13 y) v ∧ ∀ (q : Nat) (e : TM), (q, e) ∈ Sig.outTM sg13 y → ∃ u, [Value.int .i64 n, .int .i64 wn, v2][q]? = some u ∧ SR Tryz.prog e.t S' e.m (q + 1, []) e.x u := fun e w' o v b hx he hHI hbb hyy => by
    subst hyy
    have hown : S.own b = none := by
      cases h : S.own b with
      | none => rfl
      | some p => have := hS.owned b p h; omega
    refine ⟨_, { S with w := w', F := fun c => S.F c ∨ c = b }, he, rfl, ⟨fun _ h => .inl h, rfl, fun c hc => ?_, fun c hc => (hS.borrowed c hc).1, fun c p hc => ⟨Nat.lt_of_lt_of_le (hS.owned c p hc) hx.size, .inr (by rw [show S.own c = some p from hc]; simp)⟩, hx.os, hx.tape, hx.output, hx.size, fun c hc _ => hx.block c hc⟩, ⟨_, rfl, rfl, fun k e hk => ?_⟩, fun q e hq => by cases hq⟩
    · rcases hc with hc | rfl
      · exact ⟨(hS.shared c hc).1, Nat.lt_of_lt_of_le (hS.shared c hc).2 hx.size, .inl hc⟩
      · exact ⟨hown, hHI.lt, .inr (.inl hbb)⟩
    match k, hk with
    | 0, hk => cases hk; exact ⟨_, rfl, hsl _ _ o v b hHI (.inr rfl)⟩
    | 1, hk => cases hk; exact ⟨_, rfl, hbo _ _ true⟩
    | k + 2, hk => cases hk
  unfold d13 at hy0
  by_cases hbad : badW n wn l
  · rw [if_pos hbad] at hy0
    obtain ⟨la, lc, rfl⟩ := hlv
    refine Calls.mono (wit_bad hbad) fun e w' ⟨he, hx⟩ => fin0 e w' hx he (Option.some.inj hy0)
  · rw [if_neg hbad] at hy0
    split at hy0
    · rename_i hall
      have hb2 := good_of hbad
      have hC : ∀ t, isB n t → d46 n l t = some (C29 n l t) := fun t ht => by
        have := hall t ht
        unfold C29
        cases hd : d46 n l t with
        | none => rw [hd] at this; cases this
        | some b => rfl
      have hla : LA (fun b => S.F b ∨ S.B b) S.w v2 l := ⟨⟨r2.1.fut (.inr rfl) ⟨fun b hb => .inl hb, fun b _ hb => .inl (.inr hb), fun b _ => rfl⟩ fun _ _ => rfl, r2.2⟩, fun b hb => hb.elim (fun h => (hS.shared b h).2) fun h => (hS.borrowed b h).2⟩
      refine Calls.mono (wit_ok ⟨hb2.1, hb2.2.1⟩ ⟨hb2.2.2.1, hb2.2.2.2.1⟩ hb2.2.2.2.2 hC hla) fun e w' ⟨hx, hr⟩ => ?_
      rcases hr with ⟨h1, h2⟩ | ⟨o, v, b, h1, h2, h3, h4⟩
      · rw [h1] at hy0
        exact fin0 e w' hx h2 (Option.some.inj hy0)
      · rw [h1] at hy0
        exact fin1 e w' o v b hx h2 h3 h4 (Option.some.inj hy0)
    · cases hy0
noncomputable def E13 : FnE Tryz.prog := ⟨13, sg13, d13, sim13⟩
end Go.Proofs.YthlgoakkgmabaaaGreat
