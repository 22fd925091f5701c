/- Contracts for the walk of suffice.orders: reading alone. -/
import Derived.Test.YthlgoakkgmabaaaGreatG1
import Derived.Test.YthlgoakkgmabaaaGreatW1
set_option linter.unusedSimpArgs false
set_option linter.unusedVariables false
namespace Go.Proofs.YthlgoakkgmabaaaGreat
open Go Go.Proofs Go.RowKit Go.X
def stF (F : Nat → Prop) (W : World) : St := ⟨W, F, fun _ => False, fun _ => none, fun _ => undef⟩
theorem stF_wf {F : Nat → Prop} {W : World} (h : ∀ b, F b → b < W.heap.size) : (stF F W).WF := ⟨fun b hb => ⟨rfl, h b hb⟩, fun b hb => hb.elim, fun b p hb => by cases hb⟩
theorem frm_ext {F : Nat → Prop} {W : World} {S' : St} (h : Frm (stF F W) S') : Ext W S'.w := ⟨h.os, h.tape, h.output, h.size, fun k hk => h.kept k hk rfl⟩
/-- A list of assertions, read. -/
structure LA (F : Nat → Prop) (W : World) (lv : Value) (l : List (Int × (Int × (Int × (List Int × Int))))) : Prop where
  rel : SR Tryz.prog y26 (stF F W) .bw (0, []) l lv
  lt : ∀ b, F b → b < W.heap.size
theorem LA.keep {X F : Nat → Prop} {W W' : World} {lv : Value} {l : List (Int × (Int × (Int × (List Int × Int))))} (h : LA F W lv l) (hk : Kx X W W') (hx : ∀ b, F b → ¬ X b) : LA F W' lv l :=
  ⟨⟨h.rel.1.fut (.inr rfl) ⟨fun b hb => hb, fun b _ hb => hb.elim, fun b hb => hb.elim (fun hb => hk.block b (h.lt b hb) (hx b hb)) fun hb => hb.2.elim⟩ fun _ _ => rfl, h.rel.2⟩, fun b hb => Nat.lt_of_lt_of_le (h.lt b hb) hk.size⟩
theorem sr_int {S : St} {p : X.Place} {m : Md} (hm : m = .sh ∨ m = .bw) {n : Int} (hn : IntKind.i64.wrap n = n) : SR Tryz.prog (.int .i64) S m p n (.int .i64 n) :=
  ⟨by rcases hm with rfl | rfl <;> exact ⟨by simp [vcells, Ty.agg], hn⟩, fun h => by cases h⟩
theorem sr_ints {S : St} {p : X.Place} {t : List Int} {tv : Value} {tb : Nat} (h : HI S.w tv t tb) (hF : S.F tb) (hl : t.length ≤ 1000) : SR Tryz.prog y25 S .bw p t tv := by
  obtain ⟨h1, h2, cap, cur, e, rfl, h4, h5, h6⟩ := h
  refine ⟨⟨Nat.le_trans hl (by decide), by simp [Ty.size], some ⟨tb, 0, none⟩, _, cap, by simp [vcells, Ty.agg], rfl, h4, .inr ⟨tb, 0, rfl, fun _ => .inl hF, fun i hi => ⟨?_, h2.2 _ (List.getElem_mem hi)⟩⟩⟩, fun h => by cases h⟩
  have := h6 i hi
  simp [blk, World.cell?, h5, Ty.size, this]
theorem con29 {F : Nat → Prop} {W : World} {n : Int} {l : List (Int × (Int × (Int × (List Int × Int))))} {lv tv : Value} {t : List Int} {tb : Nat} {b : Bool} (hn : IntKind.i64.wrap n = n) (hl : LA F W lv l) (ht : HI W tv t tb) (htl : t.length ≤ 1000)
    (hd : d46 n l t = some b) : Calls Tryz.prog 46 #[.int .i64 n, lv, tv] W fun e w' => e = .returned (.bool b) ∧ Ext W w' := by
  have hwf : (stF (fun c => F c ∨ c = tb) W).WF := stF_wf fun c hc => hc.elim (hl.lt c) fun h => h ▸ ht.lt
  refine Calls.mono (sim46.2 (n, l, t, ()) b hd (stF (fun c => F c ∨ c = tb) W) hwf [.int .i64 n, lv, tv] rfl fun i e he => ?_) fun e w' ⟨v, S', h1, h2, h3, h4, _⟩ => ?_
  · match i, he with
    | 0, he => cases he; exact ⟨_, rfl, sr_int (.inl rfl) hn⟩
    | 1, he =>
      cases he
      exact ⟨_, rfl, hl.rel.1.fut (.inr rfl) ⟨fun b hb => .inl hb, fun b _ hb => hb.elim, fun b hb => rfl⟩ fun _ _ => rfl, hl.rel.2⟩
    | 2, he => cases he; exact ⟨_, rfl, sr_ints ht (.inr rfl) htl⟩
    | i + 3, he => cases he
  · subst h1 h2
    have h5 : SR Tryz.prog .bool S' .sh (0, [0]) b v := h4
    have h6 : v = .bool b := by have := h5.1; simpa [Rel, vcells, Ty.agg] using this
    exact ⟨by rw [h6], frm_ext h3⟩
theorem con30 {W : World} {tv : Value} {t : List Int} {tb : Nat} {c : Int} {b : Bool} (hc : IntKind.i64.wrap c = c) (ht : HI W tv t tb) (htl : t.length ≤ 1000)
    (hd : d30 t c = some b) : Calls Tryz.prog 30 #[tv, .int .i64 c] W fun e w' => e = .returned (.bool b) ∧ Ext W w' := by
  have hwf : (stF (fun c => c = tb) W).WF := stF_wf fun c hc => hc ▸ ht.lt
  refine Calls.mono (sim30.2 (t, c, ()) b hd (stF (fun c => c = tb) W) hwf [tv, .int .i64 c] rfl fun i e he => ?_) fun e w' ⟨v, S', h1, h2, h3, h4, _⟩ => ?_
  · match i, he with
    | 0, he => cases he; exact ⟨_, rfl, sr_ints ht rfl htl⟩
    | 1, he => cases he; exact ⟨_, rfl, sr_int (.inl rfl) hc⟩
    | i + 2, he => cases he
  · subst h1 h2
    have h5 : SR Tryz.prog .bool S' .sh (0, [0]) b v := h4
    have h6 : v = .bool b := by have := h5.1; simpa [Rel, vcells, Ty.agg] using this
    exact ⟨by rw [h6], frm_ext h3⟩
theorem con17 {W : World} {sv tv : Value} {s t : List Int} {sb tb : Nat} {r : Int} (hs : HI W sv s sb) (hsl : s.length ≤ 1000) (ht : HI W tv t tb) (htl : t.length ≤ 1000)
    (hd : d26 s t = some r) : Calls Tryz.prog 26 #[sv, tv] W fun e w' => e = .returned (.int .i64 r) ∧ Ext W w' := by
  have hwf : (stF (fun c => c = sb ∨ c = tb) W).WF := stF_wf fun c hc => hc.elim (fun h => h ▸ hs.lt) fun h => h ▸ ht.lt
  refine Calls.mono (sim26.2 (s, t, ()) r hd (stF (fun c => c = sb ∨ c = tb) W) hwf [sv, tv] rfl fun i e he => ?_) fun e w' ⟨v, S', h1, h2, h3, h4, _⟩ => ?_
  · match i, he with
    | 0, he => cases he; exact ⟨_, rfl, sr_ints hs (.inl rfl) hsl⟩
    | 1, he => cases he; exact ⟨_, rfl, sr_ints ht (.inr rfl) htl⟩
    | i + 2, he => cases he
  · subst h1 h2
    have h5 : SR Tryz.prog (.int .i64) S' .sh (0, [0]) r v := h4
    have h6 : v = .int .i64 r := by have := h5.1.1; simpa [vcells, Ty.agg] using this
    exact ⟨by rw [h6], frm_ext h3⟩
end Go.Proofs.YthlgoakkgmabaaaGreat
