/- The relation after a part behind a header has been replaced. -/
import Derived.Test.YthemaffjohmhnaaX4
namespace Go.X
open Go Go.RowKit
section
variable {P : Program}
theorem not_prefix_nil {i : Nat} {π : List Nat} : ¬ (i :: π) <+: [] := fun h => by cases List.prefix_nil.1 h
theorem pa_cons_ne {p : Place} {i : Nat} {r : List Nat} : p ≠ pa p (i :: r) := fun h => by
  have := pa_inj (p := p) (q := []) (r := i :: r) (by rw [pa_nil]; exact h)
  cases this
/-- The part lies in block b, to which the header at q leads. -/
theorem Rel.updB {S S' : St} {s : Ty} {y : s.den} {k : Md} {b o0 : Nat} {cur cur' : Array Value} {e : TypeId} (hb : S.w.heap[b]? = some (.cells cur e (0, 0))) (hb' : S'.w.heap[b]? = some (.cells cur' e (0, 0))) (hsz : cur'.size = cur.size) :
    ∀ {π : List Nat} {t : Ty} {m m' : Md} {p : Place} {x x' : t.den} {cs cs' : Cs} {q : List Nat} {o : Nat}, o = o0 → (∀ i, i < o ∨ o + s.size ≤ i → cur'[i]? = cur[i]?) → Rel P t S m p x cs → locP π t = some (some q, o) → setM π t m k = some m' →
    setP π t x ⟨s, y⟩ = some x' → okP S π t p → hvB (S.hv (pa p q)) = some b → S.own b = some (pa p q) → Fr S S' p π (some b) → (∀ i, i < t.size → cs' i = cs i) → Rel P s S' k (pa p π) y (fun i => cur'[o + i]?) → Rel P t S' m' p x' cs'
  | [], t, m, m', p, x, x', cs, cs', q, o, _, _, h, hl, hm, hs, ho, hh, hw, hF, hc, hy => by simp [locP] at hl
  | i :: π, .pair a c, m, m', p, x, x', cs, cs', q, o, ho0, hcur, h, hl, hm, hs, ho, hh, hw, hF, hc, hy => by
    match i with
    | 0 =>
      simp only [locP, Option.map_eq_some_iff] at hl
      obtain ⟨⟨q', o'⟩, h1, h2⟩ := hl
      simp only [Prod.mk.injEq, Option.map_eq_some_iff] at h2
      obtain ⟨⟨q'', rfl, rfl⟩, rfl⟩ := h2
      simp only [setP, Option.map_eq_some_iff] at hs
      obtain ⟨z, h3, rfl⟩ := hs
      simp only [setM, Option.map_eq_some_iff] at hm
      obtain ⟨k', h4, rfl⟩ := hm
      rw [← pa_px] at hy hh hw
      refine ⟨Rel.updB hb hb' hsz ho0 hcur h.1 h1 h4 h3 ho hh hw hF.sub (fun i hi => hc i (by simp only [Ty.size]; omega)) hy, ?_⟩
      rw [pa_px] at hw
      exact h.2.mono (.inl rfl) (hF.side (by omega) fun b' r he hbo => by cases he; rw [hw] at hbo; cases pa_inj (Option.some.inj hbo)) fun i hi => hc _ (by simp only [Ty.size]; omega)
    | 1 =>
      simp only [locP, Option.map_eq_some_iff] at hl
      obtain ⟨⟨q', o'⟩, h1, h2⟩ := hl
      cases q' with
      | none => simp at h2
      | some q' =>
        simp only [Prod.mk.injEq, Option.some.injEq] at h2
        obtain ⟨rfl, rfl⟩ := h2
        simp only [setP, Option.map_eq_some_iff] at hs
        obtain ⟨z, h3, rfl⟩ := hs
        simp only [setM, Option.map_eq_some_iff] at hm
        obtain ⟨k', h4, rfl⟩ := hm
        rw [← pa_px] at hy hh hw
        refine ⟨?_, Rel.updB hb hb' hsz ho0 hcur h.2 h1 h4 h3 ho hh hw hF.sub (fun i hi => hc _ (by simp only [Ty.size]; omega)) hy⟩
        rw [pa_px] at hw
        exact h.1.mono (.inl rfl) (hF.side (by omega) fun b' r he hbo => by cases he; rw [hw] at hbo; cases pa_inj (Option.some.inj hbo)) fun i hi => hc _ (by simp only [Ty.size]; omega)
    | i + 2 => simp [locP] at hl
  | i :: π, .arr n t, m, m', p, x, x', cs, cs', q, o, ho0, hcur, h, hl, hm, hs, ho, hh, hw, hF, hc, hy => by
    rw [locP_arr] at hl
    rw [okP_arr] at ho
    rw [setP_arr] at hs
    rw [setM_arr] at hm
    simp only [Option.map_eq_some_iff] at hl hs
    obtain ⟨⟨q', o'⟩, h1, h2⟩ := hl
    cases q' with
    | none => simp at h2
    | some q' =>
      simp only [Prod.mk.injEq, Option.some.injEq] at h2
      obtain ⟨rfl, rfl⟩ := h2
      obtain ⟨z, h3, rfl⟩ := hs
      simp only [Option.bind_eq_some_iff] at hm
      obtain ⟨k', h4, h5⟩ := hm
      split at h5
      case isFalse => cases h5
      rename_i hle
      cases h5
      have hi : i < x.length := by rw [h.1]; exact ho.1
      rw [getD_of_lt hi] at h3
      have hmul : ∀ j, j < n → (j + 1) * t.size ≤ n * t.size := fun j hj => Nat.mul_le_mul_right _ hj
      refine ⟨by rw [List.length_set]; exact h.1, fun j hj => ?_⟩
      have hj' : j < x.length := by rwa [List.length_set] at hj
      have hcell : ∀ l, l < t.size → cs' (j * t.size + l) = cs (j * t.size + l) := fun l hl => hc _ (by have := hmul j (by rw [← h.1]; exact hj'); rw [Nat.add_mul] at this; simp only [Ty.size]; omega)
      by_cases hji : j = i
      · subst hji
        have e1 : (x.set j z)[j]'(by rw [List.length_set]; exact hj') = z := List.getElem_set_self _
        rw [e1]
        rw [← pa_px] at hy hh hw
        exact (Rel.updB hb hb' hsz ho0 hcur (h.2 j hj') h1 h4 h3 ho.2 hh hw hF.sub hcell hy).weaken hle
      · have e1 : (x.set i z)[j]'(by rw [List.length_set]; exact hj') = x[j] := List.getElem_set_ne (Ne.symm hji) _
        rw [e1]
        exact (h.2 j hj').mono (.inl rfl) (hF.side hji fun b' r he hbo => by cases he; rw [hw] at hbo; have := pa_inj (Option.some.inj hbo); cases this; exact hji rfl) hcell
  | i :: π, .slice t, m, m', p, x, x', cs, cs', q, o, ho0, hcur, h, hl, hm, hs, ho, hh, hw, hF, hc, hy => by
    obtain ⟨e0, j0, rfl⟩ := setM_slice_own hm
    rw [locP_slice] at hl
    rw [okP_slice] at ho
    rw [setP_slice] at hs
    rw [setM_slice] at hm
    simp only [Option.map_eq_some_iff] at hl hs
    obtain ⟨z, h3, rfl⟩ := hs
    simp only [Option.bind_eq_some_iff] at hm
    obtain ⟨k', h4, h5⟩ := hm
    split at h5
    case isFalse => cases h5
    rename_i hle
    cases h5
    obtain ⟨hml, hpos, hc0, hcase⟩ := h
    obtain ⟨⟨g, len, cap, hhv, hi⟩, ho⟩ := ho
    have hvp := hF.hv [] not_prefix_nil
    rw [pa_nil] at hvp
    rcases hcase with ⟨h6, _⟩ | ⟨g', cap', cur0, h6, h7, h8, h9, h10, h11, h12⟩
    · rw [h6] at hhv; cases hhv
    rw [h6] at hhv
    cases hhv
    rw [getD_of_lt hi] at h3
    have hmul : ∀ j, j < x.length → (j + 1) * t.size ≤ cap * t.size := fun j hj => Nat.mul_le_mul_right _ (Nat.le_trans hj h9)
    have hog := hF.own g [] not_prefix_nil (by rw [pa_nil]; exact h7)
    rw [pa_nil] at hog
    obtain ⟨⟨q', o'⟩, h1, h2⟩ := hl
    refine ⟨by rw [List.length_set]; exact hml, hpos, by rw [hc 0 Nat.one_pos, hc0, hvp], .inr ?_⟩
    cases q' with
    | none =>
      simp only [Prod.mk.injEq, Option.some.injEq] at h2
      obtain ⟨rfl, rfl⟩ := h2
      rw [pa_nil, h6] at hh
      cases hh
      rw [h8] at hb
      cases hb
      have hn := hF.sub.none_of (fun r hr => by rw [h7, pa_px] at hr; exact pa_cons_ne (Option.some.inj hr))
      have he := ext_le (S := S) h1 h3 ho
      refine ⟨b, cap, cur', by rw [hvp, h6, List.length_set], hog.1, hb', by rw [List.length_set]; exact h9, h10, hsz.trans h11, fun j hj => ?_⟩
      have hj' : j < x.length := by rwa [List.length_set] at hj
      by_cases hji : j = i
      · subst hji
        have e1 : (x.set j z)[j]'(by rw [List.length_set]; exact hj') = z := List.getElem_set_self _
        rw [e1]
        refine (Rel.updA (h12 j hj') h1 h4 h3 ho hn (fun l hl hlo => hcur _ (by omega)) ?_).weaken hle
        rw [pa_px]
        have : (fun i => cur'[j * t.size + (o' + i)]?) = fun i => cur'[j * t.size + o' + i]? := funext fun i => by rw [Nat.add_assoc]
        rw [this]
        exact hy
      · have e1 : (x.set i z)[j]'(by rw [List.length_set]; exact hj') = x[j] := List.getElem_set_ne (Ne.symm hji) _
        rw [e1]
        refine (h12 j hj').mono (.inl rfl) (hF.side hji fun b' r he hbo => by cases he; rw [hw] at hbo; cases pa_inj (Option.some.inj hbo)) fun l hl => hcur _ ?_
        rcases Nat.lt_or_ge j i with hlt | hge
        · have : (j + 1) * t.size ≤ i * t.size := Nat.mul_le_mul_right _ hlt
          rw [Nat.add_mul] at this
          exact .inl (by omega)
        · have : (i + 1) * t.size ≤ j * t.size := Nat.mul_le_mul_right _ (by omega)
          rw [Nat.add_mul] at this
          exact .inr (by omega)
    | some q' =>
      simp only [Prod.mk.injEq, Option.some.injEq] at h2
      obtain ⟨rfl, rfl⟩ := h2
      have hgb : some g ≠ some b := fun he => by cases he; rw [h7] at hw; exact pa_cons_ne (Option.some.inj hw)
      refine ⟨g, cap, cur0, by rw [hvp, h6, List.length_set], hog.1, (hog.2 hgb).trans h8, by rw [List.length_set]; exact h9, h10, h11, fun j hj => ?_⟩
      have hj' : j < x.length := by rwa [List.length_set] at hj
      by_cases hji : j = i
      · subst hji
        have e1 : (x.set j z)[j]'(by rw [List.length_set]; exact hj') = z := List.getElem_set_self _
        rw [e1]
        rw [← pa_px] at hy hh hw
        exact (Rel.updB hb hb' hsz ho0 hcur (h12 j hj') h1 h4 h3 ho hh hw hF.sub (fun _ _ => rfl) hy).weaken hle
      · have e1 : (x.set i z)[j]'(by rw [List.length_set]; exact hj') = x[j] := List.getElem_set_ne (Ne.symm hji) _
        rw [e1]
        exact (h12 j hj').mono (.inl rfl) (hF.side hji fun b' r he hbo => by cases he; rw [hw] at hbo; have := pa_inj (Option.some.inj hbo); cases this; exact hji rfl) fun _ _ => rfl
  | i :: π, .ptr t, m, m', p, x, x', cs, cs', q, o, ho0, hcur, h, hl, hm, hs, ho, hh, hw, hF, hc, hy => by
    match i with
    | i + 1 => simp [locP] at hl
    | 0 =>
      cases m <;> first | (simp [setM] at hm; done) | skip
      rename_i e0 j0
      simp only [setM, Option.map_eq_some_iff] at hm
      obtain ⟨k', h4, rfl⟩ := hm
      simp only [locP, Option.map_eq_some_iff] at hl
      obtain ⟨⟨q', o'⟩, h1, h2⟩ := hl
      simp only [setP] at hs
      obtain ⟨hc0, g, cur0, e1, h6, h7, h8, h9, h10⟩ := h
      have hvp := hF.hv [] not_prefix_nil
      rw [pa_nil] at hvp
      have hog := hF.own g [] not_prefix_nil (by rw [pa_nil]; exact h7)
      rw [pa_nil] at hog
      refine ⟨by rw [hc 0 Nat.one_pos, hc0, hvp], ?_⟩
      cases q' with
      | none =>
        simp only [Prod.mk.injEq, Option.some.injEq] at h2
        obtain ⟨rfl, rfl⟩ := h2
        rw [pa_nil, h6] at hh
        cases hh
        rw [h8] at hb
        cases hb
        have hn := hF.sub.none_of (fun r hr => by rw [h7, pa_px] at hr; exact pa_cons_ne (Option.some.inj hr))
        exact ⟨b, cur', e, hvp.trans h6, hog.1, hb', hsz.trans h9, Rel.updA h10 h1 h4 hs ho hn (fun l hl hlo => hcur _ hlo) (by rw [pa_px]; exact hy)⟩
      | some q' =>
        simp only [Prod.mk.injEq, Option.some.injEq] at h2
        obtain ⟨rfl, rfl⟩ := h2
        have hgb : some g ≠ some b := fun he => by cases he; rw [h7] at hw; exact pa_cons_ne (Option.some.inj hw)
        rw [← pa_px] at hy hh hw
        exact ⟨g, cur0, e1, hvp.trans h6, hog.1, (hog.2 hgb).trans h8, h9, Rel.updB hb hb' hsz ho0 hcur h10 h1 h4 hs ho hh hw hF.sub (fun _ _ => rfl) hy⟩
  | _ :: _, .int _, _, _, _, _, _, _, _, _, _, _, _, _, hl, _, _, _, _, _, _, _, _ => by simp [locP] at hl
  | _ :: _, .bool, _, _, _, _, _, _, _, _, _, _, _, _, hl, _, _, _, _, _, _, _, _ => by simp [locP] at hl
  | _ :: _, .str, _, _, _, _, _, _, _, _, _, _, _, _, hl, _, _, _, _, _, _, _, _ => by simp [locP] at hl
  | _ :: _, .unit, _, _, _, _, _, _, _, _, _, _, _, _, hl, _, _, _, _, _, _, _, _ => by simp [locP] at hl
  | _ :: _, .fn1 _ _, _, _, _, _, _, _, _, _, _, _, _, _, hl, _, _, _, _, _, _, _, _ => by simp [locP] at hl
  | _ :: _, .fn2 _ _ _, _, _, _, _, _, _, _, _, _, _, _, _, hl, _, _, _, _, _, _, _, _ => by simp [locP] at hl
  | _ :: _, .alt _ _ _, _, _, _, _, _, _, _, _, _, _, _, _, hl, _, _, _, _, _, _, _, _ => by simp [locP] at hl
  | _ :: _, .nilI, _, _, _, _, _, _, _, _, _, _, _, _, hl, _, _, _, _, _, _, _, _ => by simp [locP] at hl
end
end Go.X
