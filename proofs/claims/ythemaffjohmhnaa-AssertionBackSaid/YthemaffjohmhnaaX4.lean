/- The relation after a part has been replaced. -/
import Derived.Test.YthemaffjohmhnaaX3
namespace Go.X
open Go Go.RowKit
/- The functions on paths, case by case. -/
theorem getP_arr (i : Nat) (π : List Nat) (n : Nat) (t : Ty) (xs : List t.den) : getP (i :: π) (.arr n t) xs = getP π t (xs.getD i t.dflt) := by cases i <;> (try rename_i j; cases j) <;> rfl
theorem getP_slice (i : Nat) (π : List Nat) (t : Ty) (xs : List t.den) : getP (i :: π) (.slice t) xs = getP π t (xs.getD i t.dflt) := by cases i <;> (try rename_i j; cases j) <;> rfl
theorem setP_arr (i : Nat) (π : List Nat) (n : Nat) (t : Ty) (xs : List t.den) (y : TV) : setP (i :: π) (.arr n t) xs y = (setP π t (xs.getD i t.dflt) y).map fun z => xs.set i z := by cases i <;> (try rename_i j; cases j) <;> rfl
theorem setP_slice (i : Nat) (π : List Nat) (t : Ty) (xs : List t.den) (y : TV) : setP (i :: π) (.slice t) xs y = (setP π t (xs.getD i t.dflt) y).map fun z => xs.set i z := by cases i <;> (try rename_i j; cases j) <;> rfl
theorem modeP_arr (i : Nat) (π : List Nat) (n : Nat) (t : Ty) (m : Md) : modeP (i :: π) (.arr n t) m = modeP π t m := by cases i <;> (try rename_i j; cases j) <;> rfl
theorem modeP_slice (i : Nat) (π : List Nat) (t : Ty) (e : TypeId) (k : Md) : modeP (i :: π) (.slice t) (.own e k) = modeP π t k := by cases i <;> (try rename_i j; cases j) <;> rfl
theorem setM_arr (i : Nat) (π : List Nat) (n : Nat) (t : Ty) (m m' : Md) : setM (i :: π) (.arr n t) m m' = (setM π t m m').bind fun k => if leM t k m then some m else none := by cases i <;> (try rename_i j; cases j) <;> rfl
theorem setM_slice (i : Nat) (π : List Nat) (t : Ty) (e : TypeId) (k m' : Md) : setM (i :: π) (.slice t) (.own e k) m' = (setM π t k m').bind fun j => if leM t j k then some (.own e k) else none := by cases i <;> (try rename_i j; cases j) <;> rfl
theorem locP_arr (i : Nat) (π : List Nat) (n : Nat) (t : Ty) : locP (i :: π) (.arr n t) = (locP π t).map fun l => match l with | (none, o) => (none, i * t.size + o) | (some q, o) => (some (i :: q), o) := by cases i <;> (try rename_i j; cases j) <;> rfl
theorem locP_slice (i : Nat) (π : List Nat) (t : Ty) : locP (i :: π) (.slice t) = (locP π t).map fun l => match l with | (none, o) => (some [], i * t.size + o) | (some q, o) => (some (i :: q), o) := by cases i <;> (try rename_i j; cases j) <;> rfl
theorem okP_arr {S : St} (i : Nat) (π : List Nat) (n : Nat) (t : Ty) (p : Place) : okP S (i :: π) (.arr n t) p = (i < n ∧ okP S π t (px p i)) := by cases i <;> (try rename_i j; cases j) <;> rfl
theorem okP_slice {S : St} (i : Nat) (π : List Nat) (t : Ty) (p : Place) : okP S (i :: π) (.slice t) p = ((∃ b len cap, S.hv p = .slice (some ⟨b, 0, none⟩) len cap ∧ i < len) ∧ okP S π t (px p i)) := by cases i <;> (try rename_i j; cases j) <;> rfl
theorem setM_slice_own {i : Nat} {π : List Nat} {t : Ty} {m m' k : Md} (h : setM (i :: π) (.slice t) m k = some m') : ∃ e j, m = .own e j := by
  cases m <;> first | exact ⟨_, _, rfl⟩ | (cases i <;> (try rename_i j; cases j) <;> cases h)
/-- All that p's subtree holds stays, but for what lies at π; b0 is the block that holds the part at π. -/
structure Fr (S S' : St) (p : Place) (π : List Nat) (b0 : Option Nat) : Prop where
  F : ∀ b, S.F b → S'.F b
  sF : ∀ b, S.F b → S'.w.heap[b]? = S.w.heap[b]?
  B : ∀ b, S.B b → S'.F b ∨ S'.B b
  sB : ∀ b, S.B b → S'.w.heap[b]? = S.w.heap[b]?
  hv : ∀ r, ¬ π <+: r → S'.hv (pa p r) = S.hv (pa p r)
  own : ∀ b r, ¬ π <+: r → S.own b = some (pa p r) → S'.own b = some (pa p r) ∧ (some b ≠ b0 → S'.w.heap[b]? = S.w.heap[b]?)
theorem Fr.sub {S S' : St} {p : Place} {i : Nat} {π : List Nat} {b0 : Option Nat} (h : Fr S S' p (i :: π) b0) : Fr S S' (px p i) π b0 where
  F := h.F
  sF := h.sF
  B := h.B
  sB := h.sB
  hv r hr := by rw [pa_px]; exact h.hv _ fun hp => hr (List.cons_prefix_cons.1 hp).2
  own b r hr hb := by rw [pa_px] at hb ⊢; exact h.own b _ (fun hp => hr (List.cons_prefix_cons.1 hp).2) hb
theorem Fr.none_of {S S' : St} {p : Place} {π : List Nat} {b0 : Nat} (h : Fr S S' p π (some b0)) (hb : ∀ r, S.own b0 ≠ some (pa p r)) : Fr S S' p π none where
  F := h.F
  sF := h.sF
  B := h.B
  sB := h.sB
  hv := h.hv
  own b r hr hbo := ⟨(h.own b r hr hbo).1, fun _ => (h.own b r hr hbo).2 fun he => hb r (by cases he; exact hbo)⟩
theorem pa_inj {p : Place} {q r : List Nat} (h : pa p q = pa p r) : q = r := by simpa [pa] using h
/-- A sibling stays as it is. -/
theorem Fr.side {S S' : St} {p : Place} {i j : Nat} {π : List Nat} {b0 : Option Nat} (h : Fr S S' p (i :: π) b0) (hij : j ≠ i) (hb : ∀ b r, b0 = some b → S.own b ≠ some (pa p (j :: r))) : Tr true S S' (px p j) (px p j) where
  F := h.F
  sF := h.sF
  B _ := h.B
  sB _ := h.sB
  hv r := by rw [pa_px]; exact h.hv _ fun hp => hij (List.cons_prefix_cons.1 hp).1.symm
  own b r hbo := by
    rw [pa_px] at hbo ⊢
    have := h.own b _ (fun hp => hij (List.cons_prefix_cons.1 hp).1.symm) hbo
    exact ⟨this.1, this.2 fun he => hb b r he.symm hbo⟩
section
variable {P : Program}
theorem ext_le {S : St} {s : Ty} {y : s.den} : ∀ {π : List Nat} {t : Ty} {p : Place} {x x' : t.den} {o : Nat}, locP π t = some (none, o) → setP π t x ⟨s, y⟩ = some x' → okP S π t p → o + s.size ≤ t.size
  | [], t, p, x, x', o, hl, hs, _ => by
    simp only [locP, Option.some.injEq, Prod.mk.injEq, true_and] at hl
    have := TV.to_some hs
    cases this
    omega
  | i :: π, .pair a b, p, x, x', o, hl, hs, ho => by
    match i with
    | 0 =>
      simp only [locP, Option.map_eq_some_iff] at hl
      obtain ⟨⟨q, o'⟩, h1, h2⟩ := hl
      simp only [Prod.mk.injEq, Option.map_eq_none_iff] at h2
      obtain ⟨rfl, rfl⟩ := h2
      simp only [setP, Option.map_eq_some_iff] at hs
      obtain ⟨z, h3, h4⟩ := hs
      have := ext_le h1 h3 ho
      simp only [Ty.size]
      omega
    | 1 =>
      simp only [locP, Option.map_eq_some_iff] at hl
      obtain ⟨⟨q, o'⟩, h1, h2⟩ := hl
      cases q with
      | some q => simp at h2
      | none =>
        simp only [Prod.mk.injEq, true_and] at h2
        subst h2
        simp only [setP, Option.map_eq_some_iff] at hs
        obtain ⟨z, h3, h4⟩ := hs
        have := ext_le h1 h3 ho
        simp only [Ty.size]
        omega
    | i + 2 => simp [locP] at hl
  | i :: π, .arr n t, p, x, x', o, hl, hs, ho => by
    rw [locP_arr] at hl
    rw [okP_arr] at ho
    rw [setP_arr] at hs
    simp only [Option.map_eq_some_iff] at hl hs
    obtain ⟨⟨q, o'⟩, h1, h2⟩ := hl
    cases q with
    | some q => simp at h2
    | none =>
      simp only [Prod.mk.injEq, true_and] at h2
      subst h2
      obtain ⟨z, h3, h4⟩ := hs
      have := ext_le h1 h3 ho.2
      have hm : (i + 1) * t.size ≤ n * t.size := Nat.mul_le_mul_right _ ho.1
      rw [Nat.add_mul] at hm
      simp only [Ty.size]
      omega
  | i :: π, .slice t, p, x, x', o, hl, hs, ho => by
    rw [locP_slice] at hl
    simp only [Option.map_eq_some_iff] at hl
    obtain ⟨⟨q, o'⟩, h1, h2⟩ := hl
    cases q <;> simp at h2
  | i :: π, .ptr t, p, x, x', o, hl, hs, ho => by
    match i with
    | 0 =>
      simp only [locP, Option.map_eq_some_iff] at hl
      obtain ⟨⟨q, o'⟩, h1, h2⟩ := hl
      cases q <;> simp at h2
    | i + 1 => simp [locP] at hl
  | _ :: _, .int _, _, _, _, _, hl, _, _ => by simp [locP] at hl
  | _ :: _, .bool, _, _, _, _, hl, _, _ => by simp [locP] at hl
  | _ :: _, .str, _, _, _, _, hl, _, _ => by simp [locP] at hl
  | _ :: _, .unit, _, _, _, _, hl, _, _ => by simp [locP] at hl
  | _ :: _, .fn1 _ _, _, _, _, _, hl, _, _ => by simp [locP] at hl
  | _ :: _, .fn2 _ _ _, _, _, _, _, hl, _, _ => by simp [locP] at hl
  | _ :: _, .alt _ _ _, _, _, _, _, hl, _, _ => by simp [locP] at hl
  | _ :: _, .nilI, _, _, _, _, hl, _, _ => by simp [locP] at hl
/-- The part lies in the cells themselves. -/
theorem Rel.updA {S S' : St} {s : Ty} {y : s.den} {k : Md} : ∀ {π : List Nat} {t : Ty} {m m' : Md} {p : Place} {x x' : t.den} {cs cs' : Cs} {o : Nat}, Rel P t S m p x cs → locP π t = some (none, o) → setM π t m k = some m' →
    setP π t x ⟨s, y⟩ = some x' → okP S π t p → Fr S S' p π none → (∀ i, i < t.size → i < o ∨ o + s.size ≤ i → cs' i = cs i) → Rel P s S' k (pa p π) y (fun i => cs' (o + i)) → Rel P t S' m' p x' cs'
  | [], t, m, m', p, x, x', cs, cs', o, h, hl, hm, hs, ho, hF, hc, hy => by
    simp only [locP, Option.some.injEq, Prod.mk.injEq, true_and] at hl
    simp only [setM, Option.some.injEq] at hm
    subst hl hm
    have := TV.to_some hs
    cases this
    rw [pa_nil] at hy
    simpa using hy
  | i :: π, .pair a b, m, m', p, x, x', cs, cs', o, h, hl, hm, hs, ho, hF, hc, hy => by
    match i with
    | 0 =>
      simp only [locP, Option.map_eq_some_iff] at hl
      obtain ⟨⟨q, o'⟩, h1, h2⟩ := hl
      simp only [Prod.mk.injEq, Option.map_eq_none_iff] at h2
      obtain ⟨rfl, rfl⟩ := h2
      simp only [setP, Option.map_eq_some_iff] at hs
      obtain ⟨z, h3, rfl⟩ := hs
      simp only [setM, Option.map_eq_some_iff] at hm
      obtain ⟨k', h4, rfl⟩ := hm
      have he := ext_le h1 h3 ho
      rw [← pa_px] at hy
      refine ⟨Rel.updA h.1 h1 h4 h3 ho hF.sub (fun i hi hio => hc i (by simp only [Ty.size]; omega) hio) hy, ?_⟩
      exact h.2.mono (.inl rfl) (hF.side (by omega) (by simp)) fun i hi => hc _ (by simp only [Ty.size]; omega) (.inr (by omega))
    | 1 =>
      simp only [locP, Option.map_eq_some_iff] at hl
      obtain ⟨⟨q, o'⟩, h1, h2⟩ := hl
      cases q with
      | some q => simp at h2
      | none =>
        simp only [Prod.mk.injEq, true_and] at h2
        subst h2
        simp only [setP, Option.map_eq_some_iff] at hs
        obtain ⟨z, h3, rfl⟩ := hs
        simp only [setM, Option.map_eq_some_iff] at hm
        obtain ⟨k', h4, rfl⟩ := hm
        rw [← pa_px] at hy
        refine ⟨h.1.mono (.inl rfl) (hF.side (by omega) (by simp)) fun i hi => hc _ (by simp only [Ty.size]; omega) (.inl (by omega)), ?_⟩
        refine Rel.updA h.2 h1 h4 h3 ho hF.sub (fun i hi hio => hc _ (by simp only [Ty.size]; omega) (by omega)) ?_
        have : (fun i => cs' (a.size + (o' + i))) = fun i => cs' (a.size + o' + i) := funext fun i => by rw [Nat.add_assoc]
        rw [this]
        exact hy
    | i + 2 => simp [locP] at hl
  | i :: π, .arr n t, m, m', p, x, x', cs, cs', o, h, hl, hm, hs, ho, hF, hc, hy => by
    rw [locP_arr] at hl
    rw [okP_arr] at ho
    rw [setP_arr] at hs
    rw [setM_arr] at hm
    simp only [Option.map_eq_some_iff] at hl hs
    obtain ⟨⟨q, o'⟩, h1, h2⟩ := hl
    cases q with
    | some q => simp at h2
    | none =>
      simp only [Prod.mk.injEq, true_and] at h2
      subst h2
      obtain ⟨z, h3, rfl⟩ := hs
      simp only [Option.bind_eq_some_iff] at hm
      obtain ⟨k', h4, h5⟩ := hm
      split at h5
      case isFalse => cases h5
      rename_i hle
      cases h5
      have hi : i < x.length := by rw [h.1]; exact ho.1
      rw [getD_of_lt hi] at h3
      have he := ext_le h1 h3 ho.2
      rw [← pa_px] at hy
      have hmul : ∀ j, j < n → (j + 1) * t.size ≤ n * t.size := fun j hj => Nat.mul_le_mul_right _ hj
      refine ⟨by rw [List.length_set]; exact h.1, fun j hj => ?_⟩
      have hj' : j < x.length := by rwa [List.length_set] at hj
      by_cases hji : j = i
      · subst hji
        have e1 : (x.set j z)[j]'(by rw [List.length_set]; exact hj') = z := List.getElem_set_self _
        rw [e1]
        refine (Rel.updA (h.2 j hj') h1 h4 h3 ho.2 hF.sub (fun i hi hio => hc _ ?_ (by omega)) ?_).weaken hle
        · have := hmul j ho.1; rw [Nat.add_mul] at this; simp only [Ty.size]; omega
        · have : (fun i => cs' (j * t.size + (o' + i))) = fun i => cs' (j * t.size + o' + i) := funext fun i => by rw [Nat.add_assoc]
          rw [this]
          exact hy
      · have e1 : (x.set i z)[j]'(by rw [List.length_set]; exact hj') = x[j] := List.getElem_set_ne (Ne.symm hji) _
        rw [e1]
        refine (h.2 j hj').mono (.inl rfl) (hF.side hji (by simp)) fun l hl => hc _ ?_ ?_
        · have := hmul j (by rw [← h.1]; exact hj'); rw [Nat.add_mul] at this; simp only [Ty.size]; omega
        · rcases Nat.lt_or_ge j i with hlt | hge
          · have : (j + 1) * t.size ≤ i * t.size := Nat.mul_le_mul_right _ hlt
            rw [Nat.add_mul] at this
            exact .inl (by omega)
          · have : (i + 1) * t.size ≤ j * t.size := Nat.mul_le_mul_right _ (by omega)
            rw [Nat.add_mul] at this
            exact .inr (by omega)
  | i :: π, .slice t, m, m', p, x, x', cs, cs', o, h, hl, hm, hs, ho, hF, hc, hy => by
    rw [locP_slice] at hl
    simp only [Option.map_eq_some_iff] at hl
    obtain ⟨⟨q, o'⟩, h1, h2⟩ := hl
    cases q <;> simp at h2
  | i :: π, .ptr t, m, m', p, x, x', cs, cs', o, h, hl, hm, hs, ho, hF, hc, hy => by
    match i with
    | 0 =>
      simp only [locP, Option.map_eq_some_iff] at hl
      obtain ⟨⟨q, o'⟩, h1, h2⟩ := hl
      cases q <;> simp at h2
    | i + 1 => simp [locP] at hl
  | _ :: _, .int _, _, _, _, _, _, _, _, _, _, hl, _, _, _, _, _, _ => by simp [locP] at hl
  | _ :: _, .bool, _, _, _, _, _, _, _, _, _, hl, _, _, _, _, _, _ => by simp [locP] at hl
  | _ :: _, .str, _, _, _, _, _, _, _, _, _, hl, _, _, _, _, _, _ => by simp [locP] at hl
  | _ :: _, .unit, _, _, _, _, _, _, _, _, _, hl, _, _, _, _, _, _ => by simp [locP] at hl
  | _ :: _, .fn1 _ _, _, _, _, _, _, _, _, _, _, hl, _, _, _, _, _, _ => by simp [locP] at hl
  | _ :: _, .fn2 _ _ _, _, _, _, _, _, _, _, _, _, hl, _, _, _, _, _, _ => by simp [locP] at hl
  | _ :: _, .alt _ _ _, _, _, _, _, _, _, _, _, _, hl, _, _, _, _, _, _ => by simp [locP] at hl
  | _ :: _, .nilI, _, _, _, _, _, _, _, _, _, hl, _, _, _, _, _, _ => by simp [locP] at hl
end
end Go.X
