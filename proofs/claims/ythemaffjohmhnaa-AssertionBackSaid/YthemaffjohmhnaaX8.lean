/- Parts of a slot's value: what they are, frozen, taken, given, written. -/
import Derived.Test.YthemaffjohmhnaaX7
namespace Go.X
open Go Go.RowKit
theorem set_getD_self {α : Type} {xs : List α} {i : Nat} {d : α} : xs.set i (xs.getD i d) = xs := by
  apply List.ext_getElem?
  intro j
  rw [List.getElem?_set]
  split
  · rename_i h
    subst h
    split
    · rename_i h; simp [List.getD_eq_getElem?_getD, h]
    · rename_i h; rw [List.getElem?_eq_none (by omega)]
  · rfl
theorem TV.to_self (t : Ty) (x : t.den) : TV.to ⟨t, x⟩ t = some x := by simp [TV.to]
theorem setP_getP : ∀ {π : List Nat} {t : Ty} {x : t.den} {y : TV}, getP π t x = some y → setP π t x y = some x
  | [], t, x, y, h => by simp only [getP, Option.some.injEq] at h; subst h; exact TV.to_self t x
  | i :: π, .pair a b, x, y, h => by
    match i with
    | 0 => simp only [getP] at h; simp only [setP, setP_getP h]; rfl
    | 1 => simp only [getP] at h; simp only [setP, setP_getP h]; rfl
    | i + 2 => simp [getP] at h
  | i :: π, .arr n t, x, y, h => by
    rw [getP_arr] at h
    rw [setP_arr, setP_getP h]
    simp only [Option.map_some, set_getD_self]
  | i :: π, .slice t, x, y, h => by
    rw [getP_slice] at h
    rw [setP_slice, setP_getP h]
    simp only [Option.map_some, set_getD_self]
  | i :: π, .ptr t, x, y, h => by
    match i with
    | 0 => simp only [getP] at h; simp only [setP]; exact setP_getP (t := t) h
    | i + 1 => simp [getP] at h
  | _ :: _, .int _, _, _, h => by simp [getP] at h
  | _ :: _, .bool, _, _, h => by simp [getP] at h
  | _ :: _, .str, _, _, h => by simp [getP] at h
  | _ :: _, .unit, _, _, h => by simp [getP] at h
  | _ :: _, .fn1 _ _, _, _, h => by simp [getP] at h
  | _ :: _, .fn2 _ _ _, _, _, h => by simp [getP] at h
  | _ :: _, .alt _ _ _, _, _, h => by simp [getP] at h
  | _ :: _, .nilI, _, _, h => by simp [getP] at h
section
variable {P : Program} {c : Ctx} {σ σ' : Env} {a a' : Act} {S S' : St}
theorem blk_cur {w : World} {b o : Nat} {cur : Array Value} {e : TypeId} (h : w.heap[b]? = some (.cells cur e (0, 0))) : blk w b o = fun i => cur[o + i]? := funext fun i => by
  show w.cell? ⟨b, o + i, none⟩ = _
  rw [cell_of_row w b _ cur e (0, 0) h]
/-- The whole value again after its part has been replaced. -/
theorem Rel.updAt {s : Ty} {y : s.den} {k : Md} {π : List Nat} {t : Ty} {m m' : Md} {p : Place} {x x' : t.den} {cs : Cs} {l : Option (List Nat) × Nat} (h : Rel P t S m p x cs) (hl : locP π t = some l) (hm : setM π t m k = some m')
    (hs : setP π t x ⟨s, y⟩ = some x') (ho : okP S π t p)
    (hc : match l with
      | (none, o) => Fr S S' p π none ∧ Rel P s S' k (pa p π) y (fun i => cs (o + i))
      | (some q, o) => ∃ b cur cur' e, hvB (S.hv (pa p q)) = some b ∧ S.own b = some (pa p q) ∧ S.w.heap[b]? = some (.cells cur e (0, 0)) ∧ S'.w.heap[b]? = some (.cells cur' e (0, 0)) ∧ cur'.size = cur.size ∧
          (∀ i, i < o ∨ o + s.size ≤ i → cur'[i]? = cur[i]?) ∧ Fr S S' p π (some b) ∧ Rel P s S' k (pa p π) y (fun i => cur'[o + i]?)) : Rel P t S' m' p x' cs := by
  obtain ⟨q, o⟩ := l
  cases q with
  | none => exact h.updA hl hm hs ho hc.1 (fun _ _ _ => rfl) hc.2
  | some q =>
    obtain ⟨b, cur, cur', e, h1, h2, h3, h4, h5, h6, h7, h8⟩ := hc
    exact Rel.updB h3 h4 h5 rfl h6 h hl hm hs ho h1 h2 h7 (fun _ _ => rfl) h8
open Classical in
/-- The blocks behind a place of slot r become shared. -/
noncomputable def frzSt (S : St) (p : Place) : St := { S with F := fun b => S.F b ∨ ∃ ρ, S.own b = some (pa p ρ), own := fun b => if ∃ ρ, S.own b = some (pa p ρ) then none else S.own b }
theorem frz_own {S : St} {p : Place} {b : Nat} {q : Place} (h : S.own b = some q) (hn : ∀ ρ, q ≠ pa p ρ) : (frzSt S p).own b = some q := by
  unfold frzSt
  simp only
  rw [if_neg (by rintro ⟨ρ, hρ⟩; rw [h] at hρ; exact hn ρ (Option.some.inj hρ))]
  exact h
theorem frz_none {S : St} {p : Place} {b : Nat} (h : S.own b = none) : (frzSt S p).own b = none := by
  unfold frzSt
  simp only
  split
  · rfl
  · exact h
theorem pa_prefix {r : Nat} {π ρ : List Nat} {q : List Nat} (h : ((r, q) : Place) = pa (r, π) ρ) : π <+: q := by
  simp only [pa, Prod.mk.injEq, true_and] at h
  exact ⟨ρ, h.symm⟩
theorem InvOf.freeze (h : InvOf P c σ a S) {r : Nat} {t : Ty} {m m' k : Md} {x : t.den} {π : List Nat} {s : Ty} {y : s.den} (hr : (σ r).e = .v t m x) (hm : modeP π t m = some k) (hg : getP π t x = some ⟨s, y⟩) (ho : okP S π t (r, []))
    (hn : k.nobw = true) (hv : live s k = true) (hs : setM π t m .sh = some m') : ∃ S', InvOf P c (set1 σ r (.v t m' x) 2) a S' ∧ S'.w = S.w := by
  refine ⟨frzSt S (r, π), ?_, rfl⟩
  have hsr := h.slot hr
  obtain ⟨s', y', l, cs', h1, h2, h3, h4⟩ := Rel.at hsr.1 hm ho
  rw [hg] at h1
  cases h1
  have hpa : ∀ ρ, pa (r, []) ρ = (r, ρ) := fun ρ => by simp [pa]
  rw [hpa] at h3
  have hsh : Rel P s (frzSt S (r, π)) .sh (r, π) y cs' := Rel.share (q := false) (.inl rfl) h3 (.inr hn) hv
    ⟨fun b hb => ⟨.inl hb, rfl⟩, fun h => (by cases h), fun b ρ hb => ⟨.inl (.inr ⟨ρ, hb⟩), rfl⟩⟩
  have hfr : ∀ b0, Fr S (frzSt S (r, π)) (r, []) π b0 := fun b0 => ⟨fun b hb => .inl hb, fun _ _ => rfl, fun b hb => .inr hb, fun _ _ => rfl, fun _ _ => rfl, fun b ρ hρ hb => by
    rw [hpa] at hb ⊢
    exact ⟨frz_own hb fun ρ' he => hρ (pa_prefix he), fun _ => rfl⟩⟩
  have hrel : Rel P t (frzSt S (r, π)) m' (r, []) x (vcells t (tmv a r)) := by
    refine hsr.1.updAt h2 hs (setP_getP hg) ho ?_
    obtain ⟨q, o⟩ := l
    cases q with
    | none =>
      refine ⟨hfr _, ?_⟩
      rw [hpa]
      have h4' : cs' = fun i => vcells t (tmv a r) (o + i) := h4
      rw [← h4']
      exact hsh
    | some q =>
      obtain ⟨b, h5, h6, h7, cur, e, h8⟩ := h4
      refine ⟨b, cur, cur, e, h5, h6, h8, h8, rfl, fun _ _ => rfl, hfr _, ?_⟩
      rw [hpa, ← blk_cur h8, ← h7]
      exact hsh
  refine h.rebuild (fun t => t = r) h.defers h.size (fun t ht => ⟨set1_ne σ _ _ ht, rfl⟩) (fun t ht => ?_) (fun t ht => ?_) (fun b hb => .inl hb) (fun _ _ => rfl) rfl (fun _ _ => rfl) (fun _ _ _ => rfl) (fun t ht b q hb => ⟨frz_own hb fun ρ he => ht (by cases he; rfl), rfl⟩)
    (fun b hb => ?_) (fun b hb => frz_none (h.borrowed b hb).1) (fun b p hp => ?_) rfl rfl rfl (Nat.le_refl _) (fun _ _ _ => rfl)
  · subst ht
    exact .bump (h.gens t) hr (set1_same σ t _ 2) (fun h => by cases h) fun _ _ _ => rfl
  · subst ht
    exact .v (set1_e σ t _ 2) ⟨hrel, hsr.2⟩
  · rcases hb with hb | ⟨ρ, hb⟩
    · exact ⟨frz_none (h.shared b hb).1, (h.shared b hb).2⟩
    · refine ⟨?_, (h.owned b _ hb).1, .inr (h.owned b _ hb).2⟩
      unfold frzSt
      simp only
      rw [if_pos ⟨ρ, hb⟩]
  · have : S.own b = some p := by
      unfold frzSt at hp
      simp only at hp
      split at hp
      · cases hp
      · exact hp
    exact h.owned b p this
end
end Go.X
