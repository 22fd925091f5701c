/- append and reslicing. -/
import Derived.Test.YthemaffjohmhnaaX17
set_option linter.unusedSimpArgs false
set_option linter.unusedVariables false
namespace Go.X
open Go Go.RowKit
/-- The mode of a slice's elements. -/
def elm : Md → Md
  | .own _ k => k
  | m => m
/-- The slice that an append starts from, moved to slot d: its elements, their mode, the updates. -/
def srcU (T : Tab) (ty e d : Nat) (u : Ty) (M0 : Md) (o : Opd) : Option (Ups × Md × List u.den) :=
  match o with
  | .con (.slice none 0 0) => some ([(d, .v (.slice u) (.own e M0) [], 0)], M0, [])
  | o => match o.val (.slice u) with
    | some (.own e' M, xs) => if e' = e then (asgU T ty d o).map fun us => (us, M, xs) else none
    | _ => none
noncomputable def appU (T : Tab) (ty d t : Nat) (A X : Opd) : Option (Bool × Ups) :=
  match tl T t with
  | some (i, .slice u) => match i.k with
    | .slice e => match tl T e with
      | some (j, _) => if 0 < u.size ∧ j.bytes ≤ 16384 ∧ j.zero.cells.toList.length = u.size then
          match X.val (.slice u) with
          | some (mx, ys) => if (elm mx).noown = true ∧ live u (elm mx) = true ∧ mx ≠ .dead then
              match srcU T ty e d u (nm u (elm mx)) A with
              | some (us, M, xs) => if leM u (elm mx) M then some (decide ((xs.length : Int) + (ys.length : Int) ≤ LIM), us ++ [(d, .v (.slice u) (.own e M) (xs ++ ys), 0)]) else none
              | none => none
            else none
          | none => none
        else none
      | none => none
    | _ => none
  | _ => none
/-- append(s, make([]T, n)...) -/
noncomputable def appZ (T : Tab) (ty d t u : Nat) (A N : Opd) : Option (Bool × Ups) :=
  match tl T t, tl T u, N.ival with
  | some (i, .slice s), some (_, .int _), some (_, n) => match i.k with
    | .slice e => match tl T e with
      | some (j, _) => match cval s j.zero with
        | some z => if 0 < s.size ∧ j.bytes ≤ 16384 ∧ j.zero.cells.toList.length = s.size then
            match srcU T ty e d s .sh A with
            | some (us, M, xs) => if leM s .sh M then some (decide (0 ≤ n) && decide ((xs.length : Int) + n ≤ LIM), us ++ [(d, .v (.slice s) (.own e M) (xs ++ List.replicate n.toNat z), 0)]) else none
            | none => none
          else none
        | none => none
      | none => none
    | _ => none
  | _, _, _ => none
def bndV (o : Option Opd) (dflt : Int) : Option Int :=
  match o with
  | none => some dflt
  | some o => o.ival.map (·.2)
def cutOK (l h : Int) (n : Nat) : Bool := decide (0 ≤ l) && (decide (l ≤ h) && decide (h ≤ (n : Int)))
def sliceU (T : Tab) (ty d t : Nat) (o : Opd) (lo hi : Option Opd) : Option (Bool × Ups) :=
  match tl T t with
  | some (_, .slice u) => match o.val (.slice u) with
    | some (.sh, xs) => match bndV lo 0, bndV hi (xs.length : Int) with
      | some l, some h => some (cutOK l h xs.length, [(d, .v (.slice u) .sh ((xs.take h.toNat).drop l.toNat), 0)])
      | _, _ => none
    | some (.bw, xs) => match bndV lo 0, bndV hi (xs.length : Int) with
      | some l, some h => some (cutOK l h xs.length, [(d, .v (.slice u) .bw ((xs.take h.toNat).drop l.toNat), 0)])
      | _, _ => none
    | some (.own e M, xs) => match lo with
      | some _ => none
      | none => match bndV hi (xs.length : Int), asgU T ty d o with
        | some h, some us => some (cutOK 0 h xs.length, us ++ [(d, .v (.slice u) (.own e M) (xs.take h.toNat), 0)])
        | _, _ => none
    | _ => none
  | some (_, .str) => match o.val .str with
    | some (m, x) => if m = .dead then none else match bndV lo 0, bndV hi ((x : List Int).length : Int) with
      | some l, some h => some (cutOK l h (x : List Int).length, [(d, .v .str .sh (((x : List Int).take h.toNat).drop l.toNat), 0)])
      | _, _ => none
    | none => none
  | _ => none
section
variable {P : Program} {c : Ctx} {σ : Env} {a : Act} {S : St} {T : Tab}
/-- How a slice is read, whoever owns it. -/
def Rows (P : Program) (S : St) (u : Ty) (k : Md) (ys : List u.den) (v : Value) : Prop :=
  (v = .slice none 0 0 ∧ ys = []) ∨ (∃ ad, v = .slice (some ad) 0 0 ∧ ys = []) ∨ ∃ b o cap, v = .slice (some ⟨b, o, none⟩) ys.length cap ∧ ys.length ≤ cap ∧ ∀ (i : Nat) (h : i < ys.length), ∃ q, Rel P u S k q ys[i] (blk S.w b (o + i * u.size))
theorem rows_of {u : Ty} {m : Md} {p : Place} {ys : List u.den} {v : Value} (h : SR P (.slice u) S m p ys v) (hm : m ≠ .dead) : Rows P S u (elm m) ys v := by
  obtain ⟨h1, _, h3⟩ := h.1
  have hc : vcells (.slice u) v 0 = some v := by simp [vcells, Ty.agg]
  have shbw : (∃ a' len cap, vcells (.slice u) v 0 = some (.slice a' len cap) ∧ len = ys.length ∧ len ≤ cap ∧ ((ys = [] ∧ cap = 0) ∨ ∃ b o', a' = some ⟨b, o', none⟩ ∧ (ys ≠ [] → S.G m b) ∧ ∀ (i : Nat) (h : i < ys.length), Rel P u S m (px p i) ys[i] (blk S.w b (o' + i * u.size)))) → Rows P S u m ys v := fun ⟨a', len, cap, h4, h5, h6, h7⟩ => by
    rw [hc] at h4
    have hv := Option.some.inj h4
    subst h5
    rcases h7 with ⟨rfl, rfl⟩ | ⟨b, o', rfl, _, h8⟩
    · cases a' with
      | none => exact .inl ⟨hv, rfl⟩
      | some ad => exact .inr (.inl ⟨ad, hv, rfl⟩)
    · exact .inr (.inr ⟨b, o', cap, hv, h6, fun i hi => ⟨_, h8 i hi⟩⟩)
  cases m with
  | dead => exact absurd rfl hm
  | pr => exact h3.elim
  | sh => exact shbw h3
  | bw => exact shbw h3
  | own e k =>
    obtain ⟨h3, h4⟩ := h3
    rw [hc] at h3
    have hv := Option.some.inj h3
    rcases h4 with ⟨h4, h5⟩ | ⟨g, cap, cur, h4, h5, h6, h7, h8, h9, h10⟩
    · exact .inl ⟨hv.trans h4, h5⟩
    · refine .inr (.inr ⟨g, 0, cap, hv.trans h4, h7, fun i hi => ⟨px p i, ?_⟩⟩)
      rw [blk_cur h6]
      have := h10 i hi
      simpa [elm] using this
theorem Rows.fut {u : Ty} {k : Md} {ys : List u.den} {v : Value} {S' : St} (h : Rows P S u k ys v) (hk : k.noown = true) (hf : Fut2 S S') (hw : S'.w = S.w) : Rows P S' u k ys v := by
  refine h.imp id (Or.imp id fun ⟨b, o, cap, h1, h2, h3⟩ => ⟨b, o, cap, h1, h2, fun i hi => ?_⟩)
  obtain ⟨q, h4⟩ := h3 i hi
  exact ⟨q, h4.free hk hf fun j _ => by rw [hw]⟩
/-- What is appended, as values in memory. -/
theorem rows_news {u : Ty} {k : Md} {b o : Nat} {ys : List u.den} (h : ∀ (i : Nat) (h : i < ys.length), ∃ q, Rel P u S k q ys[i] (blk S.w b (o + i * u.size))) :
    ∃ news : List Value, news.length = ys.length * u.size ∧ (∀ j w, news[j]? = some w → S.w.cell? ((⟨b, o, none⟩ : Addr).add j) = some w) ∧ (∀ w ∈ news, w.oneCell' = true) ∧ ∀ (i : Nat) (h : i < ys.length), ∃ q, Rel P u S k q ys[i] (fun j => news[i * u.size + j]?) := by
  rcases Nat.eq_zero_or_pos u.size with hz | hz
  · refine ⟨[], by rw [hz]; simp, fun j w hj => by simp at hj, by simp, fun i hi => ?_⟩
    obtain ⟨q, h1⟩ := h i hi
    exact ⟨q, h1.cong fun j hj => by omega⟩
  have hcell : ∀ k', k' < ys.length * u.size → ∃ w, blk S.w b o k' = some w ∧ w.oneCell' = true := fun k' hk' => by
    have hi : k' / u.size < ys.length := (Nat.div_lt_iff_lt_mul hz).2 hk'
    obtain ⟨q, h1⟩ := h _ hi
    obtain ⟨w, h2, h3⟩ := h1.cells (k' % u.size) (Nat.mod_lt _ hz)
    refine ⟨w, ?_, h3⟩
    have he : o + k' / u.size * u.size + k' % u.size = o + k' := by rw [Nat.add_assoc, Nat.div_add_mod']
    have h2' : S.w.cell? ⟨b, o + k' / u.size * u.size + k' % u.size, none⟩ = some w := h2
    rw [he] at h2'
    exact h2'
  obtain ⟨news, h1, h2, h3⟩ := take_cells hcell
  refine ⟨news, h1, fun j w hj => ?_, h3, fun i hi => ?_⟩
  · have hlt : j < ys.length * u.size := by
      rcases Nat.lt_or_ge j news.length with h' | h'
      · omega
      · rw [List.getElem?_eq_none h'] at hj; cases hj
    rw [h2 j hlt] at hj
    rw [addr_add]
    exact hj
  · obtain ⟨q, h4⟩ := h i hi
    refine ⟨q, h4.cong fun j hj => ?_⟩
    have hlt : i * u.size + j < ys.length * u.size := by
      have : (i + 1) * u.size ≤ ys.length * u.size := Nat.mul_le_mul_right _ hi
      rw [Nat.add_mul] at this
      omega
    show news[i * u.size + j]? = _
    rw [h2 _ hlt]
    simp [blk, Nat.add_assoc]
theorem Rows.news {u : Ty} {k : Md} {ys : List u.den} {v : Value} (h : Rows P S u k ys v) : (v = .slice none 0 0 ∧ ys = []) ∨ ∃ ad cap, v = .slice (some ad) ys.length cap ∧ ys.length ≤ cap ∧
    ∃ news : List Value, news.length = ys.length * u.size ∧ (∀ j w, news[j]? = some w → S.w.cell? (ad.add j) = some w) ∧ (∀ w ∈ news, w.oneCell' = true) ∧ ∀ (i : Nat) (h : i < ys.length), ∃ q, Rel P u S k q ys[i] (fun j => news[i * u.size + j]?) := by
  rcases h with h | ⟨ad, h1, rfl⟩ | ⟨b, o, cap, h1, h2, h3⟩
  · exact .inl h
  · refine .inr ⟨ad, 0, h1, Nat.le_refl 0, ([] : List Value), (Nat.zero_mul _).symm, ?_, ?_, fun i h => absurd h (Nat.not_lt_zero i)⟩
    · intro j w h; simp at h
    · intro w h; cases h
  · exact .inr ⟨_, cap, h1, h2, rows_news h3⟩
theorem put_put (a : Act) (d : Nat) (v v' : Value) : (a.put (some d) v).put (some d) v' = a.put (some d) v' := by
  simp [Act.put]
/-- Slot d's own slice has become another one, in its block or in a new one. -/
theorem InvOf.regrow (h : InvOf P c σ a S) {d : Nat} (hd : d < c.N) {u : Ty} {e : TypeId} {M : Md} {xs zs : List u.den} (he : (σ d).e = .v (.slice u) (.own e M) xs) {w' : World} (hg : S.w.grownBy w' (S.hv (d, [])).ownBlock) {v' : Value}
    (hb : ∀ b, v'.ownBlock = some b → (S.hv (d, [])).ownBlock = some b ∨ (b = S.w.heap.size ∧ b < w'.heap.size)) {cs : List Value} (ho : w'.ownsRow 0 e u.size v' zs.length cs) (hl : zs.length ≤ maxL)
    (hz : ∀ S', S'.w = w' → (∀ q, Tr true S S' (d, q) (d, q) ∨ q = []) → Fut2 S S' → ∀ (i : Nat) (h : i < zs.length), Rel P u S' M (d, [i]) zs[i] (fun j => cs[i * u.size + j]?)) :
    ∃ S', S'.w = w' ∧ S'.F = S.F ∧ S'.B = S.B ∧ InvOf P c (set1 σ d (.v (.slice u) (.own e M) zs) 0) (a.put (some d) v') S' := by
  let S' : St := { S with w := w', own := fun b => if v'.ownBlock = some b then some (d, []) else S.own b, hv := fun z => if z = (d, []) then v' else S.hv z }
  have hsr := h.slot he
  have hpos : 0 < u.size := hsr.1.2.1
  have hrow : ∀ b, (S.hv (d, [])).ownBlock = some b → S.own b = some (d, []) := fun b hbb => by
    rcases hsr.1.2.2.2 with ⟨h1, _⟩ | ⟨g, cap, cur, h1, h2, _⟩
    · rw [h1] at hbb; cases hbb
    · rw [h1] at hbb; cases hbb; exact h2
  have hsame : ∀ b, b < S.w.heap.size → S.own b ≠ some (d, []) → w'.heap[b]? = S.w.heap[b]? := fun b hlt hne => hg.block b hlt fun hh => hne (hrow b hh.symm)
  have hown : ∀ b, b < S.w.heap.size → S.own b ≠ some (d, []) → S'.own b = S.own b := fun b hlt hne => if_neg fun hh => by
    rcases hb b hh with h1 | ⟨h1, _⟩
    · exact hne (hrow b h1)
    · omega
  have hf2 : Fut2 S S' := ⟨fun b hb => ⟨hb, hsame b (h.wlt (.inl hb)) (by rw [(h.shared b hb).1]; simp)⟩, fun b hb => ⟨.inr hb, hsame b (h.wlt (.inr (.inl hb))) (by rw [(h.WF.borrowed b hb).1]; simp)⟩⟩
  have htr : ∀ q, Tr true S S' (d, q) (d, q) ∨ q = [] := fun q => by
    by_cases hq : q = []
    · exact .inr hq
    · refine .inl ⟨fun _ h => h, fun b hb => (hf2.F b hb).2, fun _ _ h => .inr h, fun _ b hb => (hf2.B b hb).2, fun r => if_neg fun hh => ?_, fun b r hbb => ?_⟩
      · simp only [pa, Prod.mk.injEq, true_and, List.append_eq_nil_iff] at hh
        exact hq hh.1
      · have hne : S.own b ≠ some (d, []) := by
          rw [hbb]
          intro hh
          simp only [pa, Option.some.injEq, Prod.mk.injEq, true_and, List.append_eq_nil_iff] at hh
          exact hq hh.1
        have hlt := h.wlt (.inr (.inr ⟨_, hbb⟩))
        exact ⟨(hown b hlt hne).trans hbb, hsame b hlt hne⟩
  refine ⟨S', rfl, rfl, rfl, h.rebuild (fun t => t = d) (by simpa [Act.put] using h.defers) (by simpa [Act.put] using h.size) (fun t ht => ⟨set1_ne σ _ _ ht, tmv_put_ne ht⟩) (fun r hr => ?_) (fun t ht => ?_)
    (fun _ h => h) (fun b hb => (hf2.F b hb).2) rfl (fun b hb => (hf2.B b hb).2) (fun t ht q => if_neg (fun he => ht (by cases he; rfl))) (fun t ht b q hbb => ?_) (fun b hbb => ⟨?_, Nat.lt_of_lt_of_le (h.shared b hbb).2.1 hg.size, (h.shared b hbb).2.2⟩) (fun b hbb => ?_) (fun b p hp => ?_)
    hg.os hg.tape hg.output hg.size (fun b hlt hO => ?_)⟩
  · subst hr
    exact ⟨by rw [set1_same]; exact Nat.le_refl _, .inl (by rw [set1_same]; exact Nat.lt_succ_self _)⟩
  · subst ht
    refine .v (set1_e σ t _ 0) ?_
    rw [tmv_put_same (by rw [h.size]; exact hd)]
    have hhv : S'.hv (t, []) = v' := if_pos rfl
    refine ⟨⟨hl, hpos, by rw [hhv]; simp [vcells, Ty.agg], ?_⟩, fun h => by cases h⟩
    rw [hhv]
    obtain ⟨ho1, ho2⟩ := ho
    rcases ho2 with ⟨h1, h2⟩ | ⟨g, cap, cur, h1, _, h2, h3, h4, h5, h6⟩
    · exact .inl ⟨h1, List.eq_nil_of_length_eq_zero h2⟩
    · refine .inr ⟨g, cap, cur, h1, if_pos (by rw [h1]; rfl), h2, h3, h4, h5, fun i hi => ?_⟩
      have := hz S' rfl htr hf2 i hi
      have hpx : px (t, ([] : List Nat)) i = (t, [i]) := rfl
      rw [hpx]
      refine this.cong fun j hj => ?_
      have hlt : i * u.size + j < zs.length * u.size := by
        have : (i + 1) * u.size ≤ zs.length * u.size := Nat.mul_le_mul_right _ hi
        rw [Nat.add_mul] at this
        omega
      rw [← h6, List.getElem?_take, if_pos hlt, Array.getElem?_toList]
  · have hne : S.own b ≠ some (d, []) := by rw [hbb]; intro hh; cases hh; exact ht rfl
    have hlt := h.wlt (.inr (.inr ⟨_, hbb⟩))
    exact ⟨(hown b hlt hne).trans hbb, hsame b hlt hne⟩
  · exact (hown b (h.wlt (.inl hbb)) (by rw [(h.shared b hbb).1]; simp)).trans (h.shared b hbb).1
  · exact (hown b (Nat.lt_of_lt_of_le (h.borrowed b hbb).2.1 h.grown) (by rw [(h.borrowed b hbb).1]; simp)).trans (h.borrowed b hbb).1
  · have hp' : (if v'.ownBlock = some b then some (d, []) else S.own b) = some p := hp
    split at hp'
    · rename_i hh
      rcases hb b hh with h1 | ⟨h1, h2⟩
      · have := h.owned b _ (hrow b h1)
        exact ⟨Nat.lt_of_lt_of_le this.1 hg.size, this.2⟩
      · exact ⟨h2, .inl (by rw [h1]; exact h.grown)⟩
    · exact ⟨Nat.lt_of_lt_of_le (h.owned b p hp').1 hg.size, (h.owned b p hp').2⟩
  · refine hsame b (Nat.lt_of_lt_of_le hlt h.grown) fun hh => ?_
    rcases (h.owned b _ hh).2 with h1 | h1
    · omega
    · exact hO h1
theorem upd_app : ∀ (us vs : Ups) (σ : Env), upd (us ++ vs) σ = upd vs (upd us σ)
  | [], _, _ => rfl
  | (_, _, _) :: us, vs, _ => upd_app us vs _
end
end Go.X
