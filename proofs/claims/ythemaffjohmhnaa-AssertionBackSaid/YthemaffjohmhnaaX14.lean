/- Soundness of the operations that only read. -/
import Derived.Test.YthemaffjohmhnaaX13
namespace Go.X
open Go Go.RowKit
section
variable {P : Program} {c : Ctx} {σ : Env} {a : Act} {S : St} {T : Tab}
theorem Tr.id (S : St) (p : Place) : Tr true S S p p := ⟨fun _ h => h, fun _ _ => rfl, fun _ _ h => .inr h, fun _ _ _ => rfl, fun _ => rfl, fun _ _ h => ⟨h, rfl⟩⟩
theorem Rel.cong {t : Ty} {m : Md} {p : Place} {x : t.den} {cs cs' : Cs} (h : Rel P t S m p x cs) (hc : ∀ i, i < t.size → cs' i = cs i) : Rel P t S m p x cs' := h.mono (.inl rfl) (.id S p) hc
theorem take_cells {cs : Cs} {n : Nat} (h : ∀ i, i < n → ∃ u, cs i = some u ∧ u.oneCell' = true) : ∃ vs : List Value, vs.length = n ∧ (∀ i, i < n → vs[i]? = cs i) ∧ ∀ u ∈ vs, u.oneCell' = true := by
  induction n with
  | zero => exact ⟨[], rfl, fun i hi => absurd hi (Nat.not_lt_zero _), by simp⟩
  | succ n ih =>
    obtain ⟨vs, h1, h2, h3⟩ := ih fun i hi => h i (by omega)
    obtain ⟨u, h4, h5⟩ := h n (by omega)
    refine ⟨vs ++ [u], by simp [h1], fun i hi => ?_, fun w hw => ?_⟩
    · by_cases hin : i < n
      · rw [List.getElem?_append_left (by omega)]; exact h2 i hin
      · have : i = n := by omega
        subst this
        rw [List.getElem?_append_right (by omega), h4]
        simp [h1]
    · rcases List.mem_append.1 hw with h | h
      · exact h3 w h
      · simp at h; subst h; exact h5
theorem run_load (hT : TabOK P T) {t : TypeId} {i : TyI} {u : Ty} (ht : tl T t = some (i, u)) {m : Md} {p : Place} {y : u.den} {b off : Nat} (h : Rel P u S m p y (blk S.w b off)) :
    ∃ v, (Instr.loadAt t (.pointer (some ⟨b, off, none⟩))).run P S.w = .ok v S.w ∧ SR P u S m p y v ∧ ∀ i, i < u.size → vcells u v i = blk S.w b off i := by
  obtain ⟨hty, hsz, hag, _⟩ := hT.kind ht
  obtain ⟨j, d, hi, hd, _, hs, _, _⟩ := ty_spec hty
  by_cases hagg : u.agg = true
  · obtain ⟨vs, h1, h2, h3⟩ := take_cells h.cells
    have hc : ∀ i, i < u.size → vcells u (.agg vs.toArray) i = blk S.w b off i := fun i hi => by
      unfold vcells
      rw [if_pos hagg]
      simpa using h2 i hi
    refine ⟨.agg vs.toArray, ?_, ⟨h.cong hc, fun _ => ⟨_, rfl, by simpa using h1⟩⟩, hc⟩
    have hl : (loadCells ⟨b, off, none⟩ vs.length).run P S.w = .ok vs.toArray S.w := run_loadCells_list (P := P) S.w ⟨b, off, none⟩ vs fun k v hk => by
      have hlt : k < u.size := by
        rcases Nat.lt_or_ge k vs.length with h' | h'
        · omega
        · rw [List.getElem?_eq_none h'] at hk; cases hk
      rw [addr_add, ← hk, h2 k hlt]
      rfl
    rw [h1] at hl
    simp [Instr.loadAt, Instr.sureAddr, loadVar, isAgg_run hty, hag, hagg, sizeOf, typeInfo, hi, hs, hsz, hl]
  · have hs1 : u.size = 1 := by cases u <;> first | rfl | exact absurd rfl hagg
    obtain ⟨v, h1, h2⟩ := h.cells 0 (by omega)
    have hc : ∀ i, i < u.size → vcells u v i = blk S.w b off i := fun i hi => by
      have : i = 0 := by omega
      subst this
      unfold vcells
      rw [if_neg hagg, h1]
      rfl
    refine ⟨v, ?_, ⟨h.cong hc, fun h => absurd h hagg⟩, hc⟩
    have h1' : S.w.cell? ⟨b, off, none⟩ = some v := h1
    have hagg' : u.agg = false := by simpa using hagg
    simp [Instr.loadAt, Instr.sureAddr, loadVar, isAgg_run hty, hag, hagg', h1']
/-- What lies at a part, read through a pointer to it. -/
theorem InvOf.partAt (h : InvOf P c σ a S) {o : Operand} {p : Pl} (hp : (look σ o).place = some p) {k : Md} (hm : modeP p.π p.t p.m = some k) :
    ∃ (u : Ty) (y : u.den) (q : List Nat) (off b : Nat) (cur : Array Value) (e : TypeId), getP p.π p.t p.x = some ⟨u, y⟩ ∧ locP p.π p.t = some (some q, off) ∧ hvB (S.hv (p.r, q)) = some b ∧ S.own b = some (p.r, q) ∧ S.w.heap[b]? = some (.cells cur e (0, 0)) ∧
      a.eval o = .pointer (some ⟨b, off, none⟩) ∧ Rel P u S k (p.r, p.π) y (blk S.w b off) := by
  obtain ⟨h1, _, _, h2, q, off, b, h3, h4, h5⟩ := h.place hp
  obtain ⟨u, y, l, cs', h6, h7, h8, h9⟩ := Rel.at (h.slot h1).1 hm h2
  rw [h3] at h7
  cases h7
  obtain ⟨b', h10, h11, h12, cur, e, h13⟩ := h9
  rw [pa_nil0] at h8 h10 h11
  rw [h4] at h10
  cases h10
  exact ⟨u, y, q, off, b, cur, e, h6, h3, h4, h11, h13, h5, by rw [← h12]; exact h8⟩
theorem InvOf.deref_sound (h : InvOf P c σ a S) (hT : TabOK P T) {t : TypeId} {i : TyI} {u : Ty} (ht : tl T t = some (i, u)) {o : Operand} {p : Pl} (hp : (look σ o).place = some p) {e : Ent} (hx : p.deref u = some e) :
    ∃ v, (Instr.loadAt t (a.eval o)).run P S.w = .ok v S.w ∧ EntOK P S σ e v := by
  unfold Pl.deref at hx
  split at hx
  case h_2 => cases hx
  rename_i k y hm hg
  split at hx
  case isFalse => cases hx
  rename_i hy
  obtain ⟨u', y', q, off, b, cur, e', h1, h2, h3, h4, h5, h6, h7⟩ := h.partAt hp hm
  rw [hg] at h1
  cases h1
  simp only at hy
  subst hy
  obtain ⟨v, h8, h9, h10⟩ := run_load hT ht h7
  obtain ⟨hr, hc, hπ, hok, _⟩ := h.place hp
  refine ⟨v, by rw [h6]; exact h8, ?_⟩
  split at hx
  · rename_i hno
    cases hx
    exact ⟨nm_noown hno, _, nm_sound h9⟩
  · cases u' with
    | slice w =>
      cases k <;> simp only at hx <;> first | (cases hx; done) | skip
      cases hx
      have hv := h9.1.2.2.1
      have : v = S.hv (p.r, p.π) := by simpa [vcells, Ty.agg] using hv
      rw [hc, this]
      exact h.viewTo hr hok
    | ptr w =>
      cases k <;> simp only at hx <;> first | (cases hx; done) | skip
      cases hx
      obtain ⟨hv, g, cur', e1, h11, h12, h13, _⟩ := h9.1
      have hv' : v = S.hv (p.r, p.π) := by simpa [vcells, Ty.agg] using hv
      rw [hc, hv', h11]
      refine h.refTo (q := p.π) hr ?_ (okP_app hg hok trivial) (by rw [h11]; rfl)
      rw [locP_app hg h2 (show locP [0] (.ptr _) = some (some [], 0) from by simp [locP])]
      simp [addL]
    | _ => cases k <;> simp at hx
theorem InvOf.load_sound (h : InvOf P c σ a S) (hT : TabOK P T) {t : TypeId} {o : Operand} {e : Ent} (hx : loadE T t (look σ o) = some e) :
    ∃ v, (Instr.loadAt t (a.eval o)).run P S.w = .ok v S.w ∧ EntOK P S σ e v := by
  unfold loadE at hx
  split at hx
  case h_2 => cases hx
  rename_i i u ht
  split at hx
  · rename_i p hp
    exact h.deref_sound hT ht hp hx
  · split at hx
    case h_2 => cases hx
    rename_i e' hro
    split at hx
    case isFalse => cases hx
    rename_i he
    cases hx
    obtain ⟨h1, b, off, h2, h3, p, h4⟩ := h.ro hro
    subst he
    obtain ⟨v, h5, h6, _⟩ := run_load hT ht h4
    exact ⟨v, by rw [h2]; exact h5, nm_noown (by rcases h1 with h1 | h1 <;> rw [h1] <;> rfl), p, nm_sound h6⟩
theorem getP_ro {ρ : List Nat} {t : Ty} {x : t.den} {u : Ty} {y : u.den} {off : Nat} {M : Md} (hM : M = .sh ∨ M = .bw) {p : Place} {cs : Cs} : getP ρ t x = some ⟨u, y⟩ → locP ρ t = some (none, off) → okP S ρ t p → Rel P t S M p x cs → off + u.size ≤ t.size ∧ ∃ p', Rel P u S M p' y (fun i => cs (off + i)) := by
  have hl : M.l = M ∧ M.r = M := by rcases hM with rfl | rfl <;> exact ⟨rfl, rfl⟩
  induction ρ generalizing t x off p cs with
  | nil =>
    intro hg hlo ho h
    simp only [getP, Option.some.injEq] at hg
    cases hg
    simp only [locP, Option.some.injEq, Prod.mk.injEq, true_and] at hlo
    subst hlo
    exact ⟨by omega, p, by simpa using h⟩
  | cons i ρ ih =>
    intro hg hlo ho h
    cases t with
    | pair A B =>
      match i with
      | 0 =>
        simp only [getP] at hg
        simp only [locP, Option.map_eq_some_iff] at hlo
        obtain ⟨⟨q', o'⟩, h1, h2⟩ := hlo
        simp only [Prod.mk.injEq, Option.map_eq_none_iff] at h2
        obtain ⟨rfl, rfl⟩ := h2
        have ha := h.1
        rw [hl.1] at ha
        obtain ⟨h3, p', h4⟩ := ih hg h1 ho ha
        exact ⟨by simp only [Ty.size]; omega, p', h4⟩
      | 1 =>
        simp only [getP] at hg
        simp only [locP, Option.map_eq_some_iff] at hlo
        obtain ⟨⟨q', o'⟩, h1, h2⟩ := hlo
        cases q' with
        | some q' => simp at h2
        | none =>
          simp only [Prod.mk.injEq, true_and] at h2
          subst h2
          have hb := h.2
          rw [hl.2] at hb
          obtain ⟨h3, p', h4⟩ := ih hg h1 ho hb
          exact ⟨by simp only [Ty.size]; omega, p', by simpa only [Nat.add_assoc] using h4⟩
      | i + 2 => simp [getP] at hg
    | arr n t =>
      rw [getP_arr] at hg
      rw [locP_arr] at hlo
      rw [okP_arr] at ho
      simp only [Option.map_eq_some_iff] at hlo
      obtain ⟨⟨q', o'⟩, h1, h2⟩ := hlo
      cases q' with
      | some q' => simp at h2
      | none =>
        simp only [Prod.mk.injEq, true_and] at h2
        subst h2
        have hi : i < x.length := by rw [h.1]; exact ho.1
        rw [getD_of_lt hi] at hg
        obtain ⟨h3, p', h4⟩ := ih hg h1 ho.2 (h.2 i hi)
        have hm : (i + 1) * t.size ≤ n * t.size := Nat.mul_le_mul_right _ ho.1
        rw [Nat.add_mul] at hm
        exact ⟨by simp only [Ty.size]; omega, p', by simpa only [Nat.add_assoc] using h4⟩
    | slice t =>
      rw [locP_slice] at hlo
      simp only [Option.map_eq_some_iff] at hlo
      obtain ⟨⟨q', o'⟩, h1, h2⟩ := hlo
      cases q' <;> simp at h2
    | ptr t =>
      match i with
      | 0 =>
        simp only [locP, Option.map_eq_some_iff] at hlo
        obtain ⟨⟨q', o'⟩, h1, h2⟩ := hlo
        cases q' <;> simp at h2
      | i + 1 => simp [locP] at hlo
    | _ => simp [getP] at hg
theorem blk_shift (w : World) (b o o' : Nat) : (fun i => blk w b o (o' + i)) = blk w b (o + o') := funext fun i => by simp [blk, Nat.add_assoc]
theorem InvOf.field_sound (h : InvOf P c σ a S) (hT : TabOK P T) {s f : Nat} {o : Operand} {e : Ent} (hx : fieldE T s f (look σ o) = some e) :
    ∃ v, (Instr.fieldAt s (a.eval o) f).run P S.w = .ok v S.w ∧ EntOK P S σ e v := by
  unfold fieldE at hx
  split at hx
  case h_2 => cases hx
  rename_i i ts ht
  split at hx
  case h_2 => cases hx
  rename_i offs hk
  split at hx
  case h_2 => cases hx
  rename_i off sz ρ hoff hρ
  split at hx
  · cases hx
  rename_i hsz
  obtain ⟨hty, hsize, hagg, hkind⟩ := hT.kind ht
  rw [hk] at hkind
  obtain ⟨fs, hfl, hoffs⟩ := kindOK_struct hkind
  have run : ∀ b o, (Instr.fieldAt s (.pointer (some ⟨b, o, none⟩)) f).run P S.w = .ok (.pointer (some ⟨b, o + off, none⟩)) S.w := fun b o => run_fieldAt_at hty hk hoff hsz b o S.w
  split at hx
  · rename_i p hp
    split at hx
    case h_2 => cases hx
    rename_i y hg
    split at hx
    case isFalse => cases hx
    rename_i hy
    cases hx
    obtain ⟨h1, h2, h3, h4, q, off', b, h5, h6, h7⟩ := h.place hp
    obtain ⟨yt, yx⟩ := y
    simp only at hy
    subst hy
    obtain ⟨u, z, o2, h8, h9, h10, h11, h12⟩ := fpath_loc (S := S) (o0 := 0) (x := yx) (p := pa (p.r, []) p.π) hfl hρ
    rw [← hoffs, hoff, Nat.zero_add] at h12
    cases h12
    refine ⟨_, by rw [h7]; exact run b off', ?_⟩
    rw [h2]
    refine h.refTo (q := q) h1 ?_ (okP_app hg h4 h11) h6
    rw [locP_app hg h5 h10]
    rfl
  · split at hx
    case h_2 => cases hx
    rename_i e' hro
    split at hx
    case isFalse => cases hx
    rename_i he
    split at hx
    case h_2 => cases hx
    rename_i y hg
    cases hx
    obtain ⟨hm, b, off', h7, hG, p, h8⟩ := h.ro hro
    subst he
    obtain ⟨u, z, o2, h9, h10, h11, h12, h13⟩ := fpath_loc (S := S) (o0 := 0) (x := e'.x) (p := p) hfl hρ
    rw [hg] at h10
    cases h10
    rw [← hoffs, hoff, Nat.zero_add] at h13
    cases h13
    obtain ⟨h14, p', h15⟩ := getP_ro hm hg h11 h12 h8
    refine ⟨_, by rw [h7]; exact run b off', by rcases hm with hm | hm <;> rw [hm] <;> rfl, p', ?_, fun h => by cases h⟩
    have hc : vcells (.ptr u) (.pointer (some ⟨b, off' + off, none⟩)) 0 = some (.pointer (some ⟨b, off' + off, none⟩)) := by simp [vcells, Ty.agg]
    rw [blk_shift] at h15
    have hres : ∃ b0 o0, vcells (.ptr u) (.pointer (some ⟨b, off' + off, none⟩)) 0 = some (.pointer (some ⟨b0, o0, none⟩)) ∧ (u.size ≠ 0 → S.G e'.m b0) ∧ Rel P u S e'.m (px p' 0) z (blk S.w b0 o0) := ⟨b, _, hc, fun hne => hG (by omega), by
      rcases hm with hm | hm
      · rw [hm] at h15 ⊢; exact h15.fut (.inl rfl) ((Fut2.refl S).sh _) fun _ _ => rfl
      · rw [hm] at h15 ⊢; exact h15.fut (.inr rfl) ((Fut2.refl S).sh _) fun _ _ => rfl⟩
    rcases hm with hm | hm <;> rw [hm] at hres ⊢ <;> exact hres
end
end Go.X
