/- Soundness of append and reslicing. -/
import Derived.Test.YthemaffjohmhnaaX18
set_option linter.unusedSimpArgs false
set_option linter.unusedVariables false
namespace Go.X
open Go Go.RowKit
section
variable {P : Program} {c : Ctx} {σ : Env} {a : Act} {S : St} {T : Tab}
/-- The slice that an operation starts from has come to slot d. -/
theorem src_sound (h : InvOf P c σ a S) {ty e d : Nat} (hd : d < c.N) {u : Ty} {M0 M : Md} {A : Operand} {us : Ups} {xs : List u.den} (hpos : 0 < u.size) (hx : srcU T ty e d u M0 (look σ A) = some (us, M, xs)) :
    ∃ S1, S1.w = S.w ∧ S1.F = S.F ∧ S1.B = S.B ∧ InvOf P c (upd us σ) (a.put (some d) (a.eval A)) S1 ∧ (upd us σ d).e = .v (.slice u) (.own e M) xs ∧ a.eval A = S1.hv (d, []) := by
  unfold srcU at hx
  split at hx
  rotate_left
  · split at hx
    case h_2 => cases hx
    rename_i e' M' xs' hv
    split at hx
    case isFalse => cases hx
    rename_i hee
    subst hee
    simp only [Option.map_eq_some_iff, Prod.mk.injEq] at hx
    obtain ⟨us', h1, rfl, rfl, rfl⟩ := hx
    obtain ⟨S1, h2, h3, h4, h5⟩ := asg_sound h hd h1
    have he : (upd us' σ d).e = .v (.slice u) (.own e' M') xs' := by
      cases A with
      | const v => simp only [look, Opd.val, Option.map_eq_some_iff, Prod.mk.injEq] at hv; obtain ⟨_, _, hv, _⟩ := hv; cases hv
      | func f => simp [look, Opd.val] at hv
      | global g => simp [look, Opd.val] at hv
      | tmp s =>
        simp only [look, Opd.val] at hv
        simp only [look, asgU] at h1
        split at hv
        · rename_i t m x he
          simp only [Option.map_eq_some_iff, Prod.mk.injEq] at hv
          obtain ⟨z, h6, rfl, rfl⟩ := hv
          have := TV.to_some h6
          cases this
          rw [he] at h1
          simp only [Md.noown, Bool.false_eq_true, if_false] at h1
          split at h1
          · cases h1
          · rename_i hne
            cases h1
            show (set1 (set1 σ s .dead 0) d _ 0 d).e = _
            rw [set1_e]
        · rename_i r π s' he
          have hrt : rootOf σ (σ s).e = σ r := by rw [he]; rfl
          rw [hrt] at hv h1
          rw [he] at h1
          simp only at h1
          split at hv
          case h_2 => cases hv
          rename_i tr mr xr hroot
          rw [hroot] at h1
          simp only at h1
          split at hv
          case isFalse => cases hv
          rename_i hgen
          rw [if_pos hgen.1] at h1
          split at hv
          case h_2 => cases hv
          rename_i e2 k2 y2 hm hg
          simp only [Option.map_eq_some_iff, Prod.mk.injEq] at hv
          obtain ⟨z, h6, h7, rfl⟩ := hv
          have := TV.to_some h6
          subst this
          cases h7
          rw [hm, hg] at h1
          simp only at h1
          split at h1
          · rename_i hrd
            split at h1
            case isFalse => cases h1
            rename_i hπ
            cases h1
            subst hπ hrd
            simp only [getP, Option.some.injEq] at hg
            cases hg
            simp only [modeP, Option.some.injEq] at hm
            subst hm
            exact hroot
          · split at h1
            · cases h1
              show (set1 (set1 σ r .dead 0) d _ 0 d).e = _
              rw [set1_e]
            · split at h1
              · cases h1
                show (set1 (set1 σ r _ 1) d _ 0 d).e = _
                rw [set1_e]
              · cases h1
        · cases hv
    have hhd := h5.hdr he
    rw [tmv_put_same (by rw [h.size]; exact hd)] at hhd
    exact ⟨S1, h2, h3, h4, h5, he, hhd⟩
  · rename_i hA
    cases hx
    have hev : a.eval A = .slice none 0 0 := by
      cases A <;> simp only [look] at hA <;> first | (cases hA; done) | (cases hA; rfl)
    let S1 : St := { S with hv := fun z => if z = (d, []) then .slice none 0 0 else S.hv z }
    have hhv : S1.hv (d, []) = .slice none 0 0 := if_pos rfl
    refine ⟨S1, rfl, rfl, rfl, h.put (S' := S1) (.refl _) rfl rfl hd (fun t ht q => if_neg fun he => ht (by cases he; rfl)) (fun _ => .inl rfl) ?_, set1_e σ d _ 0, by rw [hev, hhv]⟩
    refine .v (set1_e σ d _ 0) ?_
    rw [tmv_put_same (by rw [h.size]; exact hd), hev]
    exact ⟨⟨Nat.zero_le _, hpos, by rw [hhv]; simp [vcells, Ty.agg], .inl ⟨hhv, rfl⟩⟩, fun h => by cases h⟩
theorem app_sound (h : InvOf P c σ a S) (hT : TabOK P T) {t rt ty d : Nat} (hd : d < c.N) {A X : Operand} {us : Ups} {ob : Bool} (hx : appU T ty d t (look σ A) (look σ X) = some (ob, us)) (hob : ob = true) :
    ∃ v w', (Builtin.append_ #[t, t] rt #[a.eval A, a.eval X]).run P S.w = .ok v w' ∧ Inv P c (upd us σ) (a.put (some d) v) w' := by
  unfold appU at hx
  split at hx
  case h_2 => cases hx
  rename_i i u ht
  split at hx
  case h_2 => cases hx
  rename_i e he
  split at hx
  case h_2 => cases hx
  rename_i j u2 hte
  split at hx
  case isFalse => cases hx
  rename_i hcond
  obtain ⟨hpos, hby, hzl⟩ := hcond
  split at hx
  case h_2 => cases hx
  rename_i mx ys hv
  split at hx
  case isFalse => cases hx
  rename_i hcond
  obtain ⟨hno, hlv, hmx⟩ := hcond
  split at hx
  case h_2 => cases hx
  rename_i us0 M xs hsrc
  split at hx
  case isFalse => cases hx
  rename_i hle
  simp only [Option.some.injEq, Prod.mk.injEq] at hx
  obtain ⟨rfl, rfl⟩ := hx
  have hlim : (xs.length : Int) + ys.length ≤ 4294967296 := by have := of_decide_eq_true hob; rw [LIM_eq] at this; exact this
  obtain ⟨hty, _, _, hkind⟩ := hT.kind ht
  obtain ⟨_, d1, _, hd1, _, _, _, hk1⟩ := ty_spec hty
  obtain ⟨e2, i2, hk2, hte2, _⟩ := kindOK_slice hkind
  rw [he] at hk2
  cases hk2
  rw [hte] at hte2
  cases hte2
  have := tyK_slice (hk1.trans (congrArg some he))
  subst this
  obtain ⟨hty1, hsz1, _, _⟩ := hT.kind hte
  obtain ⟨j', d', hi', hd', hzz, hs', hb', _⟩ := ty_spec hty1
  obtain ⟨p, hs⟩ := h.val hv
  have hrows := rows_of hs hmx
  obtain ⟨S1, h1, h2, h3, h4, h5, h6⟩ := src_sound h hd hpos hsrc
  have hf : Fut2 S S1 := ⟨fun b hb => ⟨by rw [h2]; exact hb, by rw [h1]⟩, fun b hb => ⟨.inr (by rw [h3]; exact hb), by rw [h1]⟩⟩
  have hrows1 := hrows.fut hno hf h1
  have hsr := h4.slot h5
  have hl1 : xs.length ≤ maxL := hsr.1.1
  have htm : tmv (a.put (some d) (a.eval A)) d = a.eval A := tmv_put_same (by rw [h.size]; exact hd)
  -- the old row
  have hold : ∃ cs, S1.w.ownsRow 0 e u.size (a.eval A) xs.length cs ∧ ∀ (i : Nat) (h : i < xs.length), Rel P u S1 M (d, [i]) xs[i] (fun j => cs[i * u.size + j]?) := by
    rcases hsr.1.2.2.2 with ⟨h7, h8⟩ | ⟨g, cap, cur, h7, h8, h9, h10, h11, h12, h13⟩
    · subst h8
      rw [← h6] at h7
      rw [h7]
      exact ⟨[], World.ownsRow_nil _ _ _ _, fun i hi => by simp at hi⟩
    · rw [← h6] at h7
      rw [h7]
      have hle : xs.length * u.size ≤ cur.size := by rw [h12]; exact Nat.mul_le_mul_right _ h10
      refine ⟨cur.toList.take (xs.length * u.size), ⟨by simp; omega, .inr ⟨g, cap, cur, rfl, Nat.zero_le _, h9, h10, h11, h12, rfl⟩⟩, fun i hi => ?_⟩
      refine (h13 i hi).cong fun j hj => ?_
      have hlt : i * u.size + j < xs.length * u.size := by
        have : (i + 1) * u.size ≤ xs.length * u.size := Nat.mul_le_mul_right _ hi
        rw [Nat.add_mul] at this
        omega
      rw [List.getElem?_take, if_pos hlt, Array.getElem?_toList]
  obtain ⟨cs, ho, hel⟩ := hold
  have oldEl : ∀ (S' : St), (∀ q, Tr true S1 S' (d, q) (d, q) ∨ q = []) → ∀ (i : Nat) (h : i < xs.length), Rel P u S' M (d, [i]) xs[i] (fun j => cs[i * u.size + j]?) := fun S' htr i hi =>
    (hel i hi).mono (.inl rfl) ((htr [i]).resolve_right (by simp)) fun _ _ => rfl
  have hl2 : xs.length + ys.length ≤ 4294967296 := by omega
  rw [← h1]
  rcases hrows1.news with ⟨hX, hy0⟩ | ⟨ad, cap, hX, hcap, news, hn1, hn2, hn3, hn4⟩
  · subst hy0
    rw [hX]
    obtain ⟨S', q1, q2, q3, q4⟩ := h4.regrow hd h5 (w' := S1.w) (v' := a.eval A) (zs := xs ++ []) (cs := cs) (by rw [← h6]; exact ⟨rfl, rfl, rfl, Nat.le_refl _, fun _ _ _ => rfl⟩) (fun b hb => .inl (by rw [← h6]; exact hb)) (by rw [List.append_nil]; exact ho) (by rw [List.append_nil]; exact hl1)
      fun S' _ htr _ i hi => by
        have hi' : i < xs.length := by simpa using hi
        have := oldEl S' htr i hi'
        simpa using this
    refine ⟨a.eval A, S1.w, run_append_owned_none (P := P) (w := S1.w) 0 t rt e j' u.size hd1 hi' _ xs.length cs ho, S', q1, ?_⟩
    rw [upd_app]
    rw [put_put] at q4
    exact q4
  · rw [hX]
    obtain ⟨v', w', h7, h8, h9, h10⟩ := run_append_own2 (P := P) (w := S1.w) t rt e j' j.zero u.size j.bytes hd1 hi' hzz (by rw [hs', hsz1]) hb' (by simpa using hzl) hpos (a.eval A) xs.length cs ho ad ys.length cap news hn1 hn2 hn3
      (by unfold maxLen; omega) (Nat.le_trans (Nat.mul_le_mul hl2 hby) (by decide))
    obtain ⟨S', q1, q2, q3, q4⟩ := h4.regrow hd h5 (w' := w') (v' := v') (zs := xs ++ ys) (cs := cs ++ news) (by rw [← h6]; exact h9) (fun b hb => by rw [← h6]; exact h10 b hb) (by rw [List.length_append]; exact h8) (by rw [List.length_append]; unfold maxL; omega)
      fun S' hw' htr hf2 i hi => by
        rw [List.length_append] at hi
        have hcl : cs.length = xs.length * u.size := ho.1
        rcases Nat.lt_or_ge i xs.length with hlt | hge
        · have := oldEl S' htr i hlt
          rw [List.getElem_append_left hlt]
          refine this.cong fun j hj => ?_
          have hlt' : i * u.size + j < cs.length := by
            have : (i + 1) * u.size ≤ xs.length * u.size := Nat.mul_le_mul_right _ hlt
            rw [Nat.add_mul] at this
            omega
          exact List.getElem?_append_left hlt'
        · obtain ⟨q, h11⟩ := hn4 (i - xs.length) (by omega)
          rw [List.getElem_append_right hge]
          refine (h11.free hno hf2 fun j hj => ?_).weaken hle
          · have hmul : i * u.size = xs.length * u.size + (i - xs.length) * u.size := by rw [← Nat.add_mul]; congr 1; omega
            rw [List.getElem?_append_right (by omega)]
            congr 1
            omega
    refine ⟨v', w', h7, S', q1, ?_⟩
    rw [upd_app]
    rw [put_put] at q4
    exact q4
theorem appZ_sound (h : InvOf P c σ a S) (hT : TabOK P T) {t rt ty d tu : Nat} (hd : d < c.N) {A N : Operand} {us : Ups} {ob : Bool} (hx : appZ T ty d t tu (look σ A) (look σ N) = some (ob, us)) (hob : ob = true) :
    ∃ v w', (Builtin.append_ #[t, tu] rt #[a.eval A, a.eval N]).run P S.w = .ok v w' ∧ Inv P c (upd us σ) (a.put (some d) v) w' := by
  unfold appZ at hx
  split at hx
  case h_2 => cases hx
  rename_i i u iu ku k n ht htu hn
  split at hx
  case h_2 => cases hx
  rename_i e he
  split at hx
  case h_2 => cases hx
  rename_i j u2 hte
  split at hx
  case h_2 => cases hx
  rename_i z hz
  split at hx
  case isFalse => cases hx
  rename_i hcond
  obtain ⟨hpos, hby, hzl⟩ := hcond
  split at hx
  case h_2 => cases hx
  rename_i us0 M xs hsrc
  split at hx
  case isFalse => cases hx
  rename_i hle
  simp only [Option.some.injEq, Prod.mk.injEq] at hx
  obtain ⟨rfl, rfl⟩ := hx
  simp only [Bool.and_eq_true, decide_eq_true_eq] at hob
  obtain ⟨hn0, hlim0⟩ := hob
  obtain ⟨m, rfl⟩ := Int.eq_ofNat_of_zero_le hn0
  have hlim : (xs.length : Int) + (m : Int) ≤ 4294967296 := by rw [LIM_eq] at hlim0; exact hlim0
  obtain ⟨hty, _, _, hkind⟩ := hT.kind ht
  obtain ⟨_, d1, _, hd1, _, _, _, hk1⟩ := ty_spec hty
  obtain ⟨e2, i2, hk2, hte2, _⟩ := kindOK_slice hkind
  rw [he] at hk2
  cases hk2
  rw [hte] at hte2
  cases hte2
  have := tyK_slice (hk1.trans (congrArg some he))
  subst this
  obtain ⟨htyu, _, _, hkindu⟩ := hT.kind htu
  obtain ⟨_, d2, _, hd2, _, _, _, hk2⟩ := ty_spec htyu
  have := tyK_int (hk2.trans (congrArg some (kindOK_int hkindu)))
  subst this
  obtain ⟨hty1, hsz1, _, _⟩ := hT.kind hte
  obtain ⟨j', d', hi', hd', hzz, hs', hb', _⟩ := ty_spec hty1
  have hzs := cval_sound (P := P) (S := S) (p := (0, [])) hz
  obtain ⟨S1, h1, h2, h3, h4, h5, h6⟩ := src_sound h hd hpos hsrc
  have hf : Fut2 S S1 := ⟨fun b hb => ⟨by rw [h2]; exact hb, by rw [h1]⟩, fun b hb => ⟨.inr (by rw [h3]; exact hb), by rw [h1]⟩⟩
  have hsr := h4.slot h5
  have hl1 : xs.length ≤ maxL := hsr.1.1
  have htm : tmv (a.put (some d) (a.eval A)) d = a.eval A := tmv_put_same (by rw [h.size]; exact hd)
  -- the old row
  have hold : ∃ cs, S1.w.ownsRow 0 e u.size (a.eval A) xs.length cs ∧ ∀ (i : Nat) (h : i < xs.length), Rel P u S1 M (d, [i]) xs[i] (fun j => cs[i * u.size + j]?) := by
    rcases hsr.1.2.2.2 with ⟨h7, h8⟩ | ⟨g, cap, cur, h7, h8, h9, h10, h11, h12, h13⟩
    · subst h8
      rw [← h6] at h7
      rw [h7]
      exact ⟨[], World.ownsRow_nil _ _ _ _, fun i hi => by simp at hi⟩
    · rw [← h6] at h7
      rw [h7]
      have hle : xs.length * u.size ≤ cur.size := by rw [h12]; exact Nat.mul_le_mul_right _ h10
      refine ⟨cur.toList.take (xs.length * u.size), ⟨by simp; omega, .inr ⟨g, cap, cur, rfl, Nat.zero_le _, h9, h10, h11, h12, rfl⟩⟩, fun i hi => ?_⟩
      refine (h13 i hi).cong fun j hj => ?_
      have hlt : i * u.size + j < xs.length * u.size := by
        have : (i + 1) * u.size ≤ xs.length * u.size := Nat.mul_le_mul_right _ hi
        rw [Nat.add_mul] at this
        omega
      rw [List.getElem?_take, if_pos hlt, Array.getElem?_toList]
  obtain ⟨cs, ho, hel⟩ := hold
  have oldEl : ∀ (S' : St), (∀ q, Tr true S1 S' (d, q) (d, q) ∨ q = []) → ∀ (i : Nat) (h : i < xs.length), Rel P u S' M (d, [i]) xs[i] (fun j => cs[i * u.size + j]?) := fun S' htr i hi =>
    (hel i hi).mono (.inl rfl) ((htr [i]).resolve_right (by simp)) fun _ _ => rfl
  have hzc : Builtin.zeroCells j.zero.cells m = madeCells j.zero.cells (m * u.size) := by
    have e : j.zero.cells.size = u.size := by simpa using hzl
    unfold Builtin.zeroCells madeCells
    rw [e]
  obtain ⟨hm1, hm2⟩ := made_cells hzs m
  have hone : ∀ c ∈ (Builtin.zeroCells j.zero.cells m).toList, c.oneCell' = true := fun c hc => by
    obtain ⟨i, hi, rfl⟩ := List.getElem_of_mem hc
    rw [Array.length_toList, hzc, hm1] at hi
    have hq : i / u.size < m := (Nat.div_lt_iff_lt_mul hpos).2 hi
    obtain ⟨c', hc1, hc2⟩ := (hm2 (i / u.size) hq (0, [])).cells (i % u.size) (Nat.mod_lt _ hpos)
    rw [Nat.div_add_mod', ← hzc] at hc1
    have : (Builtin.zeroCells j.zero.cells m).toList[i]? = some c' := by rw [Array.getElem?_toList]; exact hc1
    rw [List.getElem?_eq_getElem (by rw [Array.length_toList, hzc, hm1]; exact hi)] at this
    rw [Option.some.inj this]
    exact hc2
  rw [← h1, (h.ival hn).1]
  obtain ⟨v', w', h7, h8, h9, h10⟩ := run_append_zeros (P := P) (w := S1.w) t tu rt e j' j.zero u.size j.bytes ku hd1 hd2 hi' hzz (by rw [hs', hsz1]) hb' (by simpa using hzl) hpos (a.eval A) xs.length cs ho k m hone
    (by unfold maxLen; omega) (Nat.le_trans (Nat.mul_le_mul (show xs.length + m ≤ 4294967296 by omega) hby) (by decide))
  obtain ⟨S', q1, q2, q3, q4⟩ := h4.regrow hd h5 (w' := w') (v' := v') (zs := xs ++ List.replicate m z) (cs := cs ++ (Builtin.zeroCells j.zero.cells m).toList) (by rw [← h6]; exact h9) (fun b hb => by rw [← h6]; exact h10 b hb) (by rw [List.length_append, List.length_replicate]; exact h8) (by rw [List.length_append, List.length_replicate]; unfold maxL; omega)
    fun S' hw' htr hf2 i hi => by
      rw [List.length_append, List.length_replicate] at hi
      have hcl : cs.length = xs.length * u.size := ho.1
      rcases Nat.lt_or_ge i xs.length with hlt | hge
      · have := oldEl S' htr i hlt
        rw [List.getElem_append_left hlt]
        refine this.cong fun j hj => ?_
        have hlt' : i * u.size + j < cs.length := by
          have : (i + 1) * u.size ≤ xs.length * u.size := Nat.mul_le_mul_right _ hlt
          rw [Nat.add_mul] at this
          omega
        exact List.getElem?_append_left hlt'
      · have h11 := (made_cells (cval_sound (P := P) (S := S') (p := (0, [])) hz) m).2 (i - xs.length) (by omega) (d, [i])
        rw [List.getElem_append_right hge, List.getElem_replicate]
        refine (h11.cong fun j' hj => ?_).weaken hle
        have hmul : i * u.size = xs.length * u.size + (i - xs.length) * u.size := by rw [← Nat.add_mul]; congr 1; omega
        rw [List.getElem?_append_right (by omega), Array.getElem?_toList, hzc]
        congr 1
        omega
  refine ⟨v', w', h7, S', q1, ?_⟩
  rw [upd_app]
  rw [put_put] at q4
  exact q4
theorem bnd_run (h : InvOf P c σ a S) {o : Option Operand} {dflt n : Int} (hb : bndV (o.map (look σ)) dflt = some n) : (o = none ∧ n = dflt) ∨ ∃ k x, o = some x ∧ a.eval x = .int k n := by
  cases o with
  | none => simp only [Option.map_none, bndV] at hb; cases hb; exact .inl ⟨rfl, rfl⟩
  | some x =>
    simp only [Option.map_some, bndV, Option.map_eq_some_iff] at hb
    obtain ⟨⟨k, m⟩, h1, rfl⟩ := hb
    exact .inr ⟨k, x, rfl, (h.ival h1).1⟩
theorem run_bounds (h : InvOf P c σ a S) {lo hi : Option Operand} {len cap : Nat} {l u : Int} (q : Bool) (hl : bndV (lo.map (look σ)) 0 = some l) (hh : bndV (hi.map (look σ)) len = some u) (h0 : 0 ≤ l) (h1 : l ≤ u) (h2 : u ≤ len) (hc : len ≤ cap) :
    (Instr.sliceBounds q len cap (lo.map a.eval) (hi.map a.eval) none).run P S.w = .ok (l.toNat, u.toNat, cap) S.w := by
  obtain ⟨l, rfl⟩ := Int.eq_ofNat_of_zero_le h0
  obtain ⟨u, rfl⟩ := Int.eq_ofNat_of_zero_le (Int.le_trans h0 h1)
  have h1' : l ≤ u := by omega
  have h2' : u ≤ cap := by omega
  rcases bnd_run h hl with ⟨rfl, he⟩ | ⟨k, x, rfl, hx⟩
  · have : l = 0 := by omega
    subst this
    rcases bnd_run h hh with ⟨rfl, he2⟩ | ⟨k', x', rfl, hx'⟩
    · have : u = len := by omega
      subst this
      simp [Instr.sliceBounds]
    · simp [Instr.sliceBounds, Instr.sliceBound, hx', asIntOf, h2']
  · rcases bnd_run h hh with ⟨rfl, he2⟩ | ⟨k', x', rfl, hx'⟩
    · have : u = len := by omega
      subst this
      simp [Instr.sliceBounds, Instr.sliceBound, hx, asIntOf, h1']
    · simp [Instr.sliceBounds, Instr.sliceBound, hx, hx', asIntOf, h1', h2']
theorem cut_of {l h : Int} {n : Nat} (hc : cutOK l h n = true) : 0 ≤ l ∧ l ≤ h ∧ h ≤ n := by
  simp only [cutOK, Bool.and_eq_true, decide_eq_true_eq] at hc
  exact hc
/-- A part of a slice that is only read. -/
theorem SR.cut {M : Md} (hM : M = .sh ∨ M = .bw) {u : Ty} {p : Place} {xs : List u.den} {v : Value} (h : SR P (.slice u) S M p xs v) {l r : Nat} (hlr : l ≤ r) (hr : r ≤ xs.length) :
    ∃ (b : Option Addr) (cap : Nat), v = .slice b xs.length cap ∧ xs.length ≤ cap ∧ SR P (.slice u) S M p ((xs.take r).drop l) (.slice (if cap = l then b else b.map (·.add (l * u.size))) (r - l) (cap - l)) := by
  obtain ⟨h1, h2, h3⟩ := h.1
  have hc : ∀ v, vcells (.slice u) v 0 = some v := fun v => by simp [vcells, Ty.agg]
  have h3' : ∃ a' len cap, vcells (.slice u) v 0 = some (.slice a' len cap) ∧ len = xs.length ∧ len ≤ cap ∧ ((xs = [] ∧ cap = 0) ∨ ∃ b o', a' = some ⟨b, o', none⟩ ∧ (xs ≠ [] → S.G M b) ∧ ∀ (i : Nat) (h : i < xs.length), Rel P u S M (px p i) xs[i] (blk S.w b (o' + i * u.size))) := by rcases hM with rfl | rfl <;> exact h3
  obtain ⟨a', len, cap, h4, h5, h6, h7⟩ := h3'
  rw [hc] at h4
  have hv := Option.some.inj h4
  subst h5
  have hlen : ((xs.take r).drop l).length = r - l := by rw [List.length_drop, List.length_take, Nat.min_eq_left hr]
  refine ⟨a', cap, hv, h6, ?_, fun h => by cases h⟩
  have goal : ∃ a2 len2 cap2, vcells (.slice u) (.slice (if cap = l then a' else a'.map (·.add (l * u.size))) (r - l) (cap - l)) 0 = some (.slice a2 len2 cap2) ∧ len2 = ((xs.take r).drop l).length ∧ len2 ≤ cap2 ∧ (((xs.take r).drop l = [] ∧ cap2 = 0) ∨ ∃ b o', a2 = some ⟨b, o', none⟩ ∧ ((xs.take r).drop l ≠ [] → S.G M b) ∧ ∀ (i : Nat) (h : i < ((xs.take r).drop l).length), Rel P u S M (px p i) ((xs.take r).drop l)[i] (blk S.w b (o' + i * u.size))) := by
    refine ⟨_, _, _, hc _, hlen.symm, by omega, ?_⟩
    rcases h7 with ⟨rfl, rfl⟩ | ⟨b, o', rfl, hG, h8⟩
    · left
      exact ⟨by simp, by omega⟩
    · right
      by_cases hcl : cap = l
      · have hz : (xs.take r).drop l = [] := List.drop_eq_nil_of_le (by rw [List.length_take]; omega)
        exact ⟨b, o', by rw [if_pos hcl], fun hne => absurd hz hne, fun i hi => by rw [hz] at hi; simp at hi⟩
      · refine ⟨b, o' + l * u.size, by rw [if_neg hcl]; simp [addr_add], fun hne => hG (by rintro rfl; simp at hne), fun i hi => ?_⟩
        have hi' : l + i < xs.length := by omega
        have := h8 (l + i) hi'
        have he : ((xs.take r).drop l)[i] = xs[l + i] := by rw [List.getElem_drop, List.getElem_take]
        rw [he]
        have h9 : Rel P u S M (px p i) xs[l + i] (blk S.w b (o' + (l + i) * u.size)) := this.fut hM ((Fut2.refl S).sh _) fun _ _ => rfl
        have ho : o' + l * u.size + i * u.size = o' + (l + i) * u.size := by rw [Nat.add_mul]; omega
        rw [ho]
        exact h9
  have hl' : ((xs.take r).drop l).length ≤ maxL := by omega
  rcases hM with rfl | rfl <;> exact ⟨hl', h2, goal⟩
theorem slice_sound (h : InvOf P c σ a S) (hT : TabOK P T) {t ty d : Nat} (hd : d < c.N) {A : Operand} {lo hi : Option Operand} {us : Ups} {ob : Bool} (hx : sliceU T ty d t (look σ A) (lo.map (look σ)) (hi.map (look σ)) = some (ob, us)) (hob : ob = true) :
    ∃ v, (Instr.sliceAt t (a.eval A) (lo.map a.eval) (hi.map a.eval) none).run P S.w = .ok v S.w ∧ Inv P c (upd us σ) (a.put (some d) v) S.w := by
  unfold sliceU at hx
  split at hx
  case h_3 => cases hx
  · rename_i i u ht
    obtain ⟨hty, _, _, hkind⟩ := hT.kind ht
    obtain ⟨_, d1, _, hd1, _, _, _, hk1⟩ := ty_spec hty
    obtain ⟨e, i1, hk, hte, hpos⟩ := kindOK_slice hkind
    have := tyK_slice (hk1.trans (congrArg some hk))
    subst this
    obtain ⟨hty1, hsz1, _, _⟩ := hT.kind hte
    obtain ⟨j', d', hi', hd', _, hs', _, _⟩ := ty_spec hty1
    have key : ∀ {M : Md} {xs : List u.den} {l r : Int}, M = .sh ∨ M = .bw → (look σ A).val (.slice u) = some (M, xs) → bndV (lo.map (look σ)) 0 = some l → bndV (hi.map (look σ)) (xs.length : Int) = some r → cutOK l r xs.length = true →
        ∃ v, (Instr.sliceAt t (a.eval A) (lo.map a.eval) (hi.map a.eval) none).run P S.w = .ok v S.w ∧ Inv P c (upd [(d, .v (.slice u) M ((xs.take r.toNat).drop l.toNat), 0)] σ) (a.put (some d) v) S.w := by
      intro M xs l r hM hv hl hr hc
      obtain ⟨h0, h1, h2⟩ := cut_of hc
      obtain ⟨p, hs⟩ := h.val hv
      obtain ⟨b, cap, h3, h4, h5⟩ := hs.cut hM (l := l.toNat) (r := r.toNat) (by omega) (by omega)
      have hrb := run_bounds (P := P) h true hl hr h0 h1 h2 h4
      refine ⟨_, ?_, S, rfl, h.putE (e := .v (.slice u) M _) hd ⟨by rcases hM with rfl | rfl <;> rfl, p, h5⟩⟩
      rw [h3]
      simp [Instr.sliceAt, Instr.slice, run_underlying hd1, hrb, sizeOf, typeInfo, hi', hs', hsz1]
    split at hx
    · rename_i xs hv
      split at hx
      case h_2 => cases hx
      rename_i l r hl hr
      simp only [Option.some.injEq, Prod.mk.injEq] at hx
      obtain ⟨rfl, rfl⟩ := hx
      exact key (.inl rfl) hv hl hr hob
    · rename_i xs hv
      split at hx
      case h_2 => cases hx
      rename_i l r hl hr
      simp only [Option.some.injEq, Prod.mk.injEq] at hx
      obtain ⟨rfl, rfl⟩ := hx
      exact key (.inr rfl) hv hl hr hob
    · rename_i e' M xs hv
      split at hx
      · cases hx
      rename_i hlo
      split at hx
      case h_2 => cases hx
      rename_i r us0 hr has
      simp only [Option.some.injEq, Prod.mk.injEq] at hx
      obtain ⟨rfl, rfl⟩ := hx
      have hlo' : lo = none := by cases lo <;> first | rfl | cases hlo
      subst hlo'
      obtain ⟨h0, h1, h2⟩ := cut_of hob
      have hsrc : ∀ A', look σ A' = look σ A → A' = A → srcU T ty e' d u .sh (look σ A) = some (us0, M, xs) := fun A' _ _ => by
        unfold srcU
        split
        · rename_i hcon; rw [hcon] at hv; simp only [Opd.val, Option.map_eq_some_iff, Prod.mk.injEq] at hv; obtain ⟨_, _, hv, _⟩ := hv; cases hv
        · rw [hv]; simp only [if_true, has, Option.map_some]
      obtain ⟨S1, h3, h4, h5, h6, h7, h8⟩ := src_sound h hd hpos (hsrc A rfl rfl)
      have hsr := h6.slot h7
      obtain ⟨p, hs⟩ := h.val hv
      obtain ⟨ad, cap, hA, hlA⟩ := slice_header hs (by simp)
      have hcap : xs.length ≤ cap ∧ (ad = none → cap = 0 ∧ xs = []) ∧ (∀ x, ad = some x → ∃ g, x = ⟨g, 0, none⟩) := by
        rcases hsr.1.2.2.2 with ⟨q1, q2⟩ | ⟨g, cap', cur, q1, q2, q3, q4, _⟩
        · rw [← h8, hA] at q1
          simp only [Value.slice.injEq] at q1
          obtain ⟨rfl, _, rfl⟩ := q1
          exact ⟨by rw [q2]; exact Nat.le_refl _, fun _ => ⟨rfl, q2⟩, (fun x hx => by cases hx)⟩
        · rw [← h8, hA] at q1
          cases q1
          exact ⟨q4, (fun h => by cases h), (fun x hx => ⟨g, by cases hx; rfl⟩)⟩
      have hrb := run_bounds (P := P) h (lo := none) true rfl hr h0 h1 h2 hcap.1
      have hv' : (if cap = (0 : Int).toNat then ad else ad.map (·.add ((0 : Int).toNat * u.size))) = ad := by
        split
        · rfl
        · cases ad with
          | none => rfl
          | some x => obtain ⟨g, rfl⟩ := hcap.2.2 x rfl; simp [Addr.add]
      refine ⟨.slice ad r.toNat cap, ?_, ?_⟩
      · rw [hA]
        simp only [Int.toNat_zero] at hrb hv'
        simp only [Option.map_none] at hrb
        have hv2 : (if cap = 0 then ad else ad.map (·.add (0 * u.size))) = ad := hv'
        simp [Instr.sliceAt, Instr.slice, run_underlying hd1, hrb, sizeOf, typeInfo, hi', hs', hsz1]
        intro hne
        rw [if_neg hne] at hv2
        simpa using hv2
      · rw [upd_app, ← h3]
        obtain ⟨S', q1, q2, q3, q4⟩ := h6.regrow hd h7 (w' := S1.w) (v' := .slice ad r.toNat cap) (zs := xs.take r.toNat) (cs := (match S1.w.heap[((ad.map (·.block)).getD 0)]? with | some (Obj.cells cur _ _) => cur.toList.take (r.toNat * u.size) | _ => []))
          ⟨rfl, rfl, rfl, Nat.le_refl _, fun _ _ _ => rfl⟩ (fun b hb => .inl (by rw [← h8, hA]; cases ad <;> simp_all [Value.ownBlock]))
          (by
            have hlen : (xs.take r.toNat).length = r.toNat := by rw [List.length_take]; omega
            rw [hlen]
            rcases hsr.1.2.2.2 with ⟨z1, z2⟩ | ⟨g, cap', cur, z1, z2, z3, z4, z5, z6, z7⟩
            · rw [← h8, hA] at z1
              simp only [Value.slice.injEq] at z1
              obtain ⟨rfl, _, rfl⟩ := z1
              have : r.toNat = 0 := by rw [z2] at h2; simp at h2; omega
              rw [this]
              refine ⟨?_, .inl ⟨rfl, rfl⟩⟩
              split <;> simp
            · rw [← h8, hA] at z1
              cases z1
              simp only [Option.map_some, Option.getD_some, z3]
              have : r.toNat ≤ cap := by omega
              have hm : r.toNat * u.size ≤ cap * u.size := Nat.mul_le_mul_right _ this
              exact ⟨by simp; omega, .inr ⟨g, cap, cur, rfl, Nat.zero_le _, z3, this, z5, z6, rfl⟩⟩) (by rw [List.length_take]; omega)
          fun S' hw' htr hf2 i hi => by
            rw [List.length_take] at hi
            have hi' : i < xs.length := by omega
            rcases hsr.1.2.2.2 with ⟨z1, z2⟩ | ⟨g, cap', cur, z1, z2, z3, z4, z5, z6, z7⟩
            · rw [z2] at hi'; simp at hi'
            · rw [← h8, hA] at z1
              cases z1
              simp only [Option.map_some, Option.getD_some, z3]
              rw [List.getElem_take]
              refine ((z7 i hi').mono (.inl rfl) ((htr [i]).resolve_right (by simp)) fun _ _ => rfl).cong fun j hj => ?_
              have hlt : i * u.size + j < r.toNat * u.size := by
                have : (i + 1) * u.size ≤ r.toNat * u.size := Nat.mul_le_mul_right _ (by omega)
                rw [Nat.add_mul] at this
                omega
              rw [List.getElem?_take, if_pos hlt, Array.getElem?_toList]
        rw [put_put] at q4
        exact ⟨S', q1, q4⟩
    · cases hx
  · rename_i i ht
    obtain ⟨hty, _, _, hkind⟩ := hT.kind ht
    obtain ⟨_, d1, _, hd1, _, _, _, hk1⟩ := ty_spec hty
    have := tyK_string (hk1.trans (congrArg some (kindOK_str hkind)))
    subst this
    split at hx
    case h_2 => cases hx
    rename_i m x hv
    split at hx
    · cases hx
    rename_i hm
    split at hx
    case h_2 => cases hx
    rename_i l r hl hr
    simp only [Option.some.injEq, Prod.mk.injEq] at hx
    obtain ⟨rfl, rfl⟩ := hx
    obtain ⟨h0, h1, h2⟩ := cut_of hob
    obtain ⟨p, hs⟩ := h.val hv
    obtain ⟨s, hs1, hs2, hs3⟩ := hs.str_inv hm
    have hlen : s.size = (x : List Int).length := by rw [← hs2, List.length_map, Array.length_toList]; rfl
    rw [← hlen] at hr h2
    have hrb := run_bounds (P := P) (len := s.size) (cap := s.size) h false hl hr h0 h1 h2 (Nat.le_refl _)
    refine ⟨.string (s.extract l.toNat r.toNat), ?_, S, rfl, h.putE (e := .v .str .sh _) hd ⟨rfl, (0, []), ?_, fun h => by cases h⟩⟩
    · rw [hs1]
      simp [Instr.sliceAt, Instr.slice, run_underlying hd1, hrb]
    · refine ⟨s.extract l.toNat r.toNat, by simp [vcells, Ty.agg], ?_, by rw [List.length_drop, List.length_take]; omega⟩
      rw [← hs2, ByteArray.data_extract, Array.toList_extract, List.extract_eq_take_drop, List.map_take, List.map_drop, ← List.drop_take]
end
end Go.X
