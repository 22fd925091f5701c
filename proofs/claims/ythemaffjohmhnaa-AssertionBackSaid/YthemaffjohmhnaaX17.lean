/- Aggregates, slice literals, made slices. -/
import Derived.Test.YthemaffjohmhnaaX16
namespace Go.X
open Go Go.RowKit
/-- Parts laid into a value, one after the other. -/
def fillV (path : Nat → Option (List Nat)) (l : Operand → Opd) (u : Ty) : List (Nat × Operand) → Md → u.den → Option (Md × u.den)
  | [], m, x => some (m, x)
  | (i, o) :: rest, m, x => match path i with
    | none => none
    | some ρ => match getP ρ u x with
      | none => none
      | some old => match (l o).val old.t with
        | none => none
        | some (k, y) => if k.noown then match setM ρ u m (nm old.t k), setP ρ u x ⟨old.t, y⟩ with
            | some m', some x' => fillV path l u rest m' x'
            | _, _ => none
          else none
def buildE (T : Tab) (t : Nat) (ps : List (Nat × Operand)) (l : Operand → Opd) : Option Ent :=
  match tl T t with
  | some (i, u) => match cval u i.zero with
    | some z => match i.k with
      | .struct offs => (fillV (fpath offs.length) l u ps .sh z).bind fun q => if q.1.noown then some (.v u (nm u q.1) q.2) else none
      | .array n _ => (fillV (fun i => if i < n then some [i] else none) l u ps .sh z).bind fun q => if q.1.noown then some (.v u (nm u q.1) q.2) else none
      | _ => none
    | none => none
  | none => none
theorem limX : ∃ n : Int, n = 4294967296 := ⟨_, rfl⟩
/-- A bound of lengths; the kernel does not compute with it. -/
noncomputable def LIM : Int := Classical.choose limX
theorem LIM_eq : LIM = 4294967296 := Classical.choose_spec limX
/-- Elements of a new slice start out as shared (or lent) ones. -/
def litU (T : Tab) (fl : Nat) (d t len : Nat) (ps : List (Nat × Operand)) (l : Operand → Opd) : Option Ups :=
  match tl T t with
  | some (i, .slice u) => match i.k with
    | .slice e => match tl T e with
      | some (j, _) => match cval u j.zero with
        | some z => if 0 < u.size ∧ len * u.size ≤ 16777216 then
            match fillV (fun i => if i < len then some [i] else none) l (.arr len u) ps (if fl = 1 then .bw else .sh) (List.replicate len z) with
            | some (m, x) => if m.noown then some [(d, .v (.slice u) (.own e m) x, 0)] else none
            | none => none
          else none
        | none => none
      | none => none
    | _ => none
  | _ => none
noncomputable def makeU (T : Tab) (d t : Nat) (o o' : Opd) : Option (Bool × Ups) :=
  match tl T t, o.ival, o'.ival with
  | some (i, .slice u), some (k, n), some (k', n') => match i.k with
    | .slice e => match tl T e with
      | some (j, _) => match cval u j.zero with
        | some z => if k = k' ∧ 0 < u.size ∧ j.bytes ≤ 16384 then some (decide (n' = n) && (decide (0 ≤ n) && decide (n ≤ LIM)), [(d, .v (.slice u) (.own e .sh) (List.replicate n.toNat z), 0)]) else none
        | none => none
      | none => none
    | _ => none
  | _, _, _ => none
section
variable {P : Program} {c : Ctx} {σ : Env} {a : Act} {S : St} {T : Tab}
theorem Fr.refl (S : St) (p : Place) (π : List Nat) : Fr S S p π none := ⟨fun _ h => h, fun _ _ => rfl, fun _ h => .inr h, fun _ _ => rfl, fun _ _ => rfl, fun _ _ _ h => ⟨h, fun _ => rfl⟩⟩
theorem fill_rel (h : InvOf P c σ a S) {S1 : St} (hF : Fut2 S S1) {u : Ty} {p : Place} {place : Nat → Option (Nat × Nat)} {path : Nat → Option (List Nat)}
    (hpp : ∀ i ρ x tv, path i = some ρ → getP ρ u x = some tv → ∃ off, place i = some (off, tv.t.size) ∧ locP ρ u = some (none, off) ∧ okP S1 ρ u p) :
    ∀ (ps : List (Nat × Operand)) (m : Md) (x : u.den) (cs : Array Value) (m' : Md) (x' : u.den), cs.size = u.size → Rel P u S1 m p x (fun i => cs[i]?) → fillV path (look σ) u ps m x = some (m', x') →
      ∃ cs', Instr.fill place cs (ps.map fun q => (q.1, a.eval q.2)) = some cs' ∧ cs'.size = u.size ∧ Rel P u S1 m' p x' (fun i => cs'[i]?)
  | [], m, x, cs, m', x', hsz, hr, hf => by
    simp only [fillV, Option.some.injEq, Prod.mk.injEq] at hf
    obtain ⟨rfl, rfl⟩ := hf
    exact ⟨cs, rfl, hsz, hr⟩
  | (i, o) :: rest, m, x, cs, m', x', hsz, hr, hf => by
    simp only [fillV] at hf
    split at hf
    · cases hf
    rename_i ρ hρ
    split at hf
    · cases hf
    rename_i old hg
    split at hf
    · cases hf
    rename_i k y hv
    split at hf
    case isFalse => cases hf
    rename_i hk
    split at hf
    case h_2 => cases hf
    rename_i m1 x1 hm1 hx1
    obtain ⟨off, hpl, hloc, hok⟩ := hpp i ρ x old hρ hg
    obtain ⟨pl, hs⟩ := h.val hv
    have hs := nm_sound hs
    obtain ⟨hc1, hc2, _⟩ := vcells_cells hs
    have hfit := ext_le (S := S1) hloc hx1 hok
    have hcond : ¬ (((a.eval o).cells.size ≠ old.t.size || decide (off + (a.eval o).cells.size > cs.size)) = true) := by simp [hc1]; omega
    have hfold := foldl_set off (a.eval o).cells.toList 0 cs (by simp [hc1]; omega)
    have hspl : ((a.eval o).cells.zipIdx.foldl (fun cs (x : Value × Nat) => cs.setIfInBounds (off + x.2) x.1) cs) = splice cs off (a.eval o).cells.toList := by
      apply Array.ext'
      rw [← Array.foldl_toList, Array.toList_zipIdx]
      unfold splice
      simpa using hfold
    have hfit' : off + (a.eval o).cells.toList.length ≤ cs.size := by simp [hc1]; omega
    have hr1 : Rel P u S1 m1 p x1 (fun i => (splice cs off (a.eval o).cells.toList)[i]?) := by
      refine hr.updA hloc hm1 hx1 hok (.refl S1 p ρ) (fun j hj hjo => splice_out hfit' (by simp [hc1]; exact hjo)) ?_
      refine (hs.1.free (nm_noown hk) hF fun j hj => ?_)
      rw [splice_in hfit' (by simp [hc1]; exact hj), Array.getElem?_toList, hc2 j hj]
    obtain ⟨cs', h1, h2, h3⟩ := fill_rel h hF hpp rest m1 x1 _ m' x' (by rw [splice_size hfit']; exact hsz) hr1 hf
    refine ⟨cs', ?_, h2, h3⟩
    simp only [List.map_cons]
    unfold Instr.fill
    rw [hpl]
    simp only
    rw [if_neg hcond, hspl]
    exact h1
theorem build_sound (h : InvOf P c σ a S) (hT : TabOK P T) {t : Nat} {ps : Array (Nat × Operand)} {e : Ent} (hx : buildE T t ps.toList (look σ) = some e) :
    ∃ v, (Instr.build t (ps.map fun (i, x) => (i, a.eval x))).run P S.w = .ok v S.w ∧ EntOK P S σ e v := by
  unfold buildE at hx
  split at hx
  case h_2 => cases hx
  rename_i i u ht
  split at hx
  case h_2 => cases hx
  rename_i z hz
  obtain ⟨hty, hsz, hag, hkind⟩ := hT.kind ht
  obtain ⟨j, d, hi, hd, hzz, hs, _, hk⟩ := ty_spec hty
  have hzs := cval_sound (P := P) (S := S) (p := (0, [])) hz
  obtain ⟨hz1, hz2, _⟩ := vcells_cells hzs
  have hz0 : Rel P u S .sh (0, []) z (fun i' => i.zero.cells[i']?) := hzs.1.cong hz2
  have hmap : (ps.map fun (x : Nat × Operand) => (x.1, a.eval x.2)).toList = ps.toList.map fun q => (q.1, a.eval q.2) := by simp
  have fin : ∀ {cs : Array Value} {m : Md} {x : u.den}, u.agg = true → cs.size = u.size → Rel P u S m (0, []) x (fun i => cs[i]?) → m.noown = true → EntOK P S σ (.v u (nm u m) x) (.agg cs) := fun {cs m x} hag hcs hr hm => by
    refine ⟨nm_noown hm, (0, []), nm_sound ⟨?_, fun _ => ⟨cs, rfl, hcs⟩⟩⟩
    unfold vcells
    rw [if_pos hag]
    exact hr
  split at hx
  · rename_i offs hoffs
    obtain ⟨fs, rfl, hm⟩ := tyK_struct (hk.trans (congrArg some hoffs))
    rw [hoffs] at hkind
    obtain ⟨fs', hfl, ho⟩ := kindOK_struct hkind
    have hagg : u.agg = true := by obtain ⟨A, B, rfl⟩ := flds_pair hfl; rfl
    simp only [Option.bind_eq_some_iff] at hx
    obtain ⟨⟨m', x'⟩, h1, h2⟩ := hx
    split at h2
    case isFalse => cases h2
    rename_i hno
    cases h2
    obtain ⟨cs', h3, h4, h5⟩ := fill_rel h (.refl S) (p := (0, [])) (place := fun (k : Nat) => offs[k]?) (path := fpath offs.length) (fun i ρ x tv hρ hg => by
      obtain ⟨u', y', o, h6, h7, h8, h9, h10⟩ := fpath_loc (S := S) (o0 := 0) (x := x) (p := (0, [])) hfl hρ
      rw [hg] at h7
      cases h7
      refine ⟨o, ?_, h8, h9⟩
      rw [← ho, Nat.zero_add] at h10
      exact h10) _ _ _ i.zero.cells _ _ hz1 hz0 h1
    refine ⟨.agg cs', run_build S.w t _ cs' ?_, fin hagg h4 h5 hno⟩
    simp only [Program.built, hi, hd, hzz, hm]
    rw [hmap]
    have : (fun (x : Nat) => offs.toArray[x]?) = fun (k : Nat) => offs[k]? := by funext k; simp
    rw [this]
    exact h3
  · rename_i n e1 he1
    have := tyK_array (hk.trans (congrArg some he1))
    subst this
    cases hu : u with
    | arr n' s =>
      subst hu
      rw [he1] at hkind
      simp only [kindOK] at hkind
      split at hkind
      case h_2 => cases hkind
      rename_i n2 s1 i1 s2 hs1 hs2
      cases hs1
      simp only [Bool.and_eq_true, decide_eq_true_eq] at hkind
      obtain ⟨rfl, rfl⟩ := hkind
      obtain ⟨hty1, hsz1, _, _⟩ := hT.kind hs2
      obtain ⟨j', d', hi', hd', _, hs', _, _⟩ := ty_spec hty1
      simp only [Option.bind_eq_some_iff] at hx
      obtain ⟨⟨m', x'⟩, h1, h2⟩ := hx
      split at h2
      case isFalse => cases h2
      rename_i hno
      cases h2
      obtain ⟨cs', h3, h4, h5⟩ := fill_rel h (.refl S) (p := (0, [])) (place := fun k => some (k * i1.size, i1.size)) (path := fun i => if i < n then some [i] else none) (fun i ρ x tv hρ hg => by
        split at hρ
        · rename_i hin
          cases hρ
          rw [getP_arr] at hg
          simp only [getP, Option.some.injEq] at hg
          subst hg
          exact ⟨i * s.size, by rw [hsz1], by rw [locP_arr]; simp [locP], by rw [okP_arr]; exact ⟨hin, trivial⟩⟩
        · cases hρ) _ _ _ i.zero.cells _ _ hz1 hz0 h1
      refine ⟨.agg cs', run_build S.w t _ cs' ?_, fin rfl h4 h5 hno⟩
      simp only [Program.built, hi, hd, hzz, hi', hs']
      rw [hmap]
      exact h3
    | _ => subst hu; rw [he1] at hkind; simp [kindOK] at hkind
  · cases hx
/-- The nil slices in a zero value as slices that are owned. -/
def nilM (T : Tab) (e n : Nat) (u : Ty) (v : Value) : List Nat → Md → u.den → Md × u.den
  | [], M, z => (M, z)
  | i :: r, M, z => match fpath n i with
    | some π => match locP π u, getP π u z, tl T e with
      | some (none, off), some ⟨.slice s, _⟩, some (_, s') => match v.cells[off]? with
        | some (.slice none 0 0) => if s = s' ∧ 0 < s.size then match setM π u M (.own e .sh), setP π u z ⟨.slice s, []⟩ with
          | some M', some z' => nilM T e n u v r M' z'
          | _, _ => nilM T e n u v r M z else nilM T e n u v r M z
        | _ => nilM T e n u v r M z
      | _, _, _ => nilM T e n u v r M z
    | none => nilM T e n u v r M z
def buildN (T : Tab) (fl d t : Nat) (ps : List (Nat × Operand)) (l : Operand → Opd) : Option Ups :=
  match tl T t with
  | some (i, u) => match cval u i.zero with
    | some z => match i.k with
      | .struct offs => match nilM T (fl - 4) offs.length u i.zero (List.range offs.length) .sh z with
        | (M, z') => (fillV (fpath offs.length) l u ps M z').map fun q => [(d, .v u q.1 q.2, 0)]
      | _ => none
    | none => none
  | none => none
theorem nilM_rel {S1 : St} {p : Place} (hn : ∀ π, S1.hv (pa p π) = .slice none 0 0) {e n : Nat} {u : Ty} {v : Value} {fs : List Ty} (hfl : flds n u = some fs) : ∀ (is : List Nat) (M : Md) (z : u.den), Rel P u S1 M p z (fun i => v.cells[i]?) → Rel P u S1 (nilM T e n u v is M z).1 p (nilM T e n u v is M z).2 (fun i => v.cells[i]?)
  | [], M, z, h => h
  | i :: r, M, z, h => by
    have ih := nilM_rel hn (e := e) (v := v) hfl r M z h
    unfold nilM
    split
    · rename_i π hπ
      split
      · rename_i off s y i2 s' hl hg ht
        split
        · rename_i hc
          split
          · rename_i hs
            split
            · rename_i M' z' hM hz
              refine nilM_rel hn hfl r M' z' ?_
              obtain ⟨u', y', o, _, h7, h8, h9, _⟩ := fpath_loc (S := S1) (o0 := 0) (x := z) (p := p) hfl hπ
              refine h.updA hl hM hz h9 (.refl S1 p π) (fun _ _ _ => rfl) ?_
              refine ⟨Nat.zero_le _, hs.2, ?_, .inl ⟨hn π, rfl⟩⟩
              show v.cells[off + 0]? = _
              rw [Nat.add_zero, hc, hn]
            · exact ih
          · exact ih
        · exact ih
      · exact ih
    · exact ih
theorem buildN_sound (h : InvOf P c σ a S) (hT : TabOK P T) {fl d t : Nat} (hd : d < c.N) {ps : Array (Nat × Operand)} {us : Ups} (hx : buildN T fl d t ps.toList (look σ) = some us) :
    ∃ v, (Instr.build t (ps.map fun (i, x) => (i, a.eval x))).run P S.w = .ok v S.w ∧ Inv P c (upd us σ) (a.put (some d) v) S.w := by
  unfold buildN at hx
  split at hx
  case h_2 => cases hx
  rename_i i u ht
  split at hx
  case h_2 => cases hx
  rename_i z hz
  obtain ⟨hty, hsz, hag, hkind⟩ := hT.kind ht
  obtain ⟨j, d', hi, hd', hzz, hs, _, hk⟩ := ty_spec hty
  have hmap : (ps.map fun (x : Nat × Operand) => (x.1, a.eval x.2)).toList = ps.toList.map fun q => (q.1, a.eval q.2) := by simp
  let S1 : St := { S with hv := fun z => if z.1 = d then .slice none 0 0 else S.hv z }
  have hF : Fut2 S S1 := ⟨fun _ h => ⟨h, rfl⟩, fun _ h => ⟨.inr h, rfl⟩⟩
  have hzs := cval_sound (P := P) (S := S1) (p := (d, [])) hz
  obtain ⟨hz1, hz2, _⟩ := vcells_cells hzs
  have hz0 : Rel P u S1 .sh (d, []) z (fun i' => i.zero.cells[i']?) := hzs.1.cong hz2
  split at hx
  case h_2 => cases hx
  rename_i offs hoffs
  obtain ⟨fs, rfl, hm⟩ := tyK_struct (hk.trans (congrArg some hoffs))
  rw [hoffs] at hkind
  obtain ⟨fs', hfl, ho⟩ := kindOK_struct hkind
  have hagg : u.agg = true := by obtain ⟨A, B, rfl⟩ := flds_pair hfl; rfl
  have hnm := nilM_rel (T := T) (S1 := S1) (p := (d, [])) (fun π => by show (if d = d then _ else _) = _; rw [if_pos rfl]) (e := fl - 4) (v := i.zero) hfl (List.range offs.length) .sh z hz0
  simp only [Option.map_eq_some_iff] at hx
  obtain ⟨⟨m', x'⟩, h1, rfl⟩ := hx
  obtain ⟨cs', h3, h4, h5⟩ := fill_rel h hF (p := (d, [])) (place := fun (k : Nat) => offs[k]?) (path := fpath offs.length) (fun i ρ x tv hρ hg => by
    obtain ⟨u', y', o, h6, h7, h8, h9, h10⟩ := fpath_loc (S := S1) (o0 := 0) (x := x) (p := (d, [])) hfl hρ
    rw [hg] at h7
    cases h7
    refine ⟨o, ?_, h8, h9⟩
    rw [← ho, Nat.zero_add] at h10
    exact h10) _ _ _ i.zero.cells _ _ hz1 hnm h1
  refine ⟨.agg cs', run_build S.w t _ cs' ?_, S1, rfl, ?_⟩
  · simp only [Program.built, hi, hd', hzz, hm]
    rw [hmap]
    have : (fun (x : Nat) => offs.toArray[x]?) = fun (k : Nat) => offs[k]? := by funext k; simp
    rw [this]
    exact h3
  · refine h.put (S' := S1) (.refl _) rfl rfl hd (fun t ht q => ?_) (fun _ => .inl rfl) (.v (set1_e σ d _ 0) ?_)
    · exact if_neg ht
    · rw [tmv_put_same (by rw [h.size]; exact hd)]
      refine ⟨?_, fun _ => ⟨cs', rfl, h4⟩⟩
      unfold vcells
      rw [if_pos hagg]
      exact h5
/-- A slice in a new block. -/
theorem InvOf.newOwn (h : InvOf P c σ a S) {d : Nat} (hd : d < c.N) {w' : World} (hw : Ext S.w w') {u : Ty} {e : TypeId} {m : Md} {xs : List u.den} {cap : Nat} {cur : Array Value} (hg : w'.heap[S.w.heap.size]? = some (.cells cur e (0, 0))) (hcap : xs.length ≤ cap) (hcm : cap ≤ maxLen)
    (hcur : cur.size = cap * u.size) (hpos : 0 < u.size) (hl : xs.length ≤ maxL) (hm : m.noown = true) (hr : ∀ (i : Nat) (h : i < xs.length), ∃ q, Rel P u S m q xs[i] (fun j => cur[i * u.size + j]?)) :
    ∃ S', S'.w = w' ∧ InvOf P c (set1 σ d (.v (.slice u) (.own e m) xs) 0) (a.put (some d) (.slice (some ⟨S.w.heap.size, 0, none⟩) xs.length cap)) S' := by
  let S' : St := { S with w := w', own := fun b => if b = S.w.heap.size then some (d, []) else S.own b, hv := fun z => if z = (d, []) then .slice (some ⟨S.w.heap.size, 0, none⟩) xs.length cap else S.hv z }
  have hlt : S.w.heap.size < w'.heap.size := (Array.getElem?_eq_some_iff.1 hg).1
  refine ⟨S', rfl, h.put (S' := S') hw rfl rfl hd (fun t ht q => if_neg (fun he => ht (by cases he; rfl))) (fun b => ?_) ?_⟩
  · by_cases hb : b = S.w.heap.size
    · subst hb; exact .inr ⟨own_new h, Nat.le_refl _, hlt⟩
    · exact .inl (if_neg hb)
  · refine .v (set1_e σ d _ 0) ?_
    rw [tmv_put_same (by rw [h.size]; exact hd)]
    have hhv : S'.hv (d, []) = .slice (some ⟨S.w.heap.size, 0, none⟩) xs.length cap := if_pos rfl
    refine ⟨⟨hl, hpos, by rw [hhv]; simp [vcells, Ty.agg], .inr ⟨S.w.heap.size, cap, cur, hhv, if_pos rfl, hg, hcap, hcm, hcur, fun i hi => ?_⟩⟩, fun h => by cases h⟩
    obtain ⟨q, h1⟩ := hr i hi
    exact h1.free hm (fut2_ext h hw rfl rfl) fun _ _ => rfl
theorem leM_sh {M : Md} (hM : M = .sh ∨ M = .bw) : ∀ u : Ty, leM u .sh M = true := by
  intro u
  induction u with
  | pair A B ihA ihB => rcases hM with rfl | rfl <;> (simp only [leM, Md.l, Md.r, ihA, ihB]; rfl)
  | arr n t ih => exact ih
  | slice t ih => rcases hM with rfl | rfl <;> first | rfl | exact ih
  | ptr t ih => rcases hM with rfl | rfl <;> first | rfl | exact ih
  | alt tid A B ihA ihB => rcases hM with rfl | rfl <;> (simp only [leM, ihA, ihB]; rfl)
  | _ => rcases hM with rfl | rfl <;> rfl
theorem made_cells {u : Ty} {z : u.den} {v : Value} {S : St} (hs : SR P u S .sh (0, []) z v) (n : Nat) : (madeCells v.cells (n * u.size)).size = n * u.size ∧
    ∀ (i : Nat), i < n → ∀ q, Rel P u S .sh q z (fun j => (madeCells v.cells (n * u.size))[i * u.size + j]?) := by
  obtain ⟨hc1, hc2, _⟩ := vcells_cells hs
  refine ⟨by simp [madeCells], fun i hi q => hs.1.free rfl (.refl S) fun j hj => ?_⟩
  have hlt : i * u.size + j < n * u.size := by
    have : (i + 1) * u.size ≤ n * u.size := Nat.mul_le_mul_right _ hi
    rw [Nat.add_mul] at this
    omega
  have hmod : (i * u.size + j) % v.cells.size = j := by rw [hc1, Nat.add_comm, Nat.add_mul_mod_self_right, Nat.mod_eq_of_lt hj]
  have hj' : j < v.cells.size := by omega
  rw [← hc2 j hj]
  simp only [madeCells]
  rw [Array.getElem?_map, Array.getElem?_range]
  simp only [hlt, if_true, Option.map_some, hmod]
  rw [Array.getElem?_eq_getElem hj', getElem!_pos v.cells j hj']
theorem make_sound (h : InvOf P c σ a S) (hT : TabOK P T) {d t : Nat} (hd : d < c.N) {o o' : Operand} {us : Ups} {ob : Bool} (hx : makeU T d t (look σ o) (look σ o') = some (ob, us)) (hob : ob = true) :
    ∃ v w', (Instr.makeSlice t (a.eval o) (a.eval o')).run P S.w = .ok v w' ∧ Inv P c (upd us σ) (a.put (some d) v) w' := by
  unfold makeU at hx
  split at hx
  case h_2 => cases hx
  rename_i i u k n k' n' ht hn hn'
  split at hx
  case h_2 => cases hx
  rename_i e he
  split at hx
  case h_2 => cases hx
  rename_i j u2 hte
  split at hx
  case h_2 => cases hx
  rename_i z hz
  split at hx
  case isFalse => cases hx
  rename_i hcond
  obtain ⟨rfl, hpos, hby⟩ := hcond
  simp only [Option.some.injEq, Prod.mk.injEq] at hx
  obtain ⟨rfl, rfl⟩ := hx
  simp only [Bool.and_eq_true, decide_eq_true_eq] at hob
  obtain ⟨rfl, h0, h1⟩ := hob
  obtain ⟨hty, _, _, hkind⟩ := hT.kind ht
  obtain ⟨_, d1, _, hd1, _, _, _, hk1⟩ := ty_spec hty
  obtain ⟨e2, i2, hk2, hte2, _⟩ := kindOK_slice hkind
  rw [he] at hk2
  cases hk2
  rw [hte] at hte2
  cases hte2
  have := tyK_slice (hk1.trans (congrArg some he))
  subst this
  obtain ⟨hty1, hsz1, _, _⟩ := hT.kind hte
  obtain ⟨j', d', hi', hd', hzz, hs', hb', _⟩ := ty_spec hty1
  obtain ⟨nn, rfl⟩ := Int.eq_ofNat_of_zero_le h0
  have hnn : nn ≤ 4294967296 := by rw [LIM_eq] at h1; omega
  rw [(h.ival hn).1, (h.ival hn').1]
  have hzs := cval_sound (P := P) (S := S) (p := (0, [])) hz
  obtain ⟨w', h2, h3, h4⟩ := run_make_full (P := P) S.w S.w.heap.size t e j' j.zero u.size hd1 hi' hzz (by rw [hs', hsz1]) k k nn (by rw [hb']; exact Nat.le_trans (Nat.mul_le_mul hby hnn) (by decide)) (by unfold maxLen; omega) (Nat.le_refl _)
  have hext : Ext S.w w' := ⟨h4.os, h4.tape, h4.output, h4.size, fun k hk => h4.block k hk (by simp)⟩
  obtain ⟨_, h5⟩ := h3
  rcases h5 with ⟨h5, _⟩ | ⟨g, cap, cur, h5, _, h6, h7, h8, h9, h10⟩
  · cases h5
  cases h5
  have hcur : cur.toList = (madeCells j.zero.cells (nn * u.size)).toList := by
    rw [← h10, List.take_of_length_le (by simp [h9])]
  have hcur' : cur = madeCells j.zero.cells (nn * u.size) := Array.ext' hcur
  obtain ⟨_, hm2⟩ := made_cells hzs nn
  obtain ⟨S', h11, h12⟩ := h.newOwn hd hext (u := u) (e := e) (m := .sh) (xs := List.replicate nn z) (cap := nn) (cur := cur) h6 (by simp) h8 h9 hpos (by simp [maxL]; omega) rfl fun i hi => by
    simp only [List.length_replicate] at hi
    refine ⟨(0, []), ?_⟩
    rw [List.getElem_replicate, hcur']
    exact hm2 i hi _
  rw [List.length_replicate] at h12
  refine ⟨_, w', h2, S', h11, ?_⟩
  show InvOf P c (set1 σ d (.v (.slice u) (.own e .sh) (List.replicate (nn : Int).toNat z)) 0) _ S'
  rw [Int.toNat_natCast]
  exact h12
theorem lit_sound (h : InvOf P c σ a S) (hT : TabOK P T) {fl d t len : Nat} (hd : d < c.N) {ps : Array (Nat × Operand)} {us : Ups} (hx : litU T fl d t len ps.toList (look σ) = some us) :
    ∃ v w', (Instr.buildSlice t len (ps.map fun (i, x) => (i, a.eval x))).run P S.w = .ok v w' ∧ Inv P c (upd us σ) (a.put (some d) v) w' := by
  unfold litU at hx
  split at hx
  case h_2 => cases hx
  rename_i i u ht
  split at hx
  case h_2 => cases hx
  rename_i e he
  split at hx
  case h_2 => cases hx
  rename_i j u2 hte
  split at hx
  case h_2 => cases hx
  rename_i z hz
  split at hx
  case isFalse => cases hx
  rename_i hcond
  obtain ⟨hpos, hbig⟩ := hcond
  split at hx
  case h_2 => cases hx
  rename_i m x hfill
  split at hx
  case isFalse => cases hx
  rename_i hm
  cases hx
  obtain ⟨hty, _, _, hkind⟩ := hT.kind ht
  obtain ⟨_, d1, _, hd1, _, _, _, hk1⟩ := ty_spec hty
  obtain ⟨e2, i2, hk2, hte2, _⟩ := kindOK_slice hkind
  rw [he] at hk2
  cases hk2
  rw [hte] at hte2
  cases hte2
  have := tyK_slice (hk1.trans (congrArg some he))
  subst this
  obtain ⟨hty1, hsz1, _, _⟩ := hT.kind hte
  obtain ⟨j', d', hi', hd', hzz, hs', hb', _⟩ := ty_spec hty1
  have hzs := cval_sound (P := P) (S := S) (p := (0, [])) hz
  obtain ⟨hm1, hm2⟩ := made_cells hzs len
  have hM : (if fl = 1 then Md.bw else Md.sh) = .sh ∨ (if fl = 1 then Md.bw else Md.sh) = .bw := by split <;> simp
  have hleM : leM u .sh (if fl = 1 then Md.bw else Md.sh) = true := leM_sh hM u
  obtain ⟨cs', h3, h4, h5⟩ := fill_rel h (.refl S) (u := .arr len u) (p := (0, [])) (place := fun k => some (k * j.size, j.size)) (path := fun i => if i < len then some [i] else none) (fun i ρ x tv hρ hg => by
    split at hρ
    · rename_i hin
      cases hρ
      rw [getP_arr] at hg
      simp only [getP, Option.some.injEq] at hg
      subst hg
      exact ⟨i * u.size, by rw [hsz1], by rw [locP_arr]; simp [locP], by rw [okP_arr]; exact ⟨hin, trivial⟩⟩
    · cases hρ) _ _ _ (madeCells j.zero.cells (len * u.size)) _ _ hm1 ⟨by simp, fun i hi => by
      simp only [List.length_replicate] at hi
      rw [List.getElem_replicate]
      exact (hm2 i hi _).weaken hleM⟩ hfill
  obtain ⟨h6, h7⟩ := h5
  have hlen : len ≤ len * u.size := Nat.le_mul_of_pos_right _ hpos
  obtain ⟨S', h11, h12⟩ := h.newOwn hd (Ext.alloc S.w (.cells cs' e)) (u := u) (e := e) (m := m) (xs := x) (cap := len) (cur := cs') (heap_alloc_new S.w _) (by omega) (by unfold maxLen; omega) h4 hpos (by unfold maxL; omega) hm fun i hi => ⟨_, h7 i hi⟩
  have hmap : (ps.map fun (x : Nat × Operand) => (x.1, a.eval x.2)).toList = ps.toList.map fun q => (q.1, a.eval q.2) := by simp
  refine ⟨_, _, ?_, S', h11, by rw [h6] at h12; exact h12⟩
  have hmade : (Array.range (len * u.size)).map (fun k => j.zero.cells[k % j.zero.cells.size]!) = madeCells j.zero.cells (len * u.size) := rfl
  have h1' : Instr.fill (fun i => some (i * j.size, j.size)) (madeCells j.zero.cells (len * u.size)) (ps.map fun (x : Nat × Operand) => (x.1, a.eval x.2)).toList = some cs' := by rw [hmap]; exact h3
  rw [hsz1] at h1' hs'
  by_cases hz0 : len * u.size = 0
  · have e0 : (Array.range (len * u.size)).map (fun k => (#[] : Array Value)[k % (#[] : Array Value).size]!) = madeCells j.zero.cells (len * u.size) := by rw [hz0]; simp [madeCells]
    simp only [Instr.buildSlice, run_underlying hd1, sizeOf, typeInfo, Sem.run_bind, Sem.run_pure, Result.andThen_ok, run_program, hi', hs', if_pos hz0, if_neg (Nat.not_lt.2 hbig), e0, h1', newRow, run_newObj, World.alloc_eq, gt_iff_lt]
  · simp only [Instr.buildSlice, run_underlying hd1, sizeOf, typeInfo, Sem.run_bind, Sem.run_pure, Result.andThen_ok, run_program, hi', hs', zeroValue, hzz, if_neg hz0, if_neg (Nat.not_lt.2 hbig), hmade, h1', newRow, run_newObj, World.alloc_eq, gt_iff_lt]
end
end Go.X
