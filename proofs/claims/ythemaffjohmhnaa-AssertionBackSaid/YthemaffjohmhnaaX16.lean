/- New variables, stores, assignments, parts of results: updates of the environment and their soundness. -/
import Derived.Test.YthemaffjohmhnaaX15
namespace Go.X
open Go Go.RowKit
abbrev Ups := List (Nat × Ent × Nat)
def upd : Ups → Env → Env
  | [], σ => σ
  | (t, e, k) :: r, σ => upd r (set1 σ t e k)
/-- A directive for one operation: parts to freeze ahead; a code; modes of a call's arguments. -/
structure An where
  frz : List (Nat × List Nat) := []
  fl : Nat := 0
  args : List Nat := []
  deriving Inhabited
def allocU (T : Tab) (d t : Nat) : Option Ups :=
  match tl T t with
  | some (i, u) => (cval u i.zero).map fun z => [(d, .v (.ptr u) (.own 0 .sh) z, 0)]
  | none => none
def boxU (T : Tab) (d t : Nat) (x : Opd) : Option Ups :=
  match tl T t with
  | some (_, u) => match x.val u with
    | some (m, y) => if m.noown then some [(d, .v (.ptr u) (.own 0 (nm u m)) y, 0)] else none
    | none => none
  | none => none
def storeU (T : Tab) (t : Nat) (A V : Opd) : Option Ups :=
  match tl T t, A.place with
  | some (_, u), some p => match getP p.π p.t p.x with
    | some old => if old.t = u ∧ 0 < u.size then match V.val u with
      | some (m, y) => if m.noown then match setM p.π p.t p.m m, setP p.π p.t p.x ⟨u, y⟩ with
          | some m', some x' => some [(p.r, .v p.t m' x', 2)]
          | _, _ => none
        else match V with
          | .slot s cc _ => match cc.e with
            | .v t' k z => if s = p.r ∨ t' ≠ u then none else match setM p.π p.t p.m k, setP p.π p.t p.x ⟨t', z⟩ with
              | some m', some x' => some [(s, .dead, 0), (p.r, .v p.t m' x', 1)]
              | _, _ => none
            | _ => none
          | _ => none
      | none => none else none
    | none => none
  | _, _ => none
/-- The target takes the operand's value over. -/
def asgU (T : Tab) (ty d : Nat) (o : Opd) : Option Ups :=
  match o with
  | .slot s cc root => match cc.e with
    | .v t m x => if m.noown then some [(d, .v t m x, 0)] else if s = d then none else some [(s, .dead, 0), (d, .v t m x, 0)]
    | .view r π s' => match root.e with
      | .v tr mr xr => if root.h = s' then
          match modeP π tr mr, getP π tr xr with
          | some (.own e k), some ⟨.slice u, y⟩ =>
            if r = d then (if π = [] then some [] else none) else
            if π = [] then some [(r, .dead, 0), (d, .v (.slice u) (.own e k) y, 0)] else
            match setM π tr mr .dead with
            | some m' => some [(r, .v tr m' xr, 1), (d, .v (.slice u) (.own e k) y, 0)]
            | none => none
          | _, _ => none
        else none
      | _ => none
    | .tup es => if s = d then none else some [(s, .dead, 0), (d, .tup es, 0)]
    | _ => (moveE T ty o).map fun e => [(d, e, 0)]
  | _ => (moveE T ty o).map fun e => [(d, e, 0)]
def extU (d i : Nat) (o : Opd) : Option Ups :=
  match o with
  | .slot s cc _ => match cc.e with
    | .tup es => if s = d then none else match es[i]? with
      | some e => if e.m.noown then some [(d, .v e.t e.m e.x, 0)] else some [(s, .tup (es.set i ⟨e.t, .dead, e.x⟩), 0), (d, .v e.t e.m e.x, 0)]
      | none => none
    | _ => none
  | _ => none
section
variable {P : Program} {c : Ctx} {σ : Env} {a : Act} {S : St} {T : Tab}
theorem Tr.of_ext {w' : World} {own' : Nat → Option Place} {hv' : Place → Value} {p : Place} (h : InvOf P c σ a S) (hw : Ext S.w w') (ho : ∀ b r, S.own b = some (pa p r) → own' b = some (pa p r)) (hh : ∀ r, hv' (pa p r) = S.hv (pa p r)) :
    Tr true S { S with w := w', own := own', hv := hv' } p p := ⟨fun _ h => h, fun b hb => hw.block b (h.wlt (.inl hb)), fun _ _ h => .inr h, fun _ b hb => hw.block b (h.wlt (.inr (.inl hb))), hh, fun b r hb => ⟨ho b r hb, hw.block b (h.wlt (.inr (.inr ⟨_, hb⟩)))⟩⟩
theorem own_new (h : InvOf P c σ a S) : S.own S.w.heap.size = none := by
  cases ho : S.own S.w.heap.size with
  | none => rfl
  | some p => exact absurd (h.owned _ p ho).1 (Nat.lt_irrefl _)
theorem fut2_ext (h : InvOf P c σ a S) {S' : St} (hw : Ext S.w S'.w) (hF : S'.F = S.F) (hB : S'.B = S.B) : Fut2 S S' :=
  ⟨fun b hb => ⟨by rw [hF]; exact hb, hw.block b (h.wlt (.inl hb))⟩, fun b hb => ⟨.inr (by rw [hB]; exact hb), hw.block b (h.wlt (.inr (.inl hb)))⟩⟩
/-- A new variable that holds a value which owns nothing. -/
theorem InvOf.newBox (h : InvOf P c σ a S) {d : Nat} (hd : d < c.N) {u : Ty} {m : Md} {y : u.den} {v : Value} {p : Place} (hs : SR P u S m p y v) (hm : m.noown = true) (E : TypeId) :
    ∃ S', S'.w = S.w.alloc (.cells v.cells E) ∧ InvOf P c (set1 σ d (.v (.ptr u) (.own 0 m) y) 0) (a.put (some d) (.pointer (some ⟨S.w.heap.size, 0, none⟩))) S' := by
  let S' : St := { S with w := S.w.alloc (.cells v.cells E), own := fun b => if b = S.w.heap.size then some (d, []) else S.own b, hv := fun z => if z = (d, []) then .pointer (some ⟨S.w.heap.size, 0, none⟩) else S.hv z }
  have hext : Ext S.w S'.w := Ext.alloc _ _
  obtain ⟨hc1, hc2, _⟩ := vcells_cells hs
  refine ⟨S', rfl, h.put hext rfl rfl hd (fun t ht q => if_neg (fun he => ht (by cases he; rfl))) (fun b => ?_) ?_⟩
  · by_cases hb : b = S.w.heap.size
    · subst hb; exact .inr ⟨own_new h, Nat.le_refl _, by show _ < (S.w.alloc _).heap.size; simp⟩
    · exact .inl (if_neg hb)
  · refine .v (set1_e σ d _ 0) ?_
    rw [tmv_put_same (by rw [h.size]; exact hd)]
    refine ⟨⟨?_, S.w.heap.size, v.cells, E, if_pos rfl, if_pos rfl, heap_alloc_new S.w _, hc1, ?_⟩, fun h => by cases h⟩
    · show vcells (.ptr u) _ 0 = some (if (d, ([] : List Nat)) = (d, []) then _ else _)
      rw [if_pos rfl]
      simp [vcells, Ty.agg]
    · exact hs.1.free hm (fut2_ext h hext rfl rfl) hc2
theorem alloc_sound (h : InvOf P c σ a S) (hT : TabOK P T) {d t : Nat} (hd : d < c.N) {us : Ups} (hx : allocU T d t = some us) :
    ∃ v w', (Instr.alloc t true (.tuple #[])).run P S.w = .ok v w' ∧ Inv P c (upd us σ) (a.put (some d) v) w' := by
  unfold allocU at hx
  split at hx
  case h_2 => cases hx
  rename_i i u ht
  simp only [Option.map_eq_some_iff] at hx
  obtain ⟨z, hz, rfl⟩ := hx
  obtain ⟨hty, _, _, _⟩ := hT.kind ht
  obtain ⟨j, dd, hi, hdd, hzz, _⟩ := ty_spec hty
  obtain ⟨S', h1, h2⟩ := h.newBox hd (cval_sound (P := P) (S := S) (p := (0, [])) hz) rfl t
  refine ⟨_, _, ?_, S', h1, h2⟩
  simp [Instr.alloc, zeroValue, typeInfo, hi, hzz, newVar, newRow]
theorem box_sound (h : InvOf P c σ a S) {d t : Nat} (hd : d < c.N) {x : Operand} {us : Ups} (hx : boxU T d t (look σ x) = some us) :
    ∃ v w', (Instr.box t (a.eval x)).run P S.w = .ok v w' ∧ Inv P c (upd us σ) (a.put (some d) v) w' := by
  unfold boxU at hx
  split at hx
  case h_2 => cases hx
  rename_i i u ht
  split at hx
  case h_2 => cases hx
  rename_i m y hv
  split at hx
  case isFalse => cases hx
  rename_i hm
  cases hx
  obtain ⟨p, hs⟩ := h.val hv
  obtain ⟨S', h1, h2⟩ := h.newBox hd (nm_sound hs) (nm_noown hm) t
  refine ⟨_, _, ?_, S', h1, h2⟩
  simp [Instr.box, newVar, newRow]
theorem Rel.fits {u : Ty} {m : Md} {p : Place} {y : u.den} {w : World} {b off : Nat} {cur : Array Value} {e : TypeId} (h : Rel P u S m p y (blk w b off)) (hb : w.heap[b]? = some (.cells cur e (0, 0))) (h0 : off ≤ cur.size) : off + u.size ≤ cur.size := by
  rcases Nat.eq_zero_or_pos u.size with hz | hz
  · omega
  · obtain ⟨v, h1, _⟩ := h.cells (u.size - 1) (by omega)
    rw [blk_cur hb] at h1
    have : off + (u.size - 1) < cur.size := by
      rcases Nat.lt_or_ge (off + (u.size - 1)) cur.size with h' | h'
      · exact h'
      · have h1' : cur[off + (u.size - 1)]? = some v := h1
        rw [Array.getElem?_eq_none h'] at h1'; cases h1'
    omega
theorem setM_modeP : ∀ {π : List Nat} {t : Ty} {m k m' : Md}, setM π t m k = some m' → ∃ k0, modeP π t m = some k0
  | [], _, m, _, _, _ => ⟨m, rfl⟩
  | i :: π, .pair a b, m, k, m', h => by
    match i with
    | 0 => simp only [setM, Option.map_eq_some_iff] at h; obtain ⟨_, h1, _⟩ := h; exact setM_modeP (t := a) h1
    | 1 => simp only [setM, Option.map_eq_some_iff] at h; obtain ⟨_, h1, _⟩ := h; exact setM_modeP (t := b) h1
    | i + 2 => simp [setM] at h
  | i :: π, .arr n t, m, k, m', h => by
    rw [setM_arr] at h
    simp only [Option.bind_eq_some_iff] at h
    obtain ⟨_, h1, _⟩ := h
    rw [modeP_arr]
    exact setM_modeP h1
  | i :: π, .slice t, m, k, m', h => by
    obtain ⟨e, j, rfl⟩ := setM_slice_own h
    rw [setM_slice] at h
    simp only [Option.bind_eq_some_iff] at h
    obtain ⟨_, h1, _⟩ := h
    rw [modeP_slice]
    exact setM_modeP h1
  | i :: π, .ptr t, m, k, m', h => by
    match i with
    | 0 =>
      cases m <;> first | (simp [setM] at h; done) | skip
      simp only [setM, Option.map_eq_some_iff] at h
      obtain ⟨_, h1, _⟩ := h
      exact setM_modeP (t := t) h1
    | i + 1 => cases m <;> simp [setM] at h
  | _ :: _, .int _, _, _, _, h => by simp [setM] at h
  | _ :: _, .bool, _, _, _, h => by simp [setM] at h
  | _ :: _, .str, _, _, _, h => by simp [setM] at h
  | _ :: _, .unit, _, _, _, h => by simp [setM] at h
  | _ :: _, .fn1 _ _, _, _, _, h => by simp [setM] at h
  | _ :: _, .fn2 _ _ _, _, _, _, h => by simp [setM] at h
  | _ :: _, .alt _ _ _, _, _, _, h => by simp [setM] at h
  | _ :: _, .nilI, _, _, _, h => by simp [setM] at h
theorem store_sound (h : InvOf P c σ a S) (hT : TabOK P T) {t : Nat} {A V : Operand} {us : Ups} (hx : storeU T t (look σ A) (look σ V) = some us) :
    ∃ w', (Instr.storeAt t (a.eval A) (a.eval V)).run P S.w = .ok () w' ∧ Inv P c (upd us σ) a w' := by
  unfold storeU at hx
  split at hx
  case h_2 => cases hx
  rename_i i u p ht hp
  split at hx
  case h_2 => cases hx
  rename_i old hg
  split at hx
  case isFalse => cases hx
  rename_i hold
  obtain ⟨hty, hsz, _, _⟩ := hT.kind ht
  obtain ⟨hr, hc, hπ, hok, _⟩ := h.place hp
  have run : ∀ {q : List Nat} {off b : Nat} {cur : Array Value} {e : TypeId} {v : Value} {k : Md} {y : u.den} {pl : Place}, S.w.heap[b]? = some (.cells cur e (0, 0)) → off + u.size ≤ cur.size → SR P u S k pl y v →
      (Instr.storeAt t (.pointer (some ⟨b, off, none⟩)) v).run P S.w = .ok () (S.w.setRow b (splice cur off v.cells.toList)) := fun {q off b cur e v k y pl} hb hfit hs => by
    obtain ⟨h1, _, h3⟩ := vcells_cells hs
    exact run_storeAt hty hb (by rw [h1, hsz]) (by rw [hsz]; exact hfit) h3
  have part : ∀ {k m' : Md}, setM p.π p.t p.m k = some m' → ∃ (q : List Nat) (off b : Nat) (cur : Array Value) (e : TypeId), locP p.π p.t = some (some q, off) ∧ hvB (S.hv (p.r, q)) = some b ∧ S.own b = some (p.r, q) ∧ S.w.heap[b]? = some (.cells cur e (0, 0)) ∧ a.eval A = .pointer (some ⟨b, off, none⟩) ∧ off + u.size ≤ cur.size := fun {k m'} hm => by
    obtain ⟨k0, hk0⟩ := setM_modeP hm
    obtain ⟨u', y', q, off, b, cur, e, h1, h2, h3, h4, h5, h6, h7⟩ := h.partAt hp hk0
    rw [hg] at h1
    cases h1
    simp only at hold
    obtain ⟨hold, hz⟩ := hold
    subst hold
    refine ⟨q, off, b, cur, e, h2, h3, h4, h5, h6, ?_⟩
    obtain ⟨v, h8, _⟩ := h7.cells 0 hz
    rw [blk_cur h5] at h8
    have h8' : cur[off + 0]? = some v := h8
    exact h7.fits h5 (by
      rcases Nat.lt_or_ge off cur.size with h' | h'
      · exact Nat.le_of_lt h'
      · rw [Nat.add_zero, Array.getElem?_eq_none h'] at h8'; cases h8')
  split at hx
  case h_2 => cases hx
  rename_i m y hv
  split at hx
  · rename_i hm
    split at hx
    case h_2 => cases hx
    rename_i m' x' hm' hx'
    cases hx
    obtain ⟨q, off, b, cur, e, h2, h3, h4, h5, h6, h7⟩ := part hm'
    obtain ⟨pl, hs⟩ := h.val hv
    rw [h6]
    exact ⟨_, run (q := q) h5 h7 hs, _, rfl, h.store hr h2 hok h3 h4 h5 hm' hx' h7 hs hm⟩
  · cases V with
    | const v => simp [look] at hx
    | func f => simp [look] at hx
    | global g => simp [look] at hx
    | tmp s =>
      simp only [look] at hx
      split at hx
      case h_2 => cases hx
      rename_i t' k z he
      split at hx
      · cases hx
      rename_i hne
      simp only [not_or, ne_eq, Decidable.not_not] at hne
      obtain ⟨hne, htu⟩ := hne
      subst htu
      split at hx
      case h_2 => cases hx
      rename_i m' x' hm' hx'
      cases hx
      obtain ⟨q, off, b, cur, e, h2, h3, h4, h5, h6, h7⟩ := part hm'
      rw [h6, tmv_eval]
      exact ⟨_, run (q := q) h5 h7 (h.slot he), _, rfl, h.give hr he hne h2 hok hπ h3 h4 h5 hm' hx' h7⟩
theorem put_self (a : Act) (r : Nat) : a.put (some r) (tmv a r) = a := by
  have : a.tmps.setIfInBounds r (tmv a r) = a.tmps := by
    apply Array.ext_getElem?
    intro i
    rw [Array.getElem?_setIfInBounds]
    split
    · rename_i h
      subst h
      split
      · rename_i h; unfold tmv; rw [Array.getD_eq_getD_getElem?, Array.getElem?_eq_getElem h]; rfl
      · rename_i h; rw [Array.getElem?_eq_none (by omega)]
    · rfl
  show ({ a with tmps := a.tmps.setIfInBounds r (tmv a r) } : Act) = a
  rw [this]
theorem asg_sound (h : InvOf P c σ a S) {ty d : Nat} (hd : d < c.N) {o : Operand} {us : Ups} (hx : asgU T ty d (look σ o) = some us) : ∃ S1, S1.w = S.w ∧ S1.F = S.F ∧ S1.B = S.B ∧ InvOf P c (upd us σ) (a.put (some d) (a.eval o)) S1 := by
  have mvE : ∀ {o : Operand} {us : Ups}, (moveE T ty (look σ o)).map (fun e => [(d, e, 0)]) = some us → ∃ S1, S1.w = S.w ∧ S1.F = S.F ∧ S1.B = S.B ∧ InvOf P c (upd us σ) (a.put (some d) (a.eval o)) S1 := fun {o us} hx => by
    simp only [Option.map_eq_some_iff] at hx
    obtain ⟨e, h1, rfl⟩ := hx
    exact ⟨S, rfl, rfl, rfl, h.putE hd (h.move_sound h1)⟩
  cases o with
  | const v => exact mvE hx
  | func f => exact mvE hx
  | global g => exact mvE hx
  | tmp s =>
    have hx0 := hx
    simp only [look, asgU] at hx
    split at hx
    · rename_i t m x he
      rw [tmv_eval]
      split at hx
      · rename_i hm
        cases hx
        exact ⟨S, rfl, rfl, rfl, h.putE hd ⟨hm, _, h.slot he⟩⟩
      · split at hx
        · cases hx
        rename_i hne
        cases hx
        exact ⟨mv S (s, []) (d, []), rfl, rfl, rfl, h.moveAll he hne hd⟩
    · rename_i r π s' he
      have hrt : rootOf σ (σ s).e = σ r := by rw [he]; rfl
      rw [hrt] at hx
      split at hx
      case h_2 => cases hx
      rename_i tr mr xr hroot
      split at hx
      case isFalse => cases hx
      rename_i hgen
      obtain ⟨_, hvw⟩ := (h.ent s).view he
      obtain ⟨hok, hval⟩ := hvw tr mr xr hroot hgen
      rw [tmv_eval, hval]
      split at hx
      case h_2 => cases hx
      rename_i e k u y hm hg
      split at hx
      · rename_i hrd
        split at hx
        case isFalse => cases hx
        rename_i hπ
        cases hx
        subst hπ hrd
        simp only [getP, Option.some.injEq] at hg
        cases hg
        simp only [modeP, Option.some.injEq] at hm
        subst hm
        rw [← h.hdr hroot, put_self]
        exact ⟨S, rfl, rfl, rfl, h⟩
      · rename_i hrd
        split at hx
        · rename_i hπ
          cases hx
          subst hπ
          simp only [getP, Option.some.injEq] at hg
          cases hg
          simp only [modeP, Option.some.injEq] at hm
          subst hm
          rw [← h.hdr hroot]
          exact ⟨mv S (r, []) (d, []), rfl, rfl, rfl, h.moveAll hroot hrd hd⟩
        · split at hx
          case h_2 => cases hx
          rename_i m' hs
          cases hx
          obtain ⟨u', y', l, cs', h1, h2, h3, h4⟩ := Rel.at (h.slot hroot).1 hm hok
          rw [hg] at h1
          cases h1
          rw [pa_nil0] at h3
          refine ⟨mv S (r, π) (d, []), rfl, rfl, rfl, h.takePart hroot hrd hd hm hg hok hs (fun cs l' hl hcs i hi => ?_) fun h => by cases h⟩
          have : i = 0 := by simp only [Ty.size] at hi; omega
          subst this
          rw [hl] at h2
          cases h2
          have hcc : cs = cs' := by
            obtain ⟨q, off⟩ := l
            cases q with
            | none => exact hcs.trans h4.symm
            | some q =>
              obtain ⟨b, h5, h6⟩ := hcs
              obtain ⟨b', h7, _, h8, _⟩ := h4
              rw [pa_nil0] at h7
              rw [h5] at h7
              cases h7
              exact h6.trans h8.symm
          rw [hcc, h3.2.2.1]
          simp [vcells, Ty.agg]
    · rename_i es he
      rw [tmv_eval]
      split at hx
      · cases hx
      rename_i hne
      cases hx
      exact ⟨mv S (s, []) (d, []), rfl, rfl, rfl, h.moveTup he hne hd⟩
    · exact mvE hx
/-- A part of a slot's results goes to slot d. -/
theorem InvOf.takeTup (h : InvOf P c σ a S) {s d i : Nat} {es : List TM} {e : TM} (hs : (σ s).e = .tup es) (hne : s ≠ d) (hd : d < c.N) (hi : es[i]? = some e) {vs : Array Value} {v : Value} (hvs : tmv a s = .tuple vs) (hv : vs[i]? = some v) :
    InvOf P c (set1 (set1 σ s (.tup (es.set i ⟨e.t, .dead, e.x⟩)) 0) d (.v e.t e.m e.x) 0) (a.put (some d) v) (mv S (s, [i]) (d, [])) := by
  have hsr := h.ent s
  unfold SlotOK at hsr
  rw [hs] at hsr
  obtain ⟨vs', h1, h2, h3⟩ := hsr
  rw [hvs] at h1
  cases h1
  obtain ⟨v', h4, h5⟩ := h3 i e hi
  rw [hv] at h4
  cases h4
  obtain ⟨q1, q2, q3⟩ := h.mvOwned (p := (s, [i])) (q := (d, []))
  refine h.rebuild (fun t => t = s ∨ t = d) (by simpa [Act.put] using h.defers) (by simpa [Act.put] using h.size)
    (fun t ht => ⟨by rw [set1_ne _ _ _ (fun e => ht (.inr e)), set1_ne _ _ _ (fun e => ht (.inl e))], tmv_put_ne fun e => ht (.inr e)⟩) (fun r hr => ?_) (fun t ht => ?_) (fun _ h => h) (fun _ _ => rfl) rfl (fun _ _ => rfl)
    (fun t ht q => mv_hv_ne fun ρ he => ht (.inr (pa_slot he))) (fun t ht b q hb => ⟨mv_own_ne hb fun ρ he => ht (.inl (pa_slot he)), rfl⟩) q1 q2 q3 rfl rfl rfl (Nat.le_refl _) (fun _ _ _ => rfl)
  · by_cases hrd : r = d
    · subst hrd
      exact ⟨by rw [set1_same]; exact Nat.le_refl _, .inl (by rw [set1_same, set1_ne _ _ _ (Ne.symm hne)]; exact Nat.lt_succ_self _)⟩
    · have hrs := hr.resolve_right hrd
      subst hrs
      exact ⟨by rw [set1_ne _ _ _ hrd, set1_same]; exact Nat.le_refl _, .inl (by rw [set1_ne _ _ _ hrd, set1_same]; exact Nat.lt_succ_self _)⟩
  · by_cases htd : t = d
    · subst htd
      refine .v (set1_e _ _ _ 0) ?_
      rw [tmv_put_same (by rw [h.size]; exact hd)]
      exact h5.mono (.inl rfl) (mv_tr S _ _)
    · have hts := ht.resolve_right htd
      subst hts
      unfold SlotOK
      rw [set1_ne _ _ _ htd, set1_e, tmv_put_ne htd]
      refine ⟨vs, hvs, by rw [List.length_set]; exact h2, fun k e' hk => ?_⟩
      rw [List.getElem?_set] at hk
      split at hk
      · rename_i hik
        subst hik
        split at hk
        · cases hk
          exact ⟨v, hv, (h5.1.weaken (leM_dead _ _)).dead_any fun _ _ => rfl, h5.2⟩
        · cases hk
      · rename_i hik
        obtain ⟨u, h6, h7⟩ := h3 k e' hk
        refine ⟨u, h6, h7.mono (.inl rfl) ⟨fun _ h => h, fun _ _ => rfl, fun _ _ h => .inr h, fun _ _ _ => rfl, fun r => mv_hv_ne fun ρ he => htd (pa_slot he), fun b r hb => ⟨mv_own_ne hb fun ρ he => ?_, rfl⟩⟩⟩
        simp only [pa, List.cons_append, List.nil_append, Prod.mk.injEq, List.cons.injEq, true_and] at he
        exact hik he.1.symm
theorem ext_sound (h : InvOf P c σ a S) {d i : Nat} (hd : d < c.N) {o : Operand} {us : Ups} (hx : extU d i (look σ o) = some us) :
    ∃ v, (Instr.extract (a.eval o) i).run P S.w = .ok v S.w ∧ Inv P c (upd us σ) (a.put (some d) v) S.w := by
  cases o with
  | const v => simp [look, extU] at hx
  | func f => simp [look, extU] at hx
  | global g => simp [look, extU] at hx
  | tmp s =>
    simp only [look, extU] at hx
    split at hx
    case h_2 => cases hx
    rename_i es he
    split at hx
    · cases hx
    rename_i hne
    split at hx
    case h_2 => cases hx
    rename_i e hi
    have hsr := h.ent s
    unfold SlotOK at hsr
    rw [he] at hsr
    obtain ⟨vs, h1, h2, h3⟩ := hsr
    obtain ⟨v, h4, h5⟩ := h3 i e hi
    refine ⟨v, by rw [tmv_eval, h1]; simp [Instr.extract, h4], ?_⟩
    split at hx
    · rename_i hm
      cases hx
      exact ⟨S, rfl, h.putE hd ⟨hm, _, h5⟩⟩
    · cases hx
      exact ⟨mv S (s, [i]) (d, []), rfl, h.takeTup he hne hd hi h1 h4⟩
end
end Go.X
