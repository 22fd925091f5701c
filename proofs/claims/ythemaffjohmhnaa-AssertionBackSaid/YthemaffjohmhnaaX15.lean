/- Soundness of the operations that only read: elements, lengths, and all together. -/
import Derived.Test.YthemaffjohmhnaaX14
set_option linter.unusedSimpArgs false
set_option linter.unusedVariables false
namespace Go.X
open Go Go.RowKit
section
variable {P : Program} {c : Ctx} {σ : Env} {a : Act} {S : St} {T : Tab}
theorem bnd2 {i : Int} {n : Nat} (h : (decide (0 ≤ i) && decide (i < (n : Int))) = true) : 0 ≤ i ∧ i < n ∧ i.toNat < n := by
  simp only [Bool.and_eq_true, decide_eq_true_eq] at h
  exact ⟨h.1, h.2, by omega⟩
theorem InvOf.index_sound (h : InvOf P c σ a S) (hT : TabOK P T) {t : TypeId} {o ix : Operand} {e : Ent} {ob : Bool} (hx : indexE T t (look σ o) (look σ ix) = some (ob, e)) (hob : ob = true) :
    ∃ v, (Instr.indexAt t (a.eval o) (a.eval ix)).run P S.w = .ok v S.w ∧ EntOK P S σ e v := by
  unfold indexE at hx
  split at hx
  case h_3 => cases hx
  · rename_i i u k n ht hn
    obtain ⟨hty, hsz, hag, hkind⟩ := hT.kind ht
    obtain ⟨e1, i1, hk, hte, hpos⟩ := kindOK_slice hkind
    obtain ⟨hty1, hsz1, _, _⟩ := hT.kind hte
    obtain ⟨hev, _⟩ := h.ival hn
    rw [hev]
    split at hx
    · rename_i p hp
      split at hx
      case h_2 => cases hx
      rename_i e0 k0 u' xs hm hg
      split at hx
      case isFalse => cases hx
      rename_i hu
      subst hu
      simp only [Option.some.injEq, Prod.mk.injEq] at hx
      obtain ⟨rfl, rfl⟩ := hx
      obtain ⟨h0, h1, h2⟩ := bnd2 hob
      obtain ⟨hr, hc, hok, hv⟩ := h.splace hp
      obtain ⟨u2, y2, l, cs', h5, h6, h7, h8⟩ := Rel.at (h.slot hr).1 hm hok
      rw [hg] at h5
      cases h5
      rw [pa_nil0] at h7
      obtain ⟨_, _, _, hcase⟩ := h7
      rcases hcase with ⟨_, h9⟩ | ⟨g, cap, cur, h9, h10, h11, _⟩
      · subst h9; simp at h2
      · refine ⟨_, by rw [hv, h9]; exact run_indexAt_in hty hk hty1 g 0 xs.length cap k n h0 h1 S.w, ?_⟩
        rw [hc]
        refine h.refTo (q := p.π) hr ?_ (okP_app hg hok ?_) (by rw [h9]; rfl)
        · rw [locP_app hg h6 (show locP [n.toNat] (.slice u') = some (some [], n.toNat * u'.size) from by rw [locP_slice]; simp [locP])]
          simp [addL, hsz1]
        · rw [okP_slice, pa_nil0]
          exact ⟨⟨g, _, _, h9, h2⟩, trivial⟩
    · have key : ∀ {M : Md} {xs : List u.den}, M = .sh ∨ M = .bw → (look σ o).val (.slice u) = some (M, xs) → (decide (0 ≤ n) && decide (n < (xs.length : Int))) = true → ∃ v, (Instr.indexAt t (a.eval o) (.int k n)).run P S.w = .ok v S.w ∧ EntOK P S σ (.v (.ptr u) M (xs.getD n.toNat u.dflt)) v := by
        intro M xs hM hval hb
        obtain ⟨h0, h1, h2⟩ := bnd2 hb
        obtain ⟨p, hs⟩ := h.val hval
        obtain ⟨_, _, hs3⟩ := hs.1
        have hs' : ∃ a' len cap, vcells (.slice u) (a.eval o) 0 = some (.slice a' len cap) ∧ len = xs.length ∧ len ≤ cap ∧ ((xs = [] ∧ cap = 0) ∨ ∃ b o', a' = some ⟨b, o', none⟩ ∧ (xs ≠ [] → S.G M b) ∧ ∀ (i : Nat) (h : i < xs.length), Rel P u S M (px p i) xs[i] (blk S.w b (o' + i * u.size))) := by rcases hM with rfl | rfl <;> exact hs3
        obtain ⟨a', len, cap, h3, h4, h5, h6⟩ := hs'
        have hv : a.eval o = .slice a' len cap := by simpa [vcells, Ty.agg] using h3
        rcases h6 with ⟨_, h6⟩ | ⟨b, o', rfl, hG, h7⟩
        · omega
        · subst h4
          refine ⟨_, by rw [hv]; exact run_indexAt_in hty hk hty1 b o' _ cap k n h0 h1 S.w, by rcases hM with rfl | rfl <;> rfl, p, ?_, fun h => by cases h⟩
          have hc : vcells (.ptr u) (.pointer (some ⟨b, o' + n.toNat * i1.size, none⟩)) 0 = some (.pointer (some ⟨b, o' + n.toNat * i1.size, none⟩)) := by simp [vcells, Ty.agg]
          have hne : xs ≠ [] := by rintro rfl; simp at h2
          have h8 := h7 n.toNat h2
          rw [← hsz1, ← getD_of_lt h2 u.dflt] at h8
          have hres : ∃ b0 o0, vcells (.ptr u) (.pointer (some ⟨b, o' + n.toNat * i1.size, none⟩)) 0 = some (.pointer (some ⟨b0, o0, none⟩)) ∧ (u.size ≠ 0 → S.G M b0) ∧ Rel P u S M (px p 0) (xs.getD n.toNat u.dflt) (blk S.w b0 o0) := ⟨b, _, hc, fun _ => hG hne, h8.fut hM ((Fut2.refl S).sh _) fun _ _ => rfl⟩
          rcases hM with rfl | rfl <;> exact hres
      split at hx
      · rename_i xs hval
        simp only [Option.some.injEq, Prod.mk.injEq] at hx
        obtain ⟨rfl, rfl⟩ := hx
        exact key (.inl rfl) hval hob
      · rename_i xs hval
        simp only [Option.some.injEq, Prod.mk.injEq] at hx
        obtain ⟨rfl, rfl⟩ := hx
        exact key (.inr rfl) hval hob
      · cases hx
  · rename_i i m u k n ht hn
    obtain ⟨hty, hsz, hag, hkind⟩ := hT.kind ht
    obtain ⟨e1, i1, hk, hte⟩ := kindOK_arr hkind
    obtain ⟨hty1, hsz1, _, _⟩ := hT.kind hte
    obtain ⟨hev, _⟩ := h.ival hn
    rw [hev]
    split at hx
    · rename_i p hp
      split at hx
      case h_2 => cases hx
      rename_i y hg
      split at hx
      case isFalse => cases hx
      rename_i hy
      simp only [Option.some.injEq, Prod.mk.injEq] at hx
      obtain ⟨rfl, rfl⟩ := hx
      obtain ⟨h0, h1, h2⟩ := bnd2 hob
      obtain ⟨hr, hc, hπ, hok, q, off, b, h3, h4, h5⟩ := h.place hp
      obtain ⟨yt, yx⟩ := y
      simp only at hy
      subst hy
      refine ⟨_, by rw [h5]; exact run_indexAt_arr hty hk hty1 b off k n h0 h1 S.w, ?_⟩
      rw [hc]
      refine h.refTo (q := q) hr ?_ (okP_app hg hok ?_) h4
      · rw [locP_app hg h3 (show locP [n.toNat] (.arr m u) = some (none, n.toNat * u.size) from by rw [locP_arr]; simp [locP])]
        simp [addL, hsz1]
      · rw [okP_arr]; exact ⟨h2, trivial⟩
    · split at hx
      case h_2 => cases hx
      rename_i m' u' M xs hro
      split at hx
      case isFalse => cases hx
      rename_i hmu
      obtain ⟨rfl, rfl⟩ := hmu
      simp only [Option.some.injEq, Prod.mk.injEq] at hx
      obtain ⟨rfl, rfl⟩ := hx
      obtain ⟨h0, h1, h2⟩ := bnd2 hob
      obtain ⟨hM, b, off, h3, hG, p, h4⟩ := h.ro hro
      simp only at hM h4 hG
      have hlen : n.toNat < xs.length := by rw [h4.1]; exact h2
      refine ⟨_, by rw [h3]; exact run_indexAt_arr hty hk hty1 b off k n h0 h1 S.w, by rcases hM with rfl | rfl <;> rfl, p, ?_, fun h => by cases h⟩
      have hc : vcells (.ptr u') (.pointer (some ⟨b, off + n.toNat * i1.size, none⟩)) 0 = some (.pointer (some ⟨b, off + n.toNat * i1.size, none⟩)) := by simp [vcells, Ty.agg]
      have h8 := h4.2 n.toNat hlen
      rw [← hsz1, ← getD_of_lt hlen u'.dflt, blk_shift] at h8
      have hres : ∃ b0 o0, vcells (.ptr u') (.pointer (some ⟨b, off + n.toNat * i1.size, none⟩)) 0 = some (.pointer (some ⟨b0, o0, none⟩)) ∧ (u'.size ≠ 0 → S.G M b0) ∧ Rel P u' S M (px p 0) (xs.getD n.toNat u'.dflt) (blk S.w b0 o0) :=
        ⟨b, _, hc, fun hne => hG (by simp only [Ty.size]; exact Nat.mul_ne_zero (by omega) hne), h8.fut hM ((Fut2.refl S).sh _) fun _ _ => rfl⟩
      rcases hM with rfl | rfl <;> exact hres
theorem slice_header {u : Ty} {m : Md} {p : Place} {xs : List u.den} {v : Value} (h : SR P (.slice u) S m p xs v) (hm : m ≠ .dead) : ∃ ad cap, v = .slice ad xs.length cap ∧ xs.length ≤ maxL := by
  obtain ⟨h1, _, h3⟩ := h.1
  have hc : vcells (.slice u) v 0 = some v := by simp [vcells, Ty.agg]
  cases m with
  | dead => exact absurd rfl hm
  | pr => exact h3.elim
  | own e k =>
    obtain ⟨h3, h4⟩ := h3
    rw [hc] at h3
    rcases h4 with ⟨h4, h5⟩ | ⟨g, cap, cur, h4, _⟩
    · subst h5; exact ⟨none, 0, by rw [Option.some.inj h3, h4]; rfl, h1⟩
    · exact ⟨_, cap, by rw [Option.some.inj h3, h4], h1⟩
  | sh =>
    obtain ⟨a', len, cap, h3, h4, _⟩ := h3
    rw [hc] at h3
    exact ⟨a', cap, by rw [Option.some.inj h3, h4], h1⟩
  | bw =>
    obtain ⟨a', len, cap, h3, h4, _⟩ := h3
    rw [hc] at h3
    exact ⟨a', cap, by rw [Option.some.inj h3, h4], h1⟩
theorem len_wrap {n : Nat} (h : n ≤ maxL) : IntKind.i64.wrap (n : Int) = n := wrap_in _ (by unfold maxL at h; omega)
theorem InvOf.len_sound (h : InvOf P c σ a S) (hT : TabOK P T) {t rt : TypeId} {o : Operand} {e : Ent} (hx : lenE T t (look σ o) = some e) :
    ∃ v, (Builtin.len_ #[t] rt #[a.eval o]).run P S.w = .ok v S.w ∧ EntOK P S σ e v := by
  unfold lenE at hx
  split at hx
  · rename_i i u ht
    obtain ⟨hty, _, _, hkind⟩ := hT.kind ht
    obtain ⟨j, d, _, hd, _, _, _, hk⟩ := ty_spec hty
    obtain ⟨e1, i1, hk1, _⟩ := kindOK_slice hkind
    have := tyK_slice (hk.trans (congrArg some hk1))
    subst this
    split at hx
    case h_2 => cases hx
    rename_i m xs hv
    split at hx
    · cases hx
    rename_i hm
    cases hx
    obtain ⟨p, hs⟩ := h.val hv
    obtain ⟨ad, cap, hv', hl⟩ := slice_header hs hm
    refine ⟨.int .i64 xs.length, ?_, rfl, (0, []), SR.of_int' (len_wrap hl)⟩
    rw [hv']
    simp [Builtin.len_, run_underlying hd, goInt]
  · rename_i i ht
    obtain ⟨hty, _, _, hkind⟩ := hT.kind ht
    obtain ⟨j, d, _, hd, _, _, _, hk⟩ := ty_spec hty
    have := tyK_string (hk.trans (congrArg some (kindOK_str hkind)))
    subst this
    split at hx
    case h_2 => cases hx
    rename_i m x hv
    split at hx
    · cases hx
    rename_i hm
    cases hx
    obtain ⟨p, hs⟩ := h.val hv
    obtain ⟨s, hs1, hs2, hs3⟩ := hs.str_inv hm
    have hlen : s.size = (x : List Int).length := by rw [← hs2, List.length_map, Array.length_toList]; rfl
    refine ⟨.int .i64 s.size, ?_, rfl, (0, []), by rw [hlen]; exact SR.of_int' (len_wrap hs3)⟩
    rw [hs1]
    simp [Builtin.len_, run_underlying hd, goInt]
  · cases hx
theorem rel_int {S : St} {k : IntKind} {m : Md} {p : Place} {n : Int} {cs : Cs} (hm : m = .sh ∨ m = .bw) (h : Rel P (.int k) S m p n cs) : cs 0 = some (.int k n) := by
  rcases hm with rfl | rfl <;> exact h.1
theorem eqTV_list {S : St} {m m' : Md} (hm : m = .sh ∨ m = .bw) (hm' : m' = .sh ∨ m' = .bw) : ∀ {n : Nat} {a b : Ty} {x : a.den} {y : b.den} {r : Bool} {fs : List Ty} {o0 : Nat} {p p' : Place} {cs cs' : Cs}, eqTV n a b x y = some r → flds n a = some fs →
    Rel P a S m p x (fun i => cs (o0 + i)) → Rel P b S m' p' y (fun i => cs' (o0 + i)) →
    ∃ us : List (IntKind × Int × Int), us.length = n ∧ (us.all fun u => decide (u.2.1 = u.2.2)) = r ∧ ∀ (i : Nat) (o : Nat × Nat) (u : IntKind × Int × Int), (offsFrom o0 fs)[i]? = some o → us[i]? = some u → cs o.1 = some (.int u.1 u.2.1) ∧ cs' o.1 = some (.int u.1 u.2.2) := by
  have hl : m.l = m ∧ m.r = m := by rcases hm with rfl | rfl <;> exact ⟨rfl, rfl⟩
  have hl' : m'.l = m' ∧ m'.r = m' := by rcases hm' with rfl | rfl <;> exact ⟨rfl, rfl⟩
  intro n
  induction n using Nat.strongRecOn with
  | ind n ih =>
  intro a b x y r fs o0 p p' cs cs' h hf hx hy
  unfold eqTV at h
  split at h
  · rename_i k k' x y
    split at h
    case isFalse => cases h
    rename_i hk
    subst hk
    cases h
    simp only [flds, Option.some.injEq] at hf
    subst hf
    have h1 := rel_int (by rw [hl.1]; exact hm) hx.1
    have h2 := rel_int (by rw [hl'.1]; exact hm') hy.1
    refine ⟨[(k, x.1, y.1)], rfl, by simp, fun i o u ho hu => ?_⟩
    cases i with
    | zero => cases ho; cases hu; exact ⟨h1, h2⟩
    | succ i => simp at hu
  · rename_i k l k' l' x y
    split at h
    case isFalse => cases h
    rename_i hk
    obtain ⟨rfl, rfl⟩ := hk
    cases h
    simp only [flds, Option.some.injEq] at hf
    subst hf
    have h1 := rel_int (by rw [hl.1]; exact hm) hx.1
    have h2 := rel_int (by rw [hl'.1]; exact hm') hy.1
    have h3 := rel_int (by rw [hl.2]; exact hm) hx.2
    have h4 := rel_int (by rw [hl'.2]; exact hm') hy.2
    refine ⟨[(k, x.1, y.1), (l, x.2, y.2)], rfl, by simp, fun i o u ho hu => ?_⟩
    match i with
    | 0 => cases ho; cases hu; exact ⟨h1, h2⟩
    | 1 => cases ho; cases hu; exact ⟨h3, h4⟩
    | i + 2 => simp at hu
  · rename_i n k b k' b' x y
    split at h
    case isFalse => cases h
    rename_i hk
    subst hk
    simp only [Option.map_eq_some_iff] at h
    obtain ⟨r', h, rfl⟩ := h
    simp only [flds, Option.map_eq_some_iff] at hf
    obtain ⟨fs', hf, rfl⟩ := hf
    have h1 := rel_int (by rw [hl.1]; exact hm) hx.1
    have h2 := rel_int (by rw [hl'.1]; exact hm') hy.1
    have hx2 := hx.2
    have hy2 := hy.2
    rw [hl.2] at hx2
    rw [hl'.2] at hy2
    obtain ⟨us, h3, h4, h5⟩ := ih (n + 2) (by omega) (o0 := o0 + 1) (cs := cs) (cs' := cs') h hf (hx2.cong fun i _ => by show cs (o0 + 1 + i) = cs (o0 + (1 + i)); rw [Nat.add_assoc]) (hy2.cong fun i _ => by show cs' (o0 + 1 + i) = cs' (o0 + (1 + i)); rw [Nat.add_assoc])
    refine ⟨(k, x.1, y.1) :: us, by simp [h3], by simp [h4], fun i o u ho hu => ?_⟩
    cases i with
    | zero => cases ho; cases hu; exact ⟨h1, h2⟩
    | succ i => exact h5 i o u (by simpa [offsFrom, Ty.size] using ho) (by simpa using hu)
  · cases h
theorem eqTV_agg {n : Nat} {a b : Ty} {x : a.den} {y : b.den} {r : Bool} (h : eqTV n a b x y = some r) : b.agg = true := by
  unfold eqTV at h
  split at h
  · rfl
  · rfl
  · rfl
  · cases h
theorem run_eqS {S : St} {op : BinOp} {t : TypeId} {x y : TV} {m m' : Md} {p p' : Place} {u v : Value} {r : Bool} {tt : Tab} (hT : TabOK P tt) {i : TyI} (ht : tl tt t = some (i, x.t)) (hx : SR P x.t S m p x.x u) (hy : SR P y.t S m' p' y.x v)
    (h : eqS i op x.t y.t m m' x.x y.x = some r) (a b : Operand) (w : World) : (do eqGuard op t a b u v; binOp op t u v : Sem Value).run P w = .ok (.bool r) w := by
  unfold eqS at h
  split at h
  case h_2 => cases h
  rename_i op' offs hk
  split at h
  case isFalse => cases h
  rename_i hc
  obtain ⟨he, hm, hm'⟩ := hc
  obtain ⟨hty, hsize, hagg, hkind⟩ := hT.kind ht
  rw [hk] at hkind
  obtain ⟨fs, hfl, hoffs⟩ := kindOK_struct hkind
  have hts : x.t.agg = true := by rw [← hagg]; unfold TyI.agg; rw [hk]
  have hts' : y.t.agg = true := eqTV_agg h
  obtain ⟨cs, rfl, _⟩ := hx.2 hts
  obtain ⟨cs', rfl, _⟩ := hy.2 hts'
  have hxr : Rel P x.t S m p x.x (fun i => (fun j => cs[j]?) (0 + i)) := hx.1.cong fun i _ => by unfold vcells; rw [hts, Nat.zero_add]; rfl
  have hyr : Rel P y.t S m' p' y.x (fun i => (fun j => cs'[j]?) (0 + i)) := hy.1.cong fun i _ => by unfold vcells; rw [hts', Nat.zero_add]; rfl
  obtain ⟨us, h1, h2, h3⟩ := eqTV_list hm hm' (o0 := 0) h hfl hxr hyr
  rw [← h2]
  exact run_eql_ints hty he hk cs cs' us h1.symm (fun i o u ho hu => h3 i o u (by rw [← hoffs]; exact ho) hu) a b w
/-- Cells of an aggregate, as a value. -/
theorem sub_val {cs : Array Value} {u : Ty} {M : Md} (hM : M = .sh ∨ M = .bw) {p : Place} {y : u.den} {off : Nat} (h : Rel P u S M p y (fun i => cs[off + i]?)) {tot : Nat} (hfit : off + u.size ≤ tot) (hcs : cs.size = tot) :
    ∃ v, (u.agg = false → cs[off]? = some v) ∧ SR P u S M p y (if u.agg then .agg (cs.extract off (off + u.size)) else v) := by
  cases hag : u.agg with
  | true =>
    refine ⟨.nilFunc, (fun h => by cases h), ?_, fun _ => ⟨_, rfl, ?_⟩⟩
    · refine h.cong fun i hi => ?_
      unfold vcells
      rw [hag]
      show (cs.extract off (off + u.size))[i]? = _
      rw [Array.getElem?_extract_of_lt (by omega), Array.getElem?_eq_getElem (by omega)]
    · rw [Array.size_extract]; omega
  | false =>
    have h1 : u.size = 1 := by cases u <;> first | rfl | cases hag
    obtain ⟨v, h2, _⟩ := h.cells 0 (by omega)
    refine ⟨v, fun _ => h2, ?_, fun h => by rw [hag] at h; cases h⟩
    refine h.cong fun i hi => ?_
    have : i = 0 := by omega
    subst this
    unfold vcells
    rw [hag]
    exact h2.symm
theorem InvOf.fieldV_sound (h : InvOf P c σ a S) (hT : TabOK P T) {s f : Nat} {o : Operand} {e : Ent} (hx : fieldV T s f (look σ o) = some e) :
    ∃ v, (Instr.field s (a.eval o) f).run P S.w = .ok v S.w ∧ EntOK P S σ e v := by
  unfold fieldV at hx
  split at hx
  case h_2 => cases hx
  rename_i i ts ht
  split at hx
  case h_2 => cases hx
  rename_i offs hk
  split at hx
  case h_2 => cases hx
  rename_i off sz ρ g hoff hρ hfa
  obtain ⟨hty, hsize, hagg, hkind⟩ := hT.kind ht
  rw [hk] at hkind
  obtain ⟨fs, hfl, hoffs⟩ := kindOK_struct hkind
  split at hx
  case h_2 => cases hx
  rename_i m x hv
  split at hx
  case isFalse => cases hx
  rename_i hm
  split at hx
  case h_2 => cases hx
  rename_i y hg
  split at hx
  case isFalse => cases hx
  rename_i hyg
  cases hx
  obtain ⟨p, hsr⟩ := h.val hv
  have hts : ts.agg = true := by rw [← hagg]; unfold TyI.agg; rw [hk]
  obtain ⟨cs, hcs, hcsz⟩ := hsr.2 hts
  obtain ⟨u, z, o2, h9, h10, h11, h12, h13⟩ := fpath_loc (S := S) (o0 := 0) (x := x) (p := p) hfl hρ
  rw [hg] at h10
  cases h10
  rw [← hoffs, hoff, Nat.zero_add] at h13
  cases h13
  have hrel : Rel P ts S m p x (fun i => cs[i]?) := by
    have := hsr.1
    rw [hcs] at this
    refine this.cong fun i _ => ?_
    unfold vcells
    rw [hts]
    rfl
  obtain ⟨h14, p', h15⟩ := getP_ro hm hg h11 h12 hrel
  obtain ⟨v, h16, h17⟩ := sub_val hm h15 h14 hcsz
  subst hyg
  exact ⟨_, by rw [hcs]; exact run_field hty hk hoff hfa cs h16 S.w, by rcases hm with rfl | rfl <;> rfl, p', h17⟩
theorem InvOf.indexV_sound (h : InvOf P c σ a S) (hT : TabOK P T) {t : TypeId} {o ix : Operand} {e : Ent} {ob : Bool} (hx : indexV T t (look σ o) (look σ ix) = some (ob, e)) (hob : ob = true) :
    ∃ v, (Instr.index t (a.eval o) (a.eval ix)).run P S.w = .ok v S.w ∧ EntOK P S σ e v := by
  unfold indexV at hx
  split at hx
  case h_2 => cases hx
  rename_i i0 n u k i ht hn
  split at hx
  case h_2 => cases hx
  rename_i m xs hv
  split at hx
  case isFalse => cases hx
  rename_i hm
  simp only [Option.some.injEq, Prod.mk.injEq] at hx
  obtain ⟨rfl, rfl⟩ := hx
  obtain ⟨h0, h1, h2⟩ := bnd2 hob
  obtain ⟨hev, _⟩ := h.ival hn
  obtain ⟨hty, hsize, hagg, hkind⟩ := hT.kind ht
  obtain ⟨e1, i1, hk, hte⟩ := kindOK_arr hkind
  obtain ⟨hty1, hsz1, hag1, _⟩ := hT.kind hte
  obtain ⟨p, hsr⟩ := h.val hv
  obtain ⟨cs, hcs, hcsz⟩ := hsr.2 rfl
  have hrel : Rel P (.arr n u) S m p xs (fun i => cs[i]?) := by
    have := hsr.1
    rw [hcs] at this
    exact this.cong fun i _ => rfl
  have hlen : i.toNat < xs.length := by rw [hrel.1]; exact h2
  have h8 := hrel.2 i.toNat hlen
  rw [← getD_of_lt hlen u.dflt] at h8
  have hfit : i.toNat * u.size + u.size ≤ n * u.size := by
    have : (i.toNat + 1) * u.size ≤ n * u.size := Nat.mul_le_mul_right _ h2
    rwa [Nat.add_mul, Nat.one_mul] at this
  obtain ⟨v, h16, h17⟩ := sub_val hm h8 hfit (by rw [hcsz]; rfl)
  rw [← hsz1] at h16 h17
  rw [← hag1] at h16 h17
  exact ⟨_, by rw [hcs, hev]; exact run_index hty hk hty1 k i h0 h1 cs h16 S.w, by rcases hm with rfl | rfl <;> rfl, _, h17⟩
theorem step1_sound (h : InvOf P c σ a S) (hT : TabOK P T) {o : Oper} {e : Ent} {ob : Bool} (hx : step1 T o (look σ) = some (ob, e)) (hob : ob = true) :
    ∃ v, (execOp a.eval o).run P S.w = .ok (.value v) S.w ∧ EntOK P S σ e v := by
  obtain ⟨dst, op, type, pos, after, guard⟩ := o
  unfold step1 at hx
  simp only at hx
  split at hx
  · rename_i x
    simp only [Option.map_eq_some_iff, Prod.mk.injEq] at hx
    obtain ⟨e', h1, rfl, rfl⟩ := hx
    exact ⟨_, rfl, h.move_sound h1⟩
  · rename_i op t x y t'
    split at hx
    case h_2 => cases hx
    rename_i i1 ta i2 tb ht ht'
    split at hx
    case h_2 => cases hx
    rename_i m u m' v hu hv
    split at hx
    · cases hx
    rename_i hm
    simp only [not_or] at hm
    obtain ⟨p, hsu⟩ := h.val hu
    obtain ⟨p', hsv⟩ := h.val hv
    split at hx
    · rename_i r hr
      simp only [Option.some.injEq, Prod.mk.injEq] at hx
      obtain ⟨rfl, rfl⟩ := hx
      have h2 := run_eqS (S := S) (x := ⟨ta, u⟩) (y := ⟨tb, v⟩) hT ht hsu hsv hr x y S.w
      refine ⟨.bool r, ?_, rfl, (0, []), ?_⟩
      · simp only [execOp, Sem.run_bind, Sem.run_pure] at h2 ⊢
        rw [h2]
        rfl
      · exact ⟨by simp [Rel, vcells, Ty.agg], fun h => by cases h⟩
    simp only [Option.map_eq_some_iff, Prod.mk.injEq] at hx
    obtain ⟨q, h1, rfl, rfl⟩ := hx
    obtain ⟨r, h2, h3⟩ := run_bin2 (S := S) (x := ⟨ta, u⟩) (y := ⟨tb, v⟩) (z := q.2) hT ht hsu hsv hm.1 hm.2 h1 hob x y S.w
    refine ⟨r, ?_, rfl, (0, []), h3 _⟩
    simp only [execOp, Sem.run_bind, Sem.run_pure] at h2 ⊢
    rw [h2]
    rfl
  · rename_i op t x
    split at hx
    case h_2 => cases hx
    rename_i i1 ta ht
    split at hx
    case h_2 => cases hx
    rename_i m u hu
    split at hx
    · cases hx
    rename_i hm
    simp only [Option.map_eq_some_iff, Prod.mk.injEq] at hx
    obtain ⟨q, h1, rfl, rfl⟩ := hx
    obtain ⟨p, hsu⟩ := h.val hu
    unfold un1 at h1
    split at h1
    · rename_i b heq
      cases heq
      cases h1
      have := hsu.bool_inv hm
      exact ⟨_, by simp [execOp, this, Op.unary] <;> rfl, rfl, (0, []), SR.of_bool _⟩
    · rename_i k n heq
      cases heq
      cases h1
      have := (hsu.int_inv hm).1
      exact ⟨_, by simp only [execOp, this, Op.unary, Op.intArith, Sem.run_bind, Sem.run_pure, Result.andThen_ok] <;> rfl, rfl, (0, []), SR.of_int _⟩
    · rename_i k n heq
      cases heq
      cases h1
      have := (hsu.int_inv hm).1
      exact ⟨_, by simp [execOp, this, Op.unary, Op.intBits] <;> rfl, rfl, (0, []), SR.of_int _⟩
    · cases h1
  · rename_i s d x
    split at hx
    case h_2 => cases hx
    rename_i i1 k i2 k' ht ht'
    split at hx
    case h_2 => cases hx
    rename_i m n hu
    split at hx
    · cases hx
    rename_i hm
    simp only [Option.some.injEq, Prod.mk.injEq] at hx
    obtain ⟨rfl, rfl⟩ := hx
    obtain ⟨p, hsu⟩ := h.val hu
    have hn := (hsu.int_inv hm).1
    obtain ⟨hty1, _, _, hk1⟩ := hT.kind ht
    obtain ⟨hty2, _, _, hk2⟩ := hT.kind ht'
    obtain ⟨_, ds, _, hds, _⟩ := ty_spec hty1
    obtain ⟨_, dd, _, hdd, _, _, _, hk'⟩ := ty_spec hty2
    have := tyK_int (hk'.trans (congrArg some (kindOK_int hk2)))
    subst this
    have hk2' : (TypeDesc.int k') = .int (P.intKind d) := by simp [Program.intKind, hdd]
    have hr := run_convert_int (P := P) S.w s d k n (by rw [hds]; rfl) (by rw [hdd, hk2'])
    have hkk : P.intKind d = k' := by cases hk2'; rfl
    rw [hkk] at hr
    refine ⟨_, ?_, rfl, (0, []), SR.of_int n⟩
    simp only [execOp, hn, Sem.run_bind, hr, Result.andThen_ok, Sem.run_pure]
  · rename_i s x f
    simp only [Option.map_eq_some_iff, Prod.mk.injEq] at hx
    obtain ⟨e', h1, rfl, rfl⟩ := hx
    obtain ⟨v, h2, h3⟩ := h.field_sound hT h1
    exact ⟨v, by simp only [execOp, Sem.run_bind, h2, Result.andThen_ok, Sem.run_pure], h3⟩
  · rename_i t x i
    obtain ⟨v, h2, h3⟩ := h.index_sound hT hx hob
    exact ⟨v, by simp only [execOp, Sem.run_bind, h2, Result.andThen_ok, Sem.run_pure], h3⟩
  · rename_i s x f
    simp only [Option.map_eq_some_iff, Prod.mk.injEq] at hx
    obtain ⟨e', h1, rfl, rfl⟩ := hx
    obtain ⟨v, h2, h3⟩ := h.fieldV_sound hT h1
    exact ⟨v, by simp only [execOp, Sem.run_bind, h2, Result.andThen_ok, Sem.run_pure], h3⟩
  · rename_i t x i
    obtain ⟨v, h2, h3⟩ := h.indexV_sound hT hx hob
    exact ⟨v, by simp only [execOp, Sem.run_bind, h2, Result.andThen_ok, Sem.run_pure], h3⟩
  · rename_i t x
    simp only [Option.map_eq_some_iff, Prod.mk.injEq] at hx
    obtain ⟨e', h1, rfl, rfl⟩ := hx
    obtain ⟨v, h2, h3⟩ := h.load_sound hT h1
    exact ⟨v, by simp only [execOp, Sem.run_bind, h2, Result.andThen_ok, Sem.run_pure], h3⟩
  · rename_i x t
    simp only [Option.map_eq_some_iff, Prod.mk.injEq] at hx
    obtain ⟨e', h1, rfl, rfl⟩ := hx
    obtain ⟨v, h2, h3⟩ := h.len_sound (rt := type) hT h1
    exact ⟨v, by simp [execOp, resolve, invoke, builtin, h2], h3⟩
  · rename_i x y ts
    split at hx
    case h_2 => cases hx
    rename_i k u k' v hu hv
    split at hx
    case isFalse => cases hx
    rename_i hk
    simp only [Option.some.injEq, Prod.mk.injEq] at hx
    obtain ⟨rfl, rfl⟩ := hx
    obtain ⟨hu1, hu2⟩ := h.ival hu
    obtain ⟨hv1, hv2⟩ := h.ival hv
    subst hk
    refine ⟨.int k (bif decide (v < u) then v else u), ?_, rfl, (0, []), SR.of_int' (by cases decide (v < u) <;> simp [hu2, hv2])⟩
    have hb : (bif decide (v < u) then v else u) = if v < u then v else u := by cases hd : decide (v < u) <;> simp at hd <;> simp [hd] <;> omega
    rw [hb]
    simp [execOp, resolve, invoke, builtin, hu1, hv1, Builtin.min_, Builtin.min2]
  · rename_i x y ts
    split at hx
    case h_2 => cases hx
    rename_i k u k' v hu hv
    split at hx
    case isFalse => cases hx
    rename_i hk
    simp only [Option.some.injEq, Prod.mk.injEq] at hx
    obtain ⟨rfl, rfl⟩ := hx
    obtain ⟨hu1, hu2⟩ := h.ival hu
    obtain ⟨hv1, hv2⟩ := h.ival hv
    subst hk
    refine ⟨.int k (bif decide (v > u) then v else u), ?_, rfl, (0, []), SR.of_int' (by cases decide (v > u) <;> simp [hu2, hv2])⟩
    have hb : (bif decide (v > u) then v else u) = if v > u then v else u := by cases hd : decide (v > u) <;> simp at hd <;> simp [hd] <;> omega
    rw [hb]
    simp [execOp, resolve, invoke, builtin, hu1, hv1, Builtin.max_, Builtin.max2]
  · cases hx
end
end Go.X
