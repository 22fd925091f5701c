/- suffice.Witness, walked. -/
import Derived.Test.YthlgoakkgmabaaaGreatW3
set_option linter.unusedSimpArgs false
set_option linter.unusedVariables false
set_option linter.unnecessarySimpa false
namespace Go.Proofs.YthlgoakkgmabaaaGreat
open Go Go.Proofs Go.RowKit Go.X
attribute [local go_sem] Oper.semAt_some
theorem eqIn26 (w : World) (d : Nat) (a : Option Addr) (l c : Nat) : (Op.equalIn (d + 1) 25 (.slice a l c) (.slice none 0 0)).run Tryz.prog w = .ok a.isNone w := by
  cases a <;> simp [Op.equalIn, run_underlying Tryz.underlying25]
theorem eql26 (w : World) (a : Option Addr) (l c : Nat) : (binOp .eql 25 (.slice a l c) (.slice none 0 0)).run Tryz.prog w = .ok (.bool a.isNone) w := by
  simp only [binOp]
  simp [Op.equal, Op.maxDepth, eqIn26 w 9999 a l c]
theorem neq26 (w : World) (a : Option Addr) (l c : Nat) : (binOp .neq 25 (.slice a l c) (.slice none 0 0)).run Tryz.prog w = .ok (.bool (!a.isNone)) w := by
  simp only [binOp]
  simp [Op.equal, Op.maxDepth, eqIn26 w 9999 a l c]
attribute [local go_sem] eql26 neq26
/-- The frame of Witness at the head of its loop. -/
def Fr6 (n wn : Int) (la : Option Addr) (ll lc Bf : Nat) (i : Nat) (Ds : List Nat) (a : Act) : Prop := ∃ (x3 x4 x5 x9 x10 x11 x12 x13 x14 x15 x16 x17 x18 x19 x20 x21 x22 x23 x24 x25 x26 x27 x28 x29 x30 x33 x34 x35 x36 x37 x38 x39 x40 x41 x42 x43 x44 x45 x46 x47 x48 x49 x50 x51 x52 x53 x54 x55 x56 : Value), a = { tmps := #[.int .i64 n, .int .i64 wn, .slice la ll lc, x3, x4, x5, .slice none 0 0, .bool false, .pointer (some ⟨Bf, 0, none⟩), x9, x10, x11, x12, x13, x14, x15, x16, x17, x18, x19, x20, x21, x22, x23, x24, x25, x26, x27, x28, x29, x30, .int .i64 n, .int .i64 (i : Int), x33, x34, x35, x36, x37, x38, x39, x40, x41, x42, x43, x44, x45, x46, x47, x48, x49, x50, x51, x52, x53, x54, x55, x56], defers := marks Ds }
theorem Fr6.mk {n wn : Int} {la : Option Addr} {ll lc Bf : Nat} {i : Nat} {Ds : List Nat} {x3 x4 x5 x9 x10 x11 x12 x13 x14 x15 x16 x17 x18 x19 x20 x21 x22 x23 x24 x25 x26 x27 x28 x29 x30 x33 x34 x35 x36 x37 x38 x39 x40 x41 x42 x43 x44 x45 x46 x47 x48 x49 x50 x51 x52 x53 x54 x55 x56 : Value} : Fr6 n wn la ll lc Bf i Ds { tmps := #[.int .i64 n, .int .i64 wn, .slice la ll lc, x3, x4, x5, .slice none 0 0, .bool false, .pointer (some ⟨Bf, 0, none⟩), x9, x10, x11, x12, x13, x14, x15, x16, x17, x18, x19, x20, x21, x22, x23, x24, x25, x26, x27, x28, x29, x30, .int .i64 n, .int .i64 (i : Int), x33, x34, x35, x36, x37, x38, x39, x40, x41, x42, x43, x44, x45, x46, x47, x48, x49, x50, x51, x52, x53, x54, x55, x56], defers := marks Ds } := ⟨x3, x4, x5, x9, x10, x11, x12, x13, x14, x15, x16, x17, x18, x19, x20, x21, x22, x23, x24, x25, x26, x27, x28, x29, x30, x33, x34, x35, x36, x37, x38, x39, x40, x41, x42, x43, x44, x45, x46, x47, x48, x49, x50, x51, x52, x53, x54, x55, x56, rfl⟩
/-- The box of the first order. -/
def FO (Bf : Nat) (w : World) (best : Option (List Int)) : Prop := ∃ v, Boxed w Bf 25 v ∧ match best with
  | none => v = .slice none 0 0
  | some o => ∃ b, Bf < b ∧ HI w v o b
theorem FO.rl {Bf B : Nat} {w w' : World} {best : Option (List Int)} (h : FO Bf w best) (hr : Rl B w w') : FO Bf w' best := by
  obtain ⟨v, h1, h2⟩ := h
  refine ⟨v, (hr.block Bf h1.lt (.inr ⟨_, h1, rfl⟩)).trans h1, ?_⟩
  cases best with
  | none => exact h2
  | some o => obtain ⟨b, h3, h4⟩ := h2; exact ⟨b, h3, h4.same (hr.block b h4.lt (.inr h4.cells))⟩
theorem setCell_kx {Bf : Nat} {w : World} (v : Value) : Kx (fun c => c = Bf) w (w.setCell ⟨Bf, 0, none⟩ v) := by
  have h := grownBy_setCell' w Bf v
  exact ⟨h.os, h.tape, h.output, h.size, fun b hb hx => h.block b hb fun e => hx (Option.some.inj e)⟩
/-- What holds at the head of the loop. -/
def R6 (n wn : Int) (la : Option Addr) (ll lc : Nat) (C : List Int → Bool) (W W1 : World) (m : Nat) (a : Act) (w : World) : Prop :=
  ∃ (i : Nat) (Ds : List Nat), m = n.toNat - i ∧ i ≤ n.toNat ∧ MarksOK (W.heap.size + 1) Ds w ∧ FO W.heap.size w (bestO none (othersT n.toNat C wn ((cands n.toNat).take i))) ∧ Kx (fun c => c = W.heap.size) W1 w ∧ Fr6 n wn la ll lc W.heap.size i Ds a
set_option maxRecDepth 100000 in
set_option maxHeartbeats 4000000 in
theorem wit_ok {n wn : Int} (hn7 : 1 ≤ n ∧ n ≤ 7) (hwn : 0 ≤ wn ∧ wn < n) {l : List (Int × (Int × (Int × (List Int × Int))))} (hll : l.length ≤ 1400) {C : List Int → Bool} (hC : ∀ t, isB n t → d46 n l t = some (C t)) {lv : Value} {F : Nat → Prop} {W : World} (hl : LA F W lv l) :
    Calls Tryz.prog 13 #[.int .i64 n, .int .i64 wn, lv] W fun e W' => Ext W W' ∧ ((witP n.toNat C wn = none ∧ e = .returned (.tuple #[.slice none 0 0, .bool false])) ∨ ∃ o v b, witP n.toNat C wn = some o ∧ e = .returned (.tuple #[v, .bool true]) ∧ HI W' v o b ∧ W.heap.size ≤ b) := by
  have hin : ∀ c : Int, 0 ≤ c → c ≤ n → IntKind.i64.wrap c = c := fun c h0 h1 => w_id (by omega) (by omega)
  refine (callsIn_wide (n := 0)).1 (callsIn_of_wp_marks Tryz.func13 rfl trivial ?_ rfl)
  simp only [Tryz.ntmps13, List.size_toArray, List.length_cons, List.length_nil, Nat.reduceAdd, Nat.reduceSub, Array.replicate_succ, Array.replicate_zero, List.push_toArray, List.append_toArray, List.nil_append, List.cons_append]
  have hlv : ∃ la lc, lv = .slice la l.length lc := by
    obtain ⟨_, _, a, len, cap, h, h', _⟩ := hl.rel.1
    exact ⟨a, cap, by subst h'; simpa [vcells, Ty.agg] using h⟩
  obtain ⟨la, lc, rfl⟩ := hlv
  generalize hleq : l.length = ll at hl hll
  have f29 : Fence.wide.fn 46 := trivial
  have f16 : Fence.wide.fn 25 := trivial
  have f17 : Fence.wide.fn 26 := trivial
  have fd : Fence.wide.depth = none := rfl
  have g1 : ¬ n < 1 := by omega
  have g2 : ¬ (7 : Int) < n := by omega
  have g3 : ¬ wn < 0 := by omega
  have g4 : ¬ n ≤ wn := by omega
  have g5 : ¬ (1400 : Int) < (ll : Int) := by omega
  gi_wp2
  have e0 : Ext W (W.alloc (.cells #[.slice none 0 0] 25)) := Ext.alloc _ _
  have b0 : Boxed (W.alloc (.cells #[.slice none 0 0] 25)) W.heap.size 25 (.slice none 0 0) := Boxed.new _ _ _
  have hs0 : (W.alloc (.cells #[.slice none 0 0] 25)).heap.size = W.heap.size + 1 := by simp
  obtain ⟨W1, hW1⟩ : ∃ W1, W.alloc (.cells #[.slice none 0 0] 25) = W1 := ⟨_, rfl⟩
  rw [hW1] at e0 b0 hs0 ⊢
  have hFX : ∀ b, F b → ¬ (fun c => c = W.heap.size) b := fun b hb h => by have := hl.lt b hb; simp only at h; omega
  have hl1 : LA F W1 (.slice la ll lc) l := hl.keep (Kx.of_ext (X := fun c => c = W.heap.size) e0) hFX
  refine wpIn_wide.2 (loop_inv (R := R6 n wn la ll lc C W W1) (m := n.toNat) ?step ?init)
  case init =>
    refine ⟨0, [], by omega, by omega, ⟨List.nodup_nil, fun _ h => absurd h (by simp)⟩, ⟨_, b0, rfl⟩, Kx.refl _ _, ?_⟩
    exact Fr6.mk
  case step =>
    rintro m a w ⟨i, Ds, rfl, hi, hm, hfo, hkw, x3, x4, x5, x9, x10, x11, x12, x13, x14, x15, x16, x17, x18, x19, x20, x21, x22, x23, x24, x25, x26, x27, x28, x29, x30, x33, x34, x35, x36, x37, x38, x39, x40, x41, x42, x43, x44, x45, x46, x47, x48, x49, x50, x51, x52, x53, x54, x55, x56, rfl⟩
    refine (wpIn_wide (n := 0)).1 ?_
    rcases Nat.lt_or_ge i n.toNat with hlt | hge
    · have hlt' : (i : Int) < n := by omega
      have hwi : IntKind.i64.wrap ((i : Int) + 1) = ((i + 1 : Nat) : Int) := by rw [hin _ (by omega) (by omega)]; omega
      have htake : (cands n.toNat).take (i + 1) = (cands n.toNat).take i ++ [(i : Int)] := by
        unfold cands
        rw [← List.map_take, ← List.map_take, List.take_range, List.take_range, Nat.min_eq_left (by omega), Nat.min_eq_left (by omega), List.range_succ, List.map_append]
        rfl
      by_cases hw : (i : Int) = wn
      · subst hw
        gi_wp2
        refine ⟨n.toNat - (i + 1), by omega, i + 1, Ds, rfl, by omega, hm, ?_, hkw, Fr6.mk⟩
        have : othersT n.toNat C (i : Int) ((cands n.toNat).take (i + 1)) = othersT n.toNat C (i : Int) ((cands n.toNat).take i) := by
          unfold othersT
          rw [htake, List.flatMap_append, List.flatMap_cons, if_pos rfl]
          simp
        rw [this]
        exact hfo
      · gi_wp2_with (gi_at_call 25; refine (callsIn_wide.2 (orders_in n la _ ll lc _ _ _)).mono ?_; rintro e w9 ⟨rfl, rfl⟩)
        have e1 : Ext w (w.alloc (.cells #[.int .i64 (i : Int)] 3)) := Ext.alloc _ _
        have hHI : HI (w.alloc (.cells #[.int .i64 (i : Int)] 3)) (.slice (some ⟨w.heap.size, 0, none⟩) 1 1) [(i : Int)] w.heap.size := by
          refine ⟨by simp, ⟨by simp, fun x hx => ?_⟩, 1, _, 3, rfl, by simp, World.alloc_heap_new _ _, fun j hj => ?_⟩
          · rw [List.mem_singleton.1 hx]; exact hin _ (by omega) (by omega)
          · have : j = 0 := by simpa using hj
            subst this; rfl
        have hs8 : (w.alloc (.cells #[.int .i64 (i : Int)] 3)).heap.size = w.heap.size + 1 := by simp
        obtain ⟨w8, hw8⟩ : ∃ w8, w.alloc (.cells #[.int .i64 (i : Int)] 3) = w8 := ⟨_, rfl⟩
        rw [hw8] at e1 hHI hs8 ⊢
        have hXe : ∀ c, W.heap.size < c → ¬ (fun c => c = W.heap.size) c := fun c hc h => by simp only at h; omega
        have hw1 : W.heap.size < W1.heap.size := by omega
        have hw8' : W1.heap.size ≤ w8.heap.size := Nat.le_trans hkw.size e1.size
        have hww : W1.heap.size ≤ w.heap.size := hkw.size
        have k8 : Kx (fun c => c = W.heap.size) W1 w8 := hkw.trans (Kx.of_ext e1)
        have hfo8 : FO W.heap.size w8 (bestO none (othersT n.toNat C wn ((cands n.toNat).take i))) := hfo.rl (B := 0) (.of_ext e1)
        have hcb : isB n [(i : Int)] := ⟨by simp, fun x hx => by rw [List.mem_singleton.1 hx]; omega⟩
        have hm8 := hm.ext e1
        have c0 := cell_new w8 (.int .i64 n) 3
        have q1 := Ext.alloc w8 (.cells #[.int .i64 n] 3)
        have c1 := cell_new (w8.alloc (.cells #[.int .i64 n] 3)) (.slice la ll lc) 26
        have q2 := Ext.alloc (w8.alloc (.cells #[.int .i64 n] 3)) (.cells #[.slice la ll lc] 26)
        have c2 := cell_new ((w8.alloc (.cells #[.int .i64 n] 3)).alloc (.cells #[.slice la ll lc] 26)) (.slice (some ⟨w.heap.size, 0, none⟩) 1 1) 25
        have q3 := Ext.alloc ((w8.alloc (.cells #[.int .i64 n] 3)).alloc (.cells #[.slice la ll lc] 26)) (.cells #[.slice (some ⟨w.heap.size, 0, none⟩) 1 1] 25)
        have hs9 : (((w8.alloc (.cells #[.int .i64 n] 3)).alloc (.cells #[.slice la ll lc] 26)).alloc (.cells #[.slice (some ⟨w.heap.size, 0, none⟩) 1 1] 25)).heap.size = w8.heap.size + 3 := by simp
        rw [World.size_alloc] at c1 c2
        rw [World.size_alloc] at c2
        have c0' := cellK c0 (Kx.of_ext (X := fun _ => False) (q2.trans q3)) id
        have c1' := cellK c1 (Kx.of_ext (X := fun _ => False) q3) id
        have q := (q1.trans q2).trans q3
        obtain ⟨w9, hw9⟩ : ∃ w9, ((w8.alloc (.cells #[.int .i64 n] 3)).alloc (.cells #[.slice la ll lc] 26)).alloc (.cells #[.slice (some ⟨w.heap.size, 0, none⟩) 1 1] 25) = w9 := ⟨_, rfl⟩
        rw [hw9] at c0' c1' c2 q hs9 ⊢
        rw [hs8] at c0' c1' c2 hs9
        have k9 := k8.trans (Kx.of_ext q)
        have hfo9 := hfo8.rl (B := 0) (.of_ext q)
        have hm9 := hm8.ext q
        have hDlt : ∀ D ∈ Ds, D < w9.heap.size := fun D hD => (Array.getElem?_eq_some_iff.1 (hm9.2 D hD).2).1
        refine wpIn_wide.2 (range_all (gf := 45) (lb := #[.pointer (some ⟨w.heap.size + 1, 0, none⟩), .pointer (some ⟨w.heap.size + 1 + 1, 0, none⟩), .pointer (some ⟨w.heap.size + 1 + 2, 0, none⟩)]) (X := fun c => c = W.heap.size) (Lo := W.heap.size + 1) rfl enters28 (fun c hc => by have hc' : c = W.heap.size := hc; omega) (xs := ordersT n.toNat C (n.toNat + 1) [(i : Int)]) ?hseq
          (fun pre W' => FO W.heap.size W' (bestO (bestO none (othersT n.toNat C wn ((cands n.toNat).take i))) pre) ∧ Kx (fun c => c = W.heap.size) W1 W' ∧ MarksOK (W.heap.size + 1) Ds W') ?hI ⟨hfo9, k9, hm9⟩ ?hround ?hdone)
        case hseq =>
          intro l2 J2 W2 hE2 hJ2 h02 hY2
          have k92 := k9.trans (Kx.of_ext hE2)
          have kF := Kx.of_ext (X := fun _ => False) hE2
          exact it_ok (hin n (by omega) (by omega)) hn7 hC hFX (n.toNat + 1) [(i : Int)] hcb (by simp) (by rw [List.length_singleton]; omega) l2 (W.heap.size + 1) (w.heap.size + 1) (w.heap.size + 1 + 1) (w.heap.size + 1 + 2) w.heap.size _ J2 W2 (hl1.keep k92 hFX) (cellK c0' kF id) (cellK c1' kF id) (cellK c2 kF id)
            ((hHI.keep (Kx.of_ext (X := fun _ => False) q) id).keep kF id) (hXe _ (by omega)) (hXe _ (by omega)) (hXe _ (by omega)) (hXe _ (by omega)) (by omega) (by have := hE2.size; omega) (fun c hc => by have hc' : c = W.heap.size := hc; have := hE2.size; omega) hJ2 h02 hY2
        case hI =>
          rintro pre A B hr ⟨i1, i2, i3⟩
          exact ⟨i1.rl hr, ⟨hr.os.trans i2.os, hr.tape.trans i2.tape, hr.output.trans i2.output, Nat.le_trans i2.size hr.size, fun c hc hx => (hr.block c (Nat.lt_of_lt_of_le hc i2.size) (.inl (by omega))).trans (i2.block c hc hx)⟩, ⟨i3.1, fun D hD => ⟨(i3.2 D hD).1, (hr.block D (Array.getElem?_eq_some_iff.1 (i3.2 D hD).2).1 (.inl (hDlt D hD))).trans (i3.2 D hD).2⟩⟩⟩
        case hround =>
          rintro l2 pre x v b' W' hl1' hl2 hkw' - hHI' hxb hlb
          refine ⟨{ tmps := #[.int .i64 n, .int .i64 wn, .slice la ll lc, x3, x4, x5, .slice none 0 0, .bool false, .pointer (some ⟨W.heap.size, 0, none⟩), .int .i64 (i : Int), v, x11, x12, x13, x14, x15, x16, x17, x18, x19, x20, x21, x22, x23, x24, x25, x26, x27, x28, x29, x30, .int .i64 n, .int .i64 (i : Int), .bool true, .int .i64 (i : Int), .int .i64 (i : Int), .int .i64 wn, .bool false, .int .i64 n, .slice la ll lc, .int .i64 (i : Int), .slice (some ⟨w.heap.size, 0, none⟩) 1 1, .func (.func 45) #[] #[.pointer (some ⟨w.heap.size + 1, 0, none⟩), .pointer (some ⟨w.heap.size + 1 + 1, 0, none⟩), .pointer (some ⟨w.heap.size + 1 + 2, 0, none⟩)], v, x44, x45, x46, x47, x48, x49, x50, x51, x52, x53, x54, x55, x56], defers := [] }, ?_, ?_⟩
          · gi_wp2
            all_goals first | exact ⟨rfl, rfl⟩ | simp
          · rintro Wb hrb hkb ⟨⟨fv, fb, fm⟩, i2, i3⟩ hHb
            have cb := fb.cell
            have cf := fb.frozen
            have hvs : ∃ vb vc, v = .slice (some ⟨vb, 0, none⟩) x.length vc := by
              obtain ⟨_, _, cap, cur, e, h, _⟩ := hHb
              exact ⟨_, cap, h⟩
            obtain ⟨vb, vc, rfl⟩ := hvs
            have hbb : W.heap.size < b' := hlb
            have hst : ∀ W2, Ext Wb W2 → FO W.heap.size (W2.setCell ⟨W.heap.size, 0, none⟩ (.slice (some ⟨vb, 0, none⟩) x.length vc)) (some x) := fun W2 he => by
              have hb2 : Boxed W2 W.heap.size 25 fv := (he.block _ fb.lt).trans fb
              refine ⟨_, hb2.set _, b', hbb, (hHb.keep (Kx.of_ext (X := fun _ => False) he) id).keep (setCell_kx _) (hXe _ hbb)⟩
            have hms : ∀ W2, Kx (fun c => c = W.heap.size) Wb W2 → Kx (fun c => c = W.heap.size) W1 W2 ∧ MarksOK (W.heap.size + 1) Ds W2 := fun W2 hk =>
              ⟨i2.trans hk, ⟨i3.1, fun D hD => ⟨(i3.2 D hD).1, (hk.block D (Array.getElem?_eq_some_iff.1 (i3.2 D hD).2).1 (hXe D (i3.2 D hD).1)).trans (i3.2 D hD).2⟩⟩⟩
            simp only [bestO_snoc]
            cases hbest : bestO (bestO none (othersT n.toNat C wn ((cands n.toNat).take i))) pre with
            | none =>
              rw [hbest] at fm
              subst fm
              gi_wp2
              exact ⟨⟨hst Wb (Ext.refl _), hms _ (setCell_kx _)⟩, setCell_kx _⟩
            | some o =>
              rw [hbest] at fm
              obtain ⟨ob, hob, hHo⟩ := fm
              obtain ⟨oc, rfl⟩ : ∃ oc, fv = .slice (some ⟨ob, 0, none⟩) o.length oc := by
                obtain ⟨_, _, cap, cur, e, h, _⟩ := hHo
                exact ⟨cap, h⟩
              have c17 := con17 hHb hHb.2.1.1 hHo hHo.2.1.1 (d26_eq (by have := hHb.2.1.1; omega) (by have := hHo.2.1.1; omega))
              have cf' : ∀ W2, Ext Wb W2 → W2.frozen? ⟨W.heap.size, 0, none⟩ = false := fun W2 he => Boxed.frozen (W := W2) (t := 25) ((he.block _ fb.lt).trans fb)
              have cb' : ∀ W2, Ext Wb W2 → W2.cell? ⟨W.heap.size, 0, none⟩ = some (.slice (some ⟨ob, 0, none⟩) o.length oc) := fun W2 he => Boxed.cell (W := W2) (t := 25) ((he.block _ fb.lt).trans fb)
              by_cases hlo : x < o
              · have hcm : cmpL x o = -1 := by unfold cmpL; rw [if_pos hlo]
                rw [hcm] at c17
                gi_wp2_with (gi_at_call 26; refine (CallsIn.inRound l2 (callsIn_wide.2 c17)).mono ?_; rintro e W2 ⟨rfl, he2⟩; have cf2 := cf' W2 he2; have cb2 := cb' W2 he2)
                have hl2' : least2 (some o) x = some x := if_pos hlo
                rw [hl2']
                have kk := (Kx.of_ext (X := fun c => c = W.heap.size) he2).trans (setCell_kx (.slice (some ⟨vb, 0, none⟩) x.length vc))
                exact ⟨⟨hst W2 he2, hms _ kk⟩, kk⟩
              · have hcm : ¬ cmpL x o < 0 := by unfold cmpL; rw [if_neg hlo]; split <;> omega
                gi_wp2_with (gi_at_call 26; refine (CallsIn.inRound l2 (callsIn_wide.2 c17)).mono ?_; rintro e W2 ⟨rfl, he2⟩)
                have hl2' : least2 (some o) x = some o := if_neg hlo
                rw [hl2']
                have kk := Kx.of_ext (X := fun c => c = W.heap.size) he2
                exact ⟨⟨⟨_, (he2.block _ fb.lt).trans fb, ob, hob, hHo.keep kk (hXe _ hob)⟩, hms _ kk⟩, kk⟩
        case hdone =>
          rintro W' ⟨i1, i2, i3⟩ hkw' hD
          rw [hs9] at hD hDlt
          gi_wp2
          refine ⟨n.toNat - (i + 1), by omega, i + 1, (w.heap.size + 1 + 3) :: Ds, rfl, by omega, ⟨List.nodup_cons.2 ⟨fun h => by have := hDlt _ h; omega, i3.1⟩, fun D hD' => ?_⟩, ?_, i2, Fr6.mk⟩
          · rcases List.mem_cons.1 hD' with rfl | hD'
            · exact ⟨by omega, hD⟩
            · exact i3.2 D hD'
          · have : othersT n.toNat C wn ((cands n.toNat).take (i + 1)) = othersT n.toNat C wn ((cands n.toNat).take i) ++ ordersT n.toNat C (n.toNat + 1) [(i : Int)] := by
              unfold othersT
              rw [htake, List.flatMap_append, List.flatMap_cons, if_neg hw]
              simp
            rw [this, bestO_app]
            exact i1
    · obtain rfl : i = n.toNat := by omega
      have hge' : ¬ ((n.toNat : Nat) : Int) < n := by omega
      have hk0 := (Kx.of_ext (X := fun c => c = W.heap.size) e0).trans hkw
      obtain ⟨fv, fb, fm⟩ := hfo
      rw [List.take_of_length_le (by simp [cands])] at fm
      have hval : fv = .slice none 0 0 ∧ witP n.toNat C wn = none ∨ ∃ o ob oc, fv = .slice (some ⟨ob, 0, none⟩) o.length oc ∧ witP n.toNat C wn = some o ∧ W.heap.size < ob ∧ HI w fv o ob := by
        unfold witP
        cases hb : bestO none (othersT n.toNat C wn (cands n.toNat)) with
        | none => rw [hb] at fm; exact .inl ⟨fm, rfl⟩
        | some o =>
          rw [hb] at fm
          obtain ⟨ob, h1, h2⟩ := fm
          obtain ⟨_, _, cap, cur, e, h3, _⟩ := id h2
          exact .inr ⟨o, ob, cap, h3, rfl, h1, h2⟩
      have hend : ∀ w', Rl (W.heap.size + 1) w w' → Ext W w' := fun w' hr => ⟨hr.os.trans hk0.os, hr.tape.trans hk0.tape, hr.output.trans hk0.output, Nat.le_trans hk0.size hr.size, fun b hb => (hr.block b (Nat.lt_of_lt_of_le hb hk0.size) (.inl (by omega))).trans (hk0.block b hb (fun h => by have h' : b = W.heap.size := h; omega))⟩
      have hmax : max n 0 = n := by omega
      gi_wp2
      try simp only [hmax]
      refine wpIn_wide.2 (region_inv mixd (J := fun D a w8 => Ext w w8 ∧ ∃ y54 y55 y56 y6 y7 : Value, (D 0 = true → y54 = fv) ∧ (D 1 = true → y55 = fv) ∧ (D 2 = true → y56 = .bool (witP n.toNat C wn).isSome) ∧ (D 3 = true → y6 = fv) ∧ (D 4 = true → y7 = .bool (witP n.toNat C wn).isSome) ∧
        a = { tmps := #[.int .i64 n, .int .i64 wn, .slice la ll lc, x3, x4, x5, y6, y7, .pointer (some ⟨W.heap.size, 0, none⟩), x9, x10, x11, x12, x13, x14, x15, x16, x17, x18, x19, x20, x21, x22, x23, x24, x25, x26, x27, x28, x29, x30, .int .i64 n, .int .i64 n, .bool false, x34, x35, x36, x37, x38, x39, x40, x41, x42, x43, x44, x45, x46, x47, x48, x49, x50, x51, x52, x53, y54, y55, y56], defers := marks Ds }) ?hac ?st ?fin ?h0)
      case hac =>
        intro k o ho
        rcases k with _ | _ | _ | _ | _ | k <;> simp at ho <;> subst ho <;> refine ⟨rfl, fun e he hb => ?_⟩ <;> simp only [List.size_toArray, List.mem_toArray, List.mem_cons, List.not_mem_nil, or_false] at he
        · rcases he with rfl
          exact absurd hb (by decide)
        · rcases he with rfl | rfl
          · decide
          · exact absurd hb (by decide)
        · rcases he with rfl | rfl | rfl | rfl <;> first | decide | exact absurd hb (by decide)
        · rcases he with rfl | rfl | rfl | rfl | rfl | rfl <;> first | decide | exact absurd hb (by decide)
      case h0 =>
        refine ⟨(Ext.refl w).drew, _, _, _, _, _, ?_, ?_, ?_, ?_, ?_, rfl⟩ <;> (intro h; cases h)
      case st =>
        rintro D j o a w8 ho hDj hed ⟨hE, y54, y55, y56, y6, y7, h0, h1, h2, h3, h4, rfl⟩
        have cb8 := Boxed.cell (W := w8) (t := 25) ((hE.block _ fb.lt).trans fb)
        rcases j with _ | _ | _ | _ | _ | j <;> simp at ho <;> subst ho <;> simp only [List.size_toArray, List.mem_toArray, List.mem_cons, List.not_mem_nil, or_false, forall_eq_or_imp, forall_eq] at hed
        · refine wpk fun K hK => ?_
          go_simp
          refine hK _ _ ⟨hE, _, _, _, _, _, fun _ => rfl, ?_, ?_, ?_, ?_, rfl⟩ <;> simpa using by assumption
        · refine wpk fun K hK => ?_
          go_simp
          refine hK _ _ ⟨hE, _, _, _, _, _, ?_, fun _ => rfl, ?_, ?_, ?_, rfl⟩ <;> simpa using by assumption
        · obtain rfl := h1 (hed.1 rfl)
          have hne : ∀ w', (binOp .neq 25 y55 (.slice none 0 0)).run Tryz.prog w' = .ok (.bool (witP n.toNat C wn).isSome) w' := fun w' => by
            rcases hval with ⟨rfl, h⟩ | ⟨o, ob, oc, rfl, h, _⟩ <;> rw [neq26, h] <;> rfl
          have hgu : ∀ w', (eqGuard .neq 25 (.tmp 55) (.const (.slice none 0 0)) y55 (.slice none 0 0)).run Tryz.prog w' = .ok () w' := fun w' => by
            rcases hval with ⟨rfl, h⟩ | ⟨o, ob, oc, rfl, h, _⟩ <;> rfl
          refine wpk fun K hK => ?_
          go_simp
          try simp only [hgu, hne, Result.andThen]
          refine hK _ _ ⟨hE, _, _, _, _, _, ?_, ?_, fun _ => rfl, ?_, ?_, rfl⟩ <;> simpa using by assumption
        · obtain rfl := h0 (hed.1 rfl)
          refine wpk fun K hK => ?_
          go_simp
          refine hK _ _ ⟨hE, _, _, _, _, _, ?_, ?_, ?_, fun _ => rfl, ?_, rfl⟩ <;> simpa using by assumption
        · obtain rfl := h2 (hed.1 rfl)
          refine wpk fun K hK => ?_
          go_simp
          refine hK _ _ ⟨hE, _, _, _, _, _, ?_, ?_, ?_, ?_, fun _ => rfl, rfl⟩ <;> simpa using by assumption
      case fin =>
        rintro D a w8 hall ⟨hE, y54, y55, y56, y6, y7, h0, h1, h2, h3, h4, rfl⟩
        obtain rfl := h3 (hall 3 (by decide))
        obtain rfl := h4 (hall 4 (by decide))
        gi_wp2
        refine leaves_marks (v := .tuple #[y6, .bool (witP n.toNat C wn).isSome]) (fun w => by rw [results_tmp2 (t := 6) (u := 7) rfl]; rfl) Ds w8 (hm.ext hE) fun w' hw => ?_
        have hr : Rl (W.heap.size + 1) w w' := ⟨hw.os.trans hE.os, hw.tape.trans hE.tape, hw.output.trans hE.output, Nat.le_trans hE.size hw.size, fun b hb hx => (hw.block b (Nat.lt_of_lt_of_le hb hE.size) (hx.imp id fun ⟨o, h1, h2⟩ => ⟨o, (hE.block b hb).trans h1, h2⟩)).trans (hE.block b hb)⟩
        refine ⟨hend w' hr, ?_⟩
        rcases hval with ⟨rfl, h⟩ | ⟨o, ob, oc, rfl, h, hob, hHI⟩
        · exact .inl ⟨h, by rw [h]; rfl⟩
        · exact .inr ⟨o, h, _, by rw [h]; rfl, ob, hHI.same (hr.block ob hHI.lt (.inr hHI.cells)), by omega⟩
end Go.Proofs.YthlgoakkgmabaaaGreat
