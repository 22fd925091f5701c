/- suffice.orders and its closure: what they yield. -/
import Derived.Test.YthlgoakkgmabaaaGreatW2
import Derived.Test.YthlgoakkgmabaaaGreatS1
import Derived.Laws.AppendOwn
import Derived.Maps.AppendAt
set_option linter.unusedSimpArgs false
set_option linter.unusedVariables false
set_option linter.unnecessarySimpa false
namespace Go.Proofs.YthlgoakkgmabaaaGreat
open Go Go.Proofs Go.RowKit Go.X
attribute [local go_sem] Oper.semAt_some
set_option maxHeartbeats 1000000 in
theorem orders_in (n : Int) (la ta : Option Addr) (ll lc tl tc : Nat) (w : World) :
    Calls Tryz.prog 25 #[.int .i64 n, .slice la ll lc, .slice ta tl tc] w fun e w' => e = .returned (.func (.func 45) #[] #[.pointer (some ⟨w.heap.size, 0, none⟩), .pointer (some ⟨w.heap.size + 1, 0, none⟩), .pointer (some ⟨w.heap.size + 2, 0, none⟩)]) ∧
      w' = ((w.alloc (.cells #[.int .i64 n] 3)).alloc (.cells #[.slice la ll lc] 26)).alloc (.cells #[.slice ta tl tc] 25) := by
  refine (callsIn_wide (n := 0)).1 (callsIn_of_wp Tryz.func25 rfl trivial ?_ rfl)
  simp only [Tryz.ntmps25, List.size_toArray, List.length_cons, List.length_nil, Nat.reduceAdd, Nat.reduceSub, Array.replicate_succ, Array.replicate_zero, List.push_toArray, List.append_toArray, List.nil_append, List.cons_append]
  gi_wp2
  go_ret
  exact ⟨rfl, rfl⟩
theorem cell_lt {W : World} {b : Nat} {v : Value} (h : W.cell? ⟨b, 0, none⟩ = some v) : b < W.heap.size := by
  unfold World.cell? at h
  cases hb : W.heap[b]? with
  | none => simp [hb] at h
  | some o => exact (Array.getElem?_eq_some_iff.1 hb).1
theorem cellK {X : Nat → Prop} {W W' : World} {b : Nat} {v : Value} (h : W.cell? ⟨b, 0, none⟩ = some v) (hk : Kx X W W') (hx : ¬ X b) : W'.cell? ⟨b, 0, none⟩ = some v :=
  (World.cell?_of_block (w := W) (a := ⟨b, 0, none⟩) (hk.block b (cell_lt h) hx)).trans h
theorem cell_new (W : World) (v : Value) (t : TypeId) : (W.alloc (.cells #[v] t)).cell? ⟨W.heap.size, 0, none⟩ = some v := by
  unfold World.cell?
  rw [World.alloc_heap_new]
  simp
theorem loop_inv {P : Program} {c : Code} {Q : Exit → Act → World → Prop} (R : Nat → Act → World → Prop) (step : ∀ m a w, R m a w → c.wp P (Exit.then (fun a' w' => ∃ m', m' < m ∧ R m' a' w') Q) a w) {m : Nat} {a : Act} {w : World} (h : R m a w) : (Code.loop c).wp P Q a w := by
  refine wp_loop_rounds (m + 1) ?_
  have key : ∀ (M m : Nat) (a : Act) (w : World), m < M → R m a w → Code.rounds P c Q M a w := by
    intro M
    induction M with
    | zero => intro m a w hm; omega
    | succ M ih =>
      intro m a w hm hr
      rw [rounds_succ]
      refine Code.wp_mono ?_ (step m a w hr)
      intro e a' w' hq
      cases e with
      | normal => obtain ⟨m', h1, h2⟩ := hq; exact ih m' a' w' (by omega) h2
      | _ => exact hq
  exact key (m + 1) m a w (by omega) h
theorem wpk {P : Program} {o : Oper} {a : Act} {w : World} {K : Act → World → Prop} {Q : Exit → Act → World → Prop} (h : ∀ K', (∀ a w, K a w → K' a w) → o.wp P a w K' Q) : o.wp P a w K Q := h K fun _ _ h => h
def marks (Ds : List Nat) : List Deferred := Ds.map fun D => { target := .collected D, args := #[] }
def MarksOK (B : Nat) (Ds : List Nat) (w : World) : Prop := Ds.Nodup ∧ ∀ D ∈ Ds, B ≤ D ∧ w.heap[D]? = some (.deferred (some []))
theorem MarksOK.ext {B : Nat} {Ds : List Nat} {w w' : World} (h : MarksOK B Ds w) (he : Ext w w') : MarksOK B Ds w' :=
  ⟨h.1, fun D hD => ⟨(h.2 D hD).1, (he.block D (Array.getElem?_eq_some_iff.1 (h.2 D hD).2).1).trans (h.2 D hD).2⟩⟩
theorem leaves_marks {P : Program} {fn : Func} {tmps : Array Value} {R : Ending → World → Prop} {v : Value} {B : Nat} (hres : ∀ w, (results fn tmps).run P w = .ok v w) : ∀ (Ds : List Nat) (w : World), MarksOK B Ds w → (∀ w', Rl B w w' → R (.returned v) w') →
    LeavesInM Fence.wide 0 P fn tmps R (marks Ds) .returning w
  | [], w, _, h => ⟨_, hres w, h w ⟨rfl, rfl, rfl, Nat.le_refl _, fun _ _ _ => rfl⟩⟩
  | D :: Ds, w, hm, h => by
    have hD := hm.2 D (by simp)
    have hn := List.nodup_cons.1 hm.1
    have hr : Rl B w (w.putObj D (.deferred none)) := Rl.putObj hD.1 hD.2 rfl
    refine ⟨by simp, .inl ⟨D, _, rfl, run_takeDeferred hD.2, leaves_marks hres Ds _ ⟨hn.2, fun D' h' => ⟨(hm.2 D' (List.mem_cons_of_mem _ h')).1, ?_⟩⟩ fun w' hw => h w' ⟨hw.os.trans hr.os, hw.tape.trans hr.tape, hw.output.trans hr.output, Nat.le_trans hr.size hw.size, fun b hb hx => ?_⟩⟩⟩
    · have hne : D' ≠ D := fun e => hn.1 (e ▸ h')
      rw [World.putObj_heap_other hne]
      exact (hm.2 D' (List.mem_cons_of_mem _ h')).2
    · have hbD : b ≠ D := by
        rintro rfl
        rcases hx with hx | ⟨o, h1, h2⟩
        · omega
        · rw [hD.2] at h1; cases h1; cases h2
      rw [← hr.block b hb hx]
      refine hw.block b (by simpa using hb) (hx.imp id fun ⟨o, h1, h2⟩ => ⟨o, ?_, h2⟩)
      rw [World.putObj_heap_other hbD]
      exact h1
/-- The frame of the closure at the head of its loop. -/
def Fr28 (lr Bn Bl Bt By : Nat) (n : Int) (i : Nat) (Ds : List Nat) (a : Act) : Prop := ∃ (x5 x6 x7 x8 x9 x10 x11 x12 x13 x14 x15 x16 x17 x20 x21 x22 x23 x24 x25 x26 x27 x28 x29 x30 x31 x32 x33 x34 x35 x36 x37 : Value), a = { tmps := #[.func (.yield lr) #[] #[], .pointer (some ⟨Bn, 0, none⟩), .pointer (some ⟨Bl, 0, none⟩), .pointer (some ⟨Bt, 0, none⟩), .pointer (some ⟨By, 0, none⟩), x5, x6, x7, x8, x9, x10, x11, x12, x13, x14, x15, x16, x17, .int .i64 n, .int .i64 (i : Int), x20, x21, x22, x23, x24, x25, x26, x27, x28, x29, x30, x31, x32, x33, x34, x35, x36, x37], defers := marks Ds }
theorem Fr28.mk {lr Bn Bl Bt By : Nat} {n : Int} {i : Nat} {Ds : List Nat} {x5 x6 x7 x8 x9 x10 x11 x12 x13 x14 x15 x16 x17 x20 x21 x22 x23 x24 x25 x26 x27 x28 x29 x30 x31 x32 x33 x34 x35 x36 x37 : Value} : Fr28 lr Bn Bl Bt By n i Ds { tmps := #[.func (.yield lr) #[] #[], .pointer (some ⟨Bn, 0, none⟩), .pointer (some ⟨Bl, 0, none⟩), .pointer (some ⟨Bt, 0, none⟩), .pointer (some ⟨By, 0, none⟩), x5, x6, x7, x8, x9, x10, x11, x12, x13, x14, x15, x16, x17, .int .i64 n, .int .i64 (i : Int), x20, x21, x22, x23, x24, x25, x26, x27, x28, x29, x30, x31, x32, x33, x34, x35, x36, x37], defers := marks Ds } := ⟨x5, x6, x7, x8, x9, x10, x11, x12, x13, x14, x15, x16, x17, x20, x21, x22, x23, x24, x25, x26, x27, x28, x29, x30, x31, x32, x33, x34, x35, x36, x37, rfl⟩
theorem info3 : (Tryz.prog.info? 3).map (fun i => (i.zero, i.size, i.bytes)) = some (some (.int .i64 0), 1, 8) := by kernel_rfl
theorem enters28 : Enters Tryz.prog 45 := enters_of Tryz.func45 (by kernel_rfl) rfl
set_option maxRecDepth 100000 in
set_option maxHeartbeats 4000000 in
theorem it_ok {n : Int} (hn : IntKind.i64.wrap n = n) (hn7 : 1 ≤ n ∧ n ≤ 7) {l : List (Int × (Int × (Int × (List Int × Int))))} {C : List Int → Bool} (hC : ∀ t, isB n t → d46 n l t = some (C t)) {lv : Value} {X F : Nat → Prop} (hFX : ∀ b, F b → ¬ X b) :
    ∀ (k : Nat) (t : List Int), isB n t → t ≠ [] → n.toNat < k + t.length → ∀ (lr Lo Bn Bl Bt tb : Nat) (tv : Value) (J : List (List Int) → World → Prop) (W : World),
      LA F W lv l → W.cell? ⟨Bn, 0, none⟩ = some (.int .i64 n) → W.cell? ⟨Bl, 0, none⟩ = some lv → W.cell? ⟨Bt, 0, none⟩ = some tv → HI W tv t tb → ¬ X Bn → ¬ X Bl → ¬ X Bt → ¬ X tb → Lo ≤ tb → Lo ≤ W.heap.size → (∀ b, X b → b < W.heap.size) →
      (∀ pre W1 W2, Rl W.heap.size W1 W2 → J pre W1 → J pre W2) → J [] W →
      (∀ pre x v b W', Kx X W W' → J pre W' → HI W' v x b → ¬ X b → Lo ≤ b → YieldAt Fence.wide 0 Tryz.prog lr #[v] W' fun e W'' => e = .returned (.bool true) ∧ J (pre ++ [x]) W'' ∧ Kx X W' W'') →
      Calls Tryz.prog 45 #[.func (.yield lr) #[] #[], .pointer (some ⟨Bn, 0, none⟩), .pointer (some ⟨Bl, 0, none⟩), .pointer (some ⟨Bt, 0, none⟩)] W fun e W' => (∃ v, e = .returned v) ∧ J (ordersT n.toNat C k t) W' ∧ Kx X W W' := by
  intro k
  induction k with
  | zero =>
    intro t ht hne hk
    have := nodup_len n.toNat t ht.1 (fun x hx => by have := ht.2 x hx; omega)
    omega
  | succ k ih =>
    intro t ht hne hk lr Lo Bn Bl Bt tb tv J W hl cn cl ct hti xn xl xt xtb hlo hloW hX hJ hJ0 hY
    have htl : t.length ≤ 7 := isB_len ht hn7.2
    refine (callsIn_wide (n := 0)).1 (callsIn_of_wp_marks Tryz.func45 rfl trivial ?_ rfl)
    simp only [Tryz.ntmps45, List.size_toArray, List.length_cons, List.length_nil, Nat.reduceAdd, Nat.reduceSub, Array.replicate_succ, Array.replicate_zero, List.push_toArray, List.append_toArray, List.nil_append, List.cons_append]
    have hlv : ∃ la ll lc, lv = .slice la ll lc := by
      obtain ⟨_, _, a, len, cap, h, _⟩ := hl.rel.1
      exact ⟨a, len, cap, by simpa [vcells, Ty.agg] using h⟩
    obtain ⟨la, ll, lc, rfl⟩ := hlv
    have htv : ∃ cap, tv = .slice (some ⟨tb, 0, none⟩) t.length cap := by
      obtain ⟨_, _, cap, cur, e, h, _⟩ := hti
      exact ⟨cap, h⟩
    obtain ⟨tc, rfl⟩ := htv
    have f29 : Fence.wide.fn 46 := trivial
    have f30 : Fence.wide.fn 30 := trivial
    have f16 : Fence.wide.fn 25 := trivial
    have fd : Fence.wide.depth = none := rfl
    -- the box of yield
    have e0 : Ext W (W.alloc (.cells #[.func (.yield lr) #[] #[]] 76)) := Ext.alloc _ _
    have k0 : Kx X W (W.alloc (.cells #[.func (.yield lr) #[] #[]] 76)) := .of_ext e0
    have xy : ¬ X W.heap.size := fun h => by have := hX _ h; omega
    have cn0 := cellK cn k0 xn
    have cl0 := cellK cl k0 xl
    have ct0 := cellK ct k0 xt
    have cy0 := cell_new W (.func (.yield lr) #[] #[]) 76
    have c1 := con29 (n := n) hn (hl.keep k0 hFX) (hti.keep k0 xtb) (by omega) (hC t ht)
    by_cases hCt : C t = true
    · rw [hCt] at c1
      gi_wp2_with (gi_at_call 46; refine (callsIn_wide.2 c1).mono ?_; rintro e w' ⟨rfl, he1⟩)
      refine ⟨_, results_none rfl _ _ _, ⟨_, rfl⟩, ?_, k0.trans (.of_ext he1)⟩
      have : ordersT n.toNat C (k + 1) t = [] := by unfold ordersT; rw [if_pos hCt]
      rw [this]
      exact hJ _ _ _ (.of_ext (e0.trans he1)) hJ0
    · have hCf : C t = false := by simpa using hCt
      rw [hCf] at c1
      by_cases hfull : (t.length : Int) = n
      · gi_wp2_with (first
          | (gi_at_call 46; refine (callsIn_wide.2 c1).mono ?_; rintro e w' ⟨rfl, he1⟩; have k1 := k0.trans (Kx.of_ext (X := X) he1); have cn1 := cellK cn k1 xn; have ct1 := cellK ct k1 xt; have cy1 := cellK cy0 (Kx.of_ext (X := X) he1) xy; obtain ⟨fn, tmps, assign, body, hy, hR⟩ := hY [] t _ tb w' k1 (hJ _ _ _ (.of_ext (e0.trans he1)) hJ0) (hti.keep k1 xtb) xtb hlo)
          | ((try refine ⟨fd, ?_⟩); refine hR.mono ?_; clear hR; rintro e W3 ⟨rfl, hJ3, hk3⟩))
        refine ⟨_, results_none rfl _ _ _, ⟨_, rfl⟩, ?_, k1.trans hk3⟩
        have : ordersT n.toNat C (k + 1) t = [t] := by unfold ordersT; rw [if_neg hCt, if_pos (by omega)]
        rw [this]
        exact hJ3
      · gi_wp2_with (first
          | (gi_at_call 46; refine (callsIn_wide.2 c1).mono ?_; rintro e w' ⟨rfl, he1⟩; have k1 := k0.trans (Kx.of_ext (X := X) he1); have cn1 := cellK cn k1 xn; have ct1 := cellK ct k1 xt; have cy1 := cellK cy0 (Kx.of_ext (X := X) he1) xy; have cl1 := cellK cl k1 xl))
        refine wpIn_wide.2 (loop_inv (R := fun m a w => ∃ (i : Nat) (Ds : List Nat), m = n.toNat - i ∧ i ≤ n.toNat ∧ MarksOK W.heap.size Ds w ∧ J (((cands n.toNat).take i).flatMap fun c => if c ∈ t then [] else ordersT n.toNat C k (c :: t)) w ∧ Kx X W w ∧
          w.cell? ⟨W.heap.size, 0, none⟩ = some (.func (.yield lr) #[] #[]) ∧ Fr28 lr Bn Bl Bt W.heap.size n i Ds a) (m := n.toNat) ?step ?init)
        case init =>
          refine ⟨0, [], by omega, by omega, ⟨List.nodup_nil, fun _ h => absurd h (by simp)⟩, ?_, k1, cy1, Fr28.mk⟩
          exact hJ _ _ _ (.of_ext (e0.trans he1)) hJ0
        case step =>
          rintro m a w ⟨i, Ds, rfl, hi, hm, hJi, hkw, cyw, x5, x6, x7, x8, x9, x10, x11, x12, x13, x14, x15, x16, x17, x20, x21, x22, x23, x24, x25, x26, x27, x28, x29, x30, x31, x32, x33, x34, x35, x36, x37, rfl⟩
          refine (wpIn_wide (n := 0)).1 ?_
          have cnw := cellK cn hkw xn
          have clw := cellK cl hkw xl
          have ctw := cellK ct hkw xt
          have hin : ∀ c : Int, 0 ≤ c → c ≤ n → IntKind.i64.wrap c = c := fun c h0 h1 => w_id (by omega) (by omega)
          have xtw := hti.keep hkw xtb
          rcases Nat.lt_or_ge i n.toNat with hlt | hge
          · have hlt' : (i : Int) < n := by omega
            have c30 := con30 (c := (i : Int)) (hin _ (by omega) (by omega)) xtw (by omega) (d30_eq (i : Int) (by omega))
            have hwi : IntKind.i64.wrap ((i : Int) + 1) = ((i + 1 : Nat) : Int) := by rw [hin _ (by omega) (by omega)]; omega
            have htake : (cands n.toNat).take (i + 1) = (cands n.toNat).take i ++ [(i : Int)] := by
              unfold cands
              rw [← List.map_take, ← List.map_take, List.take_range, List.take_range, Nat.min_eq_left (by omega), Nat.min_eq_left (by omega), List.range_succ, List.map_append]
              rfl
            by_cases hmem : (i : Int) ∈ t
            · simp only [hmem, decide_true] at c30
              gi_wp2_with (gi_at_call 30; refine (callsIn_wide.2 c30).mono ?_; rintro e w2 ⟨rfl, he2⟩)
              have k2 := Kx.of_ext (X := X) he2
              refine ⟨n.toNat - (i + 1), by omega, i + 1, Ds, rfl, by omega, hm.ext he2, ?_, hkw.trans k2, cellK cyw k2 xy, Fr28.mk⟩
              rw [htake, List.flatMap_append, List.flatMap_cons, if_pos hmem]
              simp only [List.flatMap_nil, List.append_nil]
              exact hJ _ _ _ (.of_ext he2) hJi
            · simp only [hmem, decide_false] at c30
              gi_wp2_with (gi_at_call 30; refine (callsIn_wide.2 c30).mono ?_; rintro e w2 ⟨rfl, he2⟩)
              have k2 := Kx.of_ext (X := X) he2
              have kw2 := hkw.trans k2
              have cn2 := cellK cn kw2 xn
              have cl2 := cellK cl kw2 xl
              have ct2 := cellK ct kw2 xt
              have cy2 := cellK cyw k2 xy
              obtain ⟨B8, hB8⟩ : ∃ B8, w2.heap.size = B8 := ⟨_, rfl⟩
              refine wpIn_wide.2 (region_inv mixd (J := fun D a w8 => Ext w2 w8 ∧ ∃ y25 y26 y27 y28 y29 y30 y31 : Value,
                (D 0 = true → y25 = .int .i64 n) ∧ (D 1 = true → y26 = .slice la ll lc) ∧ (D 2 = true → y27 = .int .i64 (i : Int)) ∧ (D 3 = true → D 5 = false → w8.ownsRow B8 3 1 y28 1 [.int .i64 (i : Int)]) ∧
                (D 4 = true → y29 = .slice (some ⟨tb, 0, none⟩) t.length tc) ∧ (D 5 = true → ∃ b, B8 ≤ b ∧ HI w8 y30 ((i : Int) :: t) b) ∧
                (D 6 = true → D 5 = true ∧ ∃ (s : Nat), B8 ≤ s ∧ y31 = .func (.func 45) #[] #[.pointer (some ⟨s, 0, none⟩), .pointer (some ⟨s + 1, 0, none⟩), .pointer (some ⟨s + 2, 0, none⟩)] ∧ w8.cell? ⟨s, 0, none⟩ = some (.int .i64 n) ∧ w8.cell? ⟨s + 1, 0, none⟩ = some (.slice la ll lc) ∧ w8.cell? ⟨s + 2, 0, none⟩ = some y30) ∧
                a = { tmps := #[.func (.yield lr) #[] #[], .pointer (some ⟨Bn, 0, none⟩), .pointer (some ⟨Bl, 0, none⟩), .pointer (some ⟨Bt, 0, none⟩), .pointer (some ⟨W.heap.size, 0, none⟩), .int .i64 (i : Int), x6, x7, x8, x9, x10, x11, x12, x13, x14, x15, x16, x17, .int .i64 n, .int .i64 (i : Int), .bool true, .int .i64 (i : Int), .slice (some ⟨tb, 0, none⟩) t.length tc, .int .i64 (i : Int), .bool false, y25, y26, y27, y28, y29, y30, y31, x32, x33, x34, x35, x36, x37], defers := marks Ds }) ?hac ?st ?fin ?h0)
              case hac =>
                intro k o ho
                rcases k with _ | _ | _ | _ | _ | _ | _ | k <;> simp at ho <;> subst ho <;> simp
              case h0 =>
                refine ⟨(Ext.refl w2).drew, _, _, _, _, _, _, _, ?_, ?_, ?_, ?_, ?_, ?_, ?_, rfl⟩ <;> (intro h; cases h)
              case st =>
                rintro D j o a w8 ho hDj hed ⟨hE, y25, y26, y27, y28, y29, y30, y31, h0, h1, h2, h3, h4, h5, h6, rfl⟩
                have kE := kw2.trans (Kx.of_ext hE)
                have cn8 := cellK cn kE xn
                have cl8 := cellK cl kE xl
                have ct8 := cellK ct kE xt
                have h5k : ∀ w9, Ext w8 w9 → (D 5 = true → ∃ b, B8 ≤ b ∧ HI w9 y30 ((i : Int) :: t) b) := fun w9 he h => by
                  obtain ⟨b, hb1, hb2⟩ := h5 h
                  exact ⟨b, hb1, hb2.keep (Kx.of_ext (X := fun _ => False) he) id⟩
                have h6k : ∀ w9, Ext w8 w9 → (D 6 = true → D 5 = true ∧ ∃ (s : Nat), B8 ≤ s ∧ y31 = .func (.func 45) #[] #[.pointer (some ⟨s, 0, none⟩), .pointer (some ⟨s + 1, 0, none⟩), .pointer (some ⟨s + 2, 0, none⟩)] ∧ w9.cell? ⟨s, 0, none⟩ = some (.int .i64 n) ∧ w9.cell? ⟨s + 1, 0, none⟩ = some (.slice la ll lc) ∧ w9.cell? ⟨s + 2, 0, none⟩ = some y30) := fun w9 he h => by
                  obtain ⟨hb0, s, hb1, hb2, hb3, hb4, hb5⟩ := h6 h
                  have hk := Kx.of_ext (X := fun _ => False) he
                  exact ⟨hb0, s, hb1, hb2, cellK hb3 hk id, cellK hb4 hk id, cellK hb5 hk id⟩
                rcases j with _ | _ | _ | _ | _ | _ | _ | j <;> simp at ho <;> subst ho
                · refine wpk fun K hK => ?_
                  go_simp
                  refine hK _ _ ⟨hE, _, _, _, _, _, _, _, fun _ => rfl, ?_, ?_, ?_, ?_, ?_, ?_, rfl⟩ <;> simpa using by assumption
                · refine wpk fun K hK => ?_
                  go_simp
                  refine hK _ _ ⟨hE, _, _, _, _, _, _, _, ?_, fun _ => rfl, ?_, ?_, ?_, ?_, ?_, rfl⟩ <;> simpa using by assumption
                · refine wpk fun K hK => ?_
                  go_simp
                  refine hK _ _ ⟨hE, _, _, _, _, _, _, _, ?_, ?_, fun _ => rfl, ?_, ?_, ?_, ?_, rfl⟩ <;> simpa using by assumption
                · simp only [List.size_toArray, List.mem_toArray, List.mem_cons, List.not_mem_nil, or_false, forall_eq_or_imp, forall_eq] at hed
                  obtain rfl := h2 (hed rfl)
                  have he := Ext.alloc w8 (.cells #[.int .i64 (i : Int)] 3)
                  refine wpk fun K hK => ?_
                  go_simp
                  refine hK _ _ ⟨hE.trans he, _, _, _, _, _, _, _, ?_, ?_, ?_, fun _ _ => ?_, ?_, ?_, ?_, rfl⟩
                  · simpa using h0
                  · simpa using h1
                  · simpa using h2
                  · exact ⟨rfl, .inr ⟨w8.heap.size, 1, #[.int .i64 (i : Int)], rfl, by have := hE.size; omega, World.alloc_heap_new _ _, by omega, by decide, rfl, rfl⟩⟩
                  · simpa using h4
                  · simpa using h5k _ he
                  · simpa using h6k _ he
                · refine wpk fun K hK => ?_
                  go_simp
                  refine hK _ _ ⟨hE, _, _, _, _, _, _, _, ?_, ?_, ?_, ?_, fun _ => rfl, ?_, ?_, rfl⟩ <;> simpa using by assumption
                · simp only [List.size_toArray, List.mem_toArray, List.mem_cons, List.not_mem_nil, or_false, forall_eq_or_imp, forall_eq] at hed
                  obtain rfl := h4 (hed.2 rfl)
                  have hrow := h3 (hed.1 rfl) hDj
                  obtain ⟨i0, hi1, hz0, hz1, hz2⟩ := info_parts info3
                  obtain ⟨q1, q2, cap, cur, et, q3, q4, q5, q6⟩ := hti.keep kE xtb
                  refine wpk fun K hK => wp_append_own w8 (.tmp 28) (.tmp 29) 25 rfl B8 3 i0 (.int .i64 0) 1 8 Tryz.underlying25 hi1 hz0 hz1 hz2 rfl (by decide) y28 1 [.int .i64 (i : Int)] rfl hrow ⟨tb, 0, none⟩ t.length tc (t.map (Value.int .i64)) rfl (by simp) (fun j u hu => ?_) (fun u hu => ?_) (by unfold maxLen; omega) (by omega) (by have := hE.size; omega) fun v' w9 hown hg _ => ?_
                  · rw [List.getElem?_map] at hu
                    obtain ⟨x, hx1, rfl⟩ := Option.map_eq_some_iff.1 hu
                    obtain ⟨hx2, rfl⟩ := List.getElem?_eq_some_iff.1 hx1
                    have := q6 j hx2
                    rw [addr_add]
                    simp [World.cell?, q5, this]
                  · obtain ⟨x, _, rfl⟩ := List.mem_map.1 hu
                    rfl
                  · have hE9 : Ext w2 w9 := by
                      refine ⟨hg.os.trans hE.os, hg.tape.trans hE.tape, hg.output.trans hE.output, Nat.le_trans hE.size hg.size, fun b hb => ?_⟩
                      rw [hg.block b (Nat.lt_of_lt_of_le hb hE.size) (fun e => by have := (hrow.lt b e.symm).1; omega)]
                      exact hE.block b hb
                    have hHI : ∃ b, B8 ≤ b ∧ HI w9 v' ((i : Int) :: t) b := by
                      rcases hown.2 with ⟨_, h⟩ | ⟨g, cap', cur', r1, r2, r3, r4, r5, r6, r7⟩
                      · omega
                      · refine ⟨g, r2, by simp, ⟨by rw [List.length_cons]; omega, fun x hx => ?_⟩, cap', cur', 3, ?_, ?_, r3, fun j hj => ?_⟩
                        · rcases List.mem_cons.1 hx with rfl | hx
                          · exact hin _ (by omega) (by omega)
                          · exact q2.2 x hx
                        · rw [r1, List.length_cons, Nat.add_comm]
                        · rw [List.length_cons]; omega
                        · have hj' : j < 1 + t.length := by rw [List.length_cons] at hj; omega
                          have := congrArg (fun l => l[j]?) r7
                          simp only [Nat.mul_one, List.getElem?_take, hj', if_true, Array.getElem?_toList] at this
                          rw [this]
                          cases j with
                          | zero => rfl
                          | succ j =>
                            rw [List.length_cons] at hj
                            have hj2 : j < t.length := by omega
                            simp [hj2]
                    have hno : D 6 = false := by
                      cases h : D 6 with
                      | false => rfl
                      | true => have := (h6 h).1; rw [hDj] at this; cases this
                    refine hK _ _ ⟨hE9, _, _, _, _, _, _, _, ?_, ?_, ?_, fun _ h => ?_, fun _ => rfl, fun _ => hHI, fun h => ?_, rfl⟩
                    · simpa using h0
                    · simpa using h1
                    · simpa using h2
                    · simp at h
                    · simp [hno] at h
                · simp only [List.size_toArray, List.mem_toArray, List.mem_cons, List.not_mem_nil, or_false, forall_eq_or_imp, forall_eq] at hed
                  have hD5 := hed.2.2.1 rfl
                  obtain rfl := h0 (hed.1 rfl)
                  obtain rfl := h1 (hed.2.1 rfl)
                  obtain ⟨b, hb1, hb2⟩ := h5 hD5
                  obtain ⟨_, _, cap, cur, et, rfl, _⟩ := id hb2
                  refine wpk fun K hK => ?_
                  go_simp
                  refine (orders_in n la _ ll lc _ _ w8).mono ?_
                  rintro e w9 ⟨rfl, rfl⟩
                  have he1 := Ext.alloc w8 (.cells #[.int .i64 n] 3)
                  have he2' := Ext.alloc (w8.alloc (.cells #[.int .i64 n] 3)) (.cells #[.slice la ll lc] 26)
                  have he3 := Ext.alloc ((w8.alloc (.cells #[.int .i64 n] 3)).alloc (.cells #[.slice la ll lc] 26)) (.cells #[.slice (some ⟨b, 0, none⟩) (t.length + 1) cap] 25)
                  have hee := (he1.trans he2').trans he3
                  refine hK _ _ ⟨hE.trans hee, _, _, _, _, _, _, _, ?_, ?_, ?_, fun h h' => ?_, ?_, ?_, fun _ => ⟨by simp [hD5], w8.heap.size, by have := hE.size; omega, rfl, ?_, ?_, ?_⟩, rfl⟩
                  · simpa using h0
                  · simpa using h1
                  · simpa using h2
                  · simp [hD5] at h'
                  · simpa using h4
                  · simpa using h5k _ hee
                  · exact cellK (cell_new w8 _ 3) (Kx.of_ext (X := fun _ => False) (he2'.trans he3)) id
                  · have := cell_new (w8.alloc (.cells #[.int .i64 n] 3)) (.slice la ll lc) 26
                    rw [World.size_alloc] at this
                    exact cellK this (Kx.of_ext (X := fun _ => False) he3) id
                  · have := cell_new ((w8.alloc (.cells #[.int .i64 n] 3)).alloc (.cells #[.slice la ll lc] 26)) (.slice (some ⟨b, 0, none⟩) (t.length + 1) cap) 25
                    rw [World.size_alloc, World.size_alloc] at this
                    exact this
              case fin =>
                rintro D a w8 hall ⟨hE, y25, y26, y27, y28, y29, y30, y31, h0, h1, h2, h3, h4, h5, h6, rfl⟩
                obtain ⟨b, hb1, hb2⟩ := h5 (hall 5 (by decide))
                obtain ⟨_, s, hs1, rfl, hs2, hs3, hs4⟩ := h6 (hall 6 (by decide))
                clear h0 h1 h2 h3 h4 h5 h6 hall
                have kE := kw2.trans (Kx.of_ext hE)
                have hct : isB n ((i : Int) :: t) := ⟨List.nodup_cons.2 ⟨hmem, ht.1⟩, fun c hc => by
                  rcases List.mem_cons.1 hc with rfl | hc
                  · omega
                  · exact ht.2 c hc⟩
                have hsW : W.heap.size ≤ B8 := by rw [← hB8]; exact kw2.size
                have hs8 : B8 ≤ w8.heap.size := by rw [← hB8]; exact hE.size
                have hXs : ∀ c, W.heap.size ≤ c → ¬ X c := fun c hc h => by have := hX c h; omega
                have kw8 : Kx X W w8 := kE
                have hm8 : MarksOK W.heap.size Ds w8 := (hm.ext he2).ext hE
                have hDlt : ∀ D ∈ Ds, D < w8.heap.size := fun D hD => (Array.getElem?_eq_some_iff.1 (hm8.2 D hD).2).1
                have cy8 := cellK cy2 (Kx.of_ext (X := X) hE) xy
                have hJ8 := hJ _ _ _ (.of_ext (he2.trans hE)) hJi
                have hc28 : ∀ w9, Ext w8 w9 → w9.cell? ⟨s, 0, none⟩ = some (.int .i64 n) ∧ w9.cell? ⟨s + 1, 0, none⟩ = some (.slice la ll lc) ∧ w9.cell? ⟨s + 2, 0, none⟩ = some y30 := fun w9 he =>
                  ⟨cellK hs2 (Kx.of_ext (X := fun _ => False) he) id, cellK hs3 (Kx.of_ext (X := fun _ => False) he) id, cellK hs4 (Kx.of_ext (X := fun _ => False) he) id⟩
                gi_wp2
                refine wpIn_wide.2 (range_all (gf := 45) (lb := #[.pointer (some ⟨s, 0, none⟩), .pointer (some ⟨s + 1, 0, none⟩), .pointer (some ⟨s + 2, 0, none⟩)]) (X := X) (Lo := Lo) rfl enters28 (fun c hc => by have := hX c hc; omega) (xs := ordersT n.toNat C k ((i : Int) :: t)) ?hseq
                  (fun pre W' => J ((((cands n.toNat).take i).flatMap fun c => if c ∈ t then [] else ordersT n.toNat C k (c :: t)) ++ pre) W' ∧ Kx X W W' ∧ MarksOK W.heap.size Ds W' ∧ W'.cell? ⟨W.heap.size, 0, none⟩ = some (.func (.yield lr) #[] #[])) ?hI ⟨by rw [List.append_nil]; exact hJ8, kw8, hm8, cy8⟩ ?hround ?hdone)
                case hseq =>
                  intro l2 J2 W2 hE2 hJ2 h02 hY2
                  have k28 := kw8.trans (Kx.of_ext hE2)
                  obtain ⟨g1, g2, g3⟩ := hc28 W2 hE2
                  exact ih ((i : Int) :: t) hct (by simp) (by rw [List.length_cons]; omega) l2 Lo s (s + 1) (s + 2) b y30 J2 W2 (hl.keep k28 hFX) g1 g2 g3 (hb2.keep (Kx.of_ext (X := fun _ => False) hE2) id) (hXs _ (by omega)) (hXs _ (by omega)) (hXs _ (by omega)) (hXs _ (by omega)) (by omega) (by have := hE2.size; omega) (fun c hc => by have := hX c hc; have := hE2.size; omega) hJ2 h02 hY2
                case hI =>
                  rintro pre W1 W2 hr ⟨i1, i2, i3, i4⟩
                  refine ⟨hJ _ _ _ (hr.le (by omega)) i1, ⟨hr.os.trans i2.os, hr.tape.trans i2.tape, hr.output.trans i2.output, Nat.le_trans i2.size hr.size, fun c hc hx => (hr.block c (Nat.lt_of_lt_of_le hc i2.size) (.inl (by omega))).trans (i2.block c hc hx)⟩, ⟨i3.1, fun D hD => ⟨(i3.2 D hD).1, (hr.block D (Array.getElem?_eq_some_iff.1 (i3.2 D hD).2).1 (.inl (hDlt D hD))).trans (i3.2 D hD).2⟩⟩, ?_⟩
                  have hlt1 := cell_lt i4
                  have hbx : W.heap.size < w8.heap.size := cell_lt cy8
                  exact (World.cell?_of_block (w := W1) (a := ⟨W.heap.size, 0, none⟩) (hr.block _ hlt1 (.inl hbx))).trans i4
                case hround =>
                  rintro l2 pre x v b' W' hl1 hl2 hkw' - hHI hxb hlb
                  refine ⟨{ tmps := #[.func (.yield lr) #[] #[], .pointer (some ⟨Bn, 0, none⟩), .pointer (some ⟨Bl, 0, none⟩), .pointer (some ⟨Bt, 0, none⟩), .pointer (some ⟨W.heap.size, 0, none⟩), .int .i64 (i : Int), v, x7, x8, x9, x10, x11, x12, x13, x14, x15, x16, x17, .int .i64 n, .int .i64 (i : Int), .bool true, .int .i64 (i : Int), .slice (some ⟨tb, 0, none⟩) t.length tc, .int .i64 (i : Int), .bool false, y25, y26, y27, y28, y29, y30, .func (.func 45) #[] #[.pointer (some ⟨s, 0, none⟩), .pointer (some ⟨s + 1, 0, none⟩), .pointer (some ⟨s + 2, 0, none⟩)], v, x33, x34, x35, x36, x37], defers := [] }, ?_, ?_⟩
                  · gi_wp2
                    first | exact ⟨rfl, rfl⟩ | simp
                  · rintro Wb hrb hkb ⟨i1, i2, i3, i4⟩ hHb
                    obtain ⟨fn, tmps, assign, body, hy, hR⟩ := hY _ x v b' Wb i2 i1 hHb hxb hlb
                    gi_wp2_with ((try refine ⟨fd, ?_⟩); refine (show RoundIn (Fence.wide.inRound l2) _ _ _ _ _ _ _ _ _ from hR).mono ?_; clear hR; rintro e W3 ⟨rfl, hJ3, hk3⟩)
                    exact ⟨by rw [← List.append_assoc]; exact hJ3, i2.trans hk3, ⟨i3.1, fun D hD => ⟨(i3.2 D hD).1, (hk3.block D (Array.getElem?_eq_some_iff.1 (i3.2 D hD).2).1 (hXs D (i3.2 D hD).1)).trans (i3.2 D hD).2⟩⟩, cellK i4 hk3 xy⟩
                case hdone =>
                  rintro W' ⟨i1, i2, i3, i4⟩ hkw' hD
                  gi_wp2
                  refine ⟨n.toNat - (i + 1), by omega, i + 1, w8.heap.size :: Ds, rfl, by omega, ⟨List.nodup_cons.2 ⟨fun h => by have := hDlt _ h; omega, i3.1⟩, fun D hD' => ?_⟩, ?_, i2, i4, Fr28.mk⟩
                  · rcases List.mem_cons.1 hD' with rfl | hD'
                    · exact ⟨by omega, hD⟩
                    · exact i3.2 D hD'
                  · rw [htake, List.flatMap_append, List.flatMap_cons, if_neg hmem]
                    simp only [List.flatMap_nil, List.append_nil]
                    exact i1
          · obtain rfl : i = n.toNat := by omega
            have hge' : ¬ ((n.toNat : Nat) : Int) < n := by omega
            gi_wp2
            refine leaves_marks (v := .tuple #[]) (fun w => results_none rfl _ _ _) Ds w hm fun w' hw => ⟨⟨_, rfl⟩, ?_, ⟨hw.os.trans hkw.os, hw.tape.trans hkw.tape, hw.output.trans hkw.output, Nat.le_trans hkw.size hw.size, fun b hb hx => (hw.block b (Nat.lt_of_lt_of_le hb hkw.size) (.inl hb)).trans (hkw.block b hb hx)⟩⟩
            have : ordersT n.toNat C (k + 1) t = (cands n.toNat).flatMap fun c => if c ∈ t then [] else ordersT n.toNat C k (c :: t) := by rw [ordersT_succ, if_neg hCt, if_neg (by omega)]
            rw [this]
            rw [List.take_of_length_le (by simp [cands])] at hJi
            exact hJ _ _ _ hw hJi
end Go.Proofs.YthlgoakkgmabaaaGreat
