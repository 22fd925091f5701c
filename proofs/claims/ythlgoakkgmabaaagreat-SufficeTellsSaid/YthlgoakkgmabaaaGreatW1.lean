/- A range over a function that yields lists of integers, all of them; what it leaves. -/
import Derived.Test.YthlgoakkgmabaaaGreatW0
import Derived.RangeFuncBox
import Derived.RangeFuncLeaves
import Derived.RangeFuncNested
import Derived.Shelf.Abstract
import Derived.WalkKit
import Derived.OwnWalkIn
import Derived.TacticsInMore
import Derived.LoopNIn
import Derived.LoopIn
set_option linter.unusedSimpArgs false
set_option linter.unusedVariables false
namespace Go.X
open Go Go.RowKit
/-- All blocks lie as they lay, but those of X. -/
structure Kx (X : Nat → Prop) (w w' : World) : Prop where
  os : w'.os = w.os
  tape : w'.tape = w.tape
  output : w'.output = w.output
  size : w.heap.size ≤ w'.heap.size
  block : ∀ b, b < w.heap.size → ¬ X b → w'.heap[b]? = w.heap[b]?
theorem Kx.refl (X : Nat → Prop) (w : World) : Kx X w w := ⟨rfl, rfl, rfl, Nat.le_refl _, fun _ _ _ => rfl⟩
theorem Kx.trans {X : Nat → Prop} {a b c : World} (h : Kx X a b) (k : Kx X b c) : Kx X a c :=
  ⟨k.os.trans h.os, k.tape.trans h.tape, k.output.trans h.output, Nat.le_trans h.size k.size, fun i hi hx => (k.block i (Nat.lt_of_lt_of_le hi h.size) hx).trans (h.block i hi hx)⟩
theorem Kx.of_ext {X : Nat → Prop} {w w' : World} (h : Ext w w') : Kx X w w' := ⟨h.os, h.tape, h.output, h.size, fun b hb _ => h.block b hb⟩
theorem Kx.drew {X : Nat → Prop} (w : World) : Kx X w w.drew := ⟨rfl, rfl, rfl, Nat.le_refl _, fun _ _ _ => rfl⟩
theorem Kx.alloc {X : Nat → Prop} (w : World) (o : Obj) : Kx X w (w.alloc o) := .of_ext (.alloc w o)
/-- Blocks below B, and cells, lie as they lay. -/
structure Rl (B : Nat) (w w' : World) : Prop where
  os : w'.os = w.os
  tape : w'.tape = w.tape
  output : w'.output = w.output
  size : w.heap.size ≤ w'.heap.size
  block : ∀ b, b < w.heap.size → (b < B ∨ ∃ o, w.heap[b]? = some o ∧ o.isCells = true) → w'.heap[b]? = w.heap[b]?
theorem Rl.of_ext {B : Nat} {w w' : World} (h : Ext w w') : Rl B w w' := ⟨h.os, h.tape, h.output, h.size, fun b hb _ => h.block b hb⟩
theorem Rl.le {B B' : Nat} {w w' : World} (h : Rl B' w w') (hB : B ≤ B') : Rl B w w' := ⟨h.os, h.tape, h.output, h.size, fun b hb hx => h.block b hb (hx.imp (fun h => Nat.lt_of_lt_of_le h hB) id)⟩
theorem Rl.putObj {B : Nat} {w : World} {l : Nat} {o o' : Obj} (hl : B ≤ l) (h : w.heap[l]? = some o) (hc : o.isCells = false) : Rl B w (w.putObj l o') :=
  ⟨rfl, rfl, rfl, by simp, fun b hb hx => by
    refine World.putObj_heap_other ?_
    rintro rfl
    rcases hx with hx | ⟨u, h1, h2⟩
    · omega
    · rw [h] at h1; cases h1; rw [hc] at h2; cases h2⟩
/-- A slice value that holds these integers, from the beginning of block b on. -/
def HI (w : World) (v : Value) (xs : List Int) (b : Nat) : Prop :=
  xs ≠ [] ∧ (xs.length ≤ 1000 ∧ ∀ x ∈ xs, IntKind.i64.wrap x = x) ∧ ∃ cap cur e, v = .slice (some ⟨b, 0, none⟩) xs.length cap ∧ xs.length ≤ cap ∧ w.heap[b]? = some (.cells cur e (0, 0)) ∧ ∀ (i : Nat) (h : i < xs.length), cur[i]? = some (.int .i64 xs[i])
theorem HI.lt {w : World} {v : Value} {xs : List Int} {b : Nat} (h : HI w v xs b) : b < w.heap.size := by
  obtain ⟨_, _, cap, cur, e, _, _, h1, _⟩ := h
  exact (Array.getElem?_eq_some_iff.1 h1).1
theorem HI.same {w w' : World} {v : Value} {xs : List Int} {b : Nat} (h : HI w v xs b) (hb : w'.heap[b]? = w.heap[b]?) : HI w' v xs b := by
  obtain ⟨h1, h2, cap, cur, e, h3, h4, h5, h6⟩ := h
  exact ⟨h1, h2, cap, cur, e, h3, h4, hb.trans h5, h6⟩
theorem HI.keep {X : Nat → Prop} {w w' : World} {v : Value} {xs : List Int} {b : Nat} (h : HI w v xs b) (hk : Kx X w w') (hx : ¬ X b) : HI w' v xs b := h.same (hk.block b h.lt hx)
theorem HI.cells {w : World} {v : Value} {xs : List Int} {b : Nat} (h : HI w v xs b) : ∃ o, w.heap[b]? = some o ∧ o.isCells = true := by
  obtain ⟨_, _, cap, cur, e, _, _, h1, _⟩ := h
  exact ⟨_, h1, rfl⟩
section
variable {P : Program}
/-- What an iterator that yields all of xs does, at whatever loop. -/
def SeqAll (P : Program) (X : Nat → Prop) (Lo : Nat) (gf : Nat) (lb : Array Value) (xs : List (List Int)) (w : World) : Prop :=
  ∀ (l : Nat) (J : List (List Int) → World → Prop) (W : World), Ext w W → (∀ pre W1 W2, Rl W.heap.size W1 W2 → J pre W1 → J pre W2) → J [] W →
    (∀ pre x v b W', Kx X W W' → J pre W' → HI W' v x b → ¬ X b → Lo ≤ b → YieldAt Fence.wide 0 P l #[v] W' fun e W'' => e = .returned (.bool true) ∧ J (pre ++ [x]) W'' ∧ Kx X W' W'') →
    Calls P gf (#[.func (.yield l) #[] #[]] ++ lb) W fun e W' => (∃ v, e = .returned v) ∧ J xs W' ∧ Kx X W W'
theorem range_all {g : Operand} {p : Tmp} {assign body : Code} {Q : Exit → Act → World → Prop} {a : Act} {w : World} {gf : Nat} {lb : Array Value} (hg : a.eval g = .func (.func gf) #[] lb) (eg : Enters P gf)
    {X : Nat → Prop} {Lo : Nat} (hX : ∀ b, X b → b < w.heap.size) {xs : List (List Int)} (hseq : SeqAll P X Lo gf lb xs w)
    (I : List (List Int) → World → Prop) (hI : ∀ pre W1 W2, Rl w.heap.size W1 W2 → I pre W1 → I pre W2) (h0 : I [] w)
    (hround : ∀ (l : Nat) pre x v b W', w.heap.size ≤ l → l < W'.heap.size → Kx X w W' → I pre W' → HI W' v x b → ¬ X b → Lo ≤ b →
      ∃ a1, assign.wpIn (Fence.wide.inRound l) 0 P (Exit.then (fun a' W'' => a' = a1 ∧ W'' = W') (fun _ _ _ => False)) { tmps := a.tmps.setIfInBounds p v, defers := [] } W' ∧
        ∀ Wb, Rl w.heap.size W' Wb → Kx X w Wb → I pre Wb → HI Wb v x b → body.wpIn (Fence.wide.inRound l) 0 P (fun e _ W3 => e = .normal ∧ I (pre ++ [x]) W3 ∧ Kx X Wb W3) a1 Wb)
    (hdone : ∀ W', I xs W' → Kx X w W' → W'.heap[w.heap.size]? = some (.deferred (some [])) → Q .normal { a with defers := { target := .collected w.heap.size, args := #[] } :: a.defers } W') :
    (Code.rangeFunc g #[p] assign body).wp P Q a w := by
  refine wpIn_wide.1 (wpIn_rangeFunc (n := 0) ?_)
  intro fn hfn
  obtain ⟨rec, hrec⟩ : ∃ rec : LoopState → Option Code → Loop, rec = fun st pe => { state := st, pending := pe, fn, tmps := a.tmps, params := #[p], assign, body, defers := w.heap.size } := ⟨_, rfl⟩
  obtain ⟨W1, hW1⟩ : ∃ W1, (w.alloc (.deferred (some []))).alloc (.loop (rec .ready none)) = W1 := ⟨_, rfl⟩
  have hE : Ext w W1 := by rw [← hW1]; exact (Ext.alloc w _).trans (Ext.alloc _ _)
  have hsz : W1.heap.size = w.heap.size + 2 := by rw [← hW1]; simp
  have hL1 : W1.heap[w.heap.size + 1]? = some (.loop (rec .ready none)) := by
    rw [← hW1]; have := World.alloc_heap_new (w.alloc (.deferred (some []))) (.loop (rec .ready none)); rwa [World.size_alloc] at this
  have hK1 : W1.heap[w.heap.size]? = some (.deferred (some [])) := by
    rw [← hW1]; exact ((Ext.alloc _ _).block _ (by simp)).trans (World.alloc_heap_new w _)
  have hI1 : I [] W1 := hI _ _ _ (.of_ext hE) h0
  refine ⟨w.heap.size + 1, [{ target := .collected w.heap.size, args := #[] }], W1, { target := .fn (.func gf) lb, args := #[.func (.yield (w.heap.size + 1)) #[] #[]] }, W1, gf,
    #[.func (.yield (w.heap.size + 1)) #[] #[]] ++ lb, W1, ?_, ?_, fun _ _ => trivial, ?_, fun h => (by cases h), ?_⟩
  · rw [← hW1, hrec]; exact run_enterLoop_outer _ _ _ _ _
  · simp only [resolve, hg]
    simp [go_sem]
  · have := eg (#[.func (.yield (w.heap.size + 1)) #[] #[]] ++ lb) W1
    simpa [invoke, go_sem] using this
  · refine callsIn_wide.2 ?_
    refine Calls.mono (hseq (w.heap.size + 1)
      (fun pre W => I pre W ∧ W.heap[w.heap.size + 1]? = some (.loop (rec .ready none)) ∧ W.heap[w.heap.size]? = some (.deferred (some [])))
      W1 hE (fun pre A B hr hs => ?_) ⟨hI1, hL1, hK1⟩ ?_) ?_
    · refine ⟨hI pre A B (hr.le (by omega)) hs.1, ?_, ?_⟩
      · rw [hr.block _ (Array.getElem?_eq_some_iff.1 hs.2.1).1 (.inl (by omega))]; exact hs.2.1
      · rw [hr.block _ (Array.getElem?_eq_some_iff.1 hs.2.2).1 (.inl (by omega))]; exact hs.2.2
    · -- ONE ROUND
      rintro pre x v b W hkw ⟨hi, hl, hk⟩ hv hb hlo
      have hlt : w.heap.size + 1 < W.heap.size := (Array.getElem?_eq_some_iff.1 hl).1
      have hkw0 : Kx X w W := (Kx.of_ext hE).trans hkw
      have hy := run_yield (P := P) (args := #[v]) hl (by rw [hrec]; rfl)
      rw [hrec] at hy
      obtain ⟨a1, hass, hbody⟩ := hround (w.heap.size + 1) pre x v b W (by omega) hlt hkw0 hi hv hb hlo
      refine ⟨fn, _, assign, body, hy, roundIn_of_wpIn hfn ?_⟩
      have e0 : Array.foldl (fun tmps (x : Tmp × Value) => tmps.setIfInBounds x.1 x.2) a.tmps (#[p].zip #[v]) = a.tmps.setIfInBounds p v := by simp
      refine wpIn_mono (Q := Exit.then (fun a' W'' => a' = a1 ∧ W'' = W) (fun _ _ _ => False)) ?_ ?_
      · simpa using hass
      · rintro e a' W'' hq
        cases e with
        | normal =>
          obtain ⟨rfl, rfl⟩ := hq
          refine ⟨_, run_beginRound hl (by rw [hrec]), ?_⟩
          obtain ⟨Wb, hWb⟩ : ∃ Wb, W''.putObj (w.heap.size + 1) (.loop { rec .ready none with state := .busy }) = Wb := ⟨_, rfl⟩
          rw [hWb]
          have hlb : Wb.heap[w.heap.size + 1]? = some (.loop { rec .ready none with state := .busy }) := by rw [← hWb]; exact World.putObj_heap_same hlt
          have hkb : Wb.heap[w.heap.size]? = some (.deferred (some [])) := by rw [← hWb]; exact (World.putObj_heap_other (by omega)).trans hk
          have hrb : Rl w.heap.size W'' Wb := by rw [← hWb]; exact Rl.putObj (by omega) hl rfl
          have hsb : Wb.heap.size = W''.heap.size := by rw [← hWb]; simp
          have hkxb : Kx X w Wb := ⟨hrb.os.trans hkw0.os, hrb.tape.trans hkw0.tape, hrb.output.trans hkw0.output, Nat.le_trans hkw0.size hrb.size, fun c hc hx => (hrb.block c (Nat.lt_of_lt_of_le hc hkw0.size) (.inl hc)).trans (hkw0.block c hc hx)⟩
          have hnl : ¬ X (w.heap.size + 1) := fun h => by have := hX _ h; omega
          refine wpIn_mono (hbody Wb hrb hkxb (hI _ _ _ hrb hi) (hv.same (hrb.block _ hv.lt (.inr hv.cells)))) ?_
          rintro e a3 W3 ⟨rfl, hi3, hk3⟩
          have hl3 : W3.heap[w.heap.size + 1]? = some (.loop { rec .ready none with state := .busy }) := (hk3.block _ (by omega) hnl).trans hlb
          have hd3 : W3.heap[w.heap.size]? = some (.deferred (some [])) := (hk3.block _ (by omega) (fun h => by have := hX _ h; omega)).trans hkb
          have hr := run_endRound (P := P) none hl3
          have hlt3 : w.heap.size + 1 < W3.heap.size := (Array.getElem?_eq_some_iff.1 hl3).1
          have hrec2 : ({ ({ rec .ready none with state := .busy } : Loop) with state := if (none : Option Code).isNone then .ready else .done, pending := none } : Loop) = rec .ready none := by rw [hrec]; rfl
          rw [hrec2] at hr
          refine ⟨_, _, hr, rfl, ⟨hI _ _ _ (Rl.putObj (by omega) hl3 rfl) hi3, World.putObj_heap_same hlt3, (World.putObj_heap_other (by omega)).trans hd3⟩, hk3.os.trans hrb.os, hk3.tape.trans hrb.tape, hk3.output.trans hrb.output, ?_, fun c hc hx => ?_⟩
          · simp only [World.putObj_size]; have := hk3.size; omega
          · by_cases hcl : c = w.heap.size + 1
            · subst hcl
              rw [World.putObj_heap_same hlt3, hl]
            · rw [World.putObj_heap_other hcl, hk3.block c (by omega) hx, ← hWb, World.putObj_heap_other hcl]
        | _ => exact hq.elim
    · rintro e W2 ⟨⟨v, rfl⟩, ⟨hi, hl, hk⟩, hkx⟩
      refine ⟨none, _, by have := run_endLoop (P := P) hl (by rw [hrec]; simp); rw [hrec] at this; exact this, ?_⟩
      have hr : Rl w.heap.size W2 (W2.putObj (w.heap.size + 1) (.loop { rec .ready none with state := .exhausted })) := Rl.putObj (by omega) hl rfl
      rw [hrec] at hr
      have hk0 := (Kx.of_ext (X := X) hE).trans hkx
      exact hdone _ (hI _ _ _ hr hi) ⟨hr.os.trans hk0.os, hr.tape.trans hk0.tape, hr.output.trans hk0.output, Nat.le_trans hk0.size hr.size, fun c hc hx => (hr.block c (Nat.lt_of_lt_of_le hc hk0.size) (.inl hc)).trans (hk0.block c hc hx)⟩
        ((World.putObj_heap_other (by omega)).trans hk)
end
end Go.X
