/- The arguments of a law read as typed values; what a law's proof needs at its ends. -/
import Derived.Test.YthemaffjohmhnaaX33
import Derived.Carry
import Derived.SizedLaws
import Derived.DataShut
set_option linter.unusedSimpArgs false
set_option linter.unusedVariables false
namespace Go.X
open Go Go.RowKit Go.ChangeShapes
/- WHAT A TYPE OF THE PROGRAM IS -/
def fitsL (fit : TypeId → Ty → Bool) (cells : TypeId → Nat) : Nat → List Field → Ty → Bool
  | _, [], _ => false
  | o, [f], u => decide (f.offset = o) && decide (cells f.type = u.size) && fit f.type u
  | o, f :: g :: fs, .pair a b => decide (f.offset = o) && decide (cells f.type = a.size) && fit f.type a && fitsL fit cells (o + a.size) (g :: fs) b
  | _, _ :: _ :: _, _ => false
def fitsS (fit : TypeId → Ty → Bool) (cells : TypeId → Nat) : List Field → Ty → Bool
  | [], _ => false
  | [f], u => match u with
    | .pair a .unit => decide (f.offset = 0) && decide (cells f.type = a.size) && fit f.type a
    | _ => false
  | f :: g :: fs, u => fitsL fit cells 0 (f :: g :: fs) u
def fits (P : Program) : Nat → TypeId → Ty → Bool
  | 0, _, _ => false
  | n + 1, t, u => match P.underlying t with
    | some (.int k) => match u with | .int k' => decide (k = k') | _ => false
    | some .bool => match u with | .bool => true | _ => false
    | some .string => match u with | .str => true | _ => false
    | some (.slice e) => match u with | .slice s => decide (P.cellsOf e = s.size) && (decide (0 < s.size) && (decide (1 ≤ P.bytesOf e) && fits P n e s)) | _ => false
    | some (.array m e) => match u with | .arr m' s => decide (m = m') && (decide (P.cellsOf e = s.size) && (decide (P.cellsOf t = u.size) && fits P n e s)) | _ => false
    | some (.struct fs) => decide (P.cellsOf t = u.size) && fitsS (fits P n) P.cellsOf fs.toList u
    | _ => false
/-- The state in which a law is called: all old memory is shared for ever. -/
def S0 (w : World) : St := ⟨w, fun b => b < w.heap.size, fun _ => False, fun _ => none, fun _ => .nilIface⟩
theorem S0_WF (w : World) : (S0 w).WF := ⟨fun _ h => ⟨rfl, h⟩, fun _ h => h.elim, fun _ _ h => by cases h⟩
theorem mapM_all {α β : Type} {f : α → Option β} : ∀ {l : List α} {r : List β}, l.mapM f = some r → ∀ x ∈ l, ∃ y, f x = some y
  | [], _, _, x, hx => by cases hx
  | a :: l, r, h, x, hx => by
    simp only [List.mapM_cons, Option.bind_eq_bind, Option.pure_def] at h
    cases ha : f a with
    | none => simp [ha] at h
    | some b =>
      cases hl : l.mapM f with
      | none => simp [ha, hl] at h
      | some rest =>
        rcases List.mem_cons.1 hx with rfl | hx
        · exact ⟨b, ha⟩
        · exact mapM_all hl x hx
theorem mapM_each {H : Type} {P : Program} {α : Type} {f : α → Option (DataW H × List MemPlace)} {g : α → TypeId} : ∀ {l : List α} {r : List (DataW H × List MemPlace)}, l.mapM f = some r → (∀ n ∈ DataW.weightsEach P (l.map g) (r.map (·.1)), n ≤ reachBytes) →
    ∀ x ∈ l, ∃ y, f x = some y ∧ ∀ n ∈ y.1.weights P (g x), n ≤ reachBytes
  | [], _, _, _, x, hx => by cases hx
  | a :: l, r, h, hw, x, hx => by
    simp only [List.mapM_cons, Option.bind_eq_bind, Option.pure_def] at h
    cases ha : f a with
    | none => simp [ha] at h
    | some b =>
      cases hl : l.mapM f with
      | none => simp [ha, hl] at h
      | some rest =>
        simp [ha, hl] at h
        subst h
        simp only [List.map_cons, DataW.weightsEach, List.mem_append] at hw
        rcases List.mem_cons.1 hx with rfl | hx
        · exact ⟨b, ha, fun n hn => hw n (.inl hn)⟩
        · exact mapM_each hl (fun n hn => hw n (.inr hn)) x hx
theorem mapM_alls {H : Type} {P : Program} {α : Type} {f : α → Option (DataW H × List MemPlace)} {e : TypeId} : ∀ {l : List α} {r : List (DataW H × List MemPlace)}, l.mapM f = some r → (∀ n ∈ DataW.weightsAll P e (r.map (·.1)), n ≤ reachBytes) →
    ∀ x ∈ l, ∃ y, f x = some y ∧ ∀ n ∈ y.1.weights P e, n ≤ reachBytes
  | [], _, _, _, x, hx => by cases hx
  | a :: l, r, h, hw, x, hx => by
    simp only [List.mapM_cons, Option.bind_eq_bind, Option.pure_def] at h
    cases ha : f a with
    | none => simp [ha] at h
    | some b =>
      cases hl : l.mapM f with
      | none => simp [ha, hl] at h
      | some rest =>
        simp [ha, hl] at h
        subst h
        simp only [List.map_cons, DataW.weightsAll, List.mem_append] at hw
        rcases List.mem_cons.1 hx with rfl | hx
        · exact ⟨b, ha, fun n hn => hw n (.inl hn)⟩
        · exact mapM_alls hl (fun n hn => hw n (.inr hn)) x hx
theorem wrap_of_wf {k : IntKind} {n : Int} (h : (Lit.int k n).wf = true) : k.wrap n = n := by
  have := (Lit.wf_int_iff k n).1 h
  exact wrap_of_bounds k this.1 this.2
section
variable {H : Type} {enc : TypeId × Value → H} {P : Program} {w : World} {sp : Nat → Bool} {held : Bool}
theorem sub_get (cs : List Value) (o n i : Nat) (h : i < n) : ((cs.drop o).take n)[i]? = cs[o + i]? := by
  rw [List.getElem?_take_of_lt h, List.getElem?_drop]
theorem trod_rel (hsp : ∀ b, sp b = true) : ∀ {n : Nat} {t : TypeId} {u : Ty}, fits P n t u = true → ∀ {fuel : Nat} {cs : List Value} {y : DataW H × List MemPlace}, DataW.trod enc P w 0 sp held fuel t cs = some y → cs.length = u.size → (∀ n ∈ y.1.weights P t, n ≤ reachBytes) → ∃ x : u.den, ∀ p, Rel P u (S0 w) .sh p x (fun i => cs[i]?) := by
  intro n
  induction n with
  | zero => intro t u h; cases h
  | succ n ih =>
    intro t u hf fuel cs y hy hlen hw
    have hL : ∀ (fuel : Nat) (fs : List Field) (v : Ty) (o : Nat), fitsL (fits P n) P.cellsOf o fs v = true → (∀ f ∈ fs, ∃ y, DataW.trod enc P w 0 sp held fuel f.type ((cs.drop f.offset).take (P.cellsOf f.type)) = some y ∧ ∀ n ∈ y.1.weights P f.type, n ≤ reachBytes) → o + v.size ≤ cs.length → ∃ x : v.den, ∀ p, Rel P v (S0 w) .sh p x (fun i => cs[o + i]?) := by
      intro fuel fs
      induction fs with
      | nil => intro v o h; cases h
      | cons f fs ihf =>
        intro v o h hall hle
        cases fs with
        | nil =>
          simp only [fitsL, Bool.and_eq_true, decide_eq_true_eq] at h
          obtain ⟨y, hy, hyw⟩ := hall f (by simp)
          rw [h.1.1, h.1.2] at hy
          obtain ⟨x, hx⟩ := ih h.2 hy (by simp; omega) hyw
          exact ⟨x, fun p => (hx p).cong fun i hi => by rw [sub_get _ _ _ _ hi]⟩
        | cons g fs =>
          cases v with
          | pair a b =>
            simp only [fitsL, Bool.and_eq_true, decide_eq_true_eq] at h
            simp only [Ty.size] at hle
            obtain ⟨y, hy, hyw⟩ := hall f (by simp)
            rw [h.1.1.1, h.1.1.2] at hy
            obtain ⟨x, hx⟩ := ih h.1.2 hy (by simp; omega) hyw
            obtain ⟨z, hz⟩ := ihf b (o + a.size) h.2 (fun f' hf' => hall f' (List.mem_cons_of_mem _ hf')) (by omega)
            exact ⟨(x, z), fun p => ⟨(hx _).cong fun i hi => by rw [sub_get _ _ _ _ hi], (hz _).cong fun i _ => by rw [Nat.add_assoc]⟩⟩
          | _ => simp [fitsL] at h
    cases fuel with
    | zero => simp [DataW.trod] at hy
    | succ fuel =>
      unfold fits at hf
      unfold DataW.trod at hy
      have one : cs.length = 1 → ∃ v, cs = [v] := fun h1 => by
        match cs, h1 with
        | [c], _ => exact ⟨c, rfl⟩
      split at hf
      · rename_i k hu
        cases u <;> try (simp at hf; done)
        have := of_decide_eq_true hf
        subst this
        obtain ⟨v, rfl⟩ := one hlen
        cases v <;> try (simp [hu] at hy; done)
        rename_i k' m
        simp only [hu] at hy
        split at hy
        case isFalse => cases hy
        rename_i hc
        obtain ⟨rfl, hw⟩ := hc
        refine ⟨m, fun p => ⟨rfl, ?_⟩⟩
        exact wrap_of_wf hw
      · rename_i hu
        cases u <;> try (simp at hf; done)
        obtain ⟨v, rfl⟩ := one hlen
        cases v <;> try (simp [hu] at hy; done)
        exact ⟨_, fun p => rfl⟩
      · rename_i hu
        cases u <;> try (simp at hf; done)
        obtain ⟨v, rfl⟩ := one hlen
        cases v <;> try (simp [hu] at hy; done)
        rename_i s
        simp only [hu] at hy
        split at hy
        case isFalse => cases hy
        rename_i hs
        cases hy
        refine ⟨s.data.toList.map fun c => (c.toNat : Int), fun p => ⟨s, rfl, rfl, ?_⟩⟩
        have := hw s.data.toList.length (by simp [DataW.weights])
        rw [List.length_map]
        unfold maxL
        unfold reachBytes at this
        omega
      · rename_i e hu
        cases u <;> try (simp at hf; done)
        rename_i s
        simp only [Bool.and_eq_true, decide_eq_true_eq] at hf
        obtain ⟨h1, h2, hby, h4⟩ := hf
        obtain ⟨v, rfl⟩ := one hlen
        cases v <;> try (simp [hu] at hy; done)
        rename_i a len cap
        cases a with
        | none =>
          have : len = 0 ∧ cap = 0 := by
            match len, cap with
            | 0, 0 => exact ⟨rfl, rfl⟩
            | 0, c + 1 => simp [hu] at hy
            | l + 1, c => simp [hu] at hy
          obtain ⟨rfl, rfl⟩ := this
          exact ⟨[], fun p => ⟨Nat.zero_le _, h2, none, 0, 0, rfl, rfl, Nat.le_refl _, .inl ⟨rfl, rfl⟩⟩⟩
        | some a =>
          simp only [hu] at hy
          split at hy
          case isFalse => cases hy
          rename_i hc
          obtain ⟨_, hlc, hcm⟩ := hc
          simp only [Option.bind_eq_some_iff, Option.map_eq_some_iff] at hy
          obtain ⟨elems, hel, rest, hrest, rfl⟩ := hy
          simp only [DataW.weights, hu, List.mem_cons, List.mem_append] at hw
          have hcap := hw _ (.inl rfl)
          have helw : ∀ n ∈ DataW.weightsAll P e (elems.map (·.1)), n ≤ reachBytes := fun n hn => hw n (.inr (.inl hn))
          have hell : elems.length = len := by simpa using mapM_some_length hel
          have hlen48 : len ≤ reachBytes := by
            simp only [List.length_map, hell] at hcap
            have : (len + rest.length) * 1 ≤ (len + rest.length) * P.bytesOf e := Nat.mul_le_mul_left _ hby
            omega
          rcases Nat.eq_zero_or_pos cap with hc0 | hc0
          · have hl0 : len = 0 := by omega
            subst hl0
            exact ⟨[], fun p => ⟨Nat.zero_le _, h2, some a, 0, cap, rfl, rfl, Nat.zero_le _, .inl ⟨rfl, hc0⟩⟩⟩
          have hspot : a.spot = none := by
            have read : ∀ (z : Nat) (y : DataW H × List MemPlace), z = 0 → (w.cells? 0 (a.add (z * P.cellsOf e)) (P.cellsOf e)).bind (DataW.trod enc P w 0 sp held fuel e) = some y → a.spot = none := fun z y hz hy => by
              subst hz
              simp only [Option.bind_eq_some_iff] at hy
              obtain ⟨cs', hcs, _⟩ := hy
              obtain ⟨_, hl, hget⟩ := World.cells?_some hcs
              have h0 := hget 0 (by omega)
              have ha0 : (a.add (0 * P.cellsOf e)).add 0 = a := by rw [Nat.zero_mul]; rfl
              rw [ha0] at h0
              have hsome : (w.cell? a).isSome = true := by rw [h0]; simp [hl, h1, h2]
              unfold World.cell? at hsome
              cases hs : a.spot with
              | none => rfl
              | some x => rw [hs] at hsome; split at hsome <;> simp at hsome
            rcases Nat.eq_zero_or_pos len with hl0 | hl0
            · rw [if_pos (hsp _)] at hrest
              obtain ⟨y, hy⟩ := mapM_all hrest 0 (by simp; omega)
              exact read _ y (by omega) hy
            · obtain ⟨y, hy⟩ := mapM_all hel 0 (by simp; omega)
              exact read _ y rfl hy
          obtain ⟨b, o, spot⟩ := a
          simp only at hspot
          subst hspot
          have hblk : ∀ i, i < len → b < w.heap.size := fun i hi => by
            obtain ⟨y, hy⟩ := mapM_all hel i (by simpa using hi)
            simp only [Option.bind_eq_some_iff] at hy
            obtain ⟨cs', hcs, _⟩ := hy
            obtain ⟨_, hl, hget⟩ := World.cells?_some hcs
            have h0 := hget 0 (by omega)
            rw [addr_add, addr_add] at h0
            have hsome : (w.cell? ⟨b, o + i * P.cellsOf e + 0, none⟩).isSome = true := by rw [h0]; simp [hl, h1, h2]
            unfold World.cell? at hsome
            rcases Nat.lt_or_ge b w.heap.size with h | h
            · exact h
            · simp [Array.getElem?_eq_none h] at hsome
          have each : ∀ i, i < len → ∃ x : s.den, ∀ p, Rel P s (S0 w) .sh p x (blk w b (o + i * s.size)) := fun i hi => by
            obtain ⟨y, hy, hyw⟩ := mapM_alls hel helw i (by simpa using hi)
            simp only [Option.bind_eq_some_iff] at hy
            obtain ⟨cs', hcs, hy⟩ := hy
            obtain ⟨_, hl, hget⟩ := World.cells?_some hcs
            rw [h1] at hl hget
            obtain ⟨x, hx⟩ := ih h4 hy hl hyw
            refine ⟨x, fun p => (hx p).cong fun j hj => ?_⟩
            rw [← hget j hj, addr_add, addr_add]
            rfl
          let xs : List s.den := (List.range len).map fun i => if h : i < len then Classical.choose (each i h) else s.dflt
          have hxl : xs.length = len := by simp [xs]
          refine ⟨xs, fun p => ⟨?_, h2, some ⟨b, o, none⟩, len, cap, rfl, hxl.symm, hlc, .inr ⟨b, o, rfl, fun hne => ?_, fun i hi => ?_⟩⟩⟩
          · rw [hxl]; unfold maxL; unfold reachBytes at hlen48; omega
          · have : 0 < len := by rw [← hxl]; exact List.length_pos_iff.2 hne
            exact .inl (hblk 0 this)
          · have hi' : i < len := by omega
            have : xs[i] = Classical.choose (each i hi') := by simp [xs, hi']
            rw [this]
            exact Classical.choose_spec (each i hi') _
      · rename_i m e hu
        cases u <;> try (simp at hf; done)
        rename_i m' s
        simp only [Bool.and_eq_true, decide_eq_true_eq] at hf
        obtain ⟨rfl, h1, h2, h3⟩ := hf
        simp only [hu] at hy
        split at hy
        case isFalse => cases hy
        simp only [Option.map_eq_some_iff] at hy
        obtain ⟨xs, hxs, rfl⟩ := hy
        simp only [DataW.weights, hu] at hw
        simp only [Ty.size] at hlen
        have each : ∀ i, i < m → ∃ x : s.den, ∀ p, Rel P s (S0 w) .sh p x (fun j => cs[i * s.size + j]?) := fun i hi => by
          obtain ⟨y, hy, hyw⟩ := mapM_alls hxs hw i (by simpa using hi)
          rw [h1] at hy
          have hbnd : (i + 1) * s.size ≤ m * s.size := Nat.mul_le_mul_right _ hi
          rw [Nat.add_mul] at hbnd
          obtain ⟨x, hx⟩ := ih h3 hy (by simp; omega) hyw
          exact ⟨x, fun p => (hx p).cong fun j hj => by rw [sub_get _ _ _ _ hj]⟩
        let zs : List s.den := (List.range m).map fun i => if h : i < m then Classical.choose (each i h) else s.dflt
        have hzl : zs.length = m := by simp [zs]
        refine ⟨zs, fun p => ⟨hzl, fun i hi => ?_⟩⟩
        have hi' : i < m := by omega
        have : zs[i] = Classical.choose (each i hi') := by simp [zs, hi']
        rw [this]
        exact Classical.choose_spec (each i hi') _
      · rename_i fs hu
        simp only [Bool.and_eq_true, decide_eq_true_eq] at hf
        simp only [hu] at hy
        split at hy
        case isFalse => cases hy
        simp only [Option.map_eq_some_iff] at hy
        obtain ⟨xs, hxs, rfl⟩ := hy
        simp only [DataW.weights, hu] at hw
        have hall := fun f hf => mapM_each (g := fun f => f.type) hxs hw f hf
        obtain ⟨hsz0, hfS⟩ := hf
        clear hsz0
        generalize fs.toList = l at *
        cases l with
        | nil => simp [fitsS] at hfS
        | cons f l =>
          cases l with
          | nil =>
            obtain ⟨a, rfl⟩ : ∃ a, u = .pair a .unit := by
              cases u <;> try (simp [fitsS] at hfS; done)
              rename_i a b
              cases b <;> first | (simp [fitsS] at hfS; done) | exact ⟨a, rfl⟩
            simp only [fitsS, Bool.and_eq_true, decide_eq_true_eq] at hfS
            obtain ⟨y, hy, hyw⟩ := hall f (by simp)
            rw [hfS.1.1, hfS.1.2] at hy
            simp only [Ty.size] at hlen
            obtain ⟨x, hx⟩ := ih hfS.2 hy (by simp; omega) hyw
            exact ⟨(x, ()), fun p => ⟨(hx _).cong fun i hi => by rw [sub_get _ _ _ _ hi, Nat.zero_add], trivial⟩⟩
          | cons g l =>
            obtain ⟨x, hx⟩ := hL fuel _ u 0 hfS hall (by omega)
            exact ⟨x, fun p => (hx p).cong fun i _ => by rw [Nat.zero_add]⟩
      · cases hf
end
end Go.X
