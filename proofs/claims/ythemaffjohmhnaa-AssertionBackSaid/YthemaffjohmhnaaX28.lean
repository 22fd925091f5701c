/- A region's operations in any order that its edges allow do what they do in the order of the text, where operations that meet at a slot are ordered by the edges. -/
import Derived.Test.YthemaffjohmhnaaX27
namespace Go.X
open Go Go.RowKit
/-- The operations that must come ahead of each. -/
def adj (s : List Nat) : List Nat → List Nat
  | [] => s
  | x :: r => bif s.contains x then adj s r else adj (x :: s) r
theorem adj_mem : ∀ (l s : List Nat) (i : Nat), i ∈ adj s l → i ∈ l ∨ i ∈ s
  | [], s, i, h => .inr h
  | x :: r, s, i, h => by
    unfold adj at h
    cases hc : s.contains x with
    | true =>
      rw [hc] at h
      exact (adj_mem r s i h).imp (List.mem_cons_of_mem _) fun h => h
    | false =>
      rw [hc] at h
      rcases adj_mem r (x :: s) i h with h1 | h1
      · exact .inl (List.mem_cons_of_mem _ h1)
      · rcases List.mem_cons.1 h1 with h2 | h2
        · exact .inl (by rw [h2]; exact List.mem_cons_self)
        · exact .inr h2
def ancStep (acc : List (List Nat)) (o : Oper) : List (List Nat) :=
  acc ++ [o.after.toList.foldl (fun s e => if Region.binds .any e then adj s (e.on :: acc.getD e.on []) else s) []]
def ancs (ops : List Oper) : List (List Nat) := ops.foldl ancStep []
def acyc (ops : List Oper) : Bool := ops.zipIdx.all fun (o, k) => o.after.all fun e => !Region.binds .any e || decide (e.on < k)
def meets (x y : List Nat × List Nat) : Bool := x.1.any (y.2.contains ·) || x.2.any (y.1.contains ·) || x.2.any (y.2.contains ·)
/-- Operations that meet at a slot are ordered. -/
def indep (an : List (List Nat)) (fs : List (List Nat × List Nat)) : Bool :=
  fs.zipIdx.all fun (y, k) => (fs.take k).zipIdx.all fun (x, i) => !meets x y || (an.getD k []).contains i
theorem foldl_after {acc : List (List Nat)} : ∀ (l : List Edge) (s : List Nat) (i : Nat), i ∈ l.foldl (fun s e => if Region.binds .any e then adj s (e.on :: acc.getD e.on []) else s) s → i ∈ s ∨ ∃ e ∈ l, Region.binds .any e = true ∧ (e.on = i ∨ i ∈ acc.getD e.on [])
  | [], s, i, h => .inl h
  | e :: l, s, i, h => by
    rcases foldl_after l _ i h with h1 | ⟨e', h1, h2⟩
    · by_cases hb : Region.binds .any e = true
      · dsimp only at h1
        rw [if_pos hb] at h1
        rcases adj_mem _ _ _ h1 with h1 | h1
        · rcases List.mem_cons.1 h1 with h1 | h1
          · exact .inr ⟨e, List.mem_cons_self, hb, .inl h1.symm⟩
          · exact .inr ⟨e, List.mem_cons_self, hb, .inr h1⟩
        · exact .inl h1
      · dsimp only at h1; rw [if_neg hb] at h1; exact .inl h1
    · exact .inr ⟨e', List.mem_cons_of_mem _ h1, h2⟩
theorem ancs_spec : ∀ (l : List Oper) (acc : List (List Nat)), (l.foldl ancStep acc).length = acc.length + l.length ∧ (∀ j, j < acc.length → (l.foldl ancStep acc).getD j [] = acc.getD j []) ∧
    ∀ (k : Nat) (o : Oper) (i : Nat), l[k]? = some o → i ∈ (l.foldl ancStep acc).getD (acc.length + k) [] → ∃ e ∈ o.after.toList, Region.binds .any e = true ∧ (e.on = i ∨ (i ∈ (l.foldl ancStep acc).getD e.on [] ∧ e.on < acc.length + k))
  | [], acc => ⟨rfl, fun _ _ => rfl, fun k o i h => by simp at h⟩
  | x :: l, acc => by
    have hl : (ancStep acc x).length = acc.length + 1 := by simp [ancStep]
    obtain ⟨h1, h2, h3⟩ := ancs_spec l (ancStep acc x)
    refine ⟨by simp only [List.foldl_cons]; rw [h1, hl, List.length_cons]; omega, fun j hj => ?_, fun k o i hk hi => ?_⟩
    · simp only [List.foldl_cons]
      rw [h2 j (by omega)]
      unfold ancStep
      rw [List.getD_eq_getElem?_getD, List.getElem?_append_left hj, ← List.getD_eq_getElem?_getD]
    · simp only [List.foldl_cons] at hi ⊢
      cases k with
      | zero =>
        simp at hk
        subst hk
        rw [h2 _ (by omega)] at hi
        have he : (ancStep acc x).getD (acc.length + 0) [] = x.after.toList.foldl (fun s e => if Region.binds .any e then adj s (e.on :: acc.getD e.on []) else s) [] := by
          simp [ancStep]
        rw [he] at hi
        rcases foldl_after _ _ _ hi with h4 | ⟨e, h4, h5, h6⟩
        · cases h4
        · refine ⟨e, h4, h5, h6.imp id fun h7 => ?_⟩
          have hlt : e.on < acc.length := by
            rcases Nat.lt_or_ge e.on acc.length with h' | h'
            · exact h'
            · rw [List.getD_eq_getElem?_getD, List.getElem?_eq_none h'] at h7; cases h7
          refine ⟨?_, by omega⟩
          rw [h2 _ (by omega)]
          unfold ancStep
          rw [List.getD_eq_getElem?_getD, List.getElem?_append_left hlt, ← List.getD_eq_getElem?_getD]
          exact h7
      | succ k =>
        obtain ⟨e, h4, h5, h6⟩ := h3 k o i (by simpa using hk) (by rw [hl]; rw [show acc.length + 1 + k = acc.length + (k + 1) from by omega]; exact hi)
        exact ⟨e, h4, h5, h6.imp id fun ⟨h7, h8⟩ => ⟨h7, by rw [hl] at h8; omega⟩⟩
section
variable (us : Nat → Ups)
def envAt (t : Nat) (L : List Nat) (p : Slot) : Slot := L.foldl (fun p k => updAt (us k) t p) p
def envL (L : List Nat) (σ : Env) : Env := L.foldl (fun σ k => upd (us k) σ) σ
def wr (k : Nat) : List Nat := (us k).map (·.1)
theorem envL_at (t : Nat) : ∀ (L : List Nat) (σ : Env), envL us L σ t = envAt us t L (σ t)
  | [], _ => rfl
  | k :: L, σ => by
    show envL us L (upd (us k) σ) t = envAt us t L (updAt (us k) t (σ t))
    rw [envL_at t L, upd_slot]
theorem envAt_filter (t : Nat) : ∀ (L : List Nat) (p : Slot), envAt us t L p = envAt us t (L.filter fun k => (wr us k).contains t) p
  | [], _ => rfl
  | k :: L, p => by
    show envAt us t L (updAt (us k) t p) = _
    rw [List.filter_cons]
    by_cases h : (wr us k).contains t = true
    · rw [if_pos h]; exact envAt_filter t L _
    · rw [if_neg h, updAt_other _ _ _ (by simpa [wr] using h)]; exact envAt_filter t L p
theorem envL_eq_of {L L' : List Nat} {σ : Env} {t : Nat} (h : (L.filter fun k => (wr us k).contains t) = L'.filter fun k => (wr us k).contains t) : envL us L σ t = envL us L' σ t := by
  rw [envL_at, envL_at, envAt_filter, envAt_filter us t L', h]
end
section
variable {P : Program} {T : Tab} {FT : List (TgE P)} {c : Ctx} {an : Nat → An} {ops : Array Oper} {us : Nat → Ups} {σ : Env}
/-- Those of the list, in the text's order. -/
def chosen (n : Nat) (listed : Array Bool) : List Nat := (List.range n).filter fun k => listed.getD k false
theorem chosen_filter_eq {n : Nat} {listed : Array Bool} {q : Nat → Bool} {i : Nat} (hi : i ≤ n) (h : ∀ k, k < n → q k = true → (listed.getD k false = true ↔ k < i)) :
    (chosen n listed).filter q = (List.range i).filter q := by
  unfold chosen
  rw [List.filter_filter]
  have h1 : (List.range n).filter (fun a => q a && listed.getD a false) = (List.range n).filter (fun a => q a && decide (a < i)) := by
    apply List.filter_congr
    intro k hk
    rw [List.mem_range] at hk
    cases hq : q k with
    | false => simp
    | true =>
      have := h k hk hq
      cases hl : listed.getD k false <;> simp [hl] at this ⊢ <;> omega
  rw [h1]
  have h2 : List.range n = List.range i ++ (List.range' i (n - i)) := by
    have := List.range'_append_1 (s := 0) (m := i) (n := n - i)
    rw [Nat.zero_add, Nat.add_sub_cancel' hi] at this
    rw [List.range_eq_range', List.range_eq_range']
    exact this.symm
  rw [h2, List.filter_append]
  have h3 : (List.range' i (n - i)).filter (fun a => q a && decide (a < i)) = [] := by
    rw [List.filter_eq_nil_iff]
    intro k hk
    rw [List.mem_range'_1] at hk
    simp; omega
  rw [h3, List.append_nil]
  apply List.filter_congr
  intro k hk
  rw [List.mem_range] at hk
  simp [hk]
/-- What each operation of the region does, in the text's order. -/
structure Text (P : Program) (T : Tab) (FT : List (TgE P)) (an : Nat → An) (N : Nat) (kp : Oper → Prop) (ops : Array Oper) (σ : Env) (us : Nat → Ups) (rd : Nat → List Nat) : Prop where
  ok : ∀ (k : Nat) (o : Oper), ops[k]? = some o → GOk P T FT (an k) ops o (envL us (List.range k) σ) (us k) ∧ (within N o = true ∧ kp o) ∧ reads (an k) ops o (envL us (List.range k) σ) = rd k
  acyc : ∀ (k : Nat) (o : Oper), ops[k]? = some o → ∀ e ∈ o.after, Region.binds .any e = true → e.on < k
  ind : ∀ (i k : Nat), i < k → k < ops.size → (∃ t, (t ∈ rd i ∧ t ∈ wr us k) ∨ (t ∈ wr us i ∧ t ∈ rd k) ∨ (t ∈ wr us i ∧ t ∈ wr us k)) → i ∈ (ancs ops.toList).getD k []
theorem anc_listed {listed : Array Bool} (hcl : ∀ (k : Nat) (o : Oper), ops[k]? = some o → listed.getD k false = true → ∀ e ∈ o.after, Region.binds .any e = true → listed.getD e.on false = true) :
    ∀ (k i : Nat) (o : Oper), ops[k]? = some o → i ∈ (ancs ops.toList).getD k [] → (∀ e ∈ o.after, Region.binds .any e = true → listed.getD e.on false = true) → listed.getD i false = true := by
  intro k
  induction k using Nat.strongRecOn with
  | _ k ih =>
    intro i o ho hi he
    obtain ⟨_, _, hspec⟩ := ancs_spec ops.toList []
    obtain ⟨e, h1, h2, h3⟩ := hspec k o i (by simpa using ho) (by rw [show ([] : List (List Nat)).length + k = k from by simp]; exact hi)
    have h1' : e ∈ o.after := by simpa using h1
    have hle := he e h1' h2
    rcases h3 with h3 | ⟨h3, h4⟩
    · rw [← h3]; exact hle
    · have hlt : e.on < k := by simpa using h4
      have hk : k < ops.size := (Array.getElem?_eq_some_iff.1 ho).1
      have hoe : ops[e.on]? = some ops[e.on] := Array.getElem?_eq_getElem (by omega)
      exact ih e.on hlt i _ hoe h3 (hcl e.on _ hoe hle)
/-- The heart: from any set of operations done, the next one does what it does in the text. -/
theorem order_any {rd : Nat → List Nat} (hT : TabOK P T) (Tx : Text P T FT an c.N (kept c) ops σ us rd) {Q : Exit → Act → World → Prop} (hQ : ∀ a w, InvK P c (envL us (List.range ops.size) σ) a w → Q .normal a w) :
    ∀ (fuel : Nat) (listed : Array Bool) (a : Act) (w : World), listed.size = ops.size → ((List.range ops.size).filter fun k => !listed.getD k true).length = fuel →
      (∀ (k : Nat) (o : Oper), ops[k]? = some o → listed.getD k false = true → ∀ e ∈ o.after, Region.binds .any e = true → listed.getD e.on false = true) →
      InvK P c (envL us (chosen ops.size listed) σ) a w → wpAny P .any ops Q fuel listed a w := by
  have hdone : ∀ (listed : Array Bool), listed.size = ops.size → (∀ k, k < ops.size → listed.getD k true = true) → chosen ops.size listed = List.range ops.size := fun listed hs hall => by
    unfold chosen
    rw [List.filter_eq_self]
    intro k hk
    rw [List.mem_range] at hk
    have := hall k hk
    simpa [hs, hk] using this
  have hready : ∀ (listed : Array Bool), listed.size = ops.size → Region.ready .any ops listed = [] → ∀ k, k < ops.size → listed.getD k true = true := fun listed hs hr => by
    intro k
    induction k using Nat.strongRecOn with
    | _ k ih =>
      intro hk
      cases hl : listed.getD k true with
      | true => rfl
      | false =>
        exfalso
        have hmem : k ∈ Region.ready .any ops listed := mem_ready.2 ⟨hl, ops[k], Array.getElem?_eq_getElem hk, fun e he hb => by
          have hlt := Tx.acyc k _ (Array.getElem?_eq_getElem hk) e he hb
          have := ih e.on hlt (by omega)
          simpa [hs, show e.on < ops.size from by omega] using this⟩
        rw [hr] at hmem
        cases hmem
  intro fuel
  induction fuel with
  | zero =>
    intro listed a w hs hf hcl h
    have hall : ∀ k, k < ops.size → listed.getD k true = true := fun k hk => by
      have := List.eq_nil_of_length_eq_zero hf
      rw [List.filter_eq_nil_iff] at this
      simpa using this k (List.mem_range.2 hk)
    refine ⟨?_, hQ a w (by rw [← hdone listed hs hall]; exact h)⟩
    apply List.eq_nil_iff_forall_not_mem.2
    intro k hk
    obtain ⟨h1, o, ho, _⟩ := mem_ready.1 hk
    rw [hall k (Array.getElem?_eq_some_iff.1 ho).1] at h1
    cases h1
  | succ fuel ih =>
    intro listed a w hs hf hcl h
    refine ⟨fun hr => hQ a w (by rw [← hdone listed hs (hready listed hs hr)]; exact h), fun i hi => ?_⟩
    obtain ⟨hun, o, ho, hedge⟩ := mem_ready.1 hi
    have hin : i < ops.size := (Array.getElem?_eq_some_iff.1 ho).1
    obtain ⟨hok, hN, hrd⟩ := Tx.ok i o ho
    have hanc : ∀ k, k ∈ (ancs ops.toList).getD i [] → listed.getD k false = true := fun k hk => anc_listed hcl i k o ho hk hedge
    have hno : ∀ k, k < ops.size → i ∈ (ancs ops.toList).getD k [] → listed.getD k false = false := fun k hk hik => by
      cases hl : listed.getD k false with
      | false => rfl
      | true =>
        have := anc_listed hcl k i ops[k] (Array.getElem?_eq_getElem hk) hik (hcl k _ (Array.getElem?_eq_getElem hk) hl)
        simp [hs, hin] at this hun
        rw [hun] at this
        cases this
    have hiun : listed.getD i false = false := by simpa [hs, hin] using hun
    -- who touches a slot that i reads or writes
    have hside : ∀ t k, k < ops.size → k ≠ i → t ∈ wr us k → (t ∈ rd i ∨ t ∈ wr us i) → (listed.getD k false = true ↔ k < i) := fun t k hk hki htk hti => by
      rcases Nat.lt_or_ge k i with hlt | hge
      · exact ⟨fun _ => hlt, fun _ => hanc k (Tx.ind k i hlt hin ⟨t, hti.elim (fun h => .inr (.inl ⟨htk, h⟩)) fun h => .inr (.inr ⟨htk, h⟩)⟩)⟩
      · have hgt : i < k := by omega
        have := hno k hk (Tx.ind i k hgt hk ⟨t, hti.elim (fun h => .inl ⟨h, htk⟩) fun h => .inr (.inr ⟨h, htk⟩)⟩)
        exact ⟨fun h => (by rw [this] at h; cases h), fun h => by omega⟩
    have hframe : ∀ t ∈ reads (an i) ops o (envL us (List.range i) σ), envL us (chosen ops.size listed) σ t = envL us (List.range i) σ t := fun t ht => by
      rw [hrd] at ht
      refine envL_eq_of us (chosen_filter_eq (Nat.le_of_lt hin) fun k hk hq => ?_)
      have htk : t ∈ wr us k := by simpa using hq
      by_cases hki : k = i
      · subst hki; rw [hiun]; simp
      · exact hside t k hk hki htk (.inl ht)
    have hok' := hok.frame hframe
    refine hok'.wpOp ho h hT hN.1 hN.2 fun a' w' h' => ?_
    have hset : (listed.setIfInBounds i true).size = ops.size := by simpa using hs
    refine ih _ a' w' hset ?_ (fun k o' hk hl e he hb => ?_) ?_
    · have hsplit : ((List.range ops.size).filter fun k => !listed.getD k true).length = ((List.range ops.size).filter fun k => !(listed.setIfInBounds i true).getD k true).length + 1 := by
        have key : ∀ (l : List Nat), l.Nodup → i ∈ l → (l.filter fun k => !listed.getD k true).length = (l.filter fun k => !(listed.setIfInBounds i true).getD k true).length + 1 := by
          intro l
          induction l with
          | nil => intro _ h; cases h
          | cons x l ih2 =>
            intro hnd hmem
            obtain ⟨hx, hnd'⟩ := List.nodup_cons.1 hnd
            rw [List.filter_cons, List.filter_cons]
            by_cases hxi : x = i
            · subst hxi
              have e1 : (!listed.getD x true) = true := by rw [hun]; rfl
              have e2 : (!(listed.setIfInBounds x true).getD x true) = false := by simp [hs, hin]
              rw [if_pos e1, e2]
              simp only [Bool.false_eq_true, if_false, List.length_cons]
              congr 1
              congr 1
              apply List.filter_congr
              intro k hk
              have hkx : x ≠ k := fun he => hx (he ▸ hk)
              rw [getD_set_ne true hkx]
            · have hmem' : i ∈ l := (List.mem_cons.1 hmem).resolve_left (fun e => hxi e.symm)
              have := ih2 hnd' hmem'
              rw [getD_set_ne true (Ne.symm hxi)]
              split
              · rw [List.length_cons, List.length_cons, this]
              · exact this
        exact key _ List.nodup_range (List.mem_range.2 hin)
      omega
    · by_cases hki : k = i
      · subst hki
        rw [ho] at hk
        cases hk
        exact getD_set_true (hedge e he hb)
      · rw [getD_set_ne false (Ne.symm hki)] at hl
        exact getD_set_true (hcl k o' hk hl e he hb)
    · have henv : upd (us i) (envL us (chosen ops.size listed) σ) = envL us (chosen ops.size (listed.setIfInBounds i true)) σ := by
        funext t
        have e1 : upd (us i) (envL us (chosen ops.size listed) σ) = envL us (chosen ops.size listed ++ [i]) σ := by
          unfold envL; rw [List.foldl_append]; rfl
        rw [e1]
        refine envL_eq_of us ?_
        rw [List.filter_append]
        by_cases hti : t ∈ wr us i
        · have e2 : ([i].filter fun k => (wr us k).contains t) = [i] := by simp [hti]
          rw [e2]
          have e3 : (chosen ops.size listed).filter (fun k => (wr us k).contains t) = (List.range i).filter fun k => (wr us k).contains t :=
            chosen_filter_eq (Nat.le_of_lt hin) fun k hk hq => by
              have htk : t ∈ wr us k := by simpa using hq
              by_cases hki : k = i
              · subst hki; rw [hiun]; simp
              · exact hside t k hk hki htk (.inr hti)
          have e4 : (chosen ops.size (listed.setIfInBounds i true)).filter (fun k => (wr us k).contains t) = (List.range (i + 1)).filter fun k => (wr us k).contains t :=
            chosen_filter_eq hin fun k hk hq => by
              have htk : t ∈ wr us k := by simpa using hq
              by_cases hki : k = i
              · subst hki; simp [hs, hin]
              · rw [getD_set_ne false (Ne.symm hki), hside t k hk hki htk (.inr hti)]
                omega
          rw [e3, e4, List.range_succ, List.filter_append, e2]
        · have e2 : ([i].filter fun k => (wr us k).contains t) = [] := by simp [hti]
          rw [e2, List.append_nil]
          unfold chosen
          rw [List.filter_filter, List.filter_filter]
          apply List.filter_congr
          intro k _
          by_cases hki : k = i
          · subst hki; simp [hti]
          · rw [getD_set_ne false (Ne.symm hki)]
      rw [← henv]
      exact h'
end
end Go.X
