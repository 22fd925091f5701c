/- A region that draws its order, by an invariant that speaks of what is done. -/
import Derived.Orders
import Derived.Test.YthlgoakkgmabaaaGreatX28
set_option linter.unusedSimpArgs false
set_option linter.unusedVariables false
namespace Go.X
open Go Go.RowKit
section
variable {P : Program}
theorem region_inv (hm : P.follows .mixedOrders = true) {id : Nat} {ops : Array Oper} {Q : Exit → Act → World → Prop} (J : (Nat → Bool) → Act → World → Prop)
    (hac : ∀ k o, ops[k]? = some o → o.guard = none ∧ ∀ e ∈ o.after, Region.binds .any e = true → e.on < k)
    (step : ∀ (D : Nat → Bool) i o a w, ops[i]? = some o → D i = false → (∀ e ∈ o.after, Region.binds .any e = true → D e.on = true) → J D a w → o.wp P a w (fun a' w' => J (fun k => D k || k == i) a' w') Q)
    (fin : ∀ (D : Nat → Bool) a w, (∀ k, k < ops.size → D k = true) → J D a w → Q .normal a w)
    {a : Act} {w : World} (h0 : J (fun _ => false) a w.drew) : (Code.region id ops true).wp P Q a w := by
  have hready : ∀ (listed : Array Bool), listed.size = ops.size → Region.ready .any ops listed = [] → ∀ k, k < ops.size → listed.getD k true = true := fun listed hs hr => by
    intro k
    induction k using Nat.strongRecOn with
    | _ k ih =>
      intro hk
      cases hl : listed.getD k true with
      | true => rfl
      | false =>
        exfalso
        have hmem : k ∈ Region.ready .any ops listed := mem_ready.2 ⟨hl, ops[k], Array.getElem?_eq_getElem hk, fun e he hb => by
          have hlt := (hac k _ (Array.getElem?_eq_getElem hk)).2 e he hb
          have := ih e.on hlt (by omega)
          simpa [hs, show e.on < ops.size from by omega] using this⟩
        rw [hr] at hmem
        cases hmem
  have hdone : ∀ (listed : Array Bool) (k : Nat), listed.size = ops.size → k < ops.size → listed.getD k true = true → listed.getD k false = true := fun listed k hs hk h => by simpa [hs, hk] using h
  have key : ∀ (fuel : Nat) (listed : Array Bool) (a : Act) (w : World), listed.size = ops.size → ((List.range ops.size).filter fun k => !listed.getD k true).length = fuel →
      J (fun k => listed.getD k false) a w → wpAny P .any ops Q fuel listed a w := by
    intro fuel
    induction fuel with
    | zero =>
      intro listed a w hs hf h
      have hall : ∀ k, k < ops.size → listed.getD k true = true := fun k hk => by
        have := List.eq_nil_of_length_eq_zero hf
        rw [List.filter_eq_nil_iff] at this
        simpa using this k (List.mem_range.2 hk)
      refine ⟨?_, fin _ a w (fun k hk => hdone listed k hs hk (hall k hk)) h⟩
      apply List.eq_nil_iff_forall_not_mem.2
      intro k hk
      obtain ⟨h1, o, ho, _⟩ := mem_ready.1 hk
      rw [hall k (Array.getElem?_eq_some_iff.1 ho).1] at h1
      cases h1
    | succ fuel ih =>
      intro listed a w hs hf h
      refine ⟨fun hr => fin _ a w (fun k hk => hdone listed k hs hk (hready listed hs hr k hk)) h, fun i hi => ?_⟩
      obtain ⟨hun, o, ho, hedge⟩ := mem_ready.1 hi
      have hin : i < ops.size := (Array.getElem?_eq_some_iff.1 ho).1
      have hiun : listed.getD i false = false := by simpa [hs, hin] using hun
      have hset : (listed.setIfInBounds i true).size = ops.size := by simpa using hs
      have hwant : Region.wanted o (yielded ops a.tmps) = true := by unfold Region.wanted; rw [(hac i o ho).1]
      unfold wpOp
      rw [ho]
      show if Region.wanted o (yielded ops a.tmps) = true then _ else _
      rw [if_pos hwant]
      refine .inl (Oper.wp_mono (fun a' w' h' => ?_) (step _ i o a w ho hiun hedge h))
      refine ih _ a' w' hset ?_ ?_
      · have key : ∀ (l : List Nat), l.Nodup → i ∈ l → (l.filter fun k => !listed.getD k true).length = (l.filter fun k => !(listed.setIfInBounds i true).getD k true).length + 1 := by
          intro l
          induction l with
          | nil => intro _ h; cases h
          | cons x l ih2 =>
            intro hnd hmem
            obtain ⟨hx, hnd'⟩ := List.nodup_cons.1 hnd
            rw [List.filter_cons, List.filter_cons]
            by_cases hxi : x = i
            · subst hxi
              have e1 : (!listed.getD x true) = true := by rw [hun]; rfl
              have e2 : (!(listed.setIfInBounds x true).getD x true) = false := by simp [hs, hin]
              rw [if_pos e1, e2]
              simp only [Bool.false_eq_true, if_false, List.length_cons]
              congr 1
              congr 1
              apply List.filter_congr
              intro k hk
              have hkx : x ≠ k := fun he => hx (he ▸ hk)
              rw [getD_set_ne true hkx]
            · have hmem' : i ∈ l := (List.mem_cons.1 hmem).resolve_left (fun e => hxi e.symm)
              have := ih2 hnd' hmem'
              rw [getD_set_ne true (Ne.symm hxi)]
              split
              · rw [List.length_cons, List.length_cons, this]
              · exact this
        have := key _ List.nodup_range (List.mem_range.2 hin)
        omega
      · have e : (fun k => (listed.setIfInBounds i true).getD k false) = fun k => listed.getD k false || k == i := by
          funext k
          by_cases hki : k = i
          · subst hki; simp [hs, hin]
          · rw [getD_set_ne false (Ne.symm hki)]
            simp [hki]
        rw [e]
        exact h'
  refine wp_region_any hm ?_
  have hrep : ∀ (k : Nat) (d : Bool), k < ops.size → (Array.replicate ops.size false).getD k d = false := fun k d hk => by simp [hk]
  have hself : ((List.range ops.size).filter fun k => !(Array.replicate ops.size false).getD k true) = List.range ops.size := by
    rw [List.filter_eq_self]
    intro k hk
    rw [List.mem_range] at hk
    rw [hrep k true hk]; rfl
  refine key ops.size _ a _ (by simp) (by rw [hself, List.length_range]) ?_
  have e : (fun k => (Array.replicate ops.size false).getD k false) = fun _ => false := by
    funext k
    by_cases hk : k < ops.size
    · exact hrep k false hk
    · simp [hk]
  rw [e]
  exact h0
end
end Go.X
