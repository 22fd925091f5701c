/- The frame of an operation: it depends on the slots that it reads. -/
import Derived.Test.YthemaffjohmhnaaX26
import Derived.Orders
set_option linter.unusedSimpArgs false
set_option linter.unusedVariables false
namespace Go.X
open Go Go.RowKit
/- UPDATES, SLOT BY SLOT -/
def updAt : Ups → Nat → Slot → Slot
  | [], _, p => p
  | (t, e, k) :: r, u, p => updAt r u (if u = t then bump k p e else p)
theorem upd_slot : ∀ (us : Ups) (σ : Env) (u : Nat), upd us σ u = updAt us u (σ u)
  | [], _, _ => rfl
  | (t, e, k) :: r, σ, u => by
    show upd r (set1 σ t e k) u = _
    rw [upd_slot r]
    simp only [updAt]
    by_cases h : u = t
    · subst h; rw [set1_same, if_pos rfl]
    · rw [set1_ne σ e k h, if_neg h]
theorem updAt_other : ∀ (us : Ups) (u : Nat) (p : Slot), u ∉ us.map (·.1) → updAt us u p = p
  | [], _, _, _ => rfl
  | (t, e, k) :: r, u, p, h => by
    simp only [List.map_cons, List.mem_cons, not_or] at h
    unfold updAt
    rw [if_neg h.1]
    exact updAt_other r u p h.2
section
variable {P : Program} {T : Tab} {FT : List (TgE P)} {σ σ' : Env}
theorem fillV_congr {path : Nat → Option (List Nat)} {l l' : Operand → Opd} {u : Ty} : ∀ (ps : List (Nat × Operand)) (m : Md) (x : u.den), (∀ p ∈ ps, l p.2 = l' p.2) → fillV path l u ps m x = fillV path l' u ps m x
  | [], _, _, _ => rfl
  | (i, o) :: ps, m, x, h => by
    unfold fillV
    rw [h (i, o) List.mem_cons_self]
    have ih := fun m x => fillV_congr (path := path) (u := u) ps m x fun p hp => h p (List.mem_cons_of_mem _ hp)
    simp only [ih]
theorem capsE_congr {l l' : Operand → Opd} : ∀ (xs : List Operand), (∀ x ∈ xs, l x = l' x) → capsE l xs = capsE l' xs
  | [], _ => rfl
  | x :: xs, h => by
    unfold capsE
    rw [h x List.mem_cons_self, capsE_congr xs fun y hy => h y (List.mem_cons_of_mem _ hy)]
theorem step1_congr {o : Oper} {l l' : Operand → Opd} (h : ∀ x ∈ o.op.operands, l x = l' x) : step1 T o l = step1 T o l' := by
  obtain ⟨dst, op, type, pos, after, guard⟩ := o
  simp only at h
  unfold step1
  simp only
  split
  case h_10 x t => rw [h x (by simp [Op.operands, Call.operands])]
  case h_11 x y ts => rw [h x (by simp [Op.operands, Call.operands]), h y (by simp [Op.operands, Call.operands])]
  case h_12 x y ts => rw [h x (by simp [Op.operands, Call.operands]), h y (by simp [Op.operands, Call.operands])]
  all_goals (simp only [Op.operands] at h; simp_all)
theorem step_congr {fl : Nat} {o : Oper} {l l' : Operand → Opd} (h : ∀ x ∈ o.op.operands, l x = l' x) : step T fl o l = step T fl o l' := by
  have hc := step1_congr (T := T) h
  obtain ⟨dst, op, type, pos, after, guard⟩ := o
  simp only at h
  unfold step
  simp only
  cases dst with
  | none =>
    simp only
    split
    · rename_i t x y; rw [h x (by simp [Op.operands]), h y (by simp [Op.operands])]
    · rfl
  | some d =>
    simp only
    split
    · rw [h _ (by simp [Op.operands])]
    · rw [h _ (by simp [Op.operands]), hc]
    · rfl
    · rw [h _ (by simp [Op.operands])]
    · rename_i x y t u; rw [h x (by simp [Op.operands, Call.operands]), h y (by simp [Op.operands, Call.operands])]
    · rename_i t x y; rw [h x (by simp [Op.operands]), h y (by simp [Op.operands])]
    · rename_i t n ps
      have h' : ∀ p ∈ ps.toList, l p.2 = l' p.2 := fun p hp => h p.2 (by simp [Op.operands]; exact ⟨p.1, by simpa using hp⟩)
      unfold litU
      simp only [fillV_congr ps.toList _ _ h']
    · rename_i t ps
      have h' : ∀ p ∈ ps.toList, l p.2 = l' p.2 := fun p hp => h p.2 (by simp [Op.operands]; exact ⟨p.1, by simpa using hp⟩)
      unfold buildE buildN
      simp only [fillV_congr ps.toList _ _ h']
    · rename_i t x lo hi
      have h1 : lo.map l = lo.map l' := by cases lo with
        | none => rfl
        | some y => simp only [Option.map_some]; rw [h y (by simp [Op.operands])]
      have h2 : hi.map l = hi.map l' := by cases hi with
        | none => rfl
        | some y => simp only [Option.map_some]; rw [h y (by simp [Op.operands])]
      rw [h x (by simp [Op.operands]), h1, h2]
    · rw [h _ (by simp [Op.operands])]
    · rename_i f xs
      rw [capsE_congr xs fun x hx => h x (by simp [Op.operands]; exact hx)]
    · rename_i nm x; rw [h x (by simp [Op.operands])]
    · rw [h _ (by simp [Op.operands])]
    · rename_i bo t x u; rw [h x (by simp [Op.operands])]
    · rename_i s t x; rw [h x (by simp [Op.operands]), hc]
    · rw [hc]
theorem look_congr {x : Operand} (h : ∀ t, x = .tmp t → σ' t = σ t ∧ ∀ r ∈ rootL (σ t).e, σ' r = σ r) : look σ' x = look σ x := by
  cases x with
  | tmp t =>
    obtain ⟨h1, h2⟩ := h t rfl
    have h3 : rootOf σ' (σ t).e = rootOf σ (σ t).e := by
      cases hx : (σ t).e <;> rw [hx] at h2 <;> first | rfl | (simp only [rootOf]; exact h2 _ (by simp [rootL]))
    simp only [look, h1, h3]
  | _ => rfl
theorem capsTM_congr : ∀ {cs : List Cap}, (∀ r ∈ capRoots cs, σ' r = σ r) → capsTM σ' cs = capsTM σ cs
  | [], _ => rfl
  | .ref r π s :: cs, h => by
    have h1 := h r (by simp [capRoots])
    have h2 := capsTM_congr (cs := cs) fun q hq => h q (by simp [capRoots, hq])
    unfold capsTM
    rw [h2]
    simp only [capTM, h1]
  | .val e :: cs, h => by
    have h2 := capsTM_congr (cs := cs) fun q hq => h q (by simpa [capRoots] using hq)
    unfold capsTM
    rw [h2]
    rfl
theorem cloOf_congr {x : Operand} (h : ∀ t, x = .tmp t → σ' t = σ t ∧ ∀ r ∈ rootL (σ t).e, σ' r = σ r) : cloOf σ' x = cloOf σ x := by
  cases x with
  | tmp t =>
    obtain ⟨h1, h2⟩ := h t rfl
    simp only [cloOf, h1]
    cases hx : (σ t).e <;> rw [hx] at h2 <;> first | rfl | skip
    simp only
    rw [capsTM_congr h2]
  | _ => rfl
theorem callO_congr {o : Oper} (h : ∀ x ∈ o.op.operands, look σ' x = look σ x ∧ cloOf σ' x = cloOf σ x ∧ ∀ t, x = .tmp t → σ' t = σ t) : callO FT o σ' = callO FT o σ := by
  obtain ⟨dst, op, type, pos, after, guard⟩ := o
  simp only at h
  unfold callO
  simp only
  split
  · rename_i f xs ts d
    have : xs.toList.map (fun o => (look σ' o, cloOf σ' o)) = xs.toList.map (fun o => (look σ o, cloOf σ o)) := List.map_congr_left fun x hx => by
      obtain ⟨h1, h2, _⟩ := h x (by simp only [Op.operands, Call.operands, Array.mem_append]; exact .inr (by simpa using hx))
      rw [h1, h2]
    rw [this]
  · rename_i t x ts d
    obtain ⟨_, _, h3⟩ := h (.tmp t) (by simp [Op.operands, Call.operands])
    obtain ⟨h1, _, _⟩ := h x (by simp [Op.operands, Call.operands])
    rw [h3 t rfl, h1]
  · rename_i r nm xs ts d
    have : (r :: xs.toList).map (fun o => (look σ' o, cloOf σ' o)) = (r :: xs.toList).map (fun o => (look σ o, cloOf σ o)) := List.map_congr_left fun x hx => by
      obtain ⟨h1, h2, _⟩ := h x (by
        simp only [Op.operands, Call.operands, Array.mem_append]
        rcases List.mem_cons.1 hx with rfl | hx
        · exact .inl (by simp)
        · exact .inr (by simpa using hx))
      rw [h1, h2]
    rw [this]
  · rename_i t d
    obtain ⟨_, _, h3⟩ := h (.tmp t) (by simp [Op.operands])
    rw [h3 t rfl]
  · rfl
theorem preU_congr : ∀ {fs : List (Nat × List Nat)} {σ σ' : Env}, (∀ r ∈ fs.map (·.1), σ' r = σ r) → preU fs σ' = preU fs σ
  | [], _, _, _ => rfl
  | (r, π) :: fs, σ, σ', h => by
    have h1 := h r (by simp)
    unfold preU
    rw [h1]
    cases hf : frz1 (σ r).e π with
    | none => rfl
    | some e =>
      simp only
      rw [preU_congr (fs := fs) (σ := set1 σ r e 2) (σ' := set1 σ' r e 2) fun q hq => by
        by_cases hqr : q = r
        · subst hqr; rw [set1_same, set1_same, h1]
        · rw [set1_ne _ _ _ hqr, set1_ne _ _ _ hqr]; exact h q (by simp at hq ⊢; exact .inr hq)]
theorem frz1_root {e e' : Ent} {π : List Nat} (h : frz1 e π = some e') : rootL e' = [] := by
  unfold frz1 at h
  split at h
  case h_2 => cases h
  split at h
  case h_2 => cases h
  split at h
  case isFalse => cases h
  cases h
  rfl
theorem preU_roots : ∀ {fs : List (Nat × List Nat)} {σ : Env} {ps : Ups}, preU fs σ = some ps → ∀ u ∈ ps, rootL u.2.1 = []
  | [], _, _, h => by cases h; intro u hu; cases hu
  | (r, π) :: fs, σ, ps, h => by
    simp only [preU] at h
    split at h
    case h_2 => cases h
    rename_i e he
    simp only [Option.map_eq_some_iff] at h
    obtain ⟨us, h1, rfl⟩ := h
    intro u hu
    rcases List.mem_cons.1 hu with h2 | h2
    · rw [h2]; exact frz1_root he
    · exact preU_roots h1 u h2
theorem updAt_root : ∀ {ps : Ups} (t : Nat) (p : Slot), (∀ u ∈ ps, rootL u.2.1 = []) → updAt ps t p = p ∨ rootL (updAt ps t p).e = []
  | [], _, _, _ => .inl rfl
  | (r, e, k) :: ps, t, p, h => by
    simp only [updAt]
    by_cases ht : t = r
    · rw [if_pos ht]
      rcases updAt_root t (bump k p e) fun u hu => h u (List.mem_cons_of_mem _ hu) with h1 | h1
      · exact .inr (by rw [h1, bump_e]; exact h (r, e, k) List.mem_cons_self)
      · exact .inr h1
    · rw [if_neg ht]
      exact updAt_root t p fun u hu => h u (List.mem_cons_of_mem _ hu)
theorem reads_operand {an : An} {ops : Array Oper} {o : Oper} {x : Operand} {t : Nat} (hx : x ∈ o.op.operands) (ht : x = .tmp t) : t ∈ reads an ops o σ ∧ ∀ r ∈ rootL (σ t).e, r ∈ reads an ops o σ := by
  subst ht
  have h : ∀ r ∈ t :: rootL (σ t).e, r ∈ reads an ops o σ := fun r hr => by
    unfold reads
    exact List.mem_append_left _ (List.mem_flatMap.2 ⟨.tmp t, by simpa using hx, hr⟩)
  exact ⟨h t List.mem_cons_self, fun r hr => h r (List.mem_cons_of_mem _ hr)⟩
theorem GOk.frame {an : An} {ops : Array Oper} {o : Oper} {us : Ups} (hok : GOk P T FT an ops o σ us) (h : ∀ t ∈ reads an ops o σ, σ' t = σ t) : GOk P T FT an ops o σ' us := by
  have hpre : preU an.frz σ' = preU an.frz σ := preU_congr fun r hr => h r (by unfold reads; simp only [List.mem_append]; exact .inr (.inr hr))
  have hw : wantedA ops o σ' = wantedA ops o σ := by
    unfold wantedA
    cases hg : guardTmp ops o with
    | none => rfl
    | some t =>
      have := h t (by unfold reads; rw [hg]; simp)
      simp only [this]
  unfold GOk at hok ⊢
  rw [hw]
  refine hok.imp (fun ⟨h1, h2⟩ => ⟨h1, ?_⟩) id
  obtain ⟨ps, h3, h4⟩ := h2
  have hroots := preU_roots h3
  have hsl : ∀ x ∈ o.op.operands, ∀ t, x = .tmp t → upd ps σ' t = upd ps σ t ∧ ∀ r ∈ rootL (upd ps σ t).e, upd ps σ' r = upd ps σ r := fun x hx t ht => by
    obtain ⟨h5, h6⟩ := reads_operand (an := an) (ops := ops) (σ := σ) hx ht
    refine ⟨by rw [upd_slot, upd_slot, h t h5], fun r hr => ?_⟩
    rw [upd_slot] at hr
    rcases updAt_root (ps := ps) t (σ t) hroots with h7 | h7
    · rw [h7] at hr; rw [upd_slot, upd_slot, h r (h6 r hr)]
    · rw [h7] at hr; cases hr
  refine ⟨ps, by rw [hpre]; exact h3, ?_⟩
  refine h4.imp (fun ⟨ob, us1, h5, h6, h7⟩ => ⟨ob, us1, ?_, h6, h7⟩) fun h4 => h4.imp (fun ⟨C, y, us1, h5, h6, h7, h8⟩ => ⟨C, y, us1, ?_, h6, h7, h8⟩) fun ⟨cc, x, y, m, bv, ob, us1, h5, h6, h7, h8, h9, h10⟩ => ⟨cc, x, y, m, bv, ob, us1, h5, ?_, h7, ?_, h9, h10⟩
  · rw [step_congr fun x hx => look_congr (hsl x hx)]; exact h5
  · rw [callO_congr fun x hx => ⟨look_congr (hsl x hx), cloOf_congr (hsl x hx), fun t ht => (hsl x hx t ht).1⟩]; exact h5
  · rw [look_congr (hsl cc (by rw [h5]; simp [Op.operands]))]; exact h6
  · rw [step_congr (o := { o with op := .move (bif bv then x else y) }) (l := look (upd ps σ')) (l' := look (upd ps σ)) fun z hz => look_congr (hsl z (by
      rw [h5]
      have hz' : z = (bif bv then x else y) := by simpa [Op.operands] using hz
      rw [hz']
      cases bv <;> simp [Op.operands]))]
    exact h8
end
end Go.X
