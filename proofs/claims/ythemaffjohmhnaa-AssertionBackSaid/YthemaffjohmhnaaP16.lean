/- Plain laws: the order of assertions (AssertionCompare). -/
import Derived.Test.YthemaffjohmhnaaP15
set_option linter.unusedSimpArgs false
set_option linter.unusedVariables false
open Go Go.Proofs Go.X
namespace Go.Proofs.Ythemaffjohmhnaa
structure Good {α : Type} (c : α → α → Int) : Prop where
  anti : ∀ x y, c y x = -c x y
  zero : ∀ x y, c x y = 0 ↔ x = y
  trans : ∀ x y z, c x y < 0 → c y z < 0 → c x z < 0
  bnd : ∀ x y, -1 ≤ c x y ∧ c x y ≤ 1
def or2 (u v : Int) : Int := if u = 0 then v else u
def lexC {α β : Type} (c : α → α → Int) (d : β → β → Int) (x y : α × β) : Int := or2 (c x.1 y.1) (d x.2 y.2)
theorem Good.lex {α β : Type} {c : α → α → Int} {d : β → β → Int} (hc : Good c) (hd : Good d) : Good (lexC c d) where
  anti := fun x y => by
    unfold lexC or2
    have h1 := hc.anti x.1 y.1
    have h2 := hd.anti x.2 y.2
    by_cases h : c x.1 y.1 = 0
    · rw [if_pos h, if_pos (by omega)]; exact h2
    · rw [if_neg h, if_neg (by omega)]; exact h1
  zero := fun x y => by
    unfold lexC or2
    obtain ⟨a, b⟩ := x
    obtain ⟨a', b'⟩ := y
    have h1 := hc.zero a a'
    have h2 := hd.zero b b'
    simp only [Prod.mk.injEq]
    by_cases h : c a a' = 0
    · rw [if_pos h, h2]
      exact ⟨fun e => ⟨h1.1 h, e⟩, fun e => e.2⟩
    · rw [if_neg h]
      exact ⟨fun e => absurd e h, fun e => absurd (h1.2 e.1) h⟩
  trans := fun x y z => by
    unfold lexC or2
    intro h1 h2
    by_cases e1 : c x.1 y.1 = 0
    · rw [if_pos e1] at h1
      have := (hc.zero _ _).1 e1
      rw [this]
      by_cases e2 : c y.1 z.1 = 0
      · rw [if_pos e2] at h2 ⊢
        exact hd.trans _ _ _ h1 h2
      · rw [if_neg e2] at h2 ⊢
        exact h2
    · rw [if_neg e1] at h1
      by_cases e2 : c y.1 z.1 = 0
      · have := (hc.zero _ _).1 e2
        rw [← this, if_neg e1]
        exact h1
      · rw [if_neg e2] at h2
        have := hc.trans _ _ _ h1 h2
        rw [if_neg (by omega)]
        exact this
  bnd := fun x y => by
    unfold lexC or2
    have h1 := hc.bnd x.1 y.1
    have h2 := hd.bnd x.2 y.2
    split <;> assumption
def cI (x y : Int) : Int := if x < y then -1 else if y < x then 1 else 0
theorem cI_good : Good cI where
  anti := fun x y => by
    unfold cI
    by_cases h : x < y
    · rw [if_pos h, if_neg (by omega), if_pos h]; rfl
    · by_cases h' : y < x
      · rw [if_pos h', if_neg h, if_pos h']
      · rw [if_neg h, if_neg h', if_neg h', if_neg h]; rfl
  zero := fun x y => by
    unfold cI
    split
    · omega
    · split <;> omega
  trans := fun x y z => by
    unfold cI
    intro h1 h2
    split at h1
    · split at h2
      · rw [if_pos (by omega)]; omega
      · split at h2 <;> omega
    · split at h1 <;> omega
  bnd := fun x y => by
    unfold cI
    split
    · omega
    · split <;> omega
theorem cmpL_good : Good cmpL where
  anti := fun a b => by
    unfold cmpL
    rcases lex_tri a b with h | h | h
    · rw [if_neg (lex_asymm h), if_pos h, if_pos h]; rfl
    · subst h
      rw [if_neg (lex_irrefl a), if_neg (lex_irrefl a)]; rfl
    · rw [if_pos h, if_neg (lex_asymm h), if_pos h]
  zero := fun a b => by
    unfold cmpL
    rcases lex_tri a b with h | h | h
    · rw [if_pos h]
      exact ⟨fun e => by omega, fun e => absurd (e ▸ h) (lex_irrefl _)⟩
    · subst h
      rw [if_neg (lex_irrefl a), if_neg (lex_irrefl a)]
      simp
    · rw [if_neg (lex_asymm h), if_pos h]
      exact ⟨fun e => by omega, fun e => absurd (e ▸ h) (lex_irrefl _)⟩
  trans := fun a b c => by
    unfold cmpL
    intro h1 h2
    split at h1
    · rename_i g1
      split at h2
      · rename_i g2
        rw [if_pos (lex_trans g1 g2)]; omega
      · split at h2 <;> omega
    · split at h1 <;> omega
  bnd := fun a b => by
    unfold cmpL
    split
    · omega
    · split <;> omega
def key (a : Asn) : Int × (Int × (Int × (Int × (List Int × Int)))) := (a.1, a.2.1, a.2.2.1, (a.2.2.2.1.length : Int), a.2.2.2.1, a.2.2.2.2)
def keyC : (Int × (Int × (Int × (Int × (List Int × Int))))) → (Int × (Int × (Int × (Int × (List Int × Int))))) → Int := lexC cI (lexC cI (lexC cI (lexC cI (lexC cmpL cI))))
theorem keyC_good : Good keyC := cI_good.lex (cI_good.lex (cI_good.lex (cI_good.lex (cmpL_good.lex cI_good))))
def cmpA (a b : Asn) : Int := keyC (key a) (key b)
theorem d90_cI (x y : Int) : d90 x y = some (cI x y) := d90_eq x y
theorem d92_cI (x y : Int) : d92 x y = some (cI x y) := by
  unfold d92 cI
  by_cases h : x < y
  · simp [h]
  · by_cases h' : y < x
    · simp [h, h']
    · simp [h, h']
def firstNZ : List Int → Int
  | [] => 0
  | x :: l => or2 x (firstNZ l)
theorem firstNZ_at : ∀ (l : List Int) (i : Nat), i < l.length → l.getD i 0 ≠ 0 → (∀ j, j < i → l.getD j 0 = 0) → firstNZ l = l.getD i 0
  | [], i, h, _, _ => by simp at h
  | x :: l, 0, _, hne, _ => by
    simp only [List.getD_cons_zero] at hne ⊢
    unfold firstNZ or2
    rw [if_neg hne]
  | x :: l, i + 1, h, hne, hz => by
    have h0 := hz 0 (by omega)
    simp only [List.getD_cons_zero] at h0
    simp only [List.getD_cons_succ] at hne ⊢
    unfold firstNZ or2
    rw [if_pos h0]
    exact firstNZ_at l i (by simp at h; omega) hne fun j hj => by have := hz (j + 1) (by omega); simpa using this
theorem firstNZ_zero : ∀ (l : List Int), (∀ i, i < l.length → l.getD i 0 = 0) → firstNZ l = 0
  | [], _ => rfl
  | x :: l, hz => by
    have h0 := hz 0 (by simp)
    simp only [List.getD_cons_zero] at h0
    unfold firstNZ or2
    rw [if_pos h0]
    exact firstNZ_zero l fun i hi => by have := hz (i + 1) (by simp; omega); simpa using this
theorem d89_eq (l : List Int) (hl : l.length ≤ 1000) : d89 l = some (firstNZ l) := by
  unfold d89
  refine while_first (fun i => (0, l, (l.length : Int), (i : Int))) (fun i => !decide (l.getD i 0 = 0)) l.length (fun i => .inr (l.getD i 0)) (.inl 0) rfl (fun i hi => ?_) ?_ (fun i hi hp hj => ?_) (fun hall => ?_)
  · have h2 : (i : Int) < (l.length : Int) := by omega
    have h3 : (0 : Int) ≤ (i : Int) := by omega
    have hw : w ((i : Int) + 1) = ((i + 1 : Nat) : Int) := by rw [w_id (by omega) (by omega)]; omega
    simp only [h2, h3, hw, decide_true, cond_true, Bool.and_self, Int.toNat_natCast]
    cases decide (l.getD i 0 = 0) <;> rfl
  · simp
  · simp only
    rw [firstNZ_at l i hi (by simpa using hp) fun j hj' => by have := hj j hj'; simpa using this]
  · simp only
    rw [firstNZ_zero l fun i hi => by have := hall i hi; simpa using this]
theorem cmpA_nz (a b : Asn) : cmpA a b = firstNZ [cI a.1 b.1, cI a.2.1 b.2.1, cI a.2.2.1 b.2.2.1, cI (a.2.2.2.1.length : Int) (b.2.2.2.1.length : Int), cmpL a.2.2.2.1 b.2.2.2.1, cI a.2.2.2.2 b.2.2.2.2] := by
  have last : ∀ u : Int, or2 u 0 = u := fun u => by unfold or2; split <;> simp_all
  simp only [firstNZ, last]
  rfl
theorem d35_eq {a b : Asn} (ha : a.2.2.2.1.length ≤ 281474976710656) (hb : b.2.2.2.1.length ≤ 281474976710656) : d35 a b = some (cmpA a b) := by
  unfold d35
  rw [cmpA_nz]
  simp only [d90_cI, d91_eq ha hb, Option.bind_some, d89_eq _ (show ([cI a.1 b.1, cI a.2.1 b.2.1, cI a.2.2.1 b.2.2.1, cI (a.2.2.2.1.length : Int) (b.2.2.2.1.length : Int), cmpL a.2.2.2.1 b.2.2.2.1, cI a.2.2.2.2 b.2.2.2.2] : List Int).length ≤ 1000 by simp)]
theorem d36_eq {a b : Asn} (ha : a.2.2.2.1.length ≤ 281474976710656) (hb : b.2.2.2.1.length ≤ 281474976710656) : d36 a b = some (cmpA a b) := by
  unfold d36
  rw [cmpA_nz]
  simp only [d92_cI, Option.bind_some, d93_eq ha hb, d93_eq hb ha]
  generalize cI a.1 b.1 = r0
  generalize cI a.2.1 b.2.1 = r1
  generalize cI a.2.2.1 b.2.2.1 = r2
  generalize cI (a.2.2.2.1.length : Int) (b.2.2.2.1.length : Int) = r3
  have last : ∀ u : Int, or2 u 0 = u := fun u => by unfold or2; split <;> simp_all
  refine while_first (fun i => (a, b, [r0, r1, r2, r3], (i : Int))) (fun i => !decide (([r0, r1, r2, r3] : List Int).getD i 0 = 0)) 4 (fun i => .inr (([r0, r1, r2, r3] : List Int).getD i 0)) (.inl (a, b)) rfl (fun i hi => ?_) ?_ (fun i hi hp hj => ?_) (fun hall => ?_)
  · have h2 : (i : Int) < 4 := by omega
    have h3 : (0 : Int) ≤ (i : Int) := by omega
    have hw : w ((i : Int) + 1) = ((i + 1 : Nat) : Int) := by rw [w_id (by omega) (by omega)]; omega
    simp only [h2, h3, hw, decide_true, cond_true, Bool.and_self, Int.toNat_natCast]
    cases decide (([r0, r1, r2, r3] : List Int).getD i 0 = 0) <;> rfl
  · simp
  · simp only
    have h4 := firstNZ_at [r0, r1, r2, r3, cmpL a.2.2.2.1 b.2.2.2.1, cI a.2.2.2.2 b.2.2.2.2] i (by simp; omega)
    have e : ∀ j, j < 4 → ([r0, r1, r2, r3, cmpL a.2.2.2.1 b.2.2.2.1, cI a.2.2.2.2 b.2.2.2.2] : List Int).getD j 0 = ([r0, r1, r2, r3] : List Int).getD j 0 := fun j hj => by
      have : j = 0 ∨ j = 1 ∨ j = 2 ∨ j = 3 := by omega
      rcases this with h | h | h | h <;> subst h <;> rfl
    rw [h4 (by rw [e i hi]; simpa using hp) fun j hj' => by rw [e j (by omega)]; have := hj j hj'; simpa using this, e i hi]
  · simp only
    have z : ∀ i, i < 4 → ([r0, r1, r2, r3] : List Int).getD i 0 = 0 := fun i hi => by have := hall i hi; simpa using this
    have z0 : r0 = 0 := z 0 (by omega)
    have z1 : r1 = 0 := z 1 (by omega)
    have z2 : r2 = 0 := z 2 (by omega)
    have z3 : r3 = 0 := z 3 (by omega)
    subst z0 z1 z2 z3
    simp only [firstNZ, last, d92_cI, d93_eq ha hb, d93_eq hb ha, Option.bind_some]
    have o0 : ∀ v : Int, or2 0 v = v := fun v => by unfold or2; simp
    simp only [o0]
    unfold cmpL
    rcases lex_tri a.2.2.2.1 b.2.2.2.1 with h | h | h
    · simp [h, or2]
    · have h1 : ¬ a.2.2.2.1 < b.2.2.2.1 := by rw [h]; exact lex_irrefl _
      have h2 : ¬ b.2.2.2.1 < a.2.2.2.1 := by rw [h]; exact lex_irrefl _
      simp [h1, h2, o0]
    · have h1 := lex_asymm h
      simp [h, h1, or2]
theorem cmpA_zero (a b : Asn) : cmpA a b = 0 ↔ a = b := by
  unfold cmpA
  rw [keyC_good.zero]
  obtain ⟨a0, a1, a2, a3, a4⟩ := a
  obtain ⟨b0, b1, b2, b3, b4⟩ := b
  simp only [key, Prod.mk.injEq]
  constructor
  · rintro ⟨h0, h1, h2, _, h3, h4⟩; exact ⟨h0, h1, h2, h3, h4⟩
  · rintro ⟨h0, h1, h2, h3, h4⟩; exact ⟨h0, h1, h2, by rw [h3], h3, h4⟩
/-- The last part of d6. -/
noncomputable def d6J (t6_1 t7_1 t8_1 : Int × (Int × (Int × (List Int × Int)))) : Option Bool :=
            (d35 t6_1 t7_1).bind fun r_3 =>
            (d35 t7_1 t8_1).bind fun r_4 =>
            (d35 t6_1 t8_1).bind fun r_5 =>
            letJ (fun ((t6_2, t7_2, t8_2, t13, t87) : (Int × (Int × (Int × (List Int × Int)))) × (Int × (Int × (Int × (List Int × Int)))) × (Int × (Int × (Int × (List Int × Int)))) × Int × Bool) =>
                bif t87 then
                  some false
                else
                  letJ (fun ((t8_3, t13_1, t16) : (Int × (Int × (Int × (List Int × Int)))) × Int × Bool) =>
                      (d17).bind fun r_9 =>
                      bif r_9 then
                        bif ((decide (t13_1 = 0)) == t16) then
                          (d35 t8_3 t8_3).bind fun r_10 =>
                          some (decide (r_10 = 0))
                        else
                          some false
                      else
                        some false) fun j__3 =>
                  bif (decide (t6_2.1 = t7_2.1)) then
                    bif (decide (t6_2.2.1 = t7_2.2.1)) then
                      bif (decide (t6_2.2.2.1 = t7_2.2.2.1)) then
                        bif (decide (t6_2.2.2.2.2 = t7_2.2.2.2.2)) then
                          (d37 t6_2.2.2.2.1 t7_2.2.2.2.1).bind fun r_8 =>
                          j__3 (t8_2, t13, r_8)
                        else
                          j__3 (t8_2, t13, false)
                      else
                        j__3 (t8_2, t13, false)
                    else
                      j__3 (t8_2, t13, false)
                  else
                    j__3 (t8_2, t13, false)) fun j__2 =>
            (d36 t6_1 t7_1).bind fun r_6 =>
            bif !(!(decide (r_3 = r_6))) then
              (d35 t7_1 t6_1).bind fun r_7 =>
              bif !(!(decide (r_3 = (w (0 - r_7))))) then
                bif (decide (r_3 < 0)) then
                  bif (decide (r_4 < 0)) then
                    bif !(decide (0 ≤ r_5)) then
                      bif (decide (r_3 = 0)) then
                        j__2 (t6_1, t7_1, t8_1, r_3, !(decide (r_4 = r_5)))
                      else
                        j__2 (t6_1, t7_1, t8_1, r_3, false)
                    else
                      j__2 (t6_1, t7_1, t8_1, r_3, true)
                  else
                    bif (decide (r_3 = 0)) then
                      j__2 (t6_1, t7_1, t8_1, r_3, !(decide (r_4 = r_5)))
                    else
                      j__2 (t6_1, t7_1, t8_1, r_3, false)
                else
                  bif (decide (r_3 = 0)) then
                    j__2 (t6_1, t7_1, t8_1, r_3, !(decide (r_4 = r_5)))
                  else
                    j__2 (t6_1, t7_1, t8_1, r_3, false)
              else
                j__2 (t6_1, t7_1, t8_1, r_3, true)
            else
              j__2 (t6_1, t7_1, t8_1, r_3, true)
theorem d6J_true {a b c : Asn} (ha : a.2.2.2.1.length ≤ 281474976710656) (hb : b.2.2.2.1.length ≤ 281474976710656) (hc : c.2.2.2.1.length ≤ 281474976710656) : d6J a b c = some true := by
  have anti := keyC_good.anti (key a) (key b)
  have bnd := keyC_good.bnd (key a) (key b)
  have h2 : w (0 - cmpA b a) = cmpA a b := by
    unfold cmpA
    rw [anti, w_id (by omega) (by omega)]
    omega
  have h3 : cmpA a b < 0 → cmpA b c < 0 → cmpA a c < 0 := keyC_good.trans _ _ _
  have h4 : cmpA a b = 0 → cmpA b c = cmpA a c := fun h => by rw [(cmpA_zero a b).1 h]
  have h5 : cmpA c c = 0 := (cmpA_zero c c).2 rfl
  have h6 : cmpA a b = 0 ↔ (a.1 = b.1 ∧ a.2.1 = b.2.1 ∧ a.2.2.1 = b.2.2.1 ∧ a.2.2.2.2 = b.2.2.2.2 ∧ a.2.2.2.1 = b.2.2.2.1) := by
    rw [cmpA_zero]
    obtain ⟨a0, a1, a2, a3, a4⟩ := a
    obtain ⟨b0, b1, b2, b3, b4⟩ := b
    simp only [Prod.mk.injEq]
    constructor
    · rintro ⟨h0, h1, h2, h3, h4⟩; exact ⟨h0, h1, h2, h4, h3⟩
    · rintro ⟨h0, h1, h2, h4, h3⟩; exact ⟨h0, h1, h2, h3, h4⟩
  unfold d6J
  simp only [letJ, d17_eq, d35_eq ha hb, d35_eq hb hc, d35_eq ha hc, d35_eq hb ha, d36_eq ha hb, d35_eq hc hc, d37_eq ha hb, Option.bind_some, h2, h5, decide_true, Bool.not_true, Bool.not_false, cond_true, cond_false]
  have kf : (bif decide (a.1 = b.1) then bif decide (a.2.1 = b.2.1) then bif decide (a.2.2.1 = b.2.2.1) then bif decide (a.2.2.2.2 = b.2.2.2.2) then
        bif decide (cmpA a b = 0) == decide (a.2.2.2.1 = b.2.2.2.1) then some true else some false
      else bif decide (cmpA a b = 0) == false then some true else some false
      else bif decide (cmpA a b = 0) == false then some true else some false
      else bif decide (cmpA a b = 0) == false then some true else some false
      else bif decide (cmpA a b = 0) == false then some true else some false) = some true := by
    by_cases e : cmpA a b = 0
    · obtain ⟨e0, e1, e2, e3, e4⟩ := h6.1 e
      simp only [e, e0, e1, e2, e3, e4, decide_true, cond_true]
      rfl
    · have hn : ¬ (a.1 = b.1 ∧ a.2.1 = b.2.1 ∧ a.2.2.1 = b.2.2.1 ∧ a.2.2.2.2 = b.2.2.2.2 ∧ a.2.2.2.1 = b.2.2.2.1) := fun hh => e (h6.2 hh)
      by_cases e0 : a.1 = b.1
      · by_cases e1 : a.2.1 = b.2.1
        · by_cases e2 : a.2.2.1 = b.2.2.1
          · by_cases e3 : a.2.2.2.2 = b.2.2.2.2
            · have e4 : ¬ a.2.2.2.1 = b.2.2.2.1 := fun h => hn ⟨e0, e1, e2, e3, h⟩
              simp only [e, e0, e1, e2, e3, e4, decide_true, decide_false, cond_true]
              rfl
            · simp only [e, e0, e1, e2, e3, decide_true, decide_false, cond_true, cond_false]
              rfl
          · simp only [e, e0, e1, e2, decide_true, decide_false, cond_true, cond_false]
            rfl
        · simp only [e, e0, e1, decide_true, decide_false, cond_true, cond_false]
          rfl
      · simp only [e, e0, decide_true, decide_false, cond_true, cond_false]
        rfl
  by_cases c1 : cmpA a b < 0
  · have c0 : ¬ cmpA a b = 0 := by omega
    by_cases c2 : cmpA b c < 0
    · have c3 := h3 c1 c2
      have c4 : ¬ 0 ≤ cmpA a c := by omega
      simp only [c0, decide_false] at kf
      simp only [c1, c2, c4, c0, decide_true, decide_false, Bool.not_false, cond_true, cond_false]
      exact kf
    · simp only [c0, decide_false] at kf
      simp only [c1, c2, c0, decide_true, decide_false, cond_true, cond_false]
      exact kf
  · by_cases c0 : cmpA a b = 0
    · have := h4 c0
      have c1' : ¬ (0 : Int) < 0 := by omega
      rw [c0] at kf
      simp only [decide_true] at kf
      simp only [c0, c1', this, decide_true, decide_false, Bool.not_true, cond_true, cond_false]
      exact kf
    · simp only [c0, decide_false] at kf
      simp only [c1, c0, decide_false, cond_false]
      exact kf
theorem d6_split {a b c : Asn} {near : Bool} {u v : Int} (ha : a.2.2.2.1.length ≤ 9) (hb : b.2.2.2.1.length ≤ 9) (hc : c.2.2.2.1.length ≤ 9) :
    d6 a b c near u v = bif near then (d21 a u v).bind fun r_1 => (d21 r_1 (w (u + 1)) (w (v + 1))).bind fun r_2 => d6J a r_1 r_2 else d6J a b c := by
  have e1 : decide (9 < (a.2.2.2.1.length : Int)) = false := decide_eq_false (by omega)
  have e2 : decide (9 < (b.2.2.2.1.length : Int)) = false := decide_eq_false (by omega)
  have e3 : decide (9 < (c.2.2.2.1.length : Int)) = false := decide_eq_false (by omega)
  unfold d6
  rw [e1, e2, e3]
  rfl
theorem d6_true {a b c : Asn} {near : Bool} {u v : Int} (hu : WT y2 u) (hv : WT y2 v) : d6 a b c near u v = some true := by
  have wrange : ∀ z : Int, WT y2 (w z) := fun z => wrap_wrap .i64 z
  have hd : (d17.bind fun r => some r) = some true := by rw [d17_eq]; rfl
  rcases Nat.lt_or_ge 9 a.2.2.2.1.length with ha | ha
  · have e1 : decide (9 < (a.2.2.2.1.length : Int)) = true := decide_eq_true (by omega)
    unfold d6
    rw [e1]
    exact hd
  · have e1 : decide (9 < (a.2.2.2.1.length : Int)) = false := decide_eq_false (by omega)
    rcases Nat.lt_or_ge 9 b.2.2.2.1.length with hb | hb
    · have e2 : decide (9 < (b.2.2.2.1.length : Int)) = true := decide_eq_true (by omega)
      unfold d6
      rw [e1, e2]
      exact hd
    · have e2 : decide (9 < (b.2.2.2.1.length : Int)) = false := decide_eq_false (by omega)
      rcases Nat.lt_or_ge 9 c.2.2.2.1.length with hc | hc
      · have e3 : decide (9 < (c.2.2.2.1.length : Int)) = true := decide_eq_true (by omega)
        unfold d6
        rw [e1, e2, e3]
        exact hd
      · rw [d6_split ha hb hc]
        cases near
        · exact d6J_true (by omega) (by omega) (by omega)
        · simp only [cond_true]
          obtain ⟨b', e1, l1⟩ := d21_eq (a := a) (by omega) hu hv
          obtain ⟨c', e2, l2⟩ := d21_eq (a := b') (by omega) (wrange (u + 1)) (wrange (v + 1))
          simp only [e1, e2, Option.bind_some]
          exact d6J_true (by omega) (by omega) (by omega)
end Go.Proofs.Ythemaffjohmhnaa
