/- Plain laws: the order of assertions (AssertionCompare). -/
import Derived.Test.YthlgoakkgmabaaaGreatP15
set_option linter.unusedSimpArgs false
set_option linter.unusedVariables false
open Go Go.Proofs Go.X
namespace Go.Proofs.YthlgoakkgmabaaaGreat
structure Good {α : Type} (c : α → α → Int) : Prop where
  anti : ∀ x y, c y x = -c x y
  zero : ∀ x y, c x y = 0 ↔ x = y
  trans : ∀ x y z, c x y < 0 → c y z < 0 → c x z < 0
  bnd : ∀ x y, -1 ≤ c x y ∧ c x y ≤ 1
def or2 (u v : Int) : Int := if u = 0 then v else u
def lexC {α β : Type} (c : α → α → Int) (d : β → β → Int) (x y : α × β) : Int := or2 (c x.1 y.1) (d x.2 y.2)
theorem Good.lex {α β : Type} {c : α → α → Int} {d : β → β → Int} (hc : Good c) (hd : Good d) : Good (lexC c d) where
  anti := fun x y => by
    unfold lexC or2
    have h1 := hc.anti x.1 y.1
    have h2 := hd.anti x.2 y.2
    by_cases h : c x.1 y.1 = 0
    · rw [if_pos h, if_pos (by omega)]; exact h2
    · rw [if_neg h, if_neg (by omega)]; exact h1
  zero := fun x y => by
    unfold lexC or2
    obtain ⟨a, b⟩ := x
    obtain ⟨a', b'⟩ := y
    have h1 := hc.zero a a'
    have h2 := hd.zero b b'
    simp only [Prod.mk.injEq]
    by_cases h : c a a' = 0
    · rw [if_pos h, h2]
      exact ⟨fun e => ⟨h1.1 h, e⟩, fun e => e.2⟩
    · rw [if_neg h]
      exact ⟨fun e => absurd e h, fun e => absurd (h1.2 e.1) h⟩
  trans := fun x y z => by
    unfold lexC or2
    intro h1 h2
    by_cases e1 : c x.1 y.1 = 0
    · rw [if_pos e1] at h1
      have := (hc.zero _ _).1 e1
      rw [this]
      by_cases e2 : c y.1 z.1 = 0
      · rw [if_pos e2] at h2 ⊢
        exact hd.trans _ _ _ h1 h2
      · rw [if_neg e2] at h2 ⊢
        exact h2
    · rw [if_neg e1] at h1
      by_cases e2 : c y.1 z.1 = 0
      · have := (hc.zero _ _).1 e2
        rw [← this, if_neg e1]
        exact h1
      · rw [if_neg e2] at h2
        have := hc.trans _ _ _ h1 h2
        rw [if_neg (by omega)]
        exact this
  bnd := fun x y => by
    unfold lexC or2
    have h1 := hc.bnd x.1 y.1
    have h2 := hd.bnd x.2 y.2
    split <;> assumption
def cI (x y : Int) : Int := if x < y then -1 else if y < x then 1 else 0
theorem cI_good : Good cI where
  anti := fun x y => by
    unfold cI
    by_cases h : x < y
    · rw [if_pos h, if_neg (by omega), if_pos h]; rfl
    · by_cases h' : y < x
      · rw [if_pos h', if_neg h, if_pos h']
      · rw [if_neg h, if_neg h', if_neg h', if_neg h]; rfl
  zero := fun x y => by
    unfold cI
    split
    · omega
    · split <;> omega
  trans := fun x y z => by
    unfold cI
    intro h1 h2
    split at h1
    · split at h2
      · rw [if_pos (by omega)]; omega
      · split at h2 <;> omega
    · split at h1 <;> omega
  bnd := fun x y => by
    unfold cI
    split
    · omega
    · split <;> omega
theorem cmpL_good : Good cmpL where
  anti := fun a b => by
    unfold cmpL
    rcases lex_tri a b with h | h | h
    · rw [if_neg (lex_asymm h), if_pos h, if_pos h]; rfl
    · subst h
      rw [if_neg (lex_irrefl a), if_neg (lex_irrefl a)]; rfl
    · rw [if_pos h, if_neg (lex_asymm h), if_pos h]
  zero := fun a b => by
    unfold cmpL
    rcases lex_tri a b with h | h | h
    · rw [if_pos h]
      exact ⟨fun e => by omega, fun e => absurd (e ▸ h) (lex_irrefl _)⟩
    · subst h
      rw [if_neg (lex_irrefl a), if_neg (lex_irrefl a)]
      simp
    · rw [if_neg (lex_asymm h), if_pos h]
      exact ⟨fun e => by omega, fun e => absurd (e ▸ h) (lex_irrefl _)⟩
  trans := fun a b c => by
    unfold cmpL
    intro h1 h2
    split at h1
    · rename_i g1
      split at h2
      · rename_i g2
        rw [if_pos (lex_trans g1 g2)]; omega
      · split at h2 <;> omega
    · split at h1 <;> omega
  bnd := fun a b => by
    unfold cmpL
    split
    · omega
    · split <;> omega
def key (a : Asn) : Int × (Int × (Int × (Int × (List Int × Int)))) := (a.1, a.2.1, a.2.2.1, (a.2.2.2.1.length : Int), a.2.2.2.1, a.2.2.2.2)
def keyC : (Int × (Int × (Int × (Int × (List Int × Int))))) → (Int × (Int × (Int × (Int × (List Int × Int))))) → Int := lexC cI (lexC cI (lexC cI (lexC cI (lexC cmpL cI))))
theorem keyC_good : Good keyC := cI_good.lex (cI_good.lex (cI_good.lex (cI_good.lex (cmpL_good.lex cI_good))))
def cmpA (a b : Asn) : Int := keyC (key a) (key b)
theorem d47_cI (x y : Int) : d47 x y = some (cI x y) := d47_eq x y
theorem d57_cI (x y : Int) : d57 x y = some (cI x y) := by
  unfold d57 cI
  by_cases h : x < y
  · simp [h]
  · by_cases h' : y < x
    · simp [h, h']
    · simp [h, h']
def firstNZ : List Int → Int
  | [] => 0
  | x :: l => or2 x (firstNZ l)
theorem firstNZ_at : ∀ (l : List Int) (i : Nat), i < l.length → l.getD i 0 ≠ 0 → (∀ j, j < i → l.getD j 0 = 0) → firstNZ l = l.getD i 0
  | [], i, h, _, _ => by simp at h
  | x :: l, 0, _, hne, _ => by
    simp only [List.getD_cons_zero] at hne ⊢
    unfold firstNZ or2
    rw [if_neg hne]
  | x :: l, i + 1, h, hne, hz => by
    have h0 := hz 0 (by omega)
    simp only [List.getD_cons_zero] at h0
    simp only [List.getD_cons_succ] at hne ⊢
    unfold firstNZ or2
    rw [if_pos h0]
    exact firstNZ_at l i (by simp at h; omega) hne fun j hj => by have := hz (j + 1) (by omega); simpa using this
theorem firstNZ_zero : ∀ (l : List Int), (∀ i, i < l.length → l.getD i 0 = 0) → firstNZ l = 0
  | [], _ => rfl
  | x :: l, hz => by
    have h0 := hz 0 (by simp)
    simp only [List.getD_cons_zero] at h0
    unfold firstNZ or2
    rw [if_pos h0]
    exact firstNZ_zero l fun i hi => by have := hz (i + 1) (by simp; omega); simpa using this
theorem d53_eq (l : List Int) (hl : l.length ≤ 1000) : d53 l = some (firstNZ l) := by
  unfold d53
  refine while_first (fun i => (0, l, (l.length : Int), (i : Int))) (fun i => !decide (l.getD i 0 = 0)) l.length (fun i => .inr (l.getD i 0)) (.inl 0) rfl (fun i hi => ?_) ?_ (fun i hi hp hj => ?_) (fun hall => ?_)
  · have h2 : (i : Int) < (l.length : Int) := by omega
    have h3 : (0 : Int) ≤ (i : Int) := by omega
    have hw : w ((i : Int) + 1) = ((i + 1 : Nat) : Int) := by rw [w_id (by omega) (by omega)]; omega
    simp only [h2, h3, hw, decide_true, cond_true, Bool.and_self, Int.toNat_natCast]
    cases decide (l.getD i 0 = 0) <;> rfl
  · simp
  · simp only
    rw [firstNZ_at l i hi (by simpa using hp) fun j hj' => by have := hj j hj'; simpa using this]
  · simp only
    rw [firstNZ_zero l fun i hi => by have := hall i hi; simpa using this]
theorem cmpA_nz (a b : Asn) : cmpA a b = firstNZ [cI a.1 b.1, cI a.2.1 b.2.1, cI a.2.2.1 b.2.2.1, cI (a.2.2.2.1.length : Int) (b.2.2.2.1.length : Int), cmpL a.2.2.2.1 b.2.2.2.1, cI a.2.2.2.2 b.2.2.2.2] := by
  have last : ∀ u : Int, or2 u 0 = u := fun u => by unfold or2; split <;> simp_all
  simp only [firstNZ, last]
  rfl
theorem d34_eq {a b : Asn} (ha : a.2.2.2.1.length ≤ 281474976710656) (hb : b.2.2.2.1.length ≤ 281474976710656) : d34 a b = some (cmpA a b) := by
  unfold d34
  rw [cmpA_nz]
  simp only [d47_cI, d26_eq ha hb, Option.bind_some, d53_eq _ (show ([cI a.1 b.1, cI a.2.1 b.2.1, cI a.2.2.1 b.2.2.1, cI (a.2.2.2.1.length : Int) (b.2.2.2.1.length : Int), cmpL a.2.2.2.1 b.2.2.2.1, cI a.2.2.2.2 b.2.2.2.2] : List Int).length ≤ 1000 by simp)]
theorem d39_eq {a b : Asn} (ha : a.2.2.2.1.length ≤ 281474976710656) (hb : b.2.2.2.1.length ≤ 281474976710656) : d39 a b = some (cmpA a b) := by
  unfold d39
  rw [cmpA_nz]
  simp only [d57_cI, Option.bind_some, d28_eq ha hb, d28_eq hb ha]
  generalize cI a.1 b.1 = r0
  generalize cI a.2.1 b.2.1 = r1
  generalize cI a.2.2.1 b.2.2.1 = r2
  generalize cI (a.2.2.2.1.length : Int) (b.2.2.2.1.length : Int) = r3
  have last : ∀ u : Int, or2 u 0 = u := fun u => by unfold or2; split <;> simp_all
  refine while_first (fun i => (a, b, [r0, r1, r2, r3], (i : Int))) (fun i => !decide (([r0, r1, r2, r3] : List Int).getD i 0 = 0)) 4 (fun i => .inr (([r0, r1, r2, r3] : List Int).getD i 0)) (.inl (a, b)) rfl (fun i hi => ?_) ?_ (fun i hi hp hj => ?_) (fun hall => ?_)
  · have h2 : (i : Int) < 4 := by omega
    have h3 : (0 : Int) ≤ (i : Int) := by omega
    have hw : w ((i : Int) + 1) = ((i + 1 : Nat) : Int) := by rw [w_id (by omega) (by omega)]; omega
    simp only [h2, h3, hw, decide_true, cond_true, Bool.and_self, Int.toNat_natCast]
    cases decide (([r0, r1, r2, r3] : List Int).getD i 0 = 0) <;> rfl
  · simp
  · simp only
    have h4 := firstNZ_at [r0, r1, r2, r3, cmpL a.2.2.2.1 b.2.2.2.1, cI a.2.2.2.2 b.2.2.2.2] i (by simp; omega)
    have e : ∀ j, j < 4 → ([r0, r1, r2, r3, cmpL a.2.2.2.1 b.2.2.2.1, cI a.2.2.2.2 b.2.2.2.2] : List Int).getD j 0 = ([r0, r1, r2, r3] : List Int).getD j 0 := fun j hj => by
      have : j = 0 ∨ j = 1 ∨ j = 2 ∨ j = 3 := by omega
      rcases this with h | h | h | h <;> subst h <;> rfl
    rw [h4 (by rw [e i hi]; simpa using hp) fun j hj' => by rw [e j (by omega)]; have := hj j hj'; simpa using this, e i hi]
  · simp only
    have z : ∀ i, i < 4 → ([r0, r1, r2, r3] : List Int).getD i 0 = 0 := fun i hi => by have := hall i hi; simpa using this
    have z0 : r0 = 0 := z 0 (by omega)
    have z1 : r1 = 0 := z 1 (by omega)
    have z2 : r2 = 0 := z 2 (by omega)
    have z3 : r3 = 0 := z 3 (by omega)
    subst z0 z1 z2 z3
    simp only [firstNZ, last, d57_cI, d28_eq ha hb, d28_eq hb ha, Option.bind_some]
    have o0 : ∀ v : Int, or2 0 v = v := fun v => by unfold or2; simp
    simp only [o0]
    unfold cmpL
    rcases lex_tri a.2.2.2.1 b.2.2.2.1 with h | h | h
    · simp [h, or2]
    · have h1 : ¬ a.2.2.2.1 < b.2.2.2.1 := by rw [h]; exact lex_irrefl _
      have h2 : ¬ b.2.2.2.1 < a.2.2.2.1 := by rw [h]; exact lex_irrefl _
      simp [h1, h2, o0]
    · have h1 := lex_asymm h
      simp [h, h1, or2]
theorem cmpA_zero (a b : Asn) : cmpA a b = 0 ↔ a = b := by
  unfold cmpA
  rw [keyC_good.zero]
  obtain ⟨a0, a1, a2, a3, a4⟩ := a
  obtain ⟨b0, b1, b2, b3, b4⟩ := b
  simp only [key, Prod.mk.injEq]
  constructor
  · rintro ⟨h0, h1, h2, _, h3, h4⟩; exact ⟨h0, h1, h2, h3, h4⟩
  · rintro ⟨h0, h1, h2, h3, h4⟩; exact ⟨h0, h1, h2, by rw [h3], h3, h4⟩
end Go.Proofs.YthlgoakkgmabaaaGreat
