/- The evaluator: code; joins and loops by plans. -/
import Derived.Test.YthemaffjohmhnaaX29
import Derived.LoopN
set_option linter.unusedSimpArgs false
set_option linter.unusedVariables false
namespace Go.X
open Go Go.RowKit
/- REPETITION -/
def iterO {α β : Type} (f : α → Option (α ⊕ β)) : Nat → α → Option β
  | 0, _ => none
  | n + 1, a => match f a with
    | some (.inl a') => iterO f n a'
    | some (.inr b) => some b
    | none => none
open Classical in
/-- What repeating f comes to, if it ends. -/
noncomputable def whileD {α β : Type} (f : α → Option (α ⊕ β)) (a : α) : Option β :=
  if h : ∃ n b, iterO f n a = some b then some (Classical.choose (Classical.choose_spec h)) else none
theorem whileX : ∃ W : (α β : Type) → (α → Option (α ⊕ β)) → α → Option β, ∀ (α β : Type) (f : α → Option (α ⊕ β)) (a : α), W α β f a = whileD f a := ⟨fun _ _ f a => whileD f a, fun _ _ _ _ => rfl⟩
/-- The same; the kernel does not see through it. -/
noncomputable def whileO {α β : Type} (f : α → Option (α ⊕ β)) (a : α) : Option β := Classical.choose whileX α β f a
theorem whileO_eq {α β : Type} (f : α → Option (α ⊕ β)) (a : α) : whileO f a = whileD f a := Classical.choose_spec whileX α β f a
theorem whileO_iter {α β : Type} {f : α → Option (α ⊕ β)} {a : α} {b : β} (h : whileO f a = some b) : ∃ n, iterO f n a = some b := by
  rw [whileO_eq] at h
  unfold whileD at h
  split at h
  · rename_i hx
    cases h
    exact ⟨_, Classical.choose_spec (Classical.choose_spec hx)⟩
  · cases h
theorem iterO_det {α β : Type} {f : α → Option (α ⊕ β)} : ∀ {n m : Nat} {a : α} {b b' : β}, iterO f n a = some b → iterO f m a = some b' → b = b'
  | 0, _, _, _, _, h, _ => by cases h
  | _ + 1, 0, _, _, _, _, h => by cases h
  | n + 1, m + 1, a, b, b', h, h' => by
    simp only [iterO] at h h'
    split at h
    · rename_i a' heq
      rw [heq] at h'
      exact iterO_det h h'
    · rename_i c heq
      rw [heq] at h'
      cases h; cases h'; rfl
    · cases h
theorem whileO_of {α β : Type} {f : α → Option (α ⊕ β)} {a : α} {b : β} {n : Nat} (h : iterO f n a = some b) : whileO f a = some b := by
  have hx : ∃ n b, iterO f n a = some b := ⟨n, b, h⟩
  rw [whileO_eq]
  unfold whileD
  rw [dif_pos hx]
  exact congrArg some (iterO_det (Classical.choose_spec (Classical.choose_spec hx)) h)
theorem whileO_inl {α β : Type} {f : α → Option (α ⊕ β)} {a a' : α} {b : β} (h : f a = some (.inl a')) (h' : whileO f a' = some b) : whileO f a = some b := by
  obtain ⟨n, hn⟩ := whileO_iter h'
  exact whileO_of (n := n + 1) (by simp only [iterO, h]; exact hn)
theorem whileO_inr {α β : Type} {f : α → Option (α ⊕ β)} {a : α} {b : β} (h : f a = some (.inr b)) : whileO f a = some b := whileO_of (n := 1) (by simp only [iterO, h])
/-- A value named. -/
def letJ {α β R : Type} (f : α → β) (g : (α → β) → Option R) : Option R := g f
/- JOINS -/
inductive JE where
  | v (t : Ty) (m : Md)
  | ref (r : Nat) (π : List Nat)
  | view (r : Nat) (π : List Nat)
abbrev JS := List (Nat × JE)
@[reducible] def jtys : JS → List Ty
  | [] => []
  | (_, .v t _) :: js => t :: jtys js
  | (_, .ref _ _) :: js => jtys js
  | (_, .view _ _) :: js => jtys js
def absJ : (js : JS) → LEnv → Option (Vals (jtys js))
  | [], _ => some ()
  | (s, .v t m) :: js, l => match (E l s).e with
    | .v t' m' x => if leM t' m' m then match TV.to ⟨t', x⟩ t, absJ js l with
      | some y, some ys => some (y, ys)
      | _, _ => none else none
    | _ => none
  | (s, .ref r π) :: js, l => match (E l s).e, (E l r).e with
    | .ref r' π' s', .v t _ _ => if r' = r ∧ π' = π ∧ genB (E l r) t π s' = true then absJ js l else none
    | _, _ => none
  | (s, .view r π) :: js, l => match (E l s).e, (E l r).e with
    | .view r' π' s', .v _ _ _ => if r' = r ∧ π' = π ∧ (E l r).h = s' then absJ js l else none
    | _, _ => none
def mkJ : (js : JS) → Vals (jtys js) → LEnv
  | [], _ => []
  | (s, .v t m) :: js, x => (s, ⟨.v t m x.1, 0, 0⟩) :: mkJ js x.2
  | (s, .ref r π) :: js, x => (s, ⟨.ref r π 0, 0, 0⟩) :: mkJ js x
  | (s, .view r π) :: js, x => (s, ⟨.view r π 0, 0, 0⟩) :: mkJ js x
def toRet : (ts : List Ty) → Vals ts → Ret ts
  | [], _ => ()
  | [_], x => x.1
  | _ :: s :: ts, x => (x.1, toRet (s :: ts) x.2)
theorem vals_toRet : ∀ (ts : List Ty) (x : Vals ts), Ret.vals ts (toRet ts x) = x
  | [], _ => rfl
  | [_], _ => rfl
  | _ :: s :: ts, x => by
    show (x.1, Ret.vals (s :: ts) (toRet (s :: ts) x.2)) = x
    rw [vals_toRet (s :: ts) x.2]
/-- What a join keeps of a slot. -/
def JOK (l : LEnv) (t : Nat) (s : Slot) : Prop :=
  s.g = 0 ∧ s.h = 0 ∧ match s.e with
  | .dead => True
  | .v ty m x => ∃ m0, (E l t).e = .v ty m0 x ∧ leM ty m0 m = true
  | .ref r π n => n = 0 ∧ ∃ s0 tr mr xr, (E l t).e = .ref r π s0 ∧ (E l r).e = .v tr mr xr ∧ genB (E l r) tr π s0 = true
  | .view r π n => n = 0 ∧ ∃ s0, (E l t).e = .view r π s0 ∧ (E l r).h = s0
  | _ => False
theorem absJ_ok : ∀ {js : JS} {l : LEnv} {v : Vals (jtys js)}, absJ js l = some v → ∀ t, JOK l t (E (mkJ js v) t)
  | [], l, v, h, t => ⟨rfl, rfl, trivial⟩
  | (s, .v ty m) :: js, l, v, h, t => by
    simp only [absJ] at h
    split at h
    case h_2 => cases h
    rename_i t' m' x heq
    split at h
    case isFalse => cases h
    rename_i hl
    split at h
    case h_2 => cases h
    rename_i y ys h1 h2
    cases h
    have := TV.to_some h1
    cases this
    simp only [mkJ, E]
    split
    · rename_i hts
      subst hts
      exact ⟨rfl, rfl, m', heq, hl⟩
    · exact absJ_ok h2 t
  | (s, .ref r π) :: js, l, v, h, t => by
    simp only [absJ] at h
    split at h
    case h_2 => cases h
    rename_i r' π' s' ty m x h1 h2
    split at h
    case isFalse => cases h
    rename_i hc
    obtain ⟨rfl, rfl, hc⟩ := hc
    simp only [mkJ, E]
    split
    · rename_i hts
      subst hts
      exact ⟨rfl, rfl, rfl, s', ty, m, x, h1, h2, hc⟩
    · exact absJ_ok h t
  | (s, .view r π) :: js, l, v, h, t => by
    simp only [absJ] at h
    split at h
    case h_2 => cases h
    rename_i r' π' s' ty m x h1 h2
    split at h
    case isFalse => cases h
    rename_i hc
    obtain ⟨rfl, rfl, hc⟩ := hc
    simp only [mkJ, E]
    split
    · rename_i hts
      subst hts
      exact ⟨rfl, rfl, rfl, s', h1, hc⟩
    · exact absJ_ok h t
/- PLANS -/
inductive XK where
  | brk (n : Nat) | ret
def XK.is : XK → Exit → Bool
  | .brk n, .exit m => decide (n = m)
  | .ret, .ret => true
  | _, _ => false
def XK.exit : XK → Exit
  | .brk n => .exit n
  | .ret => .ret
theorem XK.is_exit {x : XK} {e : Exit} (h : x.is e = true) : x.exit = e := by
  cases x <;> cases e <;> simp [XK.is] at h <;> first | rfl | (subst h; rfl)
inductive Plan where
  | nil
  | reg (fz : List (Nat × List Nat)) (ans : List An)
  | seq (a b : Plan)
  | join (a : Plan) (js : JS) (b : Plan)
  | cond (a b : Plan)
  | block (a : Plan)
  | loop (js : JS) (outs : List (XK × JS)) (a : Plan)
  | frz (fz : List (Nat × List Nat)) (a : Plan)
  | post (a : Plan) (fz : List (Nat × List Nat))
@[reducible] def JOut : List (XK × JS) → Type
  | [] => Empty
  | [x] => Ret (jtys x.2)
  | x :: y :: r => Ret (jtys x.2) ⊕ JOut (y :: r)
def outJ : (outs : List (XK × JS)) → Exit → LEnv → Option (JOut outs)
  | [], _, _ => none
  | [x], e, l => if x.1.is e then (absJ x.2 l).map (toRet _) else none
  | x :: y :: r, e, l => if x.1.is e then (absJ x.2 l).map fun v => .inl (toRet _ v) else (outJ (y :: r) e l).map .inr
def sumE {α β γ : Type} (f : α → γ) (g : β → γ) : α ⊕ β → γ
  | .inl a => f a
  | .inr b => g b
def contO {R : Type} (k : Exit → LEnv → Option R) : (outs : List (XK × JS)) → JOut outs → Option R
  | [] => fun _ => none
  | [x] => fun v => k x.1.exit (mkJ x.2 (Ret.vals _ v))
  | x :: y :: r => sumE (fun v => k x.1.exit (mkJ x.2 (Ret.vals _ v))) (contO k (y :: r))
/-- What code comes to. -/
noncomputable def ev {P : Program} (T : Tab) (FT : List (TgE P)) : Plan → Code → (R : Type) → LEnv → (Exit → LEnv → Option R) → Option R
  | .frz fz p, x, R, l, k => match preU fz (E l) with
    | some ps => ev T FT p x R (updL ps l) k
    | none => none
  | .post p fz, x, R, l, k => ev T FT p x R l fun e l' => match preU fz (E l') with
    | some ps => k e (updL ps l')
    | none => none
  | .nil, .skip, _, l, k => k .normal l
  | .nil, .exit id, _, l, k => k (.exit id) l
  | .nil, .ret, _, l, k => k .ret l
  | .reg fz ans, .region _ ops draw, _, l, k => evRegion T FT draw ops fz ans l (k .normal)
  | .seq p q, .seq x y, R, l, k => ev T FT p x R l fun e l' => match e with
    | .normal => ev T FT q y R l' k
    | e => k e l'
  | .join p js q, .seq x y, R, l, k => letJ (fun v => ev T FT q y R (mkJ js (Ret.vals _ v)) k) fun j => ev T FT p x R l fun e l' => match e with
    | .normal => match absJ js l' with
      | some v => j (toRet _ v)
      | none => none
    | e => k e l'
  | .cond p q, .cond o x y, R, l, k => match (look (E l) o).val .bool with
    | some (m, b) => if m = .dead then none else bif b then ev T FT p x R l k else ev T FT q y R l k
    | none => none
  | .block p, .block id x, R, l, k => ev T FT p x R l fun e l' => match e with
    | .exit i => if i = id then k .normal l' else k (.exit i) l'
    | e => k e l'
  | .loop js outs p, .loop x, _, l, k => match absJ js l with
    | some v0 => (whileO (fun v => ev T FT p x (Ret (jtys js) ⊕ JOut outs) (mkJ js (Ret.vals _ v)) fun e l' => match e with
        | .normal => (absJ js l').map fun v => .inl (toRet _ v)
        | e => (outJ outs e l').map .inr) (toRet _ v0)).bind fun o => contO k outs o
    | none => none
  | _, _, _, _, _ => none
def okCode (N : Nat) (ks : List Nat) : Code → Bool
  | .region _ ops d => allWithin N ks ops.toList && (!d || acyc ops.toList)
  | .seq x y => okCode N ks x && okCode N ks y
  | .cond _ x y => okCode N ks x && okCode N ks y
  | .block _ x => okCode N ks x
  | .loop x => okCode N ks x
  | _ => true
section
variable {P : Program} {c : Ctx} {T : Tab} {FT : List (TgE P)} {a : Act} {w : World}
theorem Inv.join {js : JS} {l : LEnv} {v : Vals (jtys js)} (h : absJ js l = some v) (hi : Inv P c (E l) a w) : Inv P c (E (mkJ js v)) a w := by
  obtain ⟨S, hS, hi⟩ := hi
  have hj := absJ_ok h
  refine ⟨S, hS, hi.defers, hi.size, fun t => ?_, fun t => by rw [(hj t).1]; exact Nat.zero_le _, hi.lent, hi.shared, hi.shared0, hi.borrowed, hi.owned, hi.os, hi.tape, hi.output, hi.grown, hi.kept⟩
  obtain ⟨h1, h2, h3⟩ := hj t
  have ho := hi.slots t
  unfold SlotOK at ho ⊢
  generalize (E (mkJ js v) t).e = e at h3 ⊢
  cases e with
  | dead => trivial
  | v ty m x =>
    obtain ⟨m0, h4, h5⟩ := h3
    rw [h4] at ho
    exact ⟨ho.1.weaken h5, ho.2⟩
  | ref r π n =>
    obtain ⟨rfl, s0, tr, mr, xr, h4, h5, h6⟩ := h3
    rw [h4] at ho
    refine ⟨Nat.zero_le _, fun t' m x hx _ => ?_⟩
    obtain ⟨_, _, h7⟩ := hj r
    rw [hx] at h7
    obtain ⟨m0, h8, _⟩ := h7
    rw [h5] at h8
    cases h8
    exact ho.2 _ _ _ h5 (genB_gen.1 h6)
  | view r π n =>
    obtain ⟨rfl, s0, h4, h5⟩ := h3
    rw [h4] at ho
    refine ⟨Nat.zero_le _, fun t' m x hx _ => ?_⟩
    obtain ⟨_, _, h7⟩ := hj r
    rw [hx] at h7
    obtain ⟨m0, h8, _⟩ := h7
    exact ho.2 _ _ _ h8 h5
  | tup => exact h3.elim
  | clo => exact h3.elim
  | mth => exact h3.elim
  | skip => exact h3.elim
theorem contO_out {R : Type} : ∀ {outs : List (XK × JS)} {e : Exit} {l : LEnv} {o : JOut outs} {k : Exit → LEnv → Option R} {r : R}, outJ outs e l = some o → contO k outs o = some r → InvK P c (E l) a w → ∃ l', k e l' = some r ∧ InvK P c (E l') a w
  | [], _, _, o, _, _, _, _, _ => o.elim
  | [x], e, l, o, k, r, h, hc, hi => by
    simp only [outJ] at h
    split at h
    case isFalse => cases h
    rename_i hx
    simp only [Option.map_eq_some_iff] at h
    obtain ⟨v, h1, rfl⟩ := h
    simp only [contO, sumE, vals_toRet, XK.is_exit hx] at hc
    exact ⟨_, hc, hi.1.join h1, hi.2⟩
  | x :: y :: r', e, l, o, k, r, h, hc, hi => by
    simp only [outJ] at h
    split at h
    · rename_i hx
      simp only [Option.map_eq_some_iff] at h
      obtain ⟨v, h1, rfl⟩ := h
      simp only [contO, sumE, vals_toRet, XK.is_exit hx] at hc
      exact ⟨_, hc, hi.1.join h1, hi.2⟩
    · simp only [Option.map_eq_some_iff] at h
      obtain ⟨v, h1, rfl⟩ := h
      simp only [contO, sumE] at hc
      exact contO_out h1 hc hi
theorem ev_sound (hm : P.follows .mixedOrders = true) (hT : TabOK P T) {ks : List Nat} (hks : ∀ t, t ∉ ks → c.K t = none) : ∀ (p : Plan) (x : Code) (R : Type) (l : LEnv) (k : Exit → LEnv → Option R) (r : R) (Q : Exit → Act → World → Prop) (a : Act) (w : World), okCode c.N ks x = true → ev T FT p x R l k = some r → InvK P c (E l) a w →
    (∀ e l' a' w', k e l' = some r → InvK P c (E l') a' w' → Q e a' w') → x.wp P Q a w := by
  intro p
  induction p with
  | frz fz p ih =>
    intro x R l k r Q a w hok h hi hk
    simp only [ev] at h
    split at h
    case h_2 => cases h
    rename_i ps hps
    refine ih x R _ k r Q a w hok h ?_ hk
    rw [E_updL]
    exact ⟨pre_sound hi.1 hps, hi.2⟩
  | post p fz ih =>
    intro x R l k r Q a w hok h hi hk
    simp only [ev] at h
    refine ih x R l _ r Q a w hok h hi fun e l' a' w' h1 h2 => ?_
    split at h1
    case h_2 => cases h1
    rename_i ps hps
    refine hk _ _ _ _ h1 ?_
    rw [E_updL]
    exact ⟨pre_sound h2.1 hps, h2.2⟩
  | nil =>
    intro x R l k r Q a w hok h hi hk
    cases x <;> simp only [ev] at h <;> first | (cases h; done) | exact wp_skip (hk _ _ _ _ h hi) | exact wp_exit (hk _ _ _ _ h hi) | exact wp_ret (hk _ _ _ _ h hi)
  | reg fz ans =>
    intro x R l k r Q a w hok h hi hk
    cases x <;> simp only [ev] at h <;> first | (cases h; done) | skip
    simp only [okCode, Bool.and_eq_true] at hok
    exact evRegion_ok hm hT hks hok.1 (fun hd => by subst hd; simpa using hok.2) h hi fun l' a' w' h1 h2 => hk _ _ _ _ h1 h2
  | seq p q ihx ihy =>
    intro x R l k r Q a w hok h hi hk
    cases x <;> simp only [ev] at h <;> first | (cases h; done) | skip
    simp only [okCode, Bool.and_eq_true] at hok
    refine wp_seq (ihx _ R l _ r _ a w hok.1 h hi fun e l' a' w' h1 h2 => ?_)
    cases e with
    | normal => exact ihy _ R l' k r Q a' w' hok.2 h1 h2 hk
    | _ => exact hk _ _ _ _ h1 h2
  | join p js q ihx ihy =>
    intro x R l k r Q a w hok h hi hk
    cases x <;> simp only [ev] at h <;> first | (cases h; done) | skip
    simp only [okCode, Bool.and_eq_true] at hok
    unfold letJ at h
    refine wp_seq (ihx _ R l _ r _ a w hok.1 h hi fun e l' a' w' h1 h2 => ?_)
    cases e with
    | normal =>
      simp only at h1
      split at h1
      case h_2 => cases h1
      rename_i v hv
      rw [vals_toRet] at h1
      exact ihy _ R _ k r Q a' w' hok.2 h1 ⟨h2.1.join hv, h2.2⟩ hk
    | _ => exact hk _ _ _ _ h1 h2
  | cond p q ihx ihy =>
    intro x R l k r Q a w hok h hi hk
    cases x <;> simp only [ev] at h <;> first | (cases h; done) | skip
    simp only [okCode, Bool.and_eq_true] at hok
    split at h
    case h_2 => cases h
    rename_i m b hb
    split at h
    · cases h
    rename_i hmd
    obtain ⟨S, _, hi'⟩ := hi.1
    obtain ⟨z, hv⟩ := hi'.val hb
    have hbool := hv.bool_inv hmd
    rcases cond_some h with ⟨rfl, h⟩ | ⟨rfl, h⟩
    · exact wp_cond hbool (ihx _ R l k r Q a w hok.1 h hi hk)
    · exact wp_cond hbool (ihy _ R l k r Q a w hok.2 h hi hk)
  | block p ih =>
    intro x R l k r Q a w hok h hi hk
    cases x <;> simp only [ev] at h <;> first | (cases h; done) | skip
    simp only [okCode] at hok
    refine wp_block (ih _ R l _ r _ a w hok h hi fun e l' a' w' h1 h2 => ?_)
    cases e with
    | exit i =>
      simp only [Exit.inBlock]
      simp only at h1
      split
      · rename_i he; rw [if_pos he] at h1; exact hk _ _ _ _ h1 h2
      · rename_i he; rw [if_neg he] at h1; exact hk _ _ _ _ h1 h2
    | _ => exact hk _ _ _ _ h1 h2
  | loop js outs p ih =>
    intro x R l k r Q a w hok h hi hk
    cases x <;> simp only [ev] at h <;> first | (cases h; done) | skip
    rename_i x
    simp only [okCode] at hok
    split at h
    case h_2 => cases h
    rename_i v0 hv0
    simp only [Option.bind_eq_some_iff] at h
    obtain ⟨o, hw, hc⟩ := h
    obtain ⟨n, hn⟩ := whileO_iter hw
    refine wp_loop_rounds n ?_
    have key : ∀ (n : Nat) (v : Vals (jtys js)) (a : Act) (w : World), iterO (fun v => ev T FT p x (Ret (jtys js) ⊕ JOut outs) (mkJ js (Ret.vals _ v)) fun e l' => match e with
        | .normal => (absJ js l').map fun v => .inl (toRet _ v)
        | e => (outJ outs e l').map .inr) n (toRet _ v) = some o → InvK P c (E (mkJ js v)) a w → Code.rounds P x Q n a w := by
      intro n
      induction n with
      | zero => intro v a w hv _; cases hv
      | succ n ihn =>
        intro v a w hv hi
        simp only [iterO] at hv
        rw [rounds_succ]
        split at hv
        · rename_i v' heq
          rw [vals_toRet] at heq
          refine ih x _ _ _ _ _ a w hok heq hi fun e l' a' w' h1 h2 => ?_
          cases e with
          | normal =>
            simp only [Option.map_eq_some_iff, Sum.inl.injEq] at h1
            obtain ⟨u, h3, rfl⟩ := h1
            exact ihn u a' w' hv ⟨h2.1.join h3, h2.2⟩
          | _ => simp at h1
        · rename_i o' heq
          rw [vals_toRet] at heq
          cases hv
          refine ih x _ _ _ _ _ a w hok heq hi fun e l' a' w' h1 h2 => ?_
          cases e with
          | normal => simp at h1
          | exit i =>
            simp only [Option.map_eq_some_iff, Sum.inr.injEq] at h1
            obtain ⟨u, h3, rfl⟩ := h1
            obtain ⟨l2, h4, h5⟩ := contO_out h3 hc h2
            exact hk _ _ _ _ h4 h5
          | goto i =>
            simp only [Option.map_eq_some_iff, Sum.inr.injEq] at h1
            obtain ⟨u, h3, rfl⟩ := h1
            obtain ⟨l2, h4, h5⟩ := contO_out h3 hc h2
            exact hk _ _ _ _ h4 h5
          | ret =>
            simp only [Option.map_eq_some_iff, Sum.inr.injEq] at h1
            obtain ⟨u, h3, rfl⟩ := h1
            obtain ⟨l2, h4, h5⟩ := contO_out h3 hc h2
            exact hk _ _ _ _ h4 h5
          | panic i =>
            simp only [Option.map_eq_some_iff, Sum.inr.injEq] at h1
            obtain ⟨u, h3, rfl⟩ := h1
            obtain ⟨l2, h4, h5⟩ := contO_out h3 hc h2
            exact hk _ _ _ _ h4 h5
          | outgrown =>
            simp only [Option.map_eq_some_iff, Sum.inr.injEq] at h1
            obtain ⟨u, h3, rfl⟩ := h1
            obtain ⟨l2, h4, h5⟩ := contO_out h3 hc h2
            exact hk _ _ _ _ h4 h5
        · cases hv
    exact key n v0 a w hn ⟨hi.1.join hv0, hi.2⟩
end
end Go.X
