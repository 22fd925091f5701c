/- Part 14 of what stands below the statement. -/
import Derived.Test.YtmipjomnjkmdbaaGreatQ13
set_option linter.unusedSimpArgs false
set_option linter.unusedVariables false
namespace Go.Proofs.YtmipjomnjkmdbaaGreat
open Go Go.X
theorem countP_at {α:Type} {R:α→α→Bool}:∀ {L:List α},L.Pairwise (fun a b=>R a b=true)→(∀ a∈L,R a a=false)→(∀ a∈L,∀ b∈L,R a b=true→R b a=false)→∀ {j:Nat} (hj:j < L.length),L.countP (fun d=>R d L[j])=j
  | [],_,_,_,j,hj=>by simp at hj
  | x::L,hp,hi,ha,0,_=>by
    rw [List.countP_eq_zero]
    intro d hd
    rw [List.getElem_cons_zero]
    rcases List.mem_cons.1 hd with rfl | hd
    · rw [hi d (by simp)]; simp
    · rw [ha x (by simp) d (List.mem_cons_of_mem _ hd) ((List.pairwise_cons.1 hp).1 d hd)]; simp
  | x::L,hp,hi,ha,j+1,hj=>by
    obtain ⟨h1,h2⟩:=List.pairwise_cons.1 hp
    have hj':j < L.length:=by simpa using hj
    have ih:=countP_at h2 (fun a h=>hi a (List.mem_cons_of_mem _ h)) (fun a h b h'=>ha a (List.mem_cons_of_mem _ h) b (List.mem_cons_of_mem _ h')) hj'
    rw [List.getElem_cons_succ,List.countP_cons,ih,if_pos (h1 _ (List.getElem_mem hj'))]
theorem ins_ex {α:Type} {R:α→α→Bool} (x:α):∀ {L:List α},L.Pairwise (fun a b=>R a b=true)→(∀ a∈L,R x a=true∨R a x=true)→(∀ a∈L,∀ b∈L,R x a=true→R a b=true→R x b=true)→∃ A B,L=A++B∧(A++x::B).Pairwise fun a b=>R a b=true
  | [],_,_,_=>⟨[],[],rfl,by simp⟩
  | y::L,hp,ht,hr=>by
    obtain ⟨h1,h2⟩:=List.pairwise_cons.1 hp
    cases hxy:R x y with
    | true =>
      refine ⟨[],y::L,rfl,?_⟩
      rw [List.nil_append]
      refine List.pairwise_cons.2 ⟨fun b hb=>?_,hp⟩
      rcases List.mem_cons.1 hb with rfl | hb
      · exact hxy
      · exact hr y (by simp) b (List.mem_cons_of_mem _ hb) hxy (h1 b hb)
    | false =>
      have hyx:R y x=true:=(ht y (by simp)).resolve_left (by rw [hxy]; simp)
      obtain ⟨A,B,e,hs⟩:=ins_ex x h2 (fun a ha=>ht a (List.mem_cons_of_mem _ ha)) (fun a ha b hb=>hr a (List.mem_cons_of_mem _ ha) b (List.mem_cons_of_mem _ hb))
      refine ⟨y::A,B,by rw [e]; rfl,?_⟩
      rw [List.cons_append]
      refine List.pairwise_cons.2 ⟨fun b hb=>?_,hs⟩
      rcases List.mem_append.1 hb with hb | hb
      · exact h1 b (by rw [e]; exact List.mem_append_left _ hb)
      · rcases List.mem_cons.1 hb with rfl | hb
        · exact hyx
        · exact h1 b (by rw [e]; exact List.mem_append_right _ hb)
theorem zix {α:Type} {R:α→α→Bool}:∀ {l:List α},l.Nodup→(∀ a∈l,∀ b∈l,a ≠ b→R a b=true∨R b a=true)→(∀ a∈l,∀ b∈l,∀ c∈l,R a b=true→R b c=true→R a c=true)→∃ L:List α,L.Perm l∧L.Pairwise fun a b=>R a b=true
  | [],_,_,_=>⟨[],List.Perm.refl _,by simp⟩
  | x::l,hn,ht,hr=>by
    obtain ⟨h1,h2⟩:=List.nodup_cons.1 hn
    obtain ⟨L,hL,hs⟩:=zix h2 (fun a ha b hb=>ht a (List.mem_cons_of_mem _ ha) b (List.mem_cons_of_mem _ hb)) (fun a ha b hb c hc=>hr a (List.mem_cons_of_mem _ ha) b (List.mem_cons_of_mem _ hb) c (List.mem_cons_of_mem _ hc))
    have hm:∀ a∈L,a∈l:=fun a ha=>hL.mem_iff.1 ha
    obtain ⟨A,B,e,hs'⟩:=ins_ex x hs (fun a ha=>ht x (by simp) a (List.mem_cons_of_mem _ (hm a ha)) fun e=>h1 (by rw [e]; exact hm a ha)) (fun a ha b hb=>hr x (by simp) a (List.mem_cons_of_mem _ (hm a ha)) b (List.mem_cons_of_mem _ (hm b hb)))
    refine ⟨A++x::B,?_,hs'⟩
    refine List.perm_middle.trans (List.Perm.cons x ?_)
    rw [← e]
    exact hL
section
variable {v:Nat→Nat} {lots:List Int}
theorem zom (a:Nat):zdg v lots a a=false:=by
  unfold zdg
  simp
theorem better_asym {a b:Nat} (h:zdg v lots a b=true):zdg v lots b a=false:=by
  unfold zdg at h ⊢
  simp only [Bool.or_eq_true,Bool.and_eq_true,decide_eq_true_eq,Bool.or_eq_false_iff,Bool.and_eq_false_iff,decide_eq_false_iff_not] at h ⊢
  omega
theorem zkp {a b c:Nat} (h:zdg v lots a b=true) (h':zdg v lots b c=true):zdg v lots a c=true:=by
  unfold zdg at h h' ⊢
  simp only [Bool.or_eq_true,Bool.and_eq_true,decide_eq_true_eq] at h h' ⊢
  omega
theorem zkq {a b:Nat} (ha:(a:Int)∈lots) (hne:a ≠ b):zdg v lots a b=true∨zdg v lots b a=true:=by
  have hp:zcb lots (a:Int) ≠ zcb lots (b:Int):=fun e=>by
    unfold zcb at e
    have h1:lots.idxOf (a:Int) < lots.length:=List.idxOf_lt_length_of_mem ha
    have e1:=List.getElem_idxOf h1
    have h2:lots.idxOf (b:Int) < lots.length:=by rw [← e]; exact h1
    have e2:=List.getElem_idxOf h2
    have:(a:Int)=(b:Int):=by
      rw [← e1,← e2]
      congr 1
    omega
  unfold zdg
  simp only [Bool.or_eq_true,Bool.and_eq_true,decide_eq_true_eq]
  omega
end
def zmx (v:Nat→Nat) (lots:List Int) (a b:Int):Bool:=zdg v lots a.toNat b.toNat
variable {Q:MP} {s:MS}
theorem reach_sorted (hQ:Q.OK):∃ L:List Int,L.Perm (selI (s.reach Q) Q.P.n)∧L.Pairwise fun a b=>zmx (s.v Q) Q.P.lots a b=true:=by
  refine zix (zdi _ _) (fun a ha b hb hne=>?_) (fun a _ b _ c _=>zkp)
  obtain ⟨i,rfl,hi,_⟩:=zay.1 ha
  obtain ⟨k,rfl,hk,_⟩:=zay.1 hb
  exact zkq ((lotsOK hQ.P).mem hi) fun e=>hne (by rw [Int.toNat_natCast,Int.toNat_natCast] at e; rw [e])
theorem zmu (p q:Nat→Bool):∀ n:Nat,(selI p n).countP (fun d=>q d.toNat)=cntN (fun d=>p d && q d) n
  | 0=>rfl
  | n+1=>by
    rw [zek,List.countP_append,zmu p q n]
    show _=cntN (fun d=>p d && q d) n+(if (p n && q n)=true then 1 else 0)
    congr 1
    cases hp:p n
    · simp
    · rw [if_pos rfl,List.countP_singleton,Int.toNat_natCast]
      simp
theorem el_take (hQ:Q.OK) {L:List Int} (hL:L.Perm (selI (s.reach Q) Q.P.n)) (hs:L.Pairwise fun a b=>zmx (s.v Q) Q.P.lots a b=true) {i:Nat} (hi:i < Q.P.n):(i:Int)∈L.take (Q.P.seats - s.fl Q)↔s.el Q i=true:=by
  have hrank:∀ {j:Nat} (hj:j < L.length),s.rank Q (L[j]).toNat=j:=fun {j} hj=>by
    have h1:=countP_at (R:=zmx (s.v Q) Q.P.lots) hs (fun a _=>zom _) (fun a _ b _ h=>better_asym h) hj
    rw [hL.countP_eq] at h1
    have h2:=zmu (s.reach Q) (fun d=>zdg (s.v Q) Q.P.lots d (L[j]).toNat) Q.P.n
    exact h2.symm.trans h1
  unfold MS.el
  rw [Bool.and_eq_true,decide_eq_true_eq]
  constructor
  · intro h
    have hm:=List.mem_of_mem_take h
    obtain ⟨j,hj,e⟩:=List.getElem_of_mem h
    rw [List.getElem_take] at e
    rw [List.length_take] at hj
    have hr:=hrank (j:=j) (by omega)
    rw [e,Int.toNat_natCast] at hr
    obtain ⟨k,e2,_,h2⟩:=zay.1 (hL.mem_iff.1 hm)
    have:=Int.ofNat_inj.1 e2
    subst this
    exact ⟨h2,by omega⟩
  · rintro ⟨h1,h2⟩
    have hm:(i:Int)∈L:=hL.mem_iff.2 (zay.2 ⟨i,rfl,hi,h1⟩)
    obtain ⟨j,hj,e⟩:=List.getElem_of_mem hm
    have hr:=hrank hj
    rw [e,Int.toNat_natCast] at hr
    rw [List.mem_take_iff_getElem]
    exact ⟨j,by omega,e⟩
theorem el_perm (hQ:Q.OK) {L:List Int} (hL:L.Perm (selI (s.reach Q) Q.P.n)) (hs:L.Pairwise fun a b=>zmx (s.v Q) Q.P.lots a b=true):(L.take (Q.P.seats - s.fl Q)).Perm (selI (s.el Q) Q.P.n):=by
  have hnd:L.Nodup:=hL.nodup_iff.2 (zdi _ _)
  refine (List.perm_ext_iff_of_nodup (hnd.sublist (List.take_sublist _ _)) (zdi _ _)).2 fun c=>?_
  constructor
  · intro h
    obtain ⟨i,rfl,hi,_⟩:=zay.1 (hL.mem_iff.1 (List.mem_of_mem_take h))
    exact zay.2 ⟨i,rfl,hi,(el_take hQ hL hs hi).1 h⟩
  · intro h
    obtain ⟨i,rfl,hi,h2⟩:=zay.1 h
    exact (el_take hQ hL hs hi).2 h2
theorem el_cnt (hQ:Q.OK):cntN (s.el Q) Q.P.n≤Q.P.seats - s.fl Q:=by
  obtain ⟨L,hL,hs⟩:=reach_sorted (s:=s) hQ
  rw [← zbc,← (el_perm hQ hL hs).length_eq,List.length_take]
  exact Nat.min_le_left _ _
theorem f1_le (hQ:Q.OK) (hI:MI Q s):s.f1 Q≤Q.P.seats:=by
  have h1:=f1_eq (Q:=Q) (s:=s)
  have h2:=el_cnt (s:=s) hQ
  have h3:=hI.fill
  omega
theorem zhl (hQ:Q.OK) (hI:MI Q s) (h:s.fin Q=false):s.f1 Q < Q.P.seats∧Q.P.seats < s.f1 Q+s.h1 Q:=by
  unfold MS.fin at h
  rw [Bool.or_eq_false_iff,decide_eq_false_iff_not,decide_eq_false_iff_not] at h
  have:=f1_le hQ hI
  omega
theorem some1_iff:s.some1 Q=false↔∀ i,i < Q.P.n→s.el Q i=false:=by
  unfold MS.some1
  rw [decide_eq_false_iff_not]
  constructor
  · intro h i hi
    cases he:s.el Q i
    · rfl
    · exact absurd (zpz.2 ⟨i,hi,he⟩) h
  · intro h hc
    obtain ⟨i,hi,he⟩:=zpz.1 hc
    rw [h i hi] at he
    cases he
theorem el_out {i:Nat} (h:s.some1 Q=false) (hi:i < Q.P.n):s.el Q i=false∧s.st1 Q i=s.st i:=by
  have:=some1_iff.1 h i hi
  refine ⟨this,?_⟩
  unfold MS.st1
  rw [this]; rfl
theorem near_ne (hI:MI Q s):s.tied Q ≠ []:=by
  have hne:selN (fun i=>decide (s.st i=0)) Q.P.n ≠ []:=by
    have:=hI.left
    rw [← zfw] at this
    exact List.length_pos_iff.1 this
  obtain ⟨i,k1,k2⟩:=zpp (s.v Q) hne
  obtain ⟨k3,k4⟩:=zez.1 k1
  refine List.ne_nil_of_mem (a:=(i:Int)) (zay.2 ⟨i,rfl,k3,?_⟩)
  unfold MS.near
  rw [k4,Bool.true_and,List.all_eq_true]
  intro k hk
  by_cases h5:s.st k=0
  · have:=k2 k (zez.2 ⟨List.mem_range.1 hk,decide_eq_true h5⟩)
    rw [Bool.or_eq_true,decide_eq_true_eq]
    exact .inr (by omega)
  · simp [h5]
theorem pickM_mem (E:List (List Rat)) (h:s.tied Q ≠ []):s.pick Q E∈s.tied Q:=by
  unfold MS.pick
  split
  · exact ziu h
  · exact tieB_mem h
theorem zig (hI:MI Q s) (E:List (List Rat)):∃ x:Nat,s.pick Q E=(x:Int)∧x < Q.P.n∧s.st x=0:=by
  obtain ⟨i,h2,h3,h4⟩:=zay.1 (pickM_mem E (near_ne hI))
  refine ⟨i,h2,h3,?_⟩
  unfold MS.near at h4
  rw [Bool.and_eq_true,decide_eq_true_eq] at h4
  exact h4.1
theorem hop_excl {x:Nat} (hx:x < Q.P.n) (h0:s.st x=0):cntN (fun i=>decide (s.st i=0)) Q.P.n=cntN (fun i=>decide (upd s.st x 2 i=0)) Q.P.n+1 :=
  cnt_upd hx (fun i hi hne=>by rw [zlh _ _ hne]) (by rw [zop]; rfl) (decide_eq_true h0)
theorem fl_excl {x:Nat} (hx:x < Q.P.n) (h0:s.st x=0):cntN (fun i=>decide (upd s.st x 2 i=1)) Q.P.n=s.fl Q:=by
  refine zjz fun i hi=>?_
  unfold upd
  split
  · rename_i e; subst e; rw [h0]; rfl
  · rfl
theorem zmr (hQ:Q.OK) (hI:MI Q s) (hf:s.fin Q=false) (hc:s.cut Q=true) (E:List (List Rat)):MI Q (s.excl Q E)∧(s.excl Q E).meas Q < s.meas Q:=by
  obtain ⟨x,h1,h2,h3⟩:=zig hI E
  have hff:=zhl hQ hI hf
  have hs1:s.some1 Q=false:=by
    unfold MS.cut at hc
    rw [Bool.and_eq_true,Bool.not_eq_true'] at hc
    exact hc.1
  have hcnt:cntN (s.el Q) Q.P.n=0:=by
    refine Nat.eq_zero_of_not_pos fun h=>?_
    unfold MS.some1 at hs1
    rw [decide_eq_false_iff_not] at hs1
    exact hs1 h
  have hf1:=f1_eq (Q:=Q) (s:=s)
  have hh1:=h1_eq (Q:=Q) (s:=s)
  have hh:=hop_excl (Q:=Q) h2 h3
  have hfl:=fl_excl (Q:=Q) h2 h3
  have hsi:=hI.since
  unfold MS.excl
  rw [h1,Int.toNat_natCast]
  refine ⟨⟨fun c=>?_,fun c=>?_,fun c hc=>?_,fun c hc=>?_,fun c hc=>?_,Nat.zero_le _,?_,?_⟩,?_⟩
  · show upd s.st x 2 c≤2
    unfold upd; split
    · exact Nat.le_refl _
    · exact hI.st2 c
  · show upd s.kp x 0 c≤_
    unfold upd; split
    · exact Nat.zero_le _
    · exact hI.kp1 c
  · have hc':upd s.st x 2 c=0:=hc
    show upd s.kp x 0 c=_
    unfold upd at hc' ⊢
    split at hc'
    · omega
    · rename_i e; rw [if_neg e]; exact hI.hop c hc'
  · have hc':upd s.st x 2 c=1:=hc
    show 0 < upd s.kp x 0 c
    unfold upd at hc' ⊢
    split at hc'
    · omega
    · rename_i e; rw [if_neg e]; exact hI.elc c hc'
  · have hc':upd s.st x 2 c=2:=hc
    show upd s.kp x 0 c=0
    unfold upd at hc' ⊢
    split at hc'
    · rename_i e; rw [if_pos e]
    · rename_i e; rw [if_neg e]; exact hI.exc c hc'
  · show cntN (fun i=>decide (upd s.st x 2 i=1)) Q.P.n < _
    rw [hfl]; exact hI.fill
  · show 0 < cntN (fun i=>decide (upd s.st x 2 i=0)) Q.P.n
    omega
  · show cntN (fun i=>decide (upd s.st x 2 i=0)) Q.P.n * 61+(60 - 0) < cntN (fun i=>decide (s.st i=0)) Q.P.n * 61+(60 - s.since)
    omega
theorem quo_pos:0 < s.quo Q:=Nat.succ_pos _
theorem zlx (hQ:Q.OK) (hI:MI Q s) (hf:s.fin Q=false) (hc:s.cut Q=false):MI Q (s.redu Q)∧(s.redu Q).meas Q < s.meas Q:=by
  have hff:=zhl hQ hI hf
  have hf1:=f1_eq (Q:=Q) (s:=s)
  have hh1:=h1_eq (Q:=Q) (s:=s)
  have hsi:=hI.since
  have hst:∀ c,s.st1 Q c=2→s.st c=2:=fun c hc=>by
    rcases zbj (Q:=Q) (s:=s) c with ⟨_,_,h2,_⟩ | ⟨_,h2⟩ <;> omega
  have hst0:∀ c,s.st1 Q c=0→s.st c=0:=fun c hc=>by
    rcases zbj (Q:=Q) (s:=s) c with ⟨_,_,h2,_⟩ | ⟨_,h2⟩ <;> omega
  have hsome:s.some1 Q=false→s.since+1 < 60:=fun h=>by
    unfold MS.cut at hc
    rw [h,Bool.not_false,Bool.true_and] at hc
    unfold MS.stall at hc
    rw [Bool.or_eq_false_iff,Bool.or_eq_false_iff,decide_eq_false_iff_not,decide_eq_false_iff_not] at hc
    omega
  refine ⟨⟨fun c=>?_,fun c=>?_,fun c hc=>?_,fun c hc=>?_,fun c hc=>?_,?_,?_,?_⟩,?_⟩
  · show s.st1 Q c≤2
    have:=hI.st2 c
    rcases zbj (Q:=Q) (s:=s) c with ⟨_,_,h2,_⟩ | ⟨_,h2⟩ <;> omega
  · show s.kp1 Q c≤_
    unfold MS.kp1; split
    · exact Nat.min_le_left _ _
    · exact hI.kp1 c
  · have hc':s.st1 Q c=0:=hc
    show s.kp1 Q c=_
    unfold MS.kp1
    rw [if_neg (by omega)]
    exact hI.hop c (hst0 c hc')
  · have hc':s.st1 Q c=1:=hc
    have hkp:0 < s.kp c:=by
      rcases zbj (Q:=Q) (s:=s) c with ⟨_,h1,h2,_⟩ | ⟨_,h2⟩
      · rw [hI.hop c h1]; exact hQ.one1
      · exact hI.elc c (by omega)
    show 0 < s.kp1 Q c
    unfold MS.kp1; split
    · rename_i h
      refine Nat.lt_min.2 ⟨hQ.one1,mup_pos h.2 (Nat.mul_pos (mup_pos hQ.one1 (Nat.mul_pos hkp quo_pos)) hQ.one1)⟩
    · exact hkp
  · have hc':s.st1 Q c=2:=hc
    show s.kp1 Q c=0
    unfold MS.kp1
    rw [if_neg (by omega)]
    exact hI.exc c (hst c hc')
  · show (if s.some1 Q then 0 else s.since+1)≤59
    cases h:s.some1 Q
    · have:=hsome h
      simp only [Bool.false_eq_true,if_false]; omega
    · simp
  · show s.f1 Q < _
    omega
  · show 0 < s.h1 Q
    omega
  · show s.h1 Q * 61+(60 - (if s.some1 Q then 0 else s.since+1)) < cntN (fun i=>decide (s.st i=0)) Q.P.n * 61+(60 - s.since)
    cases h:s.some1 Q
    · simp only [Bool.false_eq_true,if_false]; omega
    · have:0 < cntN (s.el Q) Q.P.n:=by
        unfold MS.some1 at h
        exact of_decide_eq_true h
      simp only [if_true]; omega
theorem s0_inv (hQ:Q.OK):MI Q Q.s0:=by
  have h1:=hQ.P.seats1
  have h2:=hQ.P.n1
  refine ⟨fun _=>Nat.zero_le _,fun _=>Nat.le_refl _,fun _ _=>rfl,fun _ h=>(by cases h),fun _ h=>(by cases h),Nat.zero_le _,?_,zpz.2 ⟨0,by omega,rfl⟩⟩
  have:Q.s0.fl Q=0:=by unfold MS.fl cntN; exact zct _
  omega
theorem s0_meas (hQ:Q.OK):Q.s0.meas Q≤487:=by
  have h:=zcl (fun i=>decide (Q.s0.st i=0)) Q.P.n
  have:=hQ.P.n7
  unfold MS.meas
  show _ * 61+(60 - 0)≤_
  omega
theorem bzM (hQ:Q.OK) {a:Nat} (h:a≤1000000000000000000):Bz eB (frac a Q.one):=by
  have:=hQ.one6
  refine frac_bz (Nat.lt_of_le_of_lt h (Nat.lt_trans (show (1000000000000000000:Nat) < 2 ^ 64 by decide) (Nat.pow_lt_pow_right (by decide) (by decide)))) (Nat.lt_of_le_of_lt this (Nat.lt_trans (show (1000000:Nat) < 2 ^ 64 by decide) (Nat.pow_lt_pow_right (by decide) (by decide)))) (by decide)
theorem votes_rndM (hQ:Q.OK) (hI:MI Q s):RndOK Q.P.n (s.rd0 Q).votes:=⟨zba _ _,fun q hq=>by
  obtain ⟨i,hi,rfl⟩:=mem_lst.1 hq
  have h1:=MS.v_le hQ hI hi
  have h2:=MS.tot_le hQ
  exact bzM hQ (by omega)⟩
structure MRun (Q:MP) (s:MS) (rs:List Rd):Prop where
  inv:MI Q s
  rnd:∀ r∈rs,RndOK Q.P.n r.votes∧r.el.length≤7
  len:rs.length+s.meas Q≤487
  run:mrun Q (500 - rs.length) rs s=zad Q
theorem MRun.start (hQ:Q.OK):MRun Q Q.s0 []:=⟨s0_inv hQ,fun r hr=>by simp at hr,by have:=s0_meas hQ; simp; omega,rfl⟩
theorem zpt (hQ:Q.OK):(selI (s.el Q) Q.P.n).length≤7:=by rw [zbc]; have:=zcl (s.el Q) Q.P.n; have:=hQ.P.n7; omega
theorem MRun.next (hQ:Q.OK) {rs:List Rd} (h:MRun Q s rs) {r:Rd} {s':MS} (hs:mstep Q (rs.map Rd.votes) s=(r,some s')) (hi:MI Q s') (hm:s'.meas Q < s.meas Q) (hv:r.votes=(s.rd0 Q).votes) (he:r.el=(s.rd0 Q).el):MRun Q s' (rs++[r]):=by
  have hl:=h.len
  refine ⟨hi,fun x hx=>?_,by simp; omega,?_⟩
  · rcases List.mem_append.1 hx with hx | hx
    · exact h.rnd x hx
    · rw [List.mem_singleton] at hx
      subst hx
      rw [hv,he]
      exact ⟨votes_rndM hQ h.inv,zpt hQ⟩
  · have hr:=h.run
    rw [show 500 - rs.length=(499 - rs.length)+1 by omega,mrun,hs] at hr
    rw [← hr]
    simp only [List.length_append,List.length_cons,List.length_nil]
    rw [show 500 - (rs.length+(0+1))=499 - rs.length by omega]
theorem mstep_fin {E:List (List Rat)} (hf:s.fin Q=true):mstep Q E s=(s.done Q,none):=by unfold mstep; rw [if_pos hf]
theorem mstep_cut {E:List (List Rat)} (hf:s.fin Q=false) (hc:s.cut Q=true):mstep Q E s=(s.exR Q E,some (s.excl Q E)):=by unfold mstep; rw [if_neg (by rw [hf]; simp),if_pos hc]
theorem mstep_redu {E:List (List Rat)} (hf:s.fin Q=false) (hc:s.cut Q=false):mstep Q E s=(s.rd0 Q,some (s.redu Q)):=by unfold mstep; rw [if_neg (by rw [hf]; simp),if_neg (by rw [hc]; simp)]
theorem MRun.fin {rs:List Rd} (h:MRun Q s rs) (hf:s.fin Q=true):rs++[s.done Q]=zad Q:=by
  have hl:=h.len
  have hr:=h.run
  rw [show 500 - rs.length=(499 - rs.length)+1 by omega,mrun,mstep_fin hf] at hr
  exact hr
theorem MRun.excl (hQ:Q.OK) {rs:List Rd} (h:MRun Q s rs) (hf:s.fin Q=false) (hc:s.cut Q=true):MRun Q (s.excl Q (rs.map Rd.votes)) (rs++[s.exR Q (rs.map Rd.votes)]):=by
  obtain ⟨h1,h2⟩:=zmr hQ h.inv hf hc (rs.map Rd.votes)
  exact h.next hQ (mstep_cut hf hc) h1 h2 rfl rfl
theorem MRun.redu (hQ:Q.OK) {rs:List Rd} (h:MRun Q s rs) (hf:s.fin Q=false) (hc:s.cut Q=false):MRun Q (s.redu Q) (rs++[s.rd0 Q]):=by
  obtain ⟨h1,h2⟩:=zlx hQ h.inv hf hc
  exact h.next hQ (mstep_redu hf hc) h1 h2 rfl rfl
inductive MTr (Q:MP):MS→List Rd→List Rd→Prop
  | fin {s:MS} {rs:List Rd}:MRun Q s rs→s.fin Q=true→MTr Q s rs [s.done Q]
  | excl {s:MS} {rs rest:List Rd}:MRun Q s rs→s.fin Q=false→s.cut Q=true→MTr Q (s.excl Q (rs.map Rd.votes)) (rs++[s.exR Q (rs.map Rd.votes)]) rest→MTr Q s rs (s.exR Q (rs.map Rd.votes)::rest)
  | redu {s:MS} {rs rest:List Rd}:MRun Q s rs→s.fin Q=false→s.cut Q=false→MTr Q (s.redu Q) (rs++[s.rd0 Q]) rest→MTr Q s rs (s.rd0 Q::rest)
theorem mtr_ex (hQ:Q.OK):∀ (m:Nat) {s:MS} {rs:List Rd},s.meas Q < m→MRun Q s rs→∃ rest,MTr Q s rs rest∧rs++rest=zad Q
  | 0,_,_,h,_=>by omega
  | m+1,s,rs,h,hR=>by
    cases hf:s.fin Q with
    | true=>exact ⟨_,.fin hR hf,hR.fin hf⟩
    | false =>
      cases hc:s.cut Q with
      | true =>
        have hme:=(zmr hQ hR.inv hf hc (rs.map Rd.votes)).2
        obtain ⟨rest,h1,h2⟩:=mtr_ex hQ m (by omega) (hR.excl hQ hf hc)
        exact ⟨_,.excl hR hf hc h1,by rw [← h2,List.append_assoc]; rfl⟩
      | false =>
        have hme:=(zlx hQ hR.inv hf hc).2
        obtain ⟨rest,h1,h2⟩:=mtr_ex hQ m (by omega) (hR.redu hQ hf hc)
        exact ⟨_,.redu hR hf hc h1,by rw [← h2,List.append_assoc]; rfl⟩
theorem zgu (hQ:Q.OK):MTr Q Q.s0 [] (zad Q):=by
  obtain ⟨rest,h1,h2⟩:=mtr_ex hQ (Q.s0.meas Q+1) (by omega) (MRun.start hQ)
  rw [List.nil_append] at h2
  rwa [h2] at h1
theorem MTr.run {rs rest:List Rd} (h:MTr Q s rs rest):MRun Q s rs:=by cases h <;> assumption
end Go.Proofs.YtmipjomnjkmdbaaGreat
