/- Part 20 of what stands below the statement. -/
import Derived.Test.YtfgjbkjddcjlfaaGreatS19
set_option linter.defProp false
set_option linter.unusedSimpArgs false
set_option linter.unusedVariables false
namespace Go.Proofs.YtfgjbkjddcjlfaaGreat
open Go Go.X
section
def countP_at{α:Type}{R:α→α→Bool}:∀{L:List α},L.Pairwise (fun a b=>R a b=true)→(∀a∈L,R a a=false)→(∀a∈L,∀b∈L,R a b=true→R b a=false)→∀{j:Nat} (hj:j<L.length),L.countP (fun d=>R d L[j])=j
 | [],_,_,_,j,hj=>by simp at hj
 |x::L,hp,hi,ha,0,_=>by
  rw[List.countP_eq_zero]
  intro d hd
  rw[List.getElem_cons_zero]
  rcases xbd.1 hd with rfl|hd
  ·rw[hi d (by simp)];simp
  ·rw[ha x (by simp) d (xap _ hd) ((xdr.1 hp).1 d hd)];simp
 |x::L,hp,hi,ha,j+1,hj=>by
  obtain⟨h1,h2⟩:=xdr.1 hp
  have hj':j<L.length:=by simpa using hj
  have ih:=countP_at h2 (fun a h=>hi a (xap _ h)) (fun a h b h'=>ha a (xap _ h) b (xap _ h')) hj'
  rw[List.getElem_cons_succ,List.countP_cons,ih,if_pos (h1 _ (xbc hj'))]
def ins_ex{α:Type}{R:α→α→Bool}(x:α):∀{L:List α},L.Pairwise (fun a b=>R a b=true)→(∀a∈L,R x a=true∨R a x=true)→(∀a∈L,∀b∈L,R x a=true→R a b=true→R x b=true)→∃A B,L=A++B∧(A++x::B).Pairwise fun a b=>R a b=true
 | [],_,_,_=>⟨[],[],rfl,by simp⟩
 |y::L,hp,ht,hr=>by
  obtain⟨h1,h2⟩:=xdr.1 hp
  cases hxy:R x y with
  |true=>
   refine⟨[],y::L,rfl,?_⟩
   rw[xci]
   refine xdr.2 ⟨fun b hb=>?_,hp⟩
   rcases xbd.1 hb with rfl|hb
   ·exact hxy
   ·exact hr y (by simp) b (xap _ hb) hxy (h1 b hb)
  |false=>
   have hyx:R y x=true:=(ht y (by simp)).resolve_left (by rw[hxy];simp)
   obtain⟨A,B,e,hs⟩:=ins_ex x h2 (fun a ha=>ht a (xap _ ha)) (fun a ha b hb=>hr a (xap _ ha) b (xap _ hb))
   refine⟨y::A,B,by rw[e];rfl,?_⟩
   rw[xca]
   refine xdr.2 ⟨fun b hb=>?_,hs⟩
   rcases xbq.1 hb with hb|hb
   ·exact h1 b (by rw[e];exact xel _ hb)
   ·rcases xbd.1 hb with rfl|hb
    ·exact hyx
    ·exact h1 b (by rw[e];exact xic _ hb)
def zmu{α:Type}{R:α→α→Bool}:∀{l:List α},l.Nodup→(∀a∈l,∀b∈l,a≠b→R a b=true∨R b a=true)→(∀a∈l,∀b∈l,∀c∈l,R a b=true→R b c=true→R a c=true)→∃L:List α,L.Perm l∧L.Pairwise fun a b=>R a b=true
 | [],_,_,_=>⟨[],xje _,by simp⟩
 |x::l,hn,ht,hr=>by
  obtain⟨h1,h2⟩:=xdx.1 hn
  obtain⟨L,hL,hs⟩:=zmu h2 (fun a ha b hb=>ht a (xap _ ha) b (xap _ hb)) (fun a ha b hb c hc=>hr a (xap _ ha) b (xap _ hb) c (xap _ hc))
  have hm:∀a∈L,a∈l:=fun a ha=>hL.mem_iff.1 ha
  obtain⟨A,B,e,hs'⟩:=ins_ex x hs (fun a ha=>ht x (by simp) a (xap _ (hm a ha)) fun e=>h1 (by rw[e];exact hm a ha)) (fun a ha b hb=>hr x (by simp) a (xap _ (hm a ha)) b (xap _ (hm b hb)))
  refine⟨A++x::B,?_,hs'⟩
  refine List.perm_middle.trans (List.Perm.cons x ?_)
  rw[←e]
  exact hL
section
variable {v:Nat→Nat} {lots:List Int}
def zuz(a:Nat):zfa v lots a a=false:=by
 unfold zfa
 simp
def better_asym{a b:Nat}(h:zfa v lots a b=true):zfa v lots b a=false:=by
 unfold zfa at h ⊢
 simp only[xdj,xan,xam,xcj,Bool.and_eq_false_iff,xay]at h ⊢
 omega
def zpk{a b c:Nat}(h:zfa v lots a b=true)(h':zfa v lots b c=true):zfa v lots a c=true:=by
 unfold zfa at h h' ⊢
 simp only[xdj,xan,xam]at h h' ⊢
 omega
def zpl{a b:Nat}(ha:(a:Int)∈lots)(hne:a≠b):zfa v lots a b=true∨zfa v lots b a=true:=by
 have hp:zdb lots (a:Int)≠zdb lots (b:Int):=fun e=>by
  unfold zdb at e
  have h1:lots.idxOf (a:Int)<lots.length:=xip ha
  have e1:=List.getElem_idxOf h1
  have h2:lots.idxOf (b:Int)<lots.length:=by rw[←e];exact h1
  have e2:=List.getElem_idxOf h2
  have:(a:Int)=(b:Int):=by
   rw[←e1,←e2]
   congr 1
  omega
 unfold zfa
 simp only[xdj,xan,xam]
 omega
end
def zta(v:Nat→Nat)(lots:List Int)(a b:Int):Bool:=zfa v lots a.toNat b.toNat
variable {Q:MP} {s:MS}
def reach_sorted(hQ:Q.OK):∃L:List Int,L.Perm (selI (s.reach Q) Q.P.n)∧L.Pairwise fun a b=>zta (s.v Q) Q.P.lots a b=true:=by
 refine zmu (zdg _ _) (fun a ha b hb hne=>?_) (fun a _ b _ c _=>zpk)
 obtain⟨i,rfl,hi,_⟩:=zal.1 ha
 obtain⟨k,rfl,hk,_⟩:=zal.1 hb
 exact zpl ((zsa hQ.P).mem hi) fun e=>hne (by rw[xaf,xaf]at e;rw[e])
def zsv(p q:Nat→Bool):∀n:Nat,(selI p n).countP (fun d=>q d.toNat)=cntN (fun d=>p d&&q d) n
 | 0=>rfl
 |n+1=>by
  rw[zev,List.countP_append,zsv p q n]
  show _=cntN (fun d=>p d&&q d) n+(if(p n&&q n)=true then 1 else 0)
  congr 1
  cases hp:p n
  ·simp
  ·rw[if_pos rfl,List.countP_singleton,xaf]
   simp
def el_take(hQ:Q.OK){L:List Int}(hL:L.Perm (selI (s.reach Q) Q.P.n))(hs:L.Pairwise fun a b=>zta (s.v Q) Q.P.lots a b=true){i:Nat}(hi:i<Q.P.n):(i:Int)∈L.take (Q.P.seats-s.fl Q)↔s.el Q i=true:=by
 have hrank:∀{j:Nat} (hj:j<L.length),s.rank Q (L[j]).toNat=j:=fun{j} hj=>by
  have h1:=countP_at (R:=zta (s.v Q) Q.P.lots) hs (fun a _=>zuz _) (fun a _ b _ h=>better_asym h) hj
  rw[hL.countP_eq]at h1
  have h2:=zsv (s.reach Q) (fun d=>zfa (s.v Q) Q.P.lots d (L[j]).toNat) Q.P.n
  exact h2.symm.trans h1
 unfold MS.el
 rw[xan,xam]
 constructor
 ·intro h
  have hm:=xcq h
  obtain⟨j,hj,e⟩:=xcm h
  rw[xhc]at e
  rw[xbj]at hj
  have hr:=hrank (j:=j) (by omega)
  rw[e,xaf]at hr
  obtain⟨k,e2,_,h2⟩:=zal.1 (hL.mem_iff.1 hm)
  have:=xfk.1 e2
  subst this
  exact⟨h2,by omega⟩
 ·rintro⟨h1,h2⟩
  have hm:(i:Int)∈L:=hL.mem_iff.2 (zal.2 ⟨i,rfl,hi,h1⟩)
  obtain⟨j,hj,e⟩:=xcm hm
  have hr:=hrank hj
  rw[e,xaf]at hr
  rw[xjb]
  exact⟨j,by omega,e⟩
def el_perm(hQ:Q.OK){L:List Int}(hL:L.Perm (selI (s.reach Q) Q.P.n))(hs:L.Pairwise fun a b=>zta (s.v Q) Q.P.lots a b=true):(L.take (Q.P.seats-s.fl Q)).Perm (selI (s.el Q) Q.P.n):=by
 have hnd:L.Nodup:=hL.nodup_iff.2 (zdg _ _)
 refine(List.perm_ext_iff_of_nodup (hnd.sublist (List.take_sublist _ _)) (zdg _ _)).2 fun c=>?_
 constructor
 ·intro h
  obtain⟨i,rfl,hi,_⟩:=zal.1 (hL.mem_iff.1 (xcq h))
  exact zal.2 ⟨i,rfl,hi,(el_take hQ hL hs hi).1 h⟩
 ·intro h
  obtain⟨i,rfl,hi,h2⟩:=zal.1 h
  exact(el_take hQ hL hs hi).2 h2
def el_cnt(hQ:Q.OK):cntN (s.el Q) Q.P.n≤Q.P.seats-s.fl Q:=by
 obtain⟨L,hL,hs⟩:=reach_sorted (s:=s) hQ
 rw[←zat,←(el_perm hQ hL hs).length_eq,xbj]
 exact xio _ _
def f1_le(hQ:Q.OK)(hI:MI Q s):s.f1 Q≤Q.P.seats:=by
 have h1:=f1_eq (Q:=Q) (s:=s)
 have h2:=el_cnt (s:=s) hQ
 have h3:=hI.fill
 omega
def zkx(hQ:Q.OK)(hI:MI Q s)(h:s.fin Q=false):s.f1 Q<Q.P.seats∧Q.P.seats<s.f1 Q+s.h1 Q:=by
 unfold MS.fin at h
 rw[xcj,xay,xay]at h
 have:=f1_le hQ hI
 omega
def some1_iff:s.some1 Q=false↔∀i,i<Q.P.n→s.el Q i=false:=by
 unfold MS.some1
 rw[xay]
 constructor
 ·intro h i hi
  cases he:s.el Q i
  ·rfl
  ·exact absurd (zqf.2 ⟨i,hi,he⟩) h
 ·intro h hc
  obtain⟨i,hi,he⟩:=zqf.1 hc
  rw[h i hi]at he
  cases he
def el_out{i:Nat}(h:s.some1 Q=false)(hi:i<Q.P.n):s.el Q i=false∧s.st1 Q i=s.st i:=by
 have:=some1_iff.1 h i hi
 refine⟨this,?_⟩
 unfold MS.st1
 rw[this];rfl
def near_ne(hI:MI Q s):s.tied Q≠ []:=by
 have hne:selN (fun i=>decide (s.st i=0)) Q.P.n≠ []:=by
  have:=hI.left
  rw[←zca]at this
  exact xcr.1 this
 obtain⟨i,k1,k2⟩:=zmv (s.v Q) hne
 obtain⟨k3,k4⟩:=zbn.1 k1
 refine xfo (a:=(i:Int)) (zal.2 ⟨i,rfl,k3,?_⟩)
 unfold MS.near
 rw[k4,xax,xbt]
 intro k hk
 by_cases h5:s.st k=0
 ·have:=k2 k (zbn.2 ⟨xbu.1 hk,xag h5⟩)
  rw[xdj,xam]
  exact .inr (by omega)
 ·simp[h5]
def pickM_mem(E:List (List Rat))(h:s.tied Q≠ []):s.pick Q E∈s.tied Q:=by
 unfold MS.pick
 split
 ·exact zfs h
 ·exact zps h
def zpw(hI:MI Q s)(E:List (List Rat)):∃x:Nat,s.pick Q E=(x:Int)∧x<Q.P.n∧s.st x=0:=by
 obtain⟨i,h2,h3,h4⟩:=zal.1 (pickM_mem E (near_ne hI))
 refine⟨i,h2,h3,?_⟩
 unfold MS.near at h4
 rw[xan,xam]at h4
 exact h4.1
def hop_excl{x:Nat}(hx:x<Q.P.n)(h0:s.st x=0):cntN (fun i=>decide (s.st i=0)) Q.P.n=cntN (fun i=>decide (upd s.st x 2 i=0)) Q.P.n+1:=
 zlq hx (fun i hi hne=>by rw[zep _ _ hne]) (by rw[zbu];rfl) (xag h0)
def fl_excl{x:Nat}(hx:x<Q.P.n)(h0:s.st x=0):cntN (fun i=>decide (upd s.st x 2 i=1)) Q.P.n=s.fl Q:=by
 refine zhz fun i hi=>?_
 unfold upd
 split
 ·rename_i e;subst e;rw[h0];rfl
 ·rfl
def zsq(hQ:Q.OK)(hI:MI Q s)(hf:s.fin Q=false)(hc:s.cut Q=true)(E:List (List Rat)):MI Q (s.excl Q E)∧(s.excl Q E).meas Q<s.meas Q:=by
 obtain⟨x,h1,h2,h3⟩:=zpw hI E
 have hff:=zkx hQ hI hf
 have hs1:s.some1 Q=false:=by
  unfold MS.cut at hc
  rw[xan,xdw]at hc
  exact hc.1
 have hcnt:cntN (s.el Q) Q.P.n=0:=by
  refine xhv fun h=>?_
  unfold MS.some1 at hs1
  rw[xay]at hs1
  exact hs1 h
 have hf1:=f1_eq (Q:=Q) (s:=s)
 have hh1:=h1_eq (Q:=Q) (s:=s)
 have hh:=hop_excl (Q:=Q) h2 h3
 have hfl:=fl_excl (Q:=Q) h2 h3
 have hsi:=hI.since
 unfold MS.excl
 rw[h1,xaf]
 refine⟨⟨fun c=>?_,fun c=>?_,fun c hc=>?_,fun c hc=>?_,fun c hc=>?_,xbz _,?_,?_⟩,?_⟩
 ·show upd s.st x 2 c≤2
  unfold upd;split
  ·exact xak _
  ·exact hI.st2 c
 ·show upd s.kp x 0 c≤_
  unfold upd;split
  ·exact xbz _
  ·exact hI.kp1 c
 ·have hc':upd s.st x 2 c=0:=hc
  show upd s.kp x 0 c=_
  unfold upd at hc' ⊢
  split at hc'
  ·omega
  ·rename_i e;rw[if_neg e];exact hI.hop c hc'
 ·have hc':upd s.st x 2 c=1:=hc
  show 0<upd s.kp x 0 c
  unfold upd at hc' ⊢
  split at hc'
  ·omega
  ·rename_i e;rw[if_neg e];exact hI.elc c hc'
 ·have hc':upd s.st x 2 c=2:=hc
  show upd s.kp x 0 c=0
  unfold upd at hc' ⊢
  split at hc'
  ·rename_i e;rw[if_pos e]
  ·rename_i e;rw[if_neg e];exact hI.exc c hc'
 ·show cntN (fun i=>decide (upd s.st x 2 i=1)) Q.P.n<_
  rw[hfl];exact hI.fill
 ·show 0<cntN (fun i=>decide (upd s.st x 2 i=0)) Q.P.n
  omega
 ·show cntN (fun i=>decide (upd s.st x 2 i=0)) Q.P.n*61+(60-0)<cntN (fun i=>decide (s.st i=0)) Q.P.n*61+(60-s.since)
  omega
def quo_pos:0<s.quo Q:=Nat.succ_pos _
def zrl(hQ:Q.OK)(hI:MI Q s)(hf:s.fin Q=false)(hc:s.cut Q=false):MI Q (s.redu Q)∧(s.redu Q).meas Q<s.meas Q:=by
 have hff:=zkx hQ hI hf
 have hf1:=f1_eq (Q:=Q) (s:=s)
 have hh1:=h1_eq (Q:=Q) (s:=s)
 have hsi:=hI.since
 have hst:∀c,s.st1 Q c=2→s.st c=2:=fun c hc=>by
  rcases zcg (Q:=Q) (s:=s) c with⟨_,_,h2,_⟩|⟨_,h2⟩<;>omega
 have hst0:∀c,s.st1 Q c=0→s.st c=0:=fun c hc=>by
  rcases zcg (Q:=Q) (s:=s) c with⟨_,_,h2,_⟩|⟨_,h2⟩<;>omega
 have hsome:s.some1 Q=false→s.since+1<60:=fun h=>by
  unfold MS.cut at hc
  rw[h,xao,xax]at hc
  unfold MS.stall at hc
  rw[xcj,xcj,xay,xay]at hc
  omega
 refine⟨⟨fun c=>?_,fun c=>?_,fun c hc=>?_,fun c hc=>?_,fun c hc=>?_,?_,?_,?_⟩,?_⟩
 ·show s.st1 Q c≤2
  have:=hI.st2 c
  rcases zcg (Q:=Q) (s:=s) c with⟨_,_,h2,_⟩|⟨_,h2⟩<;>omega
 ·show s.kp1 Q c≤_
  unfold MS.kp1;split
  ·exact xio _ _
  ·exact hI.kp1 c
 ·have hc':s.st1 Q c=0:=hc
  show s.kp1 Q c=_
  unfold MS.kp1
  rw[if_neg (by omega)]
  exact hI.hop c (hst0 c hc')
 ·have hc':s.st1 Q c=1:=hc
  have hkp:0<s.kp c:=by
   rcases zcg (Q:=Q) (s:=s) c with⟨_,h1,h2,_⟩|⟨_,h2⟩
   ·rw[hI.hop c h1];exact hQ.one1
   ·exact hI.elc c (by omega)
  show 0<s.kp1 Q c
  unfold MS.kp1;split
  ·rename_i h
   refine Nat.lt_min.2 ⟨hQ.one1,mup_pos h.2 (Nat.mul_pos (mup_pos hQ.one1 (Nat.mul_pos hkp quo_pos)) hQ.one1)⟩
  ·exact hkp
 ·have hc':s.st1 Q c=2:=hc
  show s.kp1 Q c=0
  unfold MS.kp1
  rw[if_neg (by omega)]
  exact hI.exc c (hst c hc')
 ·show(if s.some1 Q then 0 else s.since+1)≤59
  cases h:s.some1 Q
  ·have:=hsome h
   simp only[xaw,xbf];omega
  ·simp
 ·show s.f1 Q<_
  omega
 ·show 0<s.h1 Q
  omega
 ·show s.h1 Q*61+(60-(if s.some1 Q then 0 else s.since+1))<cntN (fun i=>decide (s.st i=0)) Q.P.n*61+(60-s.since)
  cases h:s.some1 Q
  ·simp only[xaw,xbf];omega
  ·have:0<cntN (s.el Q) Q.P.n:=by
    unfold MS.some1 at h
    exact xbl h
   simp only[if_true];omega
def s0_inv(hQ:Q.OK):MI Q Q.s0:=by
 have h1:=hQ.P.seats1
 have h2:=hQ.P.n1
 refine⟨fun _=>xbz _,fun _=>xak _,fun _ _=>rfl,fun _ h=>(by cases h),fun _ h=>(by cases h),xbz _,?_,zqf.2 ⟨0,by omega,rfl⟩⟩
 have:Q.s0.fl Q=0:=by unfold MS.fl cntN;exact zcs _
 omega
def s0_meas(hQ:Q.OK):Q.s0.meas Q≤487:=by
 have h:=zbd (fun i=>decide (Q.s0.st i=0)) Q.P.n
 have:=hQ.P.n7
 unfold MS.meas
 show _*61+(60-0)≤_
 omega
def bzM(hQ:Q.OK){a:Nat}(h:a≤1000000000000000000):Bz eB (frac a Q.one):=by
 have:=hQ.one6
 refine zll (xdq h (Nat.lt_trans (show(1000000000000000000:Nat)<2^64 by decide) (xfh (by decide) (by decide)))) (xdq this (Nat.lt_trans (show(1000000:Nat)<2^64 by decide) (xfh (by decide) (by decide)))) (by decide)
def votes_rndM(hQ:Q.OK)(hI:MI Q s):RndOK Q.P.n (s.rd0 Q).votes:=⟨zaf _ _,fun q hq=>by
 obtain⟨i,hi,rfl⟩:=mem_lst.1 hq
 have h1:=MS.v_le hQ hI hi
 have h2:=MS.tot_le hQ
 exact bzM hQ (by omega)⟩
structure MRun(Q:MP)(s:MS)(rs:List Rd):Prop where
 inv:MI Q s
 rnd:∀r∈rs,RndOK Q.P.n r.votes∧r.el.length≤7
 len:rs.length+s.meas Q≤487
 run:mrun Q (500-rs.length) rs s=zjh Q
def MRun.start(hQ:Q.OK):MRun Q Q.s0 []:=⟨s0_inv hQ,fun r hr=>by simp at hr,by have:=s0_meas hQ;simp;omega,rfl⟩
def elM_len(hQ:Q.OK):(selI (s.el Q) Q.P.n).length≤7:=by rw[zat];have:=zbd (s.el Q) Q.P.n;have:=hQ.P.n7;omega
def MRun.next(hQ:Q.OK){rs:List Rd}(h:MRun Q s rs){r:Rd}{s':MS}(hs:mstep Q (rs.map Rd.votes) s=(r,some s'))(hi:MI Q s')(hm:s'.meas Q<s.meas Q)(hv:r.votes=(s.rd0 Q).votes)(he:r.el=(s.rd0 Q).el):MRun Q s' (rs++[r]):=by
 have hl:=h.len
 refine⟨hi,fun x hx=>?_,by simp;omega,?_⟩
 ·rcases xbq.1 hx with hx|hx
  ·exact h.rnd x hx
  ·rw[xbn]at hx
   subst hx
   rw[hv,he]
   exact⟨votes_rndM hQ h.inv,elM_len hQ⟩
 ·have hr:=h.run
  rw[show 500-rs.length=(499-rs.length)+1 by omega,mrun,hs]at hr
  rw[←hr]
  simp only[xbk,xaz,xde]
  rw[show 500-(rs.length+(0+1))=499-rs.length by omega]
def mstep_fin{E:List (List Rat)}(hf:s.fin Q=true):mstep Q E s=(s.done Q,none):=by unfold mstep;rw[if_pos hf]
def mstep_cut{E:List (List Rat)}(hf:s.fin Q=false)(hc:s.cut Q=true):mstep Q E s=(s.exR Q E,some (s.excl Q E)):=by unfold mstep;rw[if_neg (by rw[hf];simp),if_pos hc]
def mstep_redu{E:List (List Rat)}(hf:s.fin Q=false)(hc:s.cut Q=false):mstep Q E s=(s.rd0 Q,some (s.redu Q)):=by unfold mstep;rw[if_neg (by rw[hf];simp),if_neg (by rw[hc];simp)]
def MRun.fin{rs:List Rd}(h:MRun Q s rs)(hf:s.fin Q=true):rs++[s.done Q]=zjh Q:=by
 have hl:=h.len
 have hr:=h.run
 rw[show 500-rs.length=(499-rs.length)+1 by omega,mrun,mstep_fin hf]at hr
 exact hr
def MRun.excl(hQ:Q.OK){rs:List Rd}(h:MRun Q s rs)(hf:s.fin Q=false)(hc:s.cut Q=true):MRun Q (s.excl Q (rs.map Rd.votes)) (rs++[s.exR Q (rs.map Rd.votes)]):=by
 obtain⟨h1,h2⟩:=zsq hQ h.inv hf hc (rs.map Rd.votes)
 exact h.next hQ (mstep_cut hf hc) h1 h2 rfl rfl
def MRun.redu(hQ:Q.OK){rs:List Rd}(h:MRun Q s rs)(hf:s.fin Q=false)(hc:s.cut Q=false):MRun Q (s.redu Q) (rs++[s.rd0 Q]):=by
 obtain⟨h1,h2⟩:=zrl hQ h.inv hf hc
 exact h.next hQ (mstep_redu hf hc) h1 h2 rfl rfl
inductive MTr(Q:MP):MS→List Rd→List Rd→Prop
 |fin {s:MS} {rs:List Rd}:MRun Q s rs→s.fin Q=true→MTr Q s rs [s.done Q]
 |excl {s:MS} {rs rest:List Rd}:MRun Q s rs→s.fin Q=false→s.cut Q=true→MTr Q (s.excl Q (rs.map Rd.votes)) (rs++[s.exR Q (rs.map Rd.votes)]) rest→MTr Q s rs (s.exR Q (rs.map Rd.votes)::rest)
 |redu {s:MS} {rs rest:List Rd}:MRun Q s rs→s.fin Q=false→s.cut Q=false→MTr Q (s.redu Q) (rs++[s.rd0 Q]) rest→MTr Q s rs (s.rd0 Q::rest)
def mtr_ex(hQ:Q.OK):∀(m:Nat) {s:MS} {rs:List Rd},s.meas Q<m→MRun Q s rs→∃rest,MTr Q s rs rest∧rs++rest=zjh Q
 | 0,_,_,h,_=>by omega
 |m+1,s,rs,h,hR=>by
  cases hf:s.fin Q with
  |true=>exact⟨_,.fin hR hf,hR.fin hf⟩
  |false=>
   cases hc:s.cut Q with
   |true=>
    have hme:=(zsq hQ hR.inv hf hc (rs.map Rd.votes)).2
    obtain⟨rest,h1,h2⟩:=mtr_ex hQ m (by omega) (hR.excl hQ hf hc)
    exact⟨_,.excl hR hf hc h1,by rw[←h2,xcp];rfl⟩
   |false=>
    have hme:=(zrl hQ hR.inv hf hc).2
    obtain⟨rest,h1,h2⟩:=mtr_ex hQ m (by omega) (hR.redu hQ hf hc)
    exact⟨_,.redu hR hf hc h1,by rw[←h2,xcp];rfl⟩
def zrv(hQ:Q.OK):MTr Q Q.s0 [] (zjh Q):=by
 obtain⟨rest,h1,h2⟩:=mtr_ex hQ (Q.s0.meas Q+1) (by omega) (MRun.start hQ)
 rw[xci]at h2
 rwa[h2]at h1
def MTr.run{rs rest:List Rd}(h:MTr Q s rs rest):MRun Q s rs:=by cases h<;>assumption
end
def wsum_gen{n:Int}{gs:List Grp}{N:Int}(h:PileOK n gs N)(f:List Int→Nat)(c:CT)(lots:List Int):∀m,m≤gs.length→wsum (fun p=>(f p:Int)) (gs.take m)=((sumN (fun g=>(gpOf c gs lots).k g*f ((gpOf c gs lots).p g)) m:Nat):Int)
 | 0,_=>by simp[wsum,sumN]
 |m+1,hm=>by
  have hg:=(h.ballots _ (zdf (l:=gs) (d:=([],0)) (i:=m) (by omega))).2
  rw[zcp _ gs (by omega),wsum_gen h f c lots m (by omega),sumN]
  have e1:(gpOf c gs lots).p m=(gs.getD m ([],0)).1:=rfl
  have e2:(((gpOf c gs lots).k m:Nat):Int)=(gs.getD m ([],0)).2:=by
   show((gs.getD m ([],0)).2.toNat:Int)=_
   omega
  rw[e1,Int.natCast_add,xgm,e2]
def zqv(f:Nat→Nat){m n:Nat}(h:m≤n):sumN f m≤sumN f n:=by
 induction n with
 |zero=>rw[show m=0 by omega];exact xak _
 |succ n ih=>
  by_cases hm:m=n+1
  ·rw[hm];exact xak _
  ·rw[sumN];have:=ih (by omega);omega
def wmul{a b:Nat}(h:a*b≤9223372036854775807):w ((a:Int)*(b:Int))=((a*b:Nat):Int):=by rw[←xgm,zbx (by omega) (by omega)]
def wsubN{a b:Nat}(h:b≤a)(ha:a≤9223372036854775807):w ((a:Int)-(b:Int))=((a-b:Nat):Int):=by rw[zbx (by omega) (by omega)];omega
def ten_le{d e:Nat}(h:d≤e):10^d≤10^e:=xck (by decide) h
def ten_six{d:Nat}(h:d≤6):10^d≤1000000:=xbb (ten_le h) (by decide)
def ten_pos(d:Nat):0<10^d:=xgf (by decide)
def wten{i:Nat}(h:i<18):w (((10^i:Nat):Int)*10)=((10^(i+1):Nat):Int):=by
 have h2:10^(i+1)≤10^18:=ten_le (by omega)
 have h3:(10:Nat)^18=1000000000000000000:=by decide
 rw[h3,xch]at h2
 rw[xch]
 generalize 10^i=x at h2 ⊢
 rw[zbx (by omega) (by omega)]
 omega
def d43_eq{d:Nat}(h:d≤18):d43 (d:Int)=some ((10^d:Nat):Int):=by
 unfold d43
 refine zaa (fun i=>(((10^i:Nat):Int),(d:Int),(i:Int))) d rfl (fun i hi=>?_) ?_ rfl
 ·simp only[dlt hi,xab,wten (show i<18 by omega),zbk (show i<9223372036854775807 by omega)]
 ·simp only[nlt (xak d),xac]
def d124_eq{a b:Nat}(hb:0<b)(h:a+b≤4611686018427387904):d124 (a:Int) (b:Int)=some ((mup a b:Nat):Int):=by
 unfold d124 mup
 have h1:=xfc (a+b-1) b
 have h2:Int.tdiv ((a+b-1:Nat):Int) (b:Int)=(((a+b-1)/b:Nat):Int):=by
  rw[xgb (by omega)];rfl
 have h3:w ((a+b-1:Nat):Int)=((a+b-1:Nat):Int):=zbx (by omega) (by omega)
 have h4:w (((a+b-1)/b:Nat):Int)=(((a+b-1)/b:Nat):Int):=by
  generalize(a+b-1)/b=q at h1 ⊢
  exact zbx (by omega) (by omega)
 rw[xaj (show ¬(b:Int)=0 by omega),xao,xab,wadd (by omega),show((a+b:Nat):Int)-1=((a+b-1:Nat):Int) by omega,h3,h2,h4]
def zjg(one:Nat)(kp:Nat→Nat)(p:List Int)(m c:Nat):Nat:=sumN (fun j=>if p.getD j 0=(c:Int)then zgc one kp p j else 0) m
def mvoU(P:GP)(one:Nat)(kp:Nat→Nat)(m c:Nat):Nat:=sumN (fun g=>P.k g*zti one kp (P.p g) c) m
def mroU(P:GP)(one:Nat)(kp:Nat→Nat)(m:Nat):Nat:=sumN (fun g=>P.k g*mw one kp (P.p g) (P.p g).length) m
def give_step{one:Nat}{kp:Nat→Nat}{p:List Int}{n j k x:Nat}(V:Nat→Nat)(hx:p.getD j 0=(x:Int)) :
  (lst (fun c=>((V c+k*zjg one kp p j c:Nat):Int)) n).set x (((V x+k*zjg one kp p j x+zgc one kp p j*k:Nat)):Int)=lst (fun c=>((V c+k*zjg one kp p (j+1) c:Nat):Int)) n:=by
 rw[zen]
 refine zay fun c _=>?_
 unfold upd zjg
 rw[sumN,hx]
 by_cases h:c=x
 ·subst h
  rw[if_pos rfl,if_pos rfl,xcz,xby (zgc one kp p j) k,xdm]
 ·rw[if_neg h,if_neg (by omega),xdl]
section
variable {gs:List Grp} (c:CT) (lots:List Int) {one:Nat} {kp:Nat→Nat} (h1:0<one) (h6:one≤1000000) (hk:∀i,kp i≤one)
include h1 h6 hk
def dis_bounds(hP:sumN (gpOf c gs lots).k gs.length≤100000){g j x:Nat}(hg:g<gs.length)(hj:j<((gpOf c gs lots).p g).length):mvoU (gpOf c gs lots) one kp g x+(gpOf c gs lots).k g*zjg one kp ((gpOf c gs lots).p g) j x≤100000000000∧zgc one kp ((gpOf c gs lots).p g) j*(gpOf c gs lots).k g≤100000000000:=by
 have hkg:(gpOf c gs lots).k g≤100000:=xbb (zgo hg) hP
 have hmg:∀g m x,m≤((gpOf c gs lots).p g).length→zjg one kp ((gpOf c gs lots).p g) m x≤one:=fun g m x hm=>by
  have e:=mw_sum h1 hk ((gpOf c gs lots).p g) m
  have:zjg one kp ((gpOf c gs lots).p g) m x≤sumN (zgc one kp ((gpOf c gs lots).p g)) m:=zdp fun i _=>by split<;>omega
  omega
 have hmp:zgc one kp ((gpOf c gs lots).p g) j≤one:=xbb (zpy h1 hk _ _) (mw_le h1 hk _ _)
 refine⟨?_,xbb (xdf hmp hkg) (xbb (xav _ h6) (by decide))⟩
 have e1:mvoU (gpOf c gs lots) one kp g x+(gpOf c gs lots).k g*zjg one kp ((gpOf c gs lots).p g) j x≤sumN (fun g=>(gpOf c gs lots).k g*one) (g+1):=by
  rw[sumN]
  refine Nat.add_le_add (zdp fun i _=>xdk _ (hmg i _ x (xak _))) (xdk _ (hmg g j x (by omega)))
 have e2:=zqv (fun g=>(gpOf c gs lots).k g*one) (show g+1≤gs.length by omega)
 rw[zfh (gpOf c gs lots).k one gs.length]at e2
 have e3:sumN (gpOf c gs lots).k gs.length*one≤100000*1000000:=xdf hP h6
 omega
def rest_bounds(hP:sumN (gpOf c gs lots).k gs.length≤100000){g:Nat}(hg:g<gs.length):mroU (gpOf c gs lots) one kp (g+1)≤100000000000∧mw one kp ((gpOf c gs lots).p g) ((gpOf c gs lots).p g).length*(gpOf c gs lots).k g≤100000000000:=by
 have hkg:(gpOf c gs lots).k g≤100000:=xbb (zgo hg) hP
 refine⟨?_,xbb (xdf (mw_le h1 hk _ _) hkg) (xbb (xav _ h6) (by decide))⟩
 have e1:mroU (gpOf c gs lots) one kp (g+1)≤sumN (fun g=>(gpOf c gs lots).k g*one) (g+1):=zdp fun i _=>xdk _ (mw_le h1 hk _ _)
 have e2:=zqv (fun g=>(gpOf c gs lots).k g*one) (show g+1≤gs.length by omega)
 rw[zfh (gpOf c gs lots).k one gs.length]at e2
 have e3:sumN (gpOf c gs lots).k gs.length*one≤100000*1000000:=xdf hP h6
 omega
end
def pile_k{n:Nat}{gs:List Grp}{N:Int}(hp:PileOK (n:Int) gs N)(c:CT)(lots:List Int):sumN (gpOf c gs lots).k gs.length≤100000∧∀g,g<gs.length→(gs.getD g ([],0)).2=(((gpOf c gs lots).k g:Nat):Int):=by
  have h:=wsum_gen hp (fun _=>1) c lots _ (xak _)
  rw[xbh]at h
  have ht:=hp.total
  have hm:=hp.most
  have e:wsum (fun _=>((1:Nat):Int)) gs=wsum (fun _=>1) gs:=rfl
  rw[e,ht]at h
  simp only[xdu]at h
  refine ⟨by have e2:sumN (gpOf c gs lots).k gs.length=sumN (fun g=>(gpOf c gs lots).k g) gs.length:=rfl
             omega,fun g hg=>?_⟩
  have:=(hp.ballots _ (zdf (l:=gs) (d:=([],0)) (i:=g) hg)).2
  show _=((gs.getD g ([],0)).2.toNat:Int)
  omega
def d80_ok{n d:Nat}{gs:List Grp}{N:Int}(h1n:1≤n)(hn:n≤7)(hd1:1≤d)(hd6:d≤6)(hp:PileOK (n:Int) gs N)(c:CT)(lots:List Int){kp:Nat→Nat}(hk:∀i,kp i≤10^d) :
  d80 (d:Int) (lst (fun i=>(kp i:Int)) n) gs=some (lst (fun x=>((mvo (gpOf c gs lots) (10^d) kp x:Nat):Int)) n,((mro (gpOf c gs lots) (10^d) kp:Nat):Int),true):=by
 have ho1:=ten_pos d
 have ho6:=ten_six hd6
 obtain⟨hks,hkg⟩:=pile_k hp c lots
 have hgl:=(hp.gs (by omega)).1
 have h111:=d43_eq (d:=d) (by omega)
 have h120:d59 (n:Int) gs=some true:=by
  unfold d59
  rw[xag (show(1:Int)≤(n:Int) by omega),xab,xag (show(n:Int)≤7 by omega),xab,hp.d77 (by omega)];rfl
 have hball:∀g,g<gs.length→isB (n:Int) ((gpOf c gs lots).p g):=fun g hg=>(hp.ballots _ (zdf (l:=gs) (d:=([],0)) (i:=g) hg)).1
 have hdb:=fun g j x hg hj=>dis_bounds c lots ho1 ho6 hk hks (g:=g) (j:=j) (x:=x) hg hj
 have hrb:=fun g hg=>rest_bounds c lots ho1 ho6 hk hks (g:=g) hg
 have hmp:∀p j,zgc (10^d) kp p j≤10^d:=fun p j=>xbb (zpy ho1 hk _ _) (mw_le ho1 hk _ _)
 have hmw:∀p j,mw (10^d) kp p j≤10^d:=fun p j=>mw_le ho1 hk _ _
 have hmst:∀p j,mw (10^d) kp p j-zgc (10^d) kp p j=mw (10^d) kp p (j+1):=fun p j=>rfl
 have hmpe:∀p j,zgc (10^d) kp p j=mup (mw (10^d) kp p j*kp (p.getD j 0).toNat) (10^d):=fun p j=>rfl
 have hmpl:=fun p j=>zpy ho1 hk p j
 unfold d80
 simp only[zaf,zaq,xaj (show ¬(d:Int)<1 by omega),xaj (show ¬(6:Int)<(d:Int) by omega),xao,xab,h120,xaa,xaq,xac,h111]
 generalize hone:10^d=one at *
 refine zaa (fun i=>(lst (fun i=>(kp i:Int)) n,gs,(0:Int),(one:Int),lst (fun i=>(kp i:Int)) n,(n:Int),(i:Int))) n rfl (fun i hi=>?_) (b:=.inl (lst (fun i=>(kp i:Int)) n,gs,(0:Int),(one:Int))) ?_ ?_
 ·have:=hk i
  simp only[dlt hi,d0le,zaf,xai,xab,tn,zam (fun i=>(kp i:Int)) hi,xaj (show ¬(kp i:Int)<0 by omega),xao,nlt this,xac,zbk (show i<9223372036854775807 by omega)]
 ·simp only[nlt (xak n),xac]
 simp only[zaf,xah,d0le,zce (n:=n) (by omega),xai,xab,tn]
 have hrep:List.replicate n (0:Int)=lst (fun x=>((mvoU (gpOf c gs lots) one kp 0 x:Nat):Int)) n:=by rw[zry];rfl
 rw[hrep]
 refine zaa (fun g=>(lst (fun i=>(kp i:Int)) n,lst (fun x=>((mvoU (gpOf c gs lots) one kp g x:Nat):Int)) n,((mroU (gpOf c gs lots) one kp g:Nat):Int),(one:Int),gs,(gs.length:Int),(g:Int))) gs.length rfl (fun g hg=>?_) (b:=(lst (fun x=>((mvo (gpOf c gs lots) one kp x:Nat):Int)) n,((mro (gpOf c gs lots) one kp:Nat):Int))) ?_ rfl
 ·have hbg:=hball g hg
  have hpl:=zfe hbg (by omega)
  have hpg:(gs.getD g ([],0)).1=(gpOf c gs lots).p g:=rfl
  have hgk:=hkg g hg
  have hrb:=hrb g hg
  have hdb:=fun j x hj=>hdb g j x hg hj
  have hmvo:∀x,mvoU (gpOf c gs lots) one kp g x+(gpOf c gs lots).k g*zjg one kp ((gpOf c gs lots).p g) ((gpOf c gs lots).p g).length x=mvoU (gpOf c gs lots) one kp (g+1) x:=fun x=>rfl
  have hmro:mroU (gpOf c gs lots) one kp (g+1)=mroU (gpOf c gs lots) one kp g+(gpOf c gs lots).k g*mw one kp ((gpOf c gs lots).p g) ((gpOf c gs lots).p g).length:=rfl
  obtain⟨pr,hpr⟩:∃pr,gs.getD g ([],0)=pr:=⟨_,rfl⟩
  rw[hpr]at hpg hgk
  obtain⟨p',k'⟩:=pr
  simp only at hpg hgk
  subst hgk
  generalize(gpOf c gs lots).p g=p at *
  subst hpg
  generalize(gpOf c gs lots).k g=k at *
  simp only[dlt hg,d0le,xai,xab,tn,hpr]
  refine zaa (fun j=>(lst (fun i=>(kp i:Int)) n,lst (fun x=>((mvoU (gpOf c gs lots) one kp g x+k*zjg one kp p' j x:Nat):Int)) n,((mroU (gpOf c gs lots) one kp g:Nat):Int),(one:Int),((p',(k:Int)):List Int×Int),((mw one kp p' j:Nat):Int),gs,(gs.length:Int),(g:Int),p',(p'.length:Int),(j:Int))) p'.length rfl (fun j hj=>?_) (b:=(lst (fun i=>(kp i:Int)) n,lst (fun x=>((mvoU (gpOf c gs lots) one kp (g+1) x:Nat):Int)) n,((mroU (gpOf c gs lots) one kp g:Nat):Int),(one:Int),((p',(k:Int)):List Int×Int),((mw one kp p' p'.length:Nat):Int),gs,(gs.length:Int),(g:Int))) ?_ ?_
  ·have hb:=hbg.2 _ (zci hj)
   obtain⟨x,hx⟩:∃x:Nat,p'.getD j 0=(x:Int):=⟨(p'.getD j 0).toNat,by omega⟩
   have hxn:x<n:=by omega
   have h1:=hmw p' j
   have h2:=hk x
   have h3:mw one kp p' j*kp x≤1000000*1000000:=xdf (by omega) (by omega)
   have h4:=hmpe p' j
   rw[hx,xaf]at h4
   have h5:=hdb j x hj
   have h6:=hmp p' j
   have h7:=hmst p' j
   have h8:=hmpl p' j
   have hgs:=give_step (n:=n) (k:=k) (one:=one) (kp:=kp) (fun x=>mvoU (gpOf c gs lots) one kp g x) hx
   simp only[dlt hj,d0le,xai,xab,tn,hx,zaf,dlt hxn,zam (fun i=>(kp i:Int)) hxn,wmul (show mw one kp p' j*kp x≤9223372036854775807 by omega),d124_eq ho1 (show mw one kp p' j*kp x+one≤4611686018427387904 by omega),xaa,←h4,zam (fun x=>((mvoU (gpOf c gs lots) one kp g x+k*zjg one kp p' j x:Nat):Int)) hxn,wmul (show zgc one kp p' j*k≤9223372036854775807 by omega),wadd (show mvoU (gpOf c gs lots) one kp g x+k*zjg one kp p' j x+zgc one kp p' j*k≤9223372036854775807 by omega),hgs,wsubN h8 (by omega),h7,zbk (show j<9223372036854775807 by omega)]
  ·simp only[nlt (xak p'.length),xac,hmvo]
  ·have h9:=hmw p' p'.length
   rw[xby]at hrb
   simp only[wmul (show mw one kp p' p'.length*k≤9223372036854775807 by have:=hrb.2;rw[xby];omega),wadd (show mroU (gpOf c gs lots) one kp g+mw one kp p' p'.length*k≤9223372036854775807 by rw[xby (mw one kp p' p'.length)];omega),zbk (show g<9223372036854775807 by omega),hmro,xby k]
 ·simp only[nlt (xak gs.length),xac]
  rfl
def swap_eq(A:List Int)(y x:Int)(T:List Int):((A++y::x::T).set (A.length+1) y).set A.length x=A++x::y::T:=by
 rw[List.set_append_right _ _ (by omega),show A.length+1-A.length=1 by omega]
 rw[List.set_append_right _ _ (by omega),xho]
 rfl
def getD_mid(A:List Int)(y:Int)(T:List Int):(A++y::T).getD A.length 0=y:=by
 rw[xae,xdv (xak _),xho];rfl
def getD_mid1(A:List Int)(y x:Int)(T:List Int):(A++y::x::T).getD (A.length+1) 0=x:=by
 rw[xae,xdv (by omega),show A.length+1-A.length=1 by omega];rfl
noncomputable def insF:(List Int) × Int × Int × (Int→Int→Option Int) × Int × Int→Option (((List Int) × Int × Int × (Int→Int→Option Int) × Int × Int) ⊕ ((List Int) × Int × Int × (Int→Int→Option Int) × Int)):=fun ((data_2,a_2,b_2,cmp_2,i_1,j_):(List Int) × Int × Int × (Int→Int→Option Int) × Int × Int) =>
            letJ (fun ((data_3,a_3,b_3,cmp_3,i_2,j__1,t34):(List Int) × Int × Int × (Int→Int→Option Int) × Int × Int × Bool) =>
                bif t34 then
                  bif (decide (0≤(w (j__1-1)))&&decide ((w (j__1-1))<(data_3.length:Int)))then
                    bif (decide (0≤j__1)&&decide (j__1<(data_3.length:Int)))then
                      bif (decide (0≤j__1)&&decide (j__1<(data_3.length:Int)))then
                        bif (decide (0≤(w (j__1-1)))&&decide ((w (j__1-1))<((List.set data_3 (Int.toNat j__1) (List.getD data_3 (Int.toNat (w (j__1-1))) 0)).length:Int)))then
                          some (Sum.inl ((List.set (List.set data_3 (Int.toNat j__1) (List.getD data_3 (Int.toNat (w (j__1-1))) 0)) (Int.toNat (w (j__1-1))) (List.getD data_3 (Int.toNat j__1) 0)),a_3,b_3,cmp_3,i_2,(w (j__1-1))))
                        else none
                      else none
                    else none
                  else none
                else
                  some (Sum.inr (data_3,a_3,b_3,cmp_3,i_2))) fun j__2=>
            bif (decide (a_2<j_))then
              bif (decide (0≤j_)&&decide (j_<(data_2.length:Int)))then
                bif (decide (0≤(w (j_-1)))&&decide ((w (j_-1))<(data_2.length:Int)))then
                  (cmp_2 (List.getD data_2 (Int.toNat j_) 0) (List.getD data_2 (Int.toNat (w (j_-1))) 0)).bind fun r=>
                  j__2 (data_2,a_2,b_2,cmp_2,i_1,j_,(decide (r<0)))
                else none
              else none
            else
              j__2 (data_2,a_2,b_2,cmp_2,i_1,j_,false)
def d190_ex{l:List Int}{cmp:Int→Int→Option Int}{g:Int→Int→Int}(hl:l.length≤1000)(hn:l.Nodup)(hc:∀a∈l,∀b∈l,cmp a b=some (g a b))(ht:∀a∈l,∀b∈l,a≠b→g a b<0∨g b a<0)(htr:∀a∈l,∀b∈l,∀c∈l,g a b<0→g b c<0→g a c<0) :
  ∃L,d190 l 0 (l.length:Int) cmp=some L∧L.Perm l∧L.Pairwise fun a b=>g a b<0:=by
 cases l with
 |nil=>
  refine⟨[],?_,xje _,by simp⟩
  unfold d190
  refine zaa (fun i=>([],0,(([]:List Int).length:Int),cmp,w (0+1))) 0 rfl (fun i hi=>by omega) (b:=([]:List Int)) ?_ rfl
  rfl
 |cons x0 l0=>
 generalize hll:x0::l0=l at *
 have hpos:1≤l.length:=by rw[←hll];simp
 unfold d190
 refine zcq (Q:=fun(r:Option (List Int))=>∃L:List Int,r=some L∧L.Perm l∧L.Pairwise fun a b=>g a b<0) (fun(i:Nat) (st:(List Int)×Int×Int×(Int→Int→Option Int)×Int)=>∃S:List Int,st=(S++l.drop (i+1),0,(l.length:Int),cmp,((i+1:Nat):Int))∧S.Perm (l.take (i+1))∧(S.Pairwise fun a b=>g a b<0)) (l.length-1) ?_ ?_ ?_
 ·refine⟨l.take 1,by rw[xez];rfl,xje _,?_⟩
  rw[←hll];simp
 ·rintro i st hi ⟨S,rfl,hS,hs⟩
  have hi1:i+1<l.length:=by omega
  obtain⟨x,hx⟩:∃x,l.getD (i+1) 0=x:=⟨_,rfl⟩
  have hdrop:l.drop (i+1)=x::l.drop (i+2):=by rw[←hx];exact zss 0 hi1
  have hSl:S.length=i+1:=by rw[hS.length_eq,xbj];omega
  have hmS:∀a∈S,a∈l:=fun a ha=>xcq (hS.mem_iff.1 ha)
  have hxm:x∈l:=by rw[←hx];exact zci hi1
  have hxS:x∉S:=fun h=>by
   have h1:=hS.mem_iff.1 h
   have h2:l.take (i+1)++l.drop (i+1)=l:=xez _ _
   have h3:(l.take (i+1)++l.drop (i+1)).Nodup:=by rw[h2];exact hn
   exact(xdp.1 h3).2.2 x h1 x (by rw[hdrop];simp) rfl
  have htk:l.take (i+2)=l.take (i+1)++[x]:=by rw[←hx];exact zbg l 0 hi1
  rw[hdrop]
  generalize l.drop (i+2)=T at *
  have hdlen:∀A B:List Int,S=A++B→(A++x::(B++T)).length=(S++x::T).length:=fun A B e=>by rw[e];simp;omega
  have htot:(S++x::T).length≤1000:=by
   rw[←hdrop,xbk,hSl,xeh]
   omega
  have hin:∃S':List Int,zad insF (S++x::T,0,(l.length:Int),cmp,((i+1:Nat):Int),((i+1:Nat):Int))=some (S'++T,0,(l.length:Int),cmp,((i+1:Nat):Int))∧S'.Perm (l.take (i+2))∧(S'.Pairwise fun a b=>g a b<0):=by
   have key:=zic (γ:=(List Int)×Int×Int×(Int→Int→Option Int)×Int) (k:=some) (Q:=fun r=>∃S':List Int,r=some (S'++T,0,(l.length:Int),cmp,((i+1:Nat):Int))∧S'.Perm (l.take (i+2))∧(S'.Pairwise fun a b=>g a b<0))
    (f:=insF) (a0:=(S++x::T,0,(l.length:Int),cmp,((i+1:Nat):Int),((i+1:Nat):Int)))
    (fun(m:Nat) (st:(List Int)×Int×Int×(Int→Int→Option Int)×Int×Int)=>∃A B:List Int,st=(A++x::(B++T),0,(l.length:Int),cmp,((i+1:Nat):Int),(m:Int))∧S=A++B∧A.length=m∧∀b∈B,g x b<0) (i+1) ⟨S,[],rfl,by simp,hSl,by simp⟩ (fun m st hst=>?_)
   ·obtain⟨S',h1,h2,h3⟩:=key
    refine⟨S',?_,h2,h3⟩
    rw[xcb]at h1
    obtain⟨b,h4,h5⟩:=h1
    exact h4.trans h5
   ·obtain⟨A,B,rfl,hAB,hAm,hB⟩:=hst
    have hstop:(∀a∈A,g a x<0)→∃S':List Int,some (A++x::(B++T),(0:Int),(l.length:Int),cmp,((i+1:Nat):Int))=some (S'++T,0,(l.length:Int),cmp,((i+1:Nat):Int))∧S'.Perm (l.take (i+2))∧(S'.Pairwise fun a b=>g a b<0):=fun hA=>by
     refine⟨A++x::B,by rw[xcp,xca],?_,?_⟩
     ·rw[htk]
      refine List.perm_middle.trans ?_
      rw[←hAB]
      exact(xkf (l₁:=[x]) (l₂:=S)).trans (List.Perm.append_right _ hS)
     ·rw[hAB,xfr]at hs
      rw[xfr,xdr]
      refine⟨hs.1,⟨hB,hs.2.1⟩,fun a ha b hb=>?_⟩
      rcases xbd.1 hb with rfl|hb
      ·exact hA a ha
      ·exact hs.2.2 a ha b hb
    cases m with
    |zero=>
     have hA0:A=[]:=xfu.1 hAm
     refine .inr ⟨(A++x::(B++T),0,(l.length:Int),cmp,((i+1:Nat):Int)),?_,hstop (by rw[hA0];simp)⟩
     unfold insF
     simp only[zaq,show decide ((0:Int)<((0:Nat):Int))=false from rfl,xac]
    |succ m=>
     obtain⟨A',y,rfl⟩:∃A' y,A=A'++[y]:=by
      rcases List.eq_nil_or_concat A with rfl|⟨A',y,h⟩
      ·simp at hAm
      ·exact⟨A',y,by rw[h,List.concat_eq_append]⟩
     have hA'm:A'.length=m:=by simpa using hAm
     subst hA'm
     have hym:y∈S:=by rw[hAB];simp
     have hyl:=hmS y hym
     have hlen:=hdlen _ B hAB
     have e0:A'++[y]++x::(B++T)=A'++y::x::(B++T):=by simp
     rw[e0]at hlen ⊢
     have hlA:(A'++y::x::(B++T)).length≤1000:=by omega
     have hm1:A'.length+1<(A'++y::x::(B++T)).length:=by simp
     have hm0:A'.length<(A'++y::x::(B++T)).length:=by simp
     have hgx:=getD_mid1 A' y x (B++T)
     have hgy:=getD_mid A' y (x::(B++T))
     have hsw:=swap_eq A' y x (B++T)
     by_cases hlt:g x y<0
     ·refine .inl ⟨(A'++x::y::(B++T),0,(l.length:Int),cmp,((i+1:Nat):Int),(A'.length:Int)),A'.length,?_,by omega,A',y::B,rfl,by rw[hAB];simp,rfl,fun b hb=>?_⟩
      ·unfold insF
       simp only[zaq,xag (show(0:Int)<((A'.length+1:Nat):Int) by omega),xab,d0le,dlt hm1,dlt hm0,xai,tn,wpred (show A'.length<9223372036854775807 by omega),hgx,hgy,hc x hxm y hyl,xaa,xag hlt,xcd,hsw]
      ·rcases xbd.1 hb with rfl|hb
       ·exact hlt
       ·exact hB b hb
     ·have hyx:g y x<0:=(ht y hyl x hxm (fun e=>hxS (by rw[←e];exact hym))).resolve_right hlt
      have hst:=hstop (fun a ha=>by
       rcases xbq.1 ha with ha|ha
       ·refine htr a (hmS a (by rw[hAB];simp[ha])) y hyl x hxm ?_ hyx
        rw[hAB,xfr,xfr]at hs
        exact hs.1.2.2 a ha y (by simp)
       ·rw[xbn.1 ha];exact hyx)
      rw[e0]at hst
      refine .inr ⟨(A'++y::x::(B++T),0,(l.length:Int),cmp,((i+1:Nat):Int)),?_,hst⟩
      unfold insF
      simp only[zaq,xag (show(0:Int)<((A'.length+1:Nat):Int) by omega),xab,d0le,dlt hm1,dlt hm0,xai,tn,wpred (show A'.length<9223372036854775807 by omega),hgx,hgy,hc x hxm y hyl,xaa,xaj hlt,xac]
  obtain⟨S',h1,h2,h3⟩:=hin
  refine⟨(S'++T,0,(l.length:Int),cmp,((i+1+1:Nat):Int)),?_,S',rfl,h2,h3⟩
  show(bif decide (((i+1:Nat):Int)<(l.length:Int))then(zad insF (S++x::T,(0:Int),(l.length:Int),cmp,((i+1:Nat):Int),((i+1:Nat):Int))).bind (fun p=>some (Sum.inl (p.1,p.2.1,p.2.2.1,p.2.2.2.1,w (p.2.2.2.2+1))))else some (Sum.inr (S++x::T)))=_
  rw[dlt hi1,xab,h1,xaa,zbk (show i+1<9223372036854775807 by omega)]
 ·rintro st ⟨S,rfl,hS,hs⟩
  rw[show l.length-1+1=l.length by omega,xbh]at hS
  refine⟨S++l.drop (l.length-1+1),?_,S,?_,hS,hs⟩
  ·simp only[show l.length-1+1=l.length by omega,nlt (xak l.length),xac]
  ·rw[List.drop_of_length_le (by omega),xco]
def d127_ex{l:List Int}{cmp:Int→Int→Option Int}{g:Int→Int→Int}(hl:l.length≤12)(hn:l.Nodup)(hc:∀a∈l,∀b∈l,cmp a b=some (g a b))(ht:∀a∈l,∀b∈l,a≠b→g a b<0∨g b a<0)(htr:∀a∈l,∀b∈l,∀c∈l,g a b<0→g b c<0→g a c<0) :
  ∃L,d127 l cmp=some L∧L.Perm l∧L.Pairwise fun a b=>g a b<0:=by
 obtain⟨L,h1,h2,h3⟩:=d190_ex (by omega) hn hc ht htr
 refine⟨L,?_,h2,h3⟩
 unfold d127
 have e208:∀x,d160 x=some (Lib.bitLen x.toNat:Int):=fun x=>rfl
 rw[e208,xaa]
 have hw:w ((l.length:Int)-0)=(l.length:Int):=zbx (by omega) (by omega)
 show((d161N 2 l 0 (l.length:Int) _ cmp).bind fun r_1=>some r_1)=_
 show((d161F (d161N 1) l 0 (l.length:Int) _ cmp).bind fun r_1=>some r_1)=_
 unfold d161F
 generalize((Lib.bitLen (wu64 (l.length:Int)).toNat:Nat):Int)=t3
 refine xcb.2 ⟨L,?_,rfl⟩
 refine zaa (fun _=>(l,0,(l.length:Int),t3,cmp,true,true)) 0 rfl (fun i hi=>by omega) (b:=L) ?_ rfl
 simp only[hw,xag (show(l.length:Int)≤12 by omega),xab,h1,xaa]
def d82_eq{a b:Nat}(ha:a≤9223372036854775807)(hb:b≤9223372036854775807)(hb0:0<b):d82 (a:Int) (b:Int)=some (rr (frac a b)):=by
 unfold d82
 have h1:=zin (n:=a) (by omega)
 have h2:=zin (n:=b) (by omega)
 rw[d94_eq (by omega) (by omega),d94_eq (by omega) (by omega),xaa,xaa,xaj (show ¬(a:Int)<0 by omega),xaj (show ¬(b:Int)<0 by omega),xja,xja,zuo _ (zaj _) (zaj _) (by omega) (by omega),zas,zas]
 show some (rr (mkRat (a:Int) b))=_
 rw[Rat.mkRat_eq_div]
 rfl
section
abbrev MT:=CT×(List Grp×(List Int×(Int×(List Int×(List Int×(Int×(List (List Rt)×(Int×(Int×(Int×(Int×(Int×(Int×(List RD×List Int))))))))))))))
def zup{k:MT}{st:Nat→Nat}{n:Nat}(hk:k.2.2.2.2.1=lst (fun i=>(st i:Int)) n)(hn:n≤1000)(x:Nat):d85 k (x:Int)=some (selI (fun i=>decide (st i=x)) n):=by
 unfold d85
 rw[hk,zaf]
 refine zaa (fun i=>((x:Int),selI (fun i=>decide (st i=x)) i,lst (fun i=>(st i:Int)) n,(n:Int),(i:Int))) n rfl (fun i hi=>?_) ?_ rfl
 ·have hl:(selI (fun i=>decide (st i=x)) i).length+1≤4294967296:=by
   rw[zat];have:=zbd (fun i=>decide (st i=x)) i;omega
  rw[zev]
  simp only[dlt hi,d0le,zaf,xai,xab,tn,zam _ hi,zaq,zge,zbk (show i<9223372036854775807 by omega)]
  by_cases h:st i=x
  ·rw[xag h,xab,zcm hl,xab];rfl
  ·rw[xaj h,xac];simp
 ·simp only[nlt (xak n),xac]
def d81_eq{k:MT}{v:Nat→Nat}{n one:Nat}(hk:k.2.2.2.1=(one:Int))(hn:n≤1000)(h1:0<one)(h6:one≤1000000)(hv:∀i,i<n→v i≤9223372036854775807):d81 k (lst (fun i=>(v i:Int)) n)=some (lst (fun i=>rr (frac (v i) one)) n):=by
 unfold d81
 rw[zaf]
 refine zaa (fun i=>(k,lst (fun i=>rr (frac (v i) one)) i,lst (fun i=>(v i:Int)) n,(n:Int),(i:Int))) n rfl (fun i hi=>?_) ?_ rfl
 ·have hl:=zcm (l:=lst (fun i=>rr (frac (v i) one)) i) (d:=rr (frac (v i) one)) (by rw[zaf];omega)
  rw[zaf]at hl
  simp only[dlt hi,d0le,zaf,xai,xab,tn,zam (fun i=>(v i:Int)) hi,hk,d82_eq (hv i hi) (show one≤9223372036854775807 by omega) h1,xaa,zbk (show i<9223372036854775807 by omega),hl,zhc]
 ·simp only[nlt (xak n),xac]
def d83_eq{c:CT}{gs:List Grp}{lots:List Int}{one:Int}{st:Nat→Nat}{n:Nat}{kp:List Int}{filled:Nat}{rest:List (List Rt)×(Int×(Int×(Int×(Int×(Int×(Int×(List RD×List Int)))))))}
  {v kk:List Rt} {qu ex su:Rt} {el ex2 ti:List Int} {L:List Nat} (hn:n≤7) (hL:∀i∈L,i<n) (hLl:L.length≤7) (hf:filled≤1000) (hel:el.length≤1000) :
  d83 (c,gs,lots,one,lst (fun i=>(st i:Int)) n,kp,(filled:Int),rest) (v,kk,qu,ex,su,el,ex2,ti) (L.map Int.ofNat)
   =some ((c,gs,lots,one,lst (fun i=>((zed st L 1 i:Nat):Int)) n,kp,((filled+L.length:Nat):Int),rest),(v,kk,qu,ex,su,zdq (el++L.map Int.ofNat),ex2,ti)):=by
 unfold d83
 have hLi:(L.map Int.ofNat).length=L.length:=xbw ..
 rw[hLi]
 refine zaa (fun j=>((c,gs,lots,one,lst (fun i=>((zed st (L.take j) 1 i:Nat):Int)) n,kp,((filled+j:Nat):Int),rest),(v,kk,qu,ex,su,el++(L.take j).map Int.ofNat,ex2,ti),L.map Int.ofNat,(L.length:Int),(j:Int))) L.length ?_ (fun j hj=>?_) (b:=((c,gs,lots,one,lst (fun i=>((zed st L 1 i:Nat):Int)) n,kp,((filled+L.length:Nat):Int),rest),(v,kk,qu,ex,su,el++L.map Int.ofNat,ex2,ti))) ?_ ?_
 ·rw[xei,znl,xgz,xco];rfl
 ·have hm:L.getD j 0∈L:=by
   rw[xae,xar hj]
   exact xbc hj
  have hg:=hL _ hm
  have hsg:(L.map Int.ofNat).getD j 0=((L.getD j 0:Nat):Int):=by
   rw[xae,xcv,xar hj,xae,xar hj];rfl
  have hll:(el++(L.take j).map Int.ofNat).length+1≤4294967296:=by rw[xbk,xbw,xbj];omega
  simp only[dlt hj,d0le,hLi,xai,xab,tn,hsg,zaf,dlt hg,zcm hll,zbk (show j<9223372036854775807 by omega),zbk (show filled+j<9223372036854775807 by omega),zen]
  have e:lst (upd (fun i=>((zed st (L.take j) 1 i:Nat):Int)) (L.getD j 0) 1) n=lst (fun i=>((zed st (L.take (j+1)) 1 i:Nat):Int)) n:=zay fun i hi=>by
   rw[zbg L 0 hj,←zlh]
   unfold upd
   split<;>rfl
  rw[e,zbg L 0 hj,xdd,xcp]
  rfl
 ·simp only[nlt (xak L.length),xac,xbh]
 ·have hd:d125 (el++L.map Int.ofNat)=some (zdq (el++L.map Int.ofNat)):=by
   unfold d125
   rw[zce (by rw[xbk,hLi];omega)];rfl
  simp only[hd,xaa]
def cmpM(v:Nat→Nat)(lots:List Int)(a b:Int):Int:=if v a.toNat=v b.toNat then(zdb lots a:Int)-(zdb lots b:Int)else(v b.toNat:Int)-(v a.toNat:Int)
def zok(v:Nat→Nat)(lots:List Int)(a b:Nat):cmpM v lots (a:Int) (b:Int)<0↔zfa v lots a b=true:=by
 unfold cmpM zfa
 rw[xaf,xaf]
 simp only[xdj,xan,xam]
 split<;>omega
def d128_eq{v:Nat→Nat}{n:Nat}{k:MT}{lots:List Int}(hk:k.2.2.1=lots)(hl:LotsOK n lots)(hv:∀i,i<n→v i≤1000000000000){a b:Nat}(ha:a<n)(hb:b<n):d128 (a:Int) (b:Int) (lst (fun i=>(v i:Int)) n) k=some (cmpM v lots (a:Int) (b:Int)):=by
 have h1:=hv a ha
 have h2:=hv b hb
 have h7:=hl.n7
 have hll:=hl.len
 have h3:=zuq (s:=lots) (a:Int) (by omega)
 have h4:=zuq (s:=lots) (b:Int) (by omega)
 rw[ziv]at h3 h4
 have p1:lots.idxOf (a:Int)<lots.length:=xip (hl.mem ha)
 have p2:lots.idxOf (b:Int)<lots.length:=xip (hl.mem hb)
 rw[if_pos p1]at h3
 rw[if_pos p2]at h4
 unfold d128 cmpM zdb
 simp only[d0le,zaf,dlt ha,dlt hb,xai,xab,tn,zam (fun i=>(v i:Int)) ha,zam (fun i=>(v i:Int)) hb,zge,hk,h3,h4,xaa]
 by_cases h:v a=v b
 ·rw[if_pos h,xag h,xaq,xac,zbx (by omega) (by omega)]
 ·rw[if_neg h,xaj h,xao,xab,zbx (by omega) (by omega)]
variable {Q:MP} {s:MS}
def d84_ex(hQ:Q.OK)(hI:MI Q s){k:MT}(hst:k.2.2.2.2.1=lst (fun i=>(s.st i:Int)) Q.P.n)(hlo:k.2.2.1=Q.P.lots)(hse:k.1.2.2.2.1=(Q.P.seats:Int))(hfl:k.2.2.2.2.2.2.1=(s.fl Q:Int)) :
  ∃L:List Nat,d84 k (lst (fun i=>((s.v Q i:Nat):Int)) Q.P.n) ((s.quo Q:Nat):Int)=some (L.map Int.ofNat)∧(L.map Int.ofNat).Perm (selI (s.el Q) Q.P.n):=by
 have hn7:=hQ.P.n7
 have hs5:=hQ.P.seats5
 have hfill:=hI.fill
 have hv:∀i,i<Q.P.n→s.v Q i≤1000000000000:=fun i hi=>by
  have h1:=MS.v_le hQ hI hi
  have h2:=MS.tot_le hQ
  omega
 have h134:=d100_eq (s:=selI (fun i=>decide (s.st i=0)) Q.P.n) (f:=fun a=>d126 a (lst (fun i=>((s.v Q i:Nat):Int)) Q.P.n) ((s.quo Q:Nat):Int)) (g:=fun x=>decide (s.v Q x.toNat<s.quo Q)) (fun x hx=>by
  obtain⟨i,rfl,hi,_⟩:=zal.1 hx
  unfold d126
  simp only[d0le,zaf,dlt hi,xai,xab,tn,zam (fun i=>((s.v Q i:Nat):Int)) hi,xaf]
  congr 1
  exact xbv.2 (by omega)) (by rw[zat];have:=zbd (fun i=>decide (s.st i=0)) Q.P.n;omega)
 have hre:(selI (fun i=>decide (s.st i=0)) Q.P.n).filter (fun c=>!decide (s.v Q c.toNat<s.quo Q))=selI (s.reach Q) Q.P.n:=by
  rw[zgq]
  refine zho fun i _=>?_
  unfold MS.reach
  congr 1
  rw[xaf]
  by_cases h:s.v Q i<s.quo Q
  ·rw[xag h,xaj (by omega)];rfl
  ·rw[xaj h,xag (by omega)];rfl
 rw[hre]at h134
 have hrl:(selI (s.reach Q) Q.P.n).length≤7:=by rw[zat];have:=zbd (s.reach Q) Q.P.n;omega
 have hin:∀a∈selI (s.reach Q) Q.P.n,∃i:Nat,a=(i:Int)∧i<Q.P.n:=fun a ha=>by
  obtain⟨i,h,hi,_⟩:=zal.1 ha
  exact⟨i,h,hi⟩
 obtain⟨L,h1,h2,h3⟩:=d127_ex (l:=selI (s.reach Q) Q.P.n) (cmp:=fun a_1 a_2=>d128 a_1 a_2 (lst (fun i=>((s.v Q i:Nat):Int)) Q.P.n) k) (g:=cmpM (s.v Q) Q.P.lots) (by omega) (zdg _ _) (fun a ha b hb=>by
  obtain⟨i,rfl,hi⟩:=hin a ha
  obtain⟨j,rfl,hj⟩:=hin b hb
  exact d128_eq hlo (zsa hQ.P) hv hi hj) (fun a ha b hb hne=>by
  obtain⟨i,rfl,hi⟩:=hin a ha
  obtain⟨j,rfl,hj⟩:=hin b hb
  rw[zok,zok]
  exact zpl ((zsa hQ.P).mem hi) fun e=>hne (by rw[e])) (fun a ha b hb d hd=>by
  obtain⟨i,rfl,hi⟩:=hin a ha
  obtain⟨j,rfl,hj⟩:=hin b hb
  obtain⟨m,rfl,hm⟩:=hin d hd
  rw[zok,zok,zok]
  exact zpk)
 have hLin:∀a∈L,∃i:Nat,a=(i:Int)∧i<Q.P.n:=fun a ha=>hin a (h2.mem_iff.1 ha)
 have hs:L.Pairwise fun a b=>zta (s.v Q) Q.P.lots a b=true:=h3.imp_of_mem fun{a b} ha hb hab=>by
  obtain⟨i,rfl,hi⟩:=hLin a ha
  obtain⟨j,rfl,hj⟩:=hLin b hb
  exact(zok _ _ _ _).1 hab
 have hLl:L.length≤7:=by rw[h2.length_eq];exact hrl
 have hmap:((L.take (Q.P.seats-s.fl Q)).map Int.toNat).map Int.ofNat=L.take (Q.P.seats-s.fl Q):=by
  rw[List.map_map]
  refine(xfz fun a ha=>?_).trans (List.map_id _)
  obtain⟨i,rfl,_⟩:=hLin a (xcq ha)
  rfl
 refine⟨(L.take (Q.P.seats-s.fl Q)).map Int.toNat,?_,by rw[hmap];exact el_perm hQ h2 hs⟩
 rw[hmap]
 unfold d84
 rw[show d85 k 0=_ from zup hst (by omega) 0,xaa,h134,xaa,h1,xaa,hse,hfl,wsubN (by omega) (by omega)]
 by_cases hc:((Q.P.seats-s.fl Q:Nat):Int)<(L.length:Int)
 ·rw[xag hc,xab]
  have hcut:zbs 0 ((Q.P.seats-s.fl Q:Nat):Int) L.length=true:=by
   unfold zbs
   simp only[xan,xam]
   omega
  rw[hcut,xab,tn]
 ·rw[xaj hc,xac]
  have hcut:zbs 0 (L.length:Int) L.length=true:=by
   unfold zbs
   simp only[xan,xam]
   omega
  rw[hcut,xab,tn,xbh,xbi (by omega)]
def d129_eq{d:Nat}(h1:1≤d)(h6:d≤6):d129 (d:Int)=some ((10^(d/2):Nat):Int):=by
 have e:w (Int.tdiv (d:Int) 2)=((d/2:Nat):Int):=by
  have:Int.tdiv (d:Int) 2=((d/2:Nat):Int):=by
   rw[xgb (by omega)];rfl
  rw[this,zbx (by omega) (by omega)]
 unfold d129
 simp only[zaq,xaj (show ¬(d:Int)<1 by omega),xaj (show ¬(6:Int)<(d:Int) by omega),xao,xab,xac,e,d43_eq (show d/2≤18 by omega),xaa]
inductive Bef(rs:List Rd)(b:Option Nat)(sur:Nat):Prop
 |start:rs=[]→b=none→Bef rs b sur
 |kept (rs':List Rd) (r:Rd):rs=rs'++[r]→r.ex=[]→b=some sur→Bef rs b sur
 |excl (rs':List Rd) (r:Rd):rs=rs'++[r]→r.ex≠ []→b=none→Bef rs b sur
def d86_eq{k:MT}{rs:List Rd}{d sur:Nat}(h1:1≤d)(h6:d≤6)(hk:k.1.2.2.2.2.2.1=(d:Int))(hrs:k.2.2.2.2.2.2.2.2.2.2.2.2.2.2.1=rs.map rdT)(hl:rs.length≤1000)(hsi:s.since≤rs.length)(hev:k.2.2.2.2.2.2.2.2.1=(rs.length:Int)-(s.since:Int))(hsu:k.2.2.2.2.2.2.2.2.2.1=(sur:Int))(hb:Bef rs s.bef sur)(hom:Q.om=10^(d/2)) :
  d86 k ((s.sur Q:Nat):Int) ((rs.length+1:Nat):Int)=some (s.stall Q):=by
 unfold d86 MS.stall
 have hw1:w (((rs.length+1:Nat):Int)-((rs.length:Int)-(s.since:Int)))=((s.since+1:Nat):Int):=by rw[zbx (by omega) (by omega)];omega
 simp only[zaq,hk,d129_eq h1 h6,xaa,hev,hw1,hrs,xbw,hsu,←hom]
 by_cases c1:s.sur Q<Q.om
 ·rw[xag (show((s.sur Q:Nat):Int)<((Q.om:Nat):Int) by omega),xag c1];rfl
 rw[xaj (show ¬((s.sur Q:Nat):Int)<((Q.om:Nat):Int) by omega),xaj c1,xao,xab,xbp]
 by_cases c2:60≤s.since+1
 ·rw[xag (show(60:Int)≤((s.since+1:Nat):Int) by omega),xag c2];rfl
 rw[xaj (show ¬(60:Int)≤((s.since+1:Nat):Int) by omega),xaj c2,xac,xbp]
 have hget:∀(rs':List Rd) (r:Rd) (d0:RD),rs=rs'++[r]→(rs.map rdT).getD rs'.length d0=rdT r:=fun rs' r d0 e=>by
  rw[e,xdd,xae,xdv (by simp),xbw,xho];rfl
 cases hb with
 |start e1 e2=>
  rw[e2,e1]
  have:w (((([]:List Rd).length:Nat):Int)-1)=-1:=by
   show w (-1)=-1
   exact zbx (by omega) (by omega)
  rw[this];rfl
 |kept rs' r e1 e2 e3=>
  have hlen:rs.length=rs'.length+1:=by rw[e1];simp
  rw[e3,hlen,wpred (by omega)]
  have hx:(rdT r).2.2.2.2.2.2.1=[]:=e2
  rw[d0le,xab,tn,dlt (show rs'.length<rs'.length+1 by omega),xai,xab,hget rs' r _ e1,hx]
  show some (decide ((sur:Int)≤((s.sur Q:Nat):Int)))=some (decide (sur≤s.sur Q))
  congr 1
  exact xbv.2 (by omega)
 |excl rs' r e1 e2 e3=>
  have hlen:rs.length=rs'.length+1:=by rw[e1];simp
  rw[e3,hlen,wpred (by omega)]
  have hx:(rdT r).2.2.2.2.2.2.1=r.ex:=rfl
  have hpos:=xcr.2 e2
  rw[d0le,xab,tn,dlt (show rs'.length<rs'.length+1 by omega),xai,xab,hget rs' r _ e1,hx,xaj (show ¬((r.ex.length:Nat):Int)=0 by omega)]
  rfl
end
section
variable {Q:MP} {s:MS}
def getD_in{l:List Int}{P:Int→Prop}(h:∀x∈l,P x){j:Nat}(hj:j<l.length):P (l.getD j 0):=h _ (zci hj)
set_option maxHeartbeats 1000000 in
def d87_eq(hQ:Q.OK)(hI:MI Q s){c:CT}(hc:c.2.2.2.2.2.2.1=Q.P.ties){gs:List Grp}{one filled:Int}{E:List (List Rat)}{rest:Int×(Int×(Int×(Int×(Int×(Int×(List RD×List Int))))))}(hE:∀r∈E,RndOK Q.P.n r)(hEl:E.length≤1000)(v kk:List Rt)(qu ex su:Rt)(el ex2 ti:List Int) :
  ∃x:Nat,x<Q.P.n∧s.pick Q E=(x:Int)∧d87 (c,gs,Q.P.lots,one,lst (fun i=>(s.st i:Int)) Q.P.n,lst (fun i=>(s.kp i:Int)) Q.P.n,filled,E.map (List.map rr),rest) (v,kk,qu,ex,su,el,ex2,ti) (lst (fun i=>((s.v Q i:Nat):Int)) Q.P.n) ((s.sur Q:Nat):Int)
   =some ((c,gs,Q.P.lots,one,lst (fun i=>((upd s.st x 2 i:Nat):Int)) Q.P.n,lst (fun i=>((upd s.kp x 0 i:Nat):Int)) Q.P.n,filled,E.map (List.map rr),rest),(v,kk,qu,ex,su,el,[(x:Int)],if(s.tied Q).length=1 then ti else s.tied Q)):=by
 obtain⟨x,x1,x2,x3⟩:=zpw hI E
 refine⟨x,x2,x1,?_⟩
 have hn7:=hQ.P.n7
 have htl:=MS.tot_le hQ
 have hv:∀i,i<Q.P.n→s.v Q i≤100000000000:=fun i hi=>by
  have h1:=MS.v_le hQ hI hi
  omega
 have hsur:s.sur Q≤100000000000:=by
  have h1:=MS.sum_le hQ hI
  have h2:s.sur Q≤sumN (s.v Q) Q.P.n:=zdp fun i _=>by split<;>omega
  omega
 have hLn:∀y∈selI (fun i=>decide (s.st i=0)) Q.P.n,∃i:Nat,y=(i:Int)∧i<Q.P.n:=fun y hy=>by
  obtain⟨i,h,hi,_⟩:=zal.1 hy
  exact⟨i,h,hi⟩
 have hne:selI (fun i=>decide (s.st i=0)) Q.P.n≠ []:=xfo (zal.2 ⟨x,rfl,x2,xag x3⟩)
 have hLl:(selI (fun i=>decide (s.st i=0)) Q.P.n).length≤7:=by
  rw[zat];have:=zbd (fun i=>decide (s.st i=0)) Q.P.n;omega
 have hmem:∀i,i<Q.P.n→(s.st i=0↔(i:Int)∈selI (fun i=>decide (s.st i=0)) Q.P.n):=fun i hi=>by
  rw[zal]
  constructor
  ·intro h;exact⟨i,rfl,hi,xag h⟩
  ·rintro⟨k,e,_,h⟩
   rw[xfk.1 e]
   exact xbl h
 have hnear:∀m:Nat,(∃y,y<Q.P.n∧s.st y=0∧m=s.v Q y)→(∀k,k<Q.P.n→s.st k=0→m≤s.v Q k)→(selI (fun i=>decide (s.st i=0)) Q.P.n).filter (fun c=>!decide (m+s.sur Q<s.v Q c.toNat))=s.tied Q:=fun m ⟨y,y1,y2,y3⟩ hm=>by
  rw[zgq]
  refine zho fun i hi=>?_
  unfold MS.near
  congr 1
  rw[xaf,xff,xbt,xdw,xay]
  constructor
  ·intro h k hk
   by_cases h5:s.st k=0
   ·have:=hm k (xbu.1 hk) h5
    rw[xdj,xam]
    exact .inr (by omega)
   ·simp[h5]
  ·intro h
   have:=h y (xbu.2 y1)
   rw[xag y2,xaq,xbp,xam]at this
   omega
 have h134:∀m:Nat,m≤100000000000→d100 (selI (fun i=>decide (s.st i=0)) Q.P.n) (fun a=>d130 a (lst (fun i=>((s.v Q i:Nat):Int)) Q.P.n) (m:Int) ((s.sur Q:Nat):Int))=some ((selI (fun i=>decide (s.st i=0)) Q.P.n).filter fun c=>!decide (m+s.sur Q<s.v Q c.toNat)):=fun m hm=>d100_eq (g:=fun c=>decide (m+s.sur Q<s.v Q c.toNat)) (fun y hy=>by
  obtain⟨i,rfl,hi⟩:=hLn y hy
  unfold d130
  simp only[d0le,zaf,dlt hi,xai,xab,tn,zam (fun i=>((s.v Q i:Nat):Int)) hi,xaf,wadd (show m+s.sur Q≤9223372036854775807 by omega)]
  congr 1
  exact xbv.2 (by omega)) (by omega)
 unfold d87
 rw[show d85 (c,gs,Q.P.lots,one,lst (fun i=>(s.st i:Int)) Q.P.n,lst (fun i=>(s.kp i:Int)) Q.P.n,filled,E.map (List.map rr),rest) 0=_ from zup (st:=s.st) (n:=Q.P.n) rfl (by omega) 0,xaa]
 simp only[show∀i,decide (s.st i=0)=decide (s.st i=0)from fun _=>rfl]
 generalize hLL:selI (fun i=>decide (s.st i=0)) Q.P.n=L at *
 have hpos:=xcr.2 hne
 obtain⟨y0,hy0,hy0n⟩:=getD_in hLn hpos
 have hy0m:(y0:Int)∈L:=by rw[←hy0];exact zci hpos
 simp only[xag (show(0:Int)<(L.length:Int) by omega),show decide ((0:Nat)≤0)=true from rfl,xai,xab,hy0,d0le,zaf,dlt hy0n,tn,zam (fun i=>((s.v Q i:Nat):Int)) hy0n]
 refine zcq (Q:=fun z=>z=_) (fun(i:Nat) (st:MT×RD×(List Int)×Int×(List Int)×Int×Int×Int)=>∃m:Nat,st=((c,gs,Q.P.lots,one,lst (fun i=>(s.st i:Int)) Q.P.n,lst (fun i=>(s.kp i:Int)) Q.P.n,filled,E.map (List.map rr),rest),(v,kk,qu,ex,su,el,ex2,ti),lst (fun i=>((s.v Q i:Nat):Int)) Q.P.n,((s.sur Q:Nat):Int),L,(m:Int),(L.length:Int),(i:Int))∧(∃y,y<Q.P.n∧s.st y=0∧m=s.v Q y)∧∀j,j<i→∀y:Nat,L.getD j 0=(y:Int)→m≤s.v Q y) L.length ⟨s.v Q y0,rfl,⟨y0,hy0n,(hmem y0 hy0n).2 hy0m,rfl⟩,fun j hj=>by omega⟩ ?_ ?_
 ·rintro i st hi ⟨m,rfl,⟨y,y1,y2,y3⟩,hm⟩
  obtain⟨z,hz,hzn⟩:=getD_in hLn hi
  have hzm:(z:Int)∈L:=by rw[←hz];exact zci hi
  refine⟨_,by simp only[dlt hi,d0le,xai,xab,tn,hz,zaf,dlt hzn,zam (fun i=>((s.v Q i:Nat):Int)) hzn,zbk (show i<9223372036854775807 by omega)];rfl,?_⟩
  by_cases hlt:s.v Q z<m
  ·refine⟨s.v Q z,by rw[dlt hlt];rfl,⟨z,hzn,(hmem z hzn).2 hzm,rfl⟩,fun j hj y' hy'=>?_⟩
   by_cases hji:j=i
   ·subst hji
    rw[hz]at hy'
    rw[xfk.1 hy']
    exact xak _
   ·have:=hm j (by omega) y' hy'
    omega
  ·refine⟨m,by rw[nlt (by omega)];rfl,⟨y,y1,y2,y3⟩,fun j hj y' hy'=>?_⟩
   by_cases hji:j=i
   ·subst hji
    rw[hz]at hy'
    rw[←xfk.1 hy']
    omega
   ·exact hm j (by omega) y' hy'
 ·rintro st ⟨m,rfl,hy,hm⟩
  refine⟨((c,gs,Q.P.lots,one,lst (fun i=>(s.st i:Int)) Q.P.n,lst (fun i=>(s.kp i:Int)) Q.P.n,filled,E.map (List.map rr),rest),(v,kk,qu,ex,su,el,ex2,ti),lst (fun i=>((s.v Q i:Nat):Int)) Q.P.n,((s.sur Q:Nat):Int),L,(m:Int)),by simp only[nlt (xak L.length),xac],?_⟩
  have hm2:∀k,k<Q.P.n→s.st k=0→m≤s.v Q k:=fun k hk h0=>by
   obtain⟨j,hj,e⟩:=xcm ((hmem k hk).1 h0)
   exact hm j hj k (by rw[xae,xar hj,e];rfl)
  have hmb:m≤100000000000:=by
   obtain⟨y,y1,_,y3⟩:=hy
   rw[y3];exact hv y y1
  have ht:=hnear m hy hm2
  have h134:=h134 m hmb
  rw[ht]at h134
  have htne:s.tied Q≠ []:=near_ne hI
  have htin:∀y∈s.tied Q,∃i:Nat,y=(i:Int)∧i<Q.P.n:=fun y hy=>by
   obtain⟨i,h,hi,_⟩:=zal.1 hy
   exact⟨i,h,hi⟩
  have htl7:(s.tied Q).length≤7:=by
   unfold MS.tied
   rw[zat];have:=zbd (s.near Q) Q.P.n;omega
  have hset1:(lst (fun i=>(s.st i:Int)) Q.P.n).set x 2=lst (fun i=>((upd s.st x 2 i:Nat):Int)) Q.P.n:=by
   rw[zen]
   refine zay fun k _=>?_
   unfold upd
   split<;>rfl
  have hset2:(lst (fun i=>(s.kp i:Int)) Q.P.n).set x 0=lst (fun i=>((upd s.kp x 0 i:Nat):Int)) Q.P.n:=by
   rw[zen]
   refine zay fun k _=>?_
   unfold upd
   split<;>rfl
  obtain⟨b,hb155⟩:=d110_eq (n:=Q.P.n) (ties:=Q.P.ties) (E:=E) (tied:=s.tied Q) (lots:=Q.P.lots) (least:=true) hQ.P.ties1 hQ.P.ties3 (zsa hQ.P) hE (by omega) htne (zcz _ _) htin (by omega)
  simp only[h134,xaa]
  unfold MS.pick at x1
  generalize s.tied Q=T at htne htl7 x1 hb155 ⊢
  obtain⟨z,T',hT'⟩:=xiu htne
  subst hT'
  simp only[xaz,xag (show(0:Int)<((T'.length+1:Nat):Int) by omega),show decide ((0:Nat)≤0)=true from rfl,xai,xab,zaq,hc,hb155,xaa,xef]
  rw[xaz]at x1
  by_cases hone:T'.length+1=1
  ·rw[if_pos hone,xht]at x1
   simp only[if_pos hone,xaj (show ¬(1:Int)<((T'.length+1:Nat):Int) by omega),xac,x1,d0le,zaf,dlt x2,xai,xab,tn,hset1,hset2]
  ·rw[if_neg hone]at x1
   simp only[if_neg hone,xag (show(1:Int)<((T'.length+1:Nat):Int) by omega),xab,x1,d0le,zaf,dlt x2,xai,tn,hset1,hset2]
def d88_eq(hQ:Q.OK)(hI:MI Q s){c:CT}{gs:List Grp}{lots:List Int}{filled:Int}{rest:List (List Rt)×(Int×(Int×(Int×(Int×(Int×(Int×(List RD×List Int)))))))} :
  d88 (c,gs,lots,(Q.one:Int),lst (fun i=>((s.st1 Q i:Nat):Int)) Q.P.n,lst (fun i=>(s.kp i:Int)) Q.P.n,filled,rest) (lst (fun i=>((s.v Q i:Nat):Int)) Q.P.n) ((s.quo Q:Nat):Int)
   =some (c,gs,lots,(Q.one:Int),lst (fun i=>((s.st1 Q i:Nat):Int)) Q.P.n,lst (fun i=>((s.kp1 Q i:Nat):Int)) Q.P.n,filled,rest):=by
 have hn7:=hQ.P.n7
 have htl:=MS.tot_le hQ
 have ho1:=hQ.one1
 have ho6:=hQ.one6
 have hv:∀i,i<Q.P.n→s.v Q i≤100000000000:=fun i hi=>by
  have h1:=MS.v_le hQ hI hi
  omega
 have hq:s.quo Q≤100000000001:=by
  have:=MS.quo_le hQ hI
  omega
 unfold d88
 rw[show d85 (c,gs,lots,(Q.one:Int),lst (fun i=>((s.st1 Q i:Nat):Int)) Q.P.n,lst (fun i=>(s.kp i:Int)) Q.P.n,filled,rest) 1=_ from zup (st:=s.st1 Q) (n:=Q.P.n) rfl (by omega) 1,xaa]
 obtain⟨L,hL⟩:∃L,selN (fun i=>decide (s.st1 Q i=1)) Q.P.n=L:=⟨_,rfl⟩
 have hLi:selI (fun i=>decide (s.st1 Q i=1)) Q.P.n=L.map Int.ofNat:=by rw[←hL];rfl
 have hLn:∀i∈L,i<Q.P.n:=fun i hi=>(zbn.1 (by rw[hL];exact hi)).1
 have hLl:L.length≤7:=by rw[←hL,zca];have:=zbd (fun i=>decide (s.st1 Q i=1)) Q.P.n;omega
 have hLd:L.Nodup:=by
  rw[←hL];unfold selN
  exact xii.filter _
 have hmem:∀i,i<Q.P.n→(s.st1 Q i=1↔i∈L):=fun i hi=>by
  rw[←hL,zbn,xam]
  exact⟨fun h=>⟨hi,h⟩,fun h=>h.2⟩
 obtain⟨nw,hnw⟩:∃nw:Nat→Nat,(fun i=>min Q.one (mup (mup (s.kp i*s.quo Q) Q.one*Q.one) (s.v Q i)))=nw:=⟨_,rfl⟩
 have hnwi:∀i,min Q.one (mup (mup (s.kp i*s.quo Q) Q.one*Q.one) (s.v Q i))=nw i:=fun i=>by rw[←hnw]
 rw[hLi]
 have hLm:(L.map Int.ofNat).length=L.length:=xbw ..
 simp only[show(L.map Int.ofNat).length=L.length from hLm]
 refine zaa (fun j=>((c,gs,lots,(Q.one:Int),lst (fun i=>((s.st1 Q i:Nat):Int)) Q.P.n,lst (fun i=>((if i∈L.take j∧0<s.v Q i then nw i else s.kp i:Nat):Int)) Q.P.n,filled,rest),lst (fun i=>((s.v Q i:Nat):Int)) Q.P.n,((s.quo Q:Nat):Int),L.map Int.ofNat,(L.length:Int),(j:Int))) L.length ?_ (fun j hj=>?_) (b:=(c,gs,lots,(Q.one:Int),lst (fun i=>((s.st1 Q i:Nat):Int)) Q.P.n,lst (fun i=>((s.kp1 Q i:Nat):Int)) Q.P.n,filled,rest)) ?_ rfl
 ·simp only[xei,xgp,xjg,xbf]
  rfl
 ·obtain⟨x,hx⟩:∃x,L.getD j 0=x:=⟨_,rfl⟩
  have hxm:x∈L:=by
   rw[←hx,xae,xar hj]
   exact xbc hj
  have hxn:=hLn x hxm
  have hsg:(L.map Int.ofNat).getD j 0=(x:Int):=by
   rw[xae,xcv,xar hj,←hx,xae,xar hj];rfl
  have htk:L.take (j+1)=L.take j++[x]:=by rw[zbg L 0 hj,hx]
  have hxt:x∉L.take j:=fun h=>by
   have h2:(L.take (j+1)).Nodup:=hLd.sublist (List.take_sublist _ _)
   rw[htk]at h2
   exact(xdp.1 h2).2.2 x h x (by simp) rfl
  have hkx:¬(x∈L.take j∧0<s.v Q x):=fun h=>hxt h.1
  have hvx:=hv x hxn
  have hk1:=hI.kp1 x
  have b1:s.kp x*s.quo Q≤1000000*100000000001:=xdf (by omega) hq
  have b2:mup (s.kp x*s.quo Q) Q.one≤s.quo Q:=mup_le ho1 (by rw[xby];exact xdk _ hk1)
  have b3:mup (s.kp x*s.quo Q) Q.one*Q.one≤100000000001*1000000:=xdf (by omega) ho6
  simp only[dlt hj,d0le,hLm,xai,xab,tn,hsg,zaf,dlt hxn,zam (fun i=>((s.v Q i:Nat):Int)) hxn,zaq,zbk (show j<9223372036854775807 by omega),htk]
  by_cases h0:0<s.v Q x
  ·simp only[xag (show(0:Int)<((s.v Q x:Nat):Int) by omega),xab,zam (fun i=>((if i∈L.take j∧0<s.v Q i then nw i else s.kp i:Nat):Int)) hxn,if_neg hkx,wmul (show s.kp x*s.quo Q≤9223372036854775807 by omega),d124_eq ho1 (show s.kp x*s.quo Q+Q.one≤4611686018427387904 by omega),xaa,wmul (show mup (s.kp x*s.quo Q) Q.one*Q.one≤9223372036854775807 by omega),d124_eq h0 (show mup (s.kp x*s.quo Q) Q.one*Q.one+s.v Q x≤4611686018427387904 by omega)]
   have hmin:(bif decide (((mup (mup (s.kp x*s.quo Q) Q.one*Q.one) (s.v Q x):Nat):Int)<(Q.one:Int))then((mup (mup (s.kp x*s.quo Q) Q.one*Q.one) (s.v Q x):Nat):Int)else(Q.one:Int))=((nw x:Nat):Int):=by
    rw[←hnwi]
    generalize mup (mup (s.kp x*s.quo Q) Q.one*Q.one) (s.v Q x)=y
    by_cases h:y<Q.one
    ·rw[dlt h,xab];omega
    ·rw[nlt (by omega),xac];omega
   have e:lst (upd (fun i=>((if i∈L.take j∧0<s.v Q i then nw i else s.kp i:Nat):Int)) x ((nw x:Nat):Int)) Q.P.n=lst (fun i=>((if i∈L.take j++[x]∧0<s.v Q i then nw i else s.kp i:Nat):Int)) Q.P.n:=zay fun i hi=>by
    unfold upd
    by_cases hix:i=x
    ·subst hix
     rw[if_pos rfl,if_pos ⟨by simp,h0⟩]
    ·rw[if_neg hix]
     have:(i∈L.take j++[x])↔i∈L.take j:=by simp[hix]
     simp only[this]
   rw[hmin,zen,e]
  ·simp only[xaj (show ¬(0:Int)<((s.v Q x:Nat):Int) by omega),xac]
   have e:lst (fun i=>((if i∈L.take j∧0<s.v Q i then nw i else s.kp i:Nat):Int)) Q.P.n=lst (fun i=>((if i∈L.take j++[x]∧0<s.v Q i then nw i else s.kp i:Nat):Int)) Q.P.n:=zay fun i hi=>by
    by_cases hix:i=x
    ·subst hix
     rw[if_neg hkx,if_neg fun h=>h0 h.2]
    ·have:(i∈L.take j++[x])↔i∈L.take j:=by simp[hix]
     simp only[this]
   rw[e]
 ·simp only[nlt (xak L.length),xac,xbh]
  have e:lst (fun i=>((if i∈L∧0<s.v Q i then nw i else s.kp i:Nat):Int)) Q.P.n=lst (fun i=>((s.kp1 Q i:Nat):Int)) Q.P.n:=zay fun i hi=>by
   unfold MS.kp1
   rw[hnwi]
   by_cases h:s.st1 Q i=1
   ·have:=(hmem i hi).1 h
    simp only[h,this,xgt]
   ·have:¬i∈L:=fun hm=>h ((hmem i hi).2 hm)
    simp only[h,this,xjg]
  rw[e]
end
section
def while_prp{α β γ:Type}{f:α→Option (α⊕β)}{k:β→Option γ}{a0:α}{b:β}{X:Option γ→Prop}(st:Nat→α)(n:Nat)(h0:st 0=a0)(hs:∀i,i<n→f (st i)=some (.inl (st (i+1))))(he:f (st n)=some (.inr b))(hk:X (k b)):X ((zad f a0).bind k):=by
 rw[zaa st n h0 hs he rfl];exact hk
def KM(Q:MP)(c:CT)(gs:List Grp)(st kp:Nat→Nat)(fl:Nat)(rs:List Rd)(ev sur:Int):MT:=
 (c,gs,Q.P.lots,(Q.one:Int),lst (fun i=>(st i:Int)) Q.P.n,lst (fun i=>(kp i:Int)) Q.P.n,(fl:Int),(rs.map Rd.votes).map (List.map rr),ev,sur,2,(Q.P.seats:Int),c.2.2.2.2.2.1,(Q.P.n:Int),rs.map rdT,rs.flatMap Rd.el)
variable {Q:MP} {s:MS}
structure MQ(Q:MP)(c:CT)(gs:List Grp)(d:Nat):Prop where
 ok:Q.OK
 P:∃lots,gpOf c gs lots=Q.P
 n:c.2.1.length=Q.P.n
 pile:∃N,PileOK (Q.P.n:Int) gs N
 seats:c.2.2.2.1=(Q.P.seats:Int)
 dig:c.2.2.2.2.2.1=(d:Int)
 d1:1≤d
 d6:d≤6
 ties:c.2.2.2.2.2.2.1=Q.P.ties
 one:Q.one=10^d
 om:Q.om=10^(d/2)
def MQ.d80{c:CT}{gs:List Grp}{d:Nat}(h:MQ Q c gs d)(hI:MI Q s):d80 (d:Int) (lst (fun i=>(s.kp i:Int)) Q.P.n) gs=some (lst (fun i=>((s.v Q i:Nat):Int)) Q.P.n,((s.rest Q:Nat):Int),true):=by
 obtain⟨lots,hl⟩:=h.P
 obtain⟨N,hp⟩:=h.pile
 have:=d80_ok h.ok.P.n1 h.ok.P.n7 h.d1 h.d6 hp c lots (kp:=s.kp) (by rw[←h.one];exact hI.kp1)
 rw[hl,←h.one]at this
 exact this
def rdM(s:MS)(el ex ti:List Int):(lst (fun i=>rr (frac (s.v Q i) Q.one)) Q.P.n,lst (fun i=>rr (frac (s.kp i) Q.one)) Q.P.n,rr (frac (s.quo Q) Q.one),rr (frac (s.rest Q) Q.one),rr (frac (s.sur Q) Q.one),el,ex,ti)=rdT {s.rd0 Q with el:=el,ex:=ex,ti:=ti}:=by
 unfold rdT MS.rd0
 simp only[zrz]
def sur_part(p:Nat→Bool)(f:Nat→Nat)(n:Nat){j:Nat}(hj:j<(selN p n).length):(((selN p n).take (j+1)).map f).sum=(((selN p n).take j).map f).sum+f ((selN p n).getD j 0):=by
 rw[zbg (selN p n) 0 hj,xdd,xke];simp
def flat_lim{rs:List Rd}(h:∀r∈rs,RndOK Q.P.n r.votes∧r.el.length≤7):(rs.flatMap Rd.el).length≤7*rs.length:=zwo fun r hr=>(h r hr).2
def letJ_of{α β:Type}{f:α→Option β}{g:(α→Option β)→Option β}{X:Option β→Prop}(Jp:(α→Option β)→Prop)(hf:Jp f)(h:∀J,Jp J→X (g J)):X (letJ f g):=by
 rw[zaq];exact h f hf
def RndM(Q:MP)(c:CT)(gs:List Grp)(s:MS)(rs:List Rd)(z:Option (Bool×MT)):Prop:=
  (s.fin Q=true∧∃st' kp' fl' ev' su',z=some (false,KM Q c gs st' kp' fl' (rs++[s.done Q]) ev' su')) ∨
  (s.fin Q=false∧s.cut Q=true∧z=some (true,KM Q c gs (s.excl Q (rs.map Rd.votes)).st (s.excl Q (rs.map Rd.votes)).kp ((s.excl Q (rs.map Rd.votes)).fl Q) (rs++[s.exR Q (rs.map Rd.votes)]) (((rs++[s.exR Q (rs.map Rd.votes)]).length:Int)-((s.excl Q (rs.map Rd.votes)).since:Int)) ((s.sur Q:Nat):Int))) ∨
  (s.fin Q=false∧s.cut Q=false∧z=some (true,KM Q c gs (s.redu Q).st (s.redu Q).kp ((s.redu Q).fl Q) (rs++[s.rd0 Q]) (((rs++[s.rd0 Q]).length:Int)-((s.redu Q).since:Int)) ((s.sur Q:Nat):Int)))
set_option maxHeartbeats 4000000 in
def d45_eq{c:CT}{gs:List Grp}{d:Nat}(hQ:MQ Q c gs d){rs:List Rd}(hR:MRun Q s rs)(hsi:s.since≤rs.length){su:Nat}(hb:Bef rs s.bef su) :
  RndM Q c gs s rs (d45 (KM Q c gs s.st s.kp (s.fl Q) rs ((rs.length:Int)-(s.since:Int)) (su:Int))):=by
 have hI:=hR.inv
 have hok:=hQ.ok
 have hn7:=hok.P.n7
 have hs5:=hok.P.seats5
 have ho1:=hok.one1
 have ho6:=hok.one6
 have htl:=MS.tot_le hok
 have hsum:=MS.sum_le hok hI
 have hv:∀i,i<Q.P.n→s.v Q i≤100000000000:=fun i hi=>by
  have h1:=MS.v_le hok hI hi
  omega
 have hq:s.quo Q≤100000000001:=by
  have:=MS.quo_le hok hI
  omega
 have hsurS:s.sur Q≤sumN (s.v Q) Q.P.n:=zdp fun i _=>by split<;>omega
 have hrl:=hR.len
 have hfill:=hI.fill
 have hf1:=f1_le hok hI
 have hf1e:=f1_eq (Q:=Q) (s:=s)
 have hE:∀r∈rs.map Rd.votes,RndOK Q.P.n r:=fun r hr=>by
  obtain⟨r',h1,rfl⟩:=xdg.1 hr
  exact(hR.rnd r' h1).1
 have hfl:=flat_lim hR.rnd
 obtain⟨L,hL1,hL2⟩:=d84_ex hok hI (k:=KM Q c gs s.st s.kp (s.fl Q) rs ((rs.length:Int)-(s.since:Int)) (su:Int)) rfl rfl hQ.seats rfl
 have hLlen:L.length=cntN (s.el Q) Q.P.n:=by
  have:=hL2.length_eq
  rw[xbw,zat]at this
  exact this
 have hLn:∀i∈L,i<Q.P.n:=fun i hi=>by
  obtain⟨k,e,hk,_⟩:=zal.1 (hL2.mem_iff.1 (xhl hi))
  have:Int.ofNat i=(k:Int):=e
  have:=xfk.1 this
  omega
 have hLl:L.length≤7:=by rw[hLlen];have:=zbd (s.el Q) Q.P.n;omega
 have hst1:lst (fun i=>((zed s.st L 1 i:Nat):Int)) Q.P.n=lst (fun i=>((s.st1 Q i:Nat):Int)) Q.P.n:=zay fun i hi=>by
  unfold zed MS.st1
  have:i∈L↔s.el Q i=true:=by
   constructor
   ·intro h
    obtain⟨k,e,hk,h2⟩:=zal.1 (hL2.mem_iff.1 (xhl h))
    have e:Int.ofNat i=(k:Int):=e
    rw[xfk.1 e];exact h2
   ·intro h
    obtain⟨k,hk,e⟩:=xdg.1 (hL2.mem_iff.2 (zal.2 ⟨i,rfl,hi,h⟩))
    have e:Int.ofNat k=(i:Int):=e
    rw[←xfk.1 e];exact hk
  by_cases h:i∈L
  ·rw[if_pos h,if_pos (this.1 h)]
  ·rw[if_neg h,if_neg fun h'=>h (this.2 h')]
 have hsel:zdq ([]++L.map Int.ofNat)=selI (s.el Q) Q.P.n:=zvm hL2 ((zcz _ _).imp fun h=>Int.le_of_lt h)
 have hfl1:s.fl Q+L.length=s.f1 Q:=by omega
 have h159:=fun(v kk:List Rt) (qu ex su':Rt)=>d83_eq (c:=c) (gs:=gs) (lots:=Q.P.lots) (one:=(Q.one:Int)) (st:=s.st) (n:=Q.P.n) (kp:=lst (fun i=>(s.kp i:Int)) Q.P.n) (filled:=s.fl Q) (rest:=((rs.map Rd.votes).map (List.map rr),(rs.length:Int)-(s.since:Int),(su:Int),2,(Q.P.seats:Int),c.2.2.2.2.2.1,(Q.P.n:Int),rs.map rdT,rs.flatMap Rd.el)) (v:=v) (kk:=kk) (qu:=qu) (ex:=ex) (su:=su') (el:=[]) (ex2:=[]) (ti:=[]) (L:=L) (by omega) hLn hLl (by omega) (by simp)
 simp only[hst1,hsel,hfl1]at h159
 have hK:KM Q c gs s.st s.kp (s.fl Q) rs ((rs.length:Int)-(s.since:Int)) (su:Int)=(c,gs,Q.P.lots,(Q.one:Int),lst (fun i=>(s.st i:Int)) Q.P.n,lst (fun i=>(s.kp i:Int)) Q.P.n,((s.fl Q:Nat):Int),(rs.map Rd.votes).map (List.map rr),(rs.length:Int)-(s.since:Int),(su:Int),2,(Q.P.seats:Int),c.2.2.2.2.2.1,(Q.P.n:Int),rs.map rdT,rs.flatMap Rd.el):=rfl
 have h58:=hQ.d80 hI
 have h157v:=d81_eq (k:=KM Q c gs s.st s.kp (s.fl Q) rs ((rs.length:Int)-(s.since:Int)) (su:Int)) (v:=s.v Q) (n:=Q.P.n) (one:=Q.one) rfl (by omega) ho1 ho6 fun i hi=>by have:=hv i hi;omega
 have h157k:=d81_eq (k:=KM Q c gs s.st s.kp (s.fl Q) rs ((rs.length:Int)-(s.since:Int)) (su:Int)) (v:=s.kp) (n:=Q.P.n) (one:=Q.one) rfl (by omega) ho1 ho6 fun i hi=>by have:=hI.kp1 i;omega
 have hw1:w (c.2.2.2.1+1)=((Q.P.seats+1:Nat):Int):=by rw[hQ.seats,zbk (by omega)]
 have hdiv:w (w (Int.tdiv ((sumN (s.v Q) Q.P.n:Nat):Int) ((Q.P.seats+1:Nat):Int))+1)=((s.quo Q:Nat):Int):=by
  have h1:Int.tdiv ((sumN (s.v Q) Q.P.n:Nat):Int) ((Q.P.seats+1:Nat):Int)=((sumN (s.v Q) Q.P.n/(Q.P.seats+1):Nat):Int):=by
   rw[xgb (by omega)];rfl
  have h2:=xfc (sumN (s.v Q) Q.P.n) (Q.P.seats+1)
  have h3:s.quo Q=sumN (s.v Q) Q.P.n/(Q.P.seats+1)+1:=rfl
  rw[h1,h3]
  generalize sumN (s.v Q) Q.P.n/(Q.P.seats+1)=z at h2 ⊢
  rw[zbx (n:=(z:Int)) (by omega) (by omega),zbk (by omega)]
 unfold d45
 generalize hKK:KM Q c gs s.st s.kp (s.fl Q) rs ((rs.length:Int)-(s.since:Int)) (su:Int)=K at *
 have k1:K.1=c:=by rw[hK]
 have k2:K.2.1=gs:=by rw[hK]
 have k4:K.2.2.2.1=(Q.one:Int):=by rw[hK]
 have k6:K.2.2.2.2.2.1=lst (fun i=>(s.kp i:Int)) Q.P.n:=by rw[hK]
 simp only[k1,k2,k6,hQ.dig,h58,xaa,zaf]
 have goalS:∀(X:Option (Bool×MT)→Prop) (kf:MT×(List Int)×Int×Int→Option (Bool×MT)),X (kf (K,lst (fun i=>((s.v Q i:Nat):Int)) Q.P.n,((s.rest Q:Nat):Int),((sumN (s.v Q) Q.P.n:Nat):Int)))→X ((zad (β:=(MT×(List Int)×Int×Int)) (fun((t0,t3,t4,t6,t34,t35,t36):MT×(List Int)×Int×Int×(List Int)×Int×Int)=>
   bif (decide (t36<t35))then
    bif (decide (0≤t36)&&decide (t36<(t34.length:Int)))then
     some (Sum.inl (t0,t3,t4,(w (t6+(List.getD t34 (Int.toNat t36) 0))),t34,t35,(w (t36+1))))
    else none
   else
    some (Sum.inr (t0,t3,t4,t6))) (K,lst (fun i=>((s.v Q i:Nat):Int)) Q.P.n,((s.rest Q:Nat):Int),0,lst (fun i=>((s.v Q i:Nat):Int)) Q.P.n,(Q.P.n:Int),0)).bind kf):=fun X kf hX=>by
  refine while_prp (fun i=>(K,lst (fun i=>((s.v Q i:Nat):Int)) Q.P.n,((s.rest Q:Nat):Int),((sumN (s.v Q) i:Nat):Int),lst (fun i=>((s.v Q i:Nat):Int)) Q.P.n,(Q.P.n:Int),(i:Int))) Q.P.n rfl (fun i hi=>?_) ?_ hX
  ·have hm:=zqv (s.v Q) (show i+1≤Q.P.n by omega)
   rw[sumN]at hm
   simp only[dlt hi,d0le,zaf,xai,xab,tn,zam (fun i=>((s.v Q i:Nat):Int)) hi,wadd (show sumN (s.v Q) i+s.v Q i≤9223372036854775807 by omega),zbk (show i<9223372036854775807 by omega)]
   rfl
  ·simp only[nlt (xak Q.P.n),xac]
 refine goalS (RndM Q c gs s rs) _ ?_
 simp only[k1,k4,k6,hw1,xaj (show ¬((Q.P.seats+1:Nat):Int)=0 by omega),xao,xab,hdiv,h157v,h157k,xaa,d82_eq (show s.quo Q≤9223372036854775807 by omega) (show Q.one≤9223372036854775807 by omega) ho1,d82_eq (show s.rest Q≤9223372036854775807 by omega) (show Q.one≤9223372036854775807 by omega) ho1,hL1]
 rw[hK]
 simp only[h159,xaa,show d85 (c,gs,Q.P.lots,(Q.one:Int),lst (fun i=>((s.st1 Q i:Nat):Int)) Q.P.n,lst (fun i=>(s.kp i:Int)) Q.P.n,((s.f1 Q:Nat):Int),(rs.map Rd.votes).map (List.map rr),(rs.length:Int)-(s.since:Int),(su:Int),2,(Q.P.seats:Int),c.2.2.2.2.2.1,(Q.P.n:Int),rs.map rdT,rs.flatMap Rd.el) 1=some (selI (fun i=>decide (s.st1 Q i=1)) Q.P.n)from zup (st:=s.st1 Q) (n:=Q.P.n) rfl (by omega) 1,show d85 (c,gs,Q.P.lots,(Q.one:Int),lst (fun i=>((s.st1 Q i:Nat):Int)) Q.P.n,lst (fun i=>(s.kp i:Int)) Q.P.n,((s.f1 Q:Nat):Int),(rs.map Rd.votes).map (List.map rr),(rs.length:Int)-(s.since:Int),(su:Int),2,(Q.P.seats:Int),c.2.2.2.2.2.1,(Q.P.n:Int),rs.map rdT,rs.flatMap Rd.el) 0=some (selI (fun i=>decide (s.st1 Q i=0)) Q.P.n)from zup (st:=s.st1 Q) (n:=Q.P.n) rfl (by omega) 0]
 have hpl:(selI (fun i=>decide (s.st1 Q i=1)) Q.P.n).length=(selN (fun i=>decide (s.st1 Q i=1)) Q.P.n).length:=xbw ..
 have hpl7:(selN (fun i=>decide (s.st1 Q i=1)) Q.P.n).length≤7:=by rw[zca];have:=zbd (fun i=>decide (s.st1 Q i=1)) Q.P.n;omega
 have hss:=sum_sel (fun i=>decide (s.st1 Q i=1)) (fun i=>s.v Q i-s.quo Q) Q.P.n
 have hss2:sumN (fun i=>if decide (s.st1 Q i=1)=true then s.v Q i-s.quo Q else 0) Q.P.n=s.sur Q:=zak fun i _=>by
  by_cases h:s.st1 Q i=1<;>simp[h]
 rw[hss2]at hss
 refine while_prp (X:=RndM Q c gs s rs) (fun j=>((c,gs,Q.P.lots,(Q.one:Int),lst (fun i=>((s.st1 Q i:Nat):Int)) Q.P.n,lst (fun i=>(s.kp i:Int)) Q.P.n,((s.f1 Q:Nat):Int),(rs.map Rd.votes).map (List.map rr),(rs.length:Int)-(s.since:Int),(su:Int),2,(Q.P.seats:Int),c.2.2.2.2.2.1,(Q.P.n:Int),rs.map rdT,rs.flatMap Rd.el),lst (fun i=>((s.v Q i:Nat):Int)) Q.P.n,((s.quo Q:Nat):Int),(lst (fun i=>rr (frac (s.v Q i) Q.one)) Q.P.n,lst (fun i=>rr (frac (s.kp i) Q.one)) Q.P.n,rr (frac (s.quo Q) Q.one),rr (frac (s.rest Q) Q.one),(false,[],[]),selI (s.el Q) Q.P.n,[],[]),(((((selN (fun i=>decide (s.st1 Q i=1)) Q.P.n).take j).map fun i=>s.v Q i-s.quo Q).sum:Nat):Int),selI (fun i=>decide (s.st1 Q i=1)) Q.P.n,((selI (fun i=>decide (s.st1 Q i=1)) Q.P.n).length:Int),(j:Int))) (selN (fun i=>decide (s.st1 Q i=1)) Q.P.n).length (by rw[xei];rfl) (fun j hj=>?_)
  (b:=((c,gs,Q.P.lots,(Q.one:Int),lst (fun i=>((s.st1 Q i:Nat):Int)) Q.P.n,lst (fun i=>(s.kp i:Int)) Q.P.n,((s.f1 Q:Nat):Int),(rs.map Rd.votes).map (List.map rr),(rs.length:Int)-(s.since:Int),(su:Int),2,(Q.P.seats:Int),c.2.2.2.2.2.1,(Q.P.n:Int),rs.map rdT,rs.flatMap Rd.el),lst (fun i=>((s.v Q i:Nat):Int)) Q.P.n,((s.quo Q:Nat):Int),(lst (fun i=>rr (frac (s.v Q i) Q.one)) Q.P.n,lst (fun i=>rr (frac (s.kp i) Q.one)) Q.P.n,rr (frac (s.quo Q) Q.one),rr (frac (s.rest Q) Q.one),(false,[],[]),selI (s.el Q) Q.P.n,[],[]),((s.sur Q:Nat):Int))) ?_ ?_
 ·have hg:=zhb hj
  have hsg:=zjp hj
  have hvx:=hv _ hg.1
  have hpart:=zqu ((selN (fun i=>decide (s.st1 Q i=1)) Q.P.n).map fun i=>s.v Q i-s.quo Q) (j+1)
  rw[←xhr,hss,sur_part _ _ _ hj]at hpart
  have hmax:(bif decide (0<w (((s.v Q ((selN (fun i=>decide (s.st1 Q i=1)) Q.P.n).getD j 0):Nat):Int)-((s.quo Q:Nat):Int)))then w (((s.v Q ((selN (fun i=>decide (s.st1 Q i=1)) Q.P.n).getD j 0):Nat):Int)-((s.quo Q:Nat):Int))else 0)=((s.v Q ((selN (fun i=>decide (s.st1 Q i=1)) Q.P.n).getD j 0)-s.quo Q:Nat):Int):=by
   generalize s.v Q ((selN (fun i=>decide (s.st1 Q i=1)) Q.P.n).getD j 0)=y at hvx ⊢
   rw[zbx (by omega) (by omega)]
   by_cases h:(0:Int)<(y:Int)-((s.quo Q:Nat):Int)
   ·rw[xag h,xab];omega
   ·rw[xaj h,xac];omega
  simp only[hpl,dlt hj,d0le,xai,xab,tn,hsg,zaf,dlt hg.1,zam (fun i=>((s.v Q i:Nat):Int)) hg.1,hmax,wadd (show(((selN (fun i=>decide (s.st1 Q i=1)) Q.P.n).take j).map fun i=>s.v Q i-s.quo Q).sum+(s.v Q ((selN (fun i=>decide (s.st1 Q i=1)) Q.P.n).getD j 0)-s.quo Q)≤9223372036854775807 by omega),zbk (show j<9223372036854775807 by omega),sur_part _ _ _ hj]
 ·simp only[hpl,nlt (xak _),xac,xbh,hss]
 have hd158:=d82_eq (show s.sur Q≤9223372036854775807 by omega) (show Q.one≤9223372036854775807 by omega) ho1
 have hrounds:w (((rs.map rdT).length:Int)+1)=((rs.length+1:Nat):Int):=by rw[xbw,zbk (by omega)]
 simp only[hd158,xaa]
 refine letJ_of (X:=RndM Q c gs s rs) (fun J=>∀(st kp:Nat→Nat) (fl:Nat) (ev su':Int) (el ex ti:List Int) (last:Bool),el.length≤7→ex.length≤1→J ((c,gs,Q.P.lots,(Q.one:Int),lst (fun i=>((st i:Nat):Int)) Q.P.n,lst (fun i=>(kp i:Int)) Q.P.n,((fl:Nat):Int),(rs.map Rd.votes).map (List.map rr),ev,su',2,(Q.P.seats:Int),c.2.2.2.2.2.1,(Q.P.n:Int),rs.map rdT,rs.flatMap Rd.el),(lst (fun i=>rr (frac (s.v Q i) Q.one)) Q.P.n,lst (fun i=>rr (frac (s.kp i) Q.one)) Q.P.n,rr (frac (s.quo Q) Q.one),rr (frac (s.rest Q) Q.one),rr (frac (s.sur Q) Q.one),el,ex,ti),((s.sur Q:Nat):Int),((rs.length+1:Nat):Int),last)=some (!last,KM Q c gs st kp fl (rs++[{s.rd0 Q with el:=el,ex:=ex,ti:=ti}]) (if el=[]∧ex=[]then ev else((rs.length+1:Nat):Int)) ((s.sur Q:Nat):Int))) ?_ ?_
 ·intro st kp fl ev su' el ex ti last hel hex
  have l1:=zsb (α:=List Rt) (l:=rs.length) (by omega)
  have l2:=zsb (α:=RD) (l:=rs.length) (by omega)
  have l3:decide (((rs.flatMap Rd.el).length:Int)+(el.length:Int)≤LIM)=true:=zoc (by omega)
  have hKM:KM Q c gs st kp fl (rs++[{s.rd0 Q with el:=el,ex:=ex,ti:=ti}]) (if el=[]∧ex=[]then ev else((rs.length+1:Nat):Int)) ((s.sur Q:Nat):Int)=(c,gs,Q.P.lots,(Q.one:Int),lst (fun i=>((st i:Nat):Int)) Q.P.n,lst (fun i=>(kp i:Int)) Q.P.n,((fl:Nat):Int),(rs.map Rd.votes).map (List.map rr)++[lst (fun i=>rr (frac (s.v Q i) Q.one)) Q.P.n],(if el=[]∧ex=[]then ev else((rs.length+1:Nat):Int)),((s.sur Q:Nat):Int),2,(Q.P.seats:Int),c.2.2.2.2.2.1,(Q.P.n:Int),rs.map rdT++[(lst (fun i=>rr (frac (s.v Q i) Q.one)) Q.P.n,lst (fun i=>rr (frac (s.kp i) Q.one)) Q.P.n,rr (frac (s.quo Q) Q.one),rr (frac (s.rest Q) Q.one),rr (frac (s.sur Q) Q.one),el,ex,ti)],rs.flatMap Rd.el++el):=by
   rw[rdM]
   unfold KM MS.rd0
   simp only[xdd,xeq,xen,xgz,xed,xhi,xco,zrz]
  rw[hKM]
  simp only[zaq,xbw,xaz,l1,l2,l3,xab,wadd (show el.length+ex.length≤9223372036854775807 by omega)]
  by_cases h0:el=[]∧ex=[]
  ·rw[if_pos h0,h0.1,h0.2];rfl
  ·rw[if_neg h0,xag,xab]
   have:0<el.length+ex.length:=by
    refine xgu fun h=>h0 ⟨xfu.1 (by omega),xfu.1 (by omega)⟩
   omega
 intro J hJ
 have h161:d85 (c,gs,Q.P.lots,(Q.one:Int),lst (fun i=>((s.st1 Q i:Nat):Int)) Q.P.n,lst (fun i=>(s.kp i:Int)) Q.P.n,((s.f1 Q:Nat):Int),(rs.map Rd.votes).map (List.map rr),(rs.length:Int)-(s.since:Int),(su:Int),2,(Q.P.seats:Int),c.2.2.2.2.2.1,(Q.P.n:Int),rs.map rdT,rs.flatMap Rd.el) 0=some (selI (fun i=>decide (s.st1 Q i=0)) Q.P.n):=zup (st:=s.st1 Q) (n:=Q.P.n) rfl (by omega) 0
 rw[hQ.seats]
 simp only[zge,h161,xaa]
 have hse7:=elM_len (s:=s) hok
 by_cases c1:s.f1 Q=Q.P.seats
 ·have hf:s.fin Q=true:=by unfold MS.fin;rw[xag c1];rfl
  have hd:{s.rd0 Q with el:=selI (s.el Q) Q.P.n,ex:=[],ti:=[]}=s.done Q:=by
   unfold MS.done
   rw[if_pos c1];rfl
  have:=hJ (s.st1 Q) s.kp (s.f1 Q) ((rs.length:Int)-(s.since:Int)) (su:Int) (selI (s.el Q) Q.P.n) [] [] true hse7 (by simp)
  rw[hd]at this
  refine .inl ⟨hf,s.st1 Q,s.kp,s.f1 Q,_,_,Eq.trans ?_ this⟩
  rw[xag c1,xab,hrounds]
 rw[xaj c1,xac]
 have hh7:=zbd (fun i=>decide (s.st1 Q i=0)) Q.P.n
 have hh1:(selI (fun i=>decide (s.st1 Q i=0)) Q.P.n).length=s.h1 Q:=zat _ _
 have hh1':s.h1 Q≤7:=by
  have:s.h1 Q=cntN (fun i=>decide (s.st1 Q i=0)) Q.P.n:=rfl
  omega
 simp only[hh1,wadd (show s.f1 Q+s.h1 Q≤9223372036854775807 by omega)]
 by_cases c2:s.f1 Q+s.h1 Q≤Q.P.seats
 ·have hf:s.fin Q=true:=by unfold MS.fin;rw[xag c2,xdi]
  rw[xag (show((s.f1 Q+s.h1 Q:Nat):Int)≤(Q.P.seats:Int) by omega),xab]
  have h159':=d83_eq (c:=c) (gs:=gs) (lots:=Q.P.lots) (one:=(Q.one:Int)) (st:=s.st1 Q) (n:=Q.P.n) (kp:=lst (fun i=>(s.kp i:Int)) Q.P.n) (filled:=s.f1 Q) (rest:=((rs.map Rd.votes).map (List.map rr),(rs.length:Int)-(s.since:Int),(su:Int),2,(Q.P.seats:Int),c.2.2.2.2.2.1,(Q.P.n:Int),rs.map rdT,rs.flatMap Rd.el)) (v:=lst (fun i=>rr (frac (s.v Q i) Q.one)) Q.P.n) (kk:=lst (fun i=>rr (frac (s.kp i) Q.one)) Q.P.n) (qu:=rr (frac (s.quo Q) Q.one)) (ex:=rr (frac (s.rest Q) Q.one)) (su:=rr (frac (s.sur Q) Q.one)) (el:=selI (s.el Q) Q.P.n) (ex2:=[]) (ti:=[]) (L:=selN (fun i=>decide (s.st1 Q i=0)) Q.P.n) (by omega) (fun i hi=>(zbn.1 hi).1) (by rw[zca];omega) (by omega) (by omega)
  have hsel2:zdq (selI (s.el Q) Q.P.n++(selN (fun i=>decide (s.st1 Q i=0)) Q.P.n).map Int.ofNat)=selI (fun i=>s.el Q i||decide (s.st1 Q i=0)) Q.P.n:=sortI_two (q:=fun i=>decide (s.st1 Q i=0)) (fun i h=>by
   rcases zcg (Q:=Q) (s:=s) i with⟨h0,h1,h2,_⟩|⟨h0,h2⟩
   ·rw[h2];rfl
   ·rw[h]at h0;cases h0) Q.P.n
  rw[hsel2]at h159'
  have hsl:(selI (fun i=>s.el Q i||decide (s.st1 Q i=0)) Q.P.n).length≤7:=by
   rw[zat];have:=zbd (fun i=>s.el Q i||decide (s.st1 Q i=0)) Q.P.n;omega
  have hd:{s.rd0 Q with el:=selI (fun i=>s.el Q i||decide (s.st1 Q i=0)) Q.P.n,ex:=[],ti:=[]}=s.done Q:=by
   unfold MS.done
   rw[if_neg c1];rfl
  have:=hJ (zed (s.st1 Q) (selN (fun i=>decide (s.st1 Q i=0)) Q.P.n) 1) s.kp (s.f1 Q+(selN (fun i=>decide (s.st1 Q i=0)) Q.P.n).length) ((rs.length:Int)-(s.since:Int)) (su:Int) (selI (fun i=>s.el Q i||decide (s.st1 Q i=0)) Q.P.n) [] [] true hsl (by simp)
  rw[hd]at this
  refine .inl ⟨hf,_,_,_,_,_,Eq.trans ?_ this⟩
  have hsI:selI (fun i=>decide (s.st1 Q i=0)) Q.P.n=(selN (fun i=>decide (s.st1 Q i=0)) Q.P.n).map Int.ofNat:=rfl
  rw[hsI,h159',xaa]
  simp only[hrounds]
 have hf:s.fin Q=false:=by unfold MS.fin;rw[xaj c1,xaj c2];rfl
 rw[xaj (show ¬((s.f1 Q+s.h1 Q:Nat):Int)≤(Q.P.seats:Int) by omega),xac]
 have hlen1:((rs++[s.exR Q (rs.map Rd.votes)]).length:Int)=((rs.length+1:Nat):Int):=by simp
 have hlen2:((rs++[s.rd0 Q]).length:Int)=((rs.length+1:Nat):Int):=by simp
 have hredu:s.cut Q=false→RndM Q c gs s rs (J ((c,gs,Q.P.lots,(Q.one:Int),lst (fun i=>((s.st1 Q i:Nat):Int)) Q.P.n,lst (fun i=>((s.kp1 Q i:Nat):Int)) Q.P.n,((s.f1 Q:Nat):Int),(rs.map Rd.votes).map (List.map rr),(rs.length:Int)-(s.since:Int),(su:Int),2,(Q.P.seats:Int),c.2.2.2.2.2.1,(Q.P.n:Int),rs.map rdT,rs.flatMap Rd.el),(lst (fun i=>rr (frac (s.v Q i) Q.one)) Q.P.n,lst (fun i=>rr (frac (s.kp i) Q.one)) Q.P.n,rr (frac (s.quo Q) Q.one),rr (frac (s.rest Q) Q.one),rr (frac (s.sur Q) Q.one),selI (s.el Q) Q.P.n,[],[]),((s.sur Q:Nat):Int),((rs.length+1:Nat):Int),false)):=fun hc=>by
  have:=hJ (s.st1 Q) (s.kp1 Q) (s.f1 Q) ((rs.length:Int)-(s.since:Int)) (su:Int) (selI (s.el Q) Q.P.n) [] [] false hse7 (by simp)
  refine .inr (.inr ⟨hf,hc,?_⟩)
  rw[this,hlen2]
  show some (true,KM Q c gs (s.st1 Q) (s.kp1 Q) (s.f1 Q) (rs++[s.rd0 Q]) _ _)=some (true,KM Q c gs (s.st1 Q) (s.kp1 Q) (s.f1 Q) (rs++[s.rd0 Q]) (((rs.length+1:Nat):Int)-((if s.some1 Q then 0 else s.since+1:Nat):Int)) _)
  congr 3
  cases h1:s.some1 Q
  ·have hnil:selI (s.el Q) Q.P.n=[]:=by
    rw[←xfu,zat]
    refine xhv fun h=>?_
    unfold MS.some1 at h1
    exact absurd h (xee h1)
   rw[if_pos ⟨hnil,rfl⟩]
   simp only[xaw,xbf]
   omega
  ·have hnn:¬(selI (s.el Q) Q.P.n=[]∧([]:List Int)=[]):=fun h=>by
    have:=xbx List.length h.1
    rw[zat]at this
    unfold MS.some1 at h1
    have:=xbl h1
    simp at *
    omega
   rw[if_neg hnn]
   simp
 have h164:=d88_eq (Q:=Q) (s:=s) hok hI (c:=c) (gs:=gs) (lots:=Q.P.lots) (filled:=((s.f1 Q:Nat):Int)) (rest:=((rs.map Rd.votes).map (List.map rr),(rs.length:Int)-(s.since:Int),(su:Int),2,(Q.P.seats:Int),c.2.2.2.2.2.1,(Q.P.n:Int),rs.map rdT,rs.flatMap Rd.el))
 simp only[hrounds,zaq]
 cases h1:s.some1 Q
 ·have hnil:selI (s.el Q) Q.P.n=[]:=by
   rw[←xfu,zat]
   refine xhv fun h=>?_
   unfold MS.some1 at h1
   exact absurd h (xee h1)
  have hcut:s.cut Q=s.stall Q:=by unfold MS.cut;rw[h1];rfl
  have hsteq:lst (fun i=>((s.st1 Q i:Nat):Int)) Q.P.n=lst (fun i=>(s.st i:Int)) Q.P.n:=zay fun i hi=>by rw[(el_out h1 hi).2]
  have hf1fl:s.f1 Q=s.fl Q:=by
   have:cntN (s.el Q) Q.P.n=0:=by rw[←zat,hnil];rfl
   omega
  have h162:=d86_eq (Q:=Q) (s:=s) (k:=(c,gs,Q.P.lots,(Q.one:Int),lst (fun i=>((s.st1 Q i:Nat):Int)) Q.P.n,lst (fun i=>(s.kp i:Int)) Q.P.n,((s.f1 Q:Nat):Int),(rs.map Rd.votes).map (List.map rr),(rs.length:Int)-(s.since:Int),(su:Int),2,(Q.P.seats:Int),c.2.2.2.2.2.1,(Q.P.n:Int),rs.map rdT,rs.flatMap Rd.el)) (rs:=rs) hQ.d1 hQ.d6 hQ.dig rfl (by omega) hsi rfl rfl hb hQ.om
  have hz:decide (((selI (s.el Q) Q.P.n).length:Int)=0)=true:=by rw[hnil];rfl
  simp only[hz,xab,h162,xaa]
  cases hs:s.stall Q
  ·rw[xac]
   simp only[h164,xaa]
   exact hredu (hcut.trans hs)
  ·rw[xab]
   obtain⟨x,x1,x2,h163⟩:=d87_eq (Q:=Q) (s:=s) hok hI hQ.ties (gs:=gs) (one:=(Q.one:Int)) (filled:=((s.f1 Q:Nat):Int)) (E:=rs.map Rd.votes) (rest:=((rs.length:Int)-(s.since:Int),(su:Int),2,(Q.P.seats:Int),c.2.2.2.2.2.1,(Q.P.n:Int),rs.map rdT,rs.flatMap Rd.el)) hE (by rw[xbw];omega) (lst (fun i=>rr (frac (s.v Q i) Q.one)) Q.P.n) (lst (fun i=>rr (frac (s.kp i) Q.one)) Q.P.n) (rr (frac (s.quo Q) Q.one)) (rr (frac (s.rest Q) Q.one)) (rr (frac (s.sur Q) Q.one)) (selI (s.el Q) Q.P.n) [] []
   rw[hsteq,h163,xaa]
   have:=hJ (upd s.st x 2) (upd s.kp x 0) (s.f1 Q) ((rs.length:Int)-(s.since:Int)) (su:Int) (selI (s.el Q) Q.P.n) [(x:Int)] (if(s.tied Q).length=1 then []else s.tied Q) false hse7 (by simp)
   refine .inr (.inl ⟨hf,hcut.trans hs,?_⟩)
   rw[hlen1]
   have hex:(s.excl Q (rs.map Rd.votes)).fl Q=s.f1 Q:=by
    rw[hf1fl]
    obtain⟨x',y1,y2,y3⟩:=zpw hI (rs.map Rd.votes)
    unfold MS.excl
    rw[y1,xaf]
    exact fl_excl y2 y3
   have hex2:(s.excl Q (rs.map Rd.votes)).st=upd s.st x 2:=by
    unfold MS.excl
    rw[x2];rfl
   have hex3:(s.excl Q (rs.map Rd.votes)).kp=upd s.kp x 0:=by
    unfold MS.excl
    rw[x2];rfl
   have hexr:{s.rd0 Q with el:=selI (s.el Q) Q.P.n,ex:=[(x:Int)],ti:=if(s.tied Q).length=1 then []else s.tied Q}=s.exR Q (rs.map Rd.votes):=by
    unfold MS.exR
    rw[x2];rfl
   rw[hex,hex2,hex3]
   rw[hexr,if_neg (show ¬(selI (s.el Q) Q.P.n=[]∧[(x:Int)]=[]) by simp)]at this
   refine this.trans ?_
   show some (true,KM Q c gs (upd s.st x 2) (upd s.kp x 0) (s.f1 Q) (rs++[s.exR Q (rs.map Rd.votes)]) ((rs.length+1:Nat):Int) _)=some (true,KM Q c gs (upd s.st x 2) (upd s.kp x 0) (s.f1 Q) (rs++[s.exR Q (rs.map Rd.votes)]) (((rs.length+1:Nat):Int)-((0:Nat):Int)) _)
   rw[show((rs.length+1:Nat):Int)-((0:Nat):Int)=((rs.length+1:Nat):Int) by omega]
 ·have hz:decide (((selI (s.el Q) Q.P.n).length:Int)=0)=false:=by
   refine xaj ?_
   rw[zat]
   unfold MS.some1 at h1
   have:=xbl h1
   omega
  simp only[hz,xac,h164,xaa]
  exact hredu (by unfold MS.cut;rw[h1];rfl)
def mqOf(c:CT)(gs:List Grp)(lots:List Int):MP:=⟨gpOf c gs lots,10^c.2.2.2.2.2.1.toNat,10^(c.2.2.2.2.2.1.toNat/2)⟩
def trM(c:CT)(Q:MP):Int×(Int×(Int×(Int×(List RD×List Int)))):=(2,(Q.P.seats:Int),c.2.2.2.2.2.1,(Q.P.n:Int),(zjh Q).map rdT,(zjh Q).flatMap Rd.el)
def mqOf_ok{c:CT}{gs:List Grp}{lots:List Int}(h:fitE 2 c gs lots=0):MQ (mqOf c gs lots) c gs c.2.2.2.2.2.1.toNat:=by
 obtain⟨hP,_⟩:=zwk h
 obtain⟨_,_,_,n1,n7,s1,s5,_,hd,_,t1,t3,hp,ll,hB⟩:=zkc h
 obtain⟨hd1,hd6⟩:=hd rfl
 refine⟨⟨hP,ten_pos _,ten_six (by omega),ten_pos _⟩,⟨lots,rfl⟩,rfl,⟨_,hp⟩,?_,by omega,by omega,by omega,rfl,rfl,rfl⟩
 show c.2.2.2.1=(c.2.2.2.1.toNat:Int)
 omega
def Bef.excl'{rs:List Rd}{r:Rd}{sur:Nat}(h:r.ex≠ []):Bef (rs++[r]) none sur:=.excl rs r rfl h rfl
def Bef.kept'{rs:List Rd}{r:Rd}{sur:Nat}(h:r.ex=[]):Bef (rs++[r]) (some sur) sur:=.kept rs r rfl h rfl
set_option maxHeartbeats 1000000 in
def d16_eq{c:CT}{gs:List Grp}{lots:List Int}(hg:GsOK gs)(hl:lots.length≤281474976710656):d16 c gs lots=some (if fitE 2 c gs lots=0 then(trM c (mqOf c gs lots),0)else((0,0,0,0,[],[]),fitE 2 c gs lots)):=by
 unfold d16
 rw[d42_eq 2 c hg hl,xaa]
 by_cases hfit:¬fitE 2 c gs lots=0
 ·rw[if_neg hfit,xaj hfit];rfl
 have hfit:=xia.1 hfit
 rw[if_pos hfit,xag hfit,xaq,xac]
 have hQ:=mqOf_ok hfit
 have hlo:(mqOf c gs lots).P.lots=lots:=rfl
 have hdig:=hQ.dig
 have hone:=hQ.one
 generalize hd:c.2.2.2.2.2.1.toNat=d at hQ hdig hone
 generalize mqOf c gs lots=Q at hQ hlo hone ⊢
 have hn:=hQ.n
 have hok:=hQ.ok
 have hn7:=hok.P.n7
 have hd6:=hQ.d6
 have h112:d44 [((Q.one:Nat):Int)] (Q.P.n:Int)=some (lst (fun _=>((Q.one:Nat):Int)) Q.P.n):=by
  unfold d44
  rw[xag (show([((Q.one:Nat):Int)]:List Int).length=1 from rfl),xag (show(0:Int)≤(Q.P.n:Int) by omega),xag (show(Q.P.n:Int)≤1000 by omega),xai,xai,xab,tn,zry]
  rfl
 rw[hdig,d43_eq (by omega),xaa,←hone,hn]
 simp only[xah,d0le,zce (n:=Q.P.n) (by omega),xai,xab,tn,h112,xaa,hQ.seats]
 have hK0:(c,gs,lots,((Q.one:Nat):Int),List.replicate Q.P.n (0:Int),lst (fun _=>((Q.one:Nat):Int)) Q.P.n,(0:Int),([]:List (List Rt)),(0:Int),(0:Int),(2:Int),(Q.P.seats:Int),(d:Int),(Q.P.n:Int),([]:List RD),([]:List Int))=KM Q c gs Q.s0.st Q.s0.kp (Q.s0.fl Q) [] ((([]:List Rd).length:Int)-(Q.s0.since:Int)) ((0:Nat):Int):=by
  have:Q.s0.fl Q=0:=by unfold MS.fl cntN;exact zcs _
  unfold KM
  rw[this,hlo,zry,hdig]
  rfl
 rw[hK0]
 refine zic (Q:=fun r=>r=some (trM c Q,0)) (fun(M:Nat) (a:(Int×(Int×(Int×(Int×(List RD×List Int)))))×MT)=>∃(s:MS) (rs:List Rd) (su:Nat),a=((0,0,0,0,[],[]),KM Q c gs s.st s.kp (s.fl Q) rs ((rs.length:Int)-(s.since:Int)) (su:Int))∧MRun Q s rs∧s.since≤rs.length∧Bef rs s.bef su∧M=s.meas Q) (Q.s0.meas Q) ⟨Q.s0,[],0,rfl,MRun.start hok,xak _,.start rfl rfl,rfl⟩ ?_
 rintro M a ⟨s,rs,su,rfl,hR,hsi,hb,rfl⟩
 rcases d45_eq hQ hR hsi hb with⟨hf,st',kp',fl',ev',su',he⟩|⟨hf,hc,he⟩|⟨hf,hc,he⟩
 ·refine .inr ⟨((0,0,0,0,[],[]),KM Q c gs st' kp' fl' (rs++[s.done Q]) ev' su'),by simp only[he,xaa,xac],?_⟩
  show some ((2,(Q.P.seats:Int),c.2.2.2.2.2.1,(Q.P.n:Int),(rs++[s.done Q]).map rdT,(rs++[s.done Q]).flatMap Rd.el),0)=some (trM c Q,0)
  rw[hR.fin hf];rfl
 ·have hme:=(zsq hok hR.inv hf hc (rs.map Rd.votes)).2
  exact .inl ⟨_,(s.excl Q (rs.map Rd.votes)).meas Q,by simp only[he,xaa,xab],hme,_,_,s.sur Q,rfl,hR.excl hok hf hc,xbz _,Bef.excl' (by simp[MS.exR]),rfl⟩
 ·have hme:=(zrl hok hR.inv hf hc).2
  refine .inl ⟨_,(s.redu Q).meas Q,by simp only[he,xaa,xab],hme,_,_,s.sur Q,rfl,hR.redu hok hf hc,?_,Bef.kept' rfl,rfl⟩
  show(if s.some1 Q then 0 else s.since+1)≤(rs++[s.rd0 Q]).length
  rw[xbk]
  split
  ·omega
  ·simp;omega
end
section
variable {Q:MP} {s:MS}
def MS.act(Q:MP)(s:MS):Nat:=cntN (fun i=>decide (s.st i≠2)) Q.P.n
def zoq(hI:MI Q s):s.f1 Q+s.h1 Q=s.act Q:=by
 unfold MS.f1 MS.h1 MS.act cntN
 rw[←zbz]
 refine zak fun i hi=>?_
 have h3:=hI.st2 i
 rcases zcg (Q:=Q) (s:=s) i with⟨h0,h1,h2,_⟩|⟨h0,h2⟩
 ·simp[h1,h2]
 ·have:s.st i=0∨s.st i=1∨s.st i=2:=by omega
  rcases this with h|h|h<;>simp[h,h2]
def elM_hop{i:Nat}(h:s.el Q i=true):s.st i=0:=by
 unfold MS.el MS.reach at h
 rw[xan,xan,xam]at h
 exact h.1.1
structure WinM(Q:MP)(s:MS)(l:List Int):Prop where
 nodup:l.Nodup
 within:∀c∈l,∃i:Nat,c=(i:Int)∧i<Q.P.n∧s.st i=0
 num:l.length+s.fl Q=min Q.P.seats Q.P.n
def el_nil(h:s.some1 Q=false):selI (s.el Q) Q.P.n=[]:=by
 rw[←xfu,zat]
 refine xhv fun h0=>?_
 unfold MS.some1 at h
 exact absurd h0 (xee h)
def cut_some1(h:s.cut Q=true):s.some1 Q=false:=by
 unfold MS.cut at h
 rw[xan,xdw]at h
 exact h.1
def winM_tr(hQ:Q.OK){rs rest:List Rd}(h:MTr Q s rs rest):min Q.P.seats Q.P.n≤s.act Q→WinM Q s (rest.flatMap Rd.el):=by
 induction h with
 | @fin s rs hR hf=>
  intro hact
  have hI:=hR.inv
  have hs:=zoq hI
  have hf1:=f1_le hQ hI
  have he:=f1_eq (Q:=Q) (s:=s)
  have hactn:s.act Q≤Q.P.n:=zbd _ _
  have hfill:=hI.fill
  rw[xed,xhi,xco]
  unfold MS.done
  show WinM Q s (if s.f1 Q=Q.P.seats then selI (s.el Q) Q.P.n else selI (fun i=>s.el Q i||decide (s.st1 Q i=0)) Q.P.n)
  by_cases h:s.f1 Q=Q.P.seats
  ·rw[if_pos h]
   refine⟨zdg _ _,fun c hc=>?_,?_⟩
   ·obtain⟨i,rfl,h1,h2⟩:=zal.1 hc
    exact⟨i,rfl,h1,elM_hop h2⟩
   ·rw[zat];omega
  ·rw[if_neg h]
   have hq:s.f1 Q+s.h1 Q≤Q.P.seats:=by
    unfold MS.fin at hf
    rw[xdj,xam,xam]at hf
    omega
   refine⟨zdg _ _,fun c hc=>?_,?_⟩
   ·obtain⟨i,rfl,h1,h2⟩:=zal.1 hc
    refine⟨i,rfl,h1,?_⟩
    rcases zcg (Q:=Q) (s:=s) i with⟨h0,k1,k2,_⟩|⟨h0,k2⟩
    ·exact k1
    ·rw[h0,xbp,xam]at h2
     omega
   ·rw[zat]
    have e:cntN (fun i=>s.el Q i||decide (s.st1 Q i=0)) Q.P.n=cntN (s.el Q) Q.P.n+s.h1 Q:=by
     unfold MS.h1 cntN
     rw[←zbz]
     refine zak fun i hi=>?_
     rcases zcg (Q:=Q) (s:=s) i with⟨h0,k1,k2,_⟩|⟨h0,k2⟩
     ·simp[h0,k2]
     ·simp[h0]
    rw[e]
    omega
 | @excl s rs rest hR hf hc h ih=>
  intro hact
  have hI:=hR.inv
  have hff:=zkx hQ hI hf
  have hs:=zoq hI
  have hnil:=el_nil (cut_some1 hc)
  obtain⟨x,x1,x2,x3⟩:=zpw hI (rs.map Rd.votes)
  have hst:(s.excl Q (rs.map Rd.votes)).st=upd s.st x 2:=by
   unfold MS.excl
   rw[x1,xaf]
  have hfl:(s.excl Q (rs.map Rd.votes)).fl Q=s.fl Q:=by
   unfold MS.fl
   rw[hst];exact fl_excl x2 x3
  have hac:(s.excl Q (rs.map Rd.votes)).act Q+1=s.act Q:=by
   unfold MS.act
   rw[hst]
   exact(zlq x2 (fun i hi hne=>by rw[zep _ _ hne]) (by rw[zbu];rfl) (by rw[x3];rfl)).symm
  have hw:=ih (by omega)
  rw[xed]
  show WinM Q s (selI (s.el Q) Q.P.n++_)
  rw[hnil,xci]
  refine⟨hw.nodup,fun c hc=>?_,by rw[←hfl];exact hw.num⟩
  obtain⟨i,rfl,h1,h2⟩:=hw.within c hc
  rw[hst]at h2
  refine⟨i,rfl,h1,?_⟩
  unfold upd at h2
  split at h2
  ·omega
  ·exact h2
 | @redu s rs rest hR hf hc h ih=>
  intro hact
  have hI:=hR.inv
  have hff:=zkx hQ hI hf
  have hs:=zoq hI
  have he:=f1_eq (Q:=Q) (s:=s)
  have hac:(s.redu Q).act Q=s.act Q:=by
   refine zhz fun i hi=>?_
   show decide (s.st1 Q i≠2)=_
   refine xbv.2 ?_
   rcases zcg (Q:=Q) (s:=s) i with⟨h0,h1,h2,_⟩|⟨h0,h2⟩<;>omega
  have hw:=ih (by omega)
  have hfl:(s.redu Q).fl Q=s.f1 Q:=rfl
  rw[xed]
  show WinM Q s (selI (s.el Q) Q.P.n++_)
  have hwith:∀i,i<Q.P.n→s.st1 Q i=0→s.st i=0∧s.el Q i=false:=fun i hi h0=>by
   rcases zcg (Q:=Q) (s:=s) i with⟨k0,k1,k2,_⟩|⟨k0,k2⟩
   ·omega
   ·exact⟨by omega,k0⟩
  refine⟨xdp.2 ⟨zdg _ _,hw.nodup,fun c hc d hd hcd=>?_⟩,fun c hc=>?_,?_⟩
  ·subst hcd
   obtain⟨i,rfl,h1,h2⟩:=zal.1 hc
   obtain⟨j,h3,h4,h5⟩:=hw.within _ hd
   have:=(hwith j h4 h5).2
   rw[←xfk.1 h3,h2]at this
   cases this
  ·rcases xbq.1 hc with hc|hc
   ·obtain⟨i,rfl,h1,h2⟩:=zal.1 hc
    exact⟨i,rfl,h1,elM_hop h2⟩
   ·obtain⟨j,h3,h4,h5⟩:=hw.within _ hc
    exact⟨j,h3,h4,(hwith j h4 h5).1⟩
  ·have h1:=hw.num
   rw[xbk,zat]
   omega
def winM_ok(hQ:Q.OK):WinM Q Q.s0 ((zjh Q).flatMap Rd.el):=by
 refine winM_tr hQ (zrv hQ) ?_
 have:Q.s0.act Q=Q.P.n:=by
  unfold MS.act cntN
  have key:∀n,sumN (fun _=>1) n=n:=fun n=>by
   induction n with
   |zero=>rfl
   |succ n ih=>rw[sumN,ih]
  exact(zak (g:=fun _=>1) fun i _=>rfl).trans (key _)
 rw[this]
 exact xih _ _
def winM_len(hQ:Q.OK):((zjh Q).flatMap Rd.el).length=min Q.P.seats Q.P.n:=by
 have h:=(winM_ok hQ).num
 have e1:Q.s0.fl Q=0:=by unfold MS.fl cntN;exact zcs _
 rw[e1]at h
 exact h
def winM_isB(hQ:Q.OK):isB (Q.P.n:Int) ((zjh Q).flatMap Rd.el):=⟨(winM_ok hQ).nodup,fun c hc=>by
 obtain⟨i,rfl,h,_⟩:=(winM_ok hQ).within c hc
 omega⟩
def MTr.ne{rs rest:List Rd}(h:MTr Q s rs rest):rest≠ []:=by cases h<;>simp
def mcount_ne(hQ:Q.OK):zjh Q≠ []:=(zrv hQ).ne
structure StM(Q:MP)(s:MS)(r:Rd):Prop where
 inv:MI Q s
 votes:r.votes=lst (fun i=>frac (s.v Q i) Q.one) Q.P.n
 keep:r.keep=lst (fun i=>frac (s.kp i) Q.one) Q.P.n
 quota:r.quota=frac (s.quo Q) Q.one
 exh:r.exh=frac (s.rest Q) Q.one
 sur:r.sur=frac (s.sur Q) Q.one
 el:∀i,i<Q.P.n→s.el Q i=true→(i:Int)∈r.el
def doneM_el:∀i,i<Q.P.n→s.el Q i=true→(i:Int)∈(s.done Q).el:=by
 intro i hi h
 show(i:Int)∈(if _ then _ else _)
 split
 ·exact zal.2 ⟨i,rfl,hi,h⟩
 ·exact zal.2 ⟨i,rfl,hi,by rw[h];rfl⟩
def MTr.head{rs rest:List Rd}{r:Rd}(h:MTr Q s rs (r::rest)):StM Q s r:=by
 have hR:=h.run
 cases h with
 |fin=>exact⟨hR.inv,rfl,rfl,rfl,rfl,rfl,doneM_el⟩
 |excl=>exact⟨hR.inv,rfl,rfl,rfl,rfl,rfl,fun i hi h=>zal.2 ⟨i,rfl,hi,h⟩⟩
 |redu=>exact⟨hR.inv,rfl,rfl,rfl,rfl,rfl,fun i hi h=>zal.2 ⟨i,rfl,hi,h⟩⟩
def over_le:cntN (fun i=>decide (s.quo Q≤s.v Q i)) Q.P.n≤Q.P.seats:=by
 have h1:s.quo Q*cntN (fun i=>decide (s.quo Q≤s.v Q i)) Q.P.n≤sumN (s.v Q) Q.P.n:=by
  rw[←zsx]
  refine zdp fun i _=>?_
  by_cases h:s.quo Q≤s.v Q i
  ·rw[xag h,if_pos rfl];exact h
  ·rw[xaj h];simp
 have h2:sumN (s.v Q) Q.P.n<s.quo Q*(Q.P.seats+1):=by
  unfold MS.quo
  have:=xgj (sumN (s.v Q) Q.P.n) (Q.P.seats+1)
  have hm:=xfi (sumN (s.v Q) Q.P.n) (show 0<Q.P.seats+1 by omega)
  rw[xcl,xko,xby (sumN (s.v Q) Q.P.n/(Q.P.seats+1))]
  omega
 have h3:=Nat.lt_of_mul_lt_mul_left (xdq h1 h2)
 omega
def mgive_first{one:Nat}(h1:0<one)(p:List Int)(c:Nat):zti one (fun _=>one) p c=if decide (0<p.length)&&decide (p.getD 0 0=(c:Int))then one else 0:=by
 have hp0:zgc one (fun _=>one) p 0=one:=mup_mul h1
 have hw:∀j,1≤j→mw one (fun _=>one) p j=0:=by
  intro j hj
  induction j with
  |zero=>omega
  |succ j ih=>
   show mw one (fun _=>one) p j-zgc one (fun _=>one) p j=0
   by_cases h0:j=0
   ·subst h0
    rw[hp0]
    show one-one=0
    omega
   ·rw[ih (by omega)];omega
 have hpj:∀j,1≤j→zgc one (fun _=>one) p j=0:=fun j hj=>by
  unfold zgc
  rw[hw j hj,xfl,mup_zero h1]
 unfold zti
 have key:∀m,sumN (fun j=>if p.getD j 0=(c:Int)then zgc one (fun _=>one) p j else 0) m=if decide (0<m)&&decide (p.getD 0 0=(c:Int))then one else 0:=by
  intro m
  induction m with
  |zero=>rfl
  |succ m ih=>
   rw[sumN,ih]
   by_cases h0:m=0
   ·subst h0
    rw[hp0]
    simp
   ·rw[hpj m (by omega),xag (show 0<m by omega),xag (show 0<m+1 by omega)]
    simp
 exact key _
def v_first(hQ:Q.OK)(c:Nat):Q.s0.v Q c=Q.one*g0.lie Q.P c:=by
 unfold MS.v mvo GS.lie
 rw[xby,←zfh]
 refine zak fun g _=>?_
 show Q.P.k g*zti Q.one (fun _=>Q.one) (Q.P.p g) c=_
 rw[mgive_first hQ.one1]
 show _=(if(decide (0<(Q.P.p g).length)&&decide ((Q.P.p g).getD 0 0=(c:Int)))=true then Q.P.k g*1 else 0)*Q.one
 split
 ·rw[xdu]
 ·simp
def ztk(hQ:Q.OK){x:Nat}(hx:x<Q.P.n)(h:Q.P.mkd<(Q.P.seats+1)*g0.lie Q.P x):(x:Int)∈((zjh Q).getD 0 rd0).el:=by
 have hne:=xcr.2 (mcount_ne hQ)
 have ht:=zrv hQ
 have e:=zss rd0 hne
 rw[xex]at e
 rw[e]at ht
 refine ht.head.el x hx ?_
 have hI:=s0_inv hQ
 have hsum:sumN (Q.s0.v Q) Q.P.n≤Q.one*Q.P.mkd:=by
  have h1:sumN (Q.s0.v Q) Q.P.n=sumN (g0.lie Q.P) Q.P.n*Q.one:=by
   rw[←zfh]
   exact zak fun i _=>by rw[v_first hQ,xby]
  have h2:=zks (s:=g0) hQ.P
  have h3:sumN (fun g=>if Q.P.p g=[]then 0 else Q.P.k g*g0.num g) Q.P.G=Q.P.mkd:=by
   unfold GP.mkd
   refine zak fun g _=>?_
   show(if Q.P.p g=[]then 0 else Q.P.k g*1)=_
   rw[xdu]
  rw[h1,xby]
  exact xdk _ (by omega)
 have hq:Q.s0.quo Q≤Q.s0.v Q x:=by
  rw[v_first hQ]
  have h1:sumN (Q.s0.v Q) Q.P.n/(Q.P.seats+1)<Q.one*g0.lie Q.P x:=by
   rw[xep (by omega)]
   refine xdq hsum ?_
   have:=Nat.mul_lt_mul_of_pos_left h hQ.one1
   rw[show Q.one*g0.lie Q.P x*(Q.P.seats+1)=Q.one*((Q.P.seats+1)*g0.lie Q.P x) by rw[xbr,xby (g0.lie Q.P x)]]
   exact this
  unfold MS.quo
  omega
 have hre:Q.s0.reach Q x=true:=by
  unfold MS.reach
  rw[xag hq,xdn]
  exact xag rfl
 have hrank:Q.s0.rank Q x+1≤Q.P.seats:=by
  refine xbb ?_ (over_le (Q:=Q) (s:=Q.s0))
  have h1:cntN (fun d=>Q.s0.reach Q d&&zfa (Q.s0.v Q) Q.P.lots d x||decide (d=x)) Q.P.n=Q.s0.rank Q x+1:=by
   refine zlq hx (fun i hi hne=>by simp[hne]) ?_ (by simp)
   rw[zuz,xdo]
  rw[←h1]
  refine zdp fun i _=>?_
  by_cases hp:(Q.s0.reach Q i&&zfa (Q.s0.v Q) Q.P.lots i x||decide (i=x))=true
  ·rw[if_pos hp]
   have hqi:Q.s0.quo Q≤Q.s0.v Q i:=by
    rw[xdj,xan,xam]at hp
    rcases hp with hp|hp
    ·have:=hp.1
     unfold MS.reach at this
     rw[xan,xam,xam]at this
     exact this.2
    ·rw[hp];exact hq
   show 1≤if decide (Q.s0.quo Q≤Q.s0.v Q i)=true then 1 else 0
   rw[xag hqi,if_pos rfl]
   exact xak _
  ·rw[if_neg hp];exact xbz _
 have hfl:Q.s0.fl Q=0:=by unfold MS.fl cntN;exact zcs _
 unfold MS.el
 rw[hre,xax,hfl]
 exact xag (by omega)
end
def holdP(n:Int)(gs:List Grp)(l:List Asn):List Asn:=l.filter fun a=>decide (0<mrg n gs a)
def filter_take{α:Type}(p:α→Bool)(l:List α)(d:α){i:Nat}(h:i<l.length):(l.take (i+1)).filter p=(l.take i).filter p++(if p (l.getD i d)then [l.getD i d]else []):=by
 rw[zdx l d h,xfe,xey,List.filter_nil]
def d10_eq{n:Int}{gs:List Grp}(hg:GsOK gs){l:List Asn}(hl:∀a∈l,a.2.2.2.1.length≤1000)(hll:l.length≤1000000):d10 n gs l=some (holdP n gs l):=by
 unfold d10
 refine zaa (fun i=>(n,gs,l,(l.take i).filter (fun a=>decide (0<mrg n gs a)),(i:Int))) l.length rfl (fun i hi=>?_) (b:=holdP n gs l) ?_ rfl
 ·have hm:l.getD i (0,0,0,[],0)∈l:=by rw[zag _ _ hi];exact xbc _
  have h1:=d26_eq (n:=n) hg (a:=l.getD i (0,0,0,[],0)) (hl _ hm)
  have hfl:((l.take i).filter fun a=>decide (0<mrg n gs a)).length≤i:=xbb (xfn _ _) (by rw[xbj];omega)
  have hlim:=zcm (l:=(l.take i).filter fun a=>decide (0<mrg n gs a)) (d:=l.getD i (0,0,0,[],0)) (by have:=hi;have:=hll;omega)
  simp only[dlt hi,d0le,xai,xab,tn,zaq,h1,xaa,hlim,zbk (show i<9223372036854775807 by omega)]
  rw[filter_take _ l (0,0,0,[],0) hi]
  cases decide (0<mrg n gs (l.getD i (0,0,0,[],0)))<;>simp
 ·simp only[nlt (xak l.length),xac,xbh];rfl
def ris12(l:List Int):List Int:=selI (fun i=>decide ((i:Int)∈l)) 12
def d21_ris{l:List Int}(hl:l.length≤281474976710656):d21 l=some (ris12 l):=by
 unfold d21
 refine zaa (fun i=>(l,selI (fun i=>decide ((i:Int)∈l)) i,(i:Int))) 12 rfl (fun i hi=>?_) (b:=ris12 l) ?_ rfl
 ·have h1:=zke (l:=l) (i:Int) hl
  have hc:(selI (fun i=>decide ((i:Int)∈l)) i).length≤i:=by rw[zat];exact zbd _ _
  have hlim:=zcm (l:=selI (fun i=>decide ((i:Int)∈l)) i) (d:=(i:Int)) (by omega)
  have h12:decide ((i:Int)<12)=true:=xag (by omega)
  simp only[h12,xab,zaq,h1,xaa,hlim,zbk (show i<9223372036854775807 by omega)]
  rw[zev]
  by_cases hm:(i:Int)∈l
  ·simp only[xag hm,xab,if_true]
  ·simp only[xaj hm,xac,xaw,xbf,xco]
 ·have h12:decide (((12:Nat):Int)<12)=false:=rfl
  simp only[h12,xac];rfl
def ris12_congr{a b:List Int}(h:∀x,x∈a↔x∈b):ris12 a=ris12 b:=by
 unfold ris12
 congr 1
 funext i
 exact xbv.2 (h i)
def same_of_sub{a b:List Int}(ha:a.Nodup)(hs:∀x∈a,x∈b)(hl:b.length≤a.length):∀x,x∈b↔x∈a:=fun x=>((zfc a b ha hs hl).mem_iff).symm
def ris12_len(l:List Int):(ris12 l).length≤12:=by unfold ris12;rw[zat];exact zbd _ _
def same_true{a b:List Int}(ha:a.length≤281474976710656)(hb:b.length≤281474976710656)(h:∀x,x∈a↔x∈b) :
  ((d21 a).bind fun r=>(d21 b).bind fun r'=>(d19 r r').bind fun z=>some z)=some true:=by
 have l1:=ris12_len a
 have l2:=ris12_len b
 rw[d21_ris ha,d21_ris hb,xaa,xaa,d19_eq (by omega) (by omega),ris12_congr h]
 simp
def conB_ok{m s dg ti:Int}{n:Nat}:ConOK (conB m n s dg ti) n (1+m%3):=by
 have hm:=xha m (show(3:Int)≠0 by omega)
 have hm':=xge m (show(0:Int)<3 by omega)
 have hs:=xha s (show(5:Int)≠0 by omega)
 have hs':=xge s (show(0:Int)<5 by omega)
 have hd:=xha dg (show(6:Int)≠0 by omega)
 have hd':=xge dg (show(0:Int)<6 by omega)
 have ht:=xha ti (show(3:Int)≠0 by omega)
 have ht':=xge ti (show(0:Int)<3 by omega)
 refine⟨nms_len n,rfl,?_,?_,fun h=>?_,fun h=>?_,fun h=>?_,?_,?_⟩
 ·show 1≤(if 1+m%3=1 then 1 else 1+s%5)
  split<;>omega
 ·show(if 1+m%3=1 then 1 else 1+s%5)≤5
  split<;>omega
 ·show(if 1+m%3=1 then 1 else 1+s%5)=1
  rw[if_pos h]
 ·show 1≤(if 1+m%3=2 then 1+dg%6 else 0)∧(if 1+m%3=2 then 1+dg%6 else 0)≤6
  rw[if_pos h];omega
 ·show(if 1+m%3=2 then 1+dg%6 else 0)=0
  rw[if_neg h]
 ·show 1≤1+ti%3
  omega
 ·show 1+ti%3≤3
  omega
def sufB_true{c:Con}{ws:List Int}{l:List Asn}(h:sufB c ws l=true):isB (c.2.1.length:Int) ws∧(∀a∈l,zar (c.2.1.length:Int) a=true) ∧
  (if(c.2.1.length:Int)≤c.2.2.2.1 then ws.length=c.2.1.length else(ws.length:Int)=c.2.2.2.1 ∧
   (if c.2.2.1=1 then witA (c.2.1.length:Int) l (ws.getD 0 0)=none else∀x∈ws,(3,x,0,[],c.2.2.2.1+1)∈l)):=by
 unfold sufB at h
 simp only[xan,xam,xbt]at h
 obtain⟨⟨⟨⟨_,_⟩,h3⟩,h4⟩,h5⟩:=h
 refine⟨h3,h4,?_⟩
 by_cases k1:(c.2.1.length:Int)≤c.2.2.2.1
 ·rw[if_pos k1]at h5 ⊢
  exact xbl h5
 ·rw[if_neg k1]at h5 ⊢
  rw[xan,xam]at h5
  refine⟨h5.1,?_⟩
  by_cases k2:c.2.2.1=1
  ·rw[if_pos k2]
   have:=h5.2
   rw[if_pos k2]at this
   exact xev.1 this
  ·rw[if_neg k2]
   have:=h5.2
   rw[if_neg k2,xbt]at this
   intro x hx
   obtain⟨a,ha,he⟩:=xhj.1 (this x hx)
   rw[←xbl he];exact ha
def fav_of{n:Nat}{gs:List Grp}{N:Int}(hp:PileOK (n:Int) gs N)(h1:1≤n)(h7:n≤7){l:List Asn}{a:Asn}(hv:zar (n:Int) a=true)(ha:a∈holdP (n:Int) gs l):(fav a gs).2<(fav a gs).1:=by
 have h0:=xbl (xfy.1 ha).2
 unfold mrg tal at h0
 rw[hv,hp.pileB (by omega) (by omega),xai,if_pos rfl]at h0
 omega
def poss_one{n:Nat}(h1:1≤n)(hn:n≤7){gs:List Grp}{N:Int}(hp:PileOK (n:Int) gs N){L:List Asn}{wn:Int}(hv:∀a∈L,zar (n:Int) a=true)(hall:∀a∈L,(fav a gs).2<(fav a gs).1)(hw:(0≤wn∧wn<(n:Int))∧(n=1∨witA (n:Int) L wn=none)):zgr gs n (2^n) n=[wn]:=by
 obtain⟨q1,q2⟩:=poss_ok (n:=n) hp h1 hn
 have q3:=zrq (gs:=gs) (n:=n) (M:=2^n) n
 have hwin:∀x∈zgr gs n (2^n) n,x=wn:=fun x hx=>by
  rcases hw.2 with h|h
  ·obtain⟨d,d1,d2,_⟩:=zhr.1 hx
   have:=hw.1
   omega
  ·have hspec:=zlv (n:=n) h1 (anyC (n:Int) L) wn
   have h':witP n (anyC (n:Int) L) wn=none:=h
   rw[h']at hspec
   obtain⟨o,o1,o2,o3,o4⟩:=q2 x hx
   refine xhg fun hne=>hspec o ⟨o1,o2,by rw[o4];exact hne,fun j hj=>?_⟩
   unfold anyC
   rw[xhz]
   intro a ha
   by_cases k1:a.1=1
   ·rw[zty hp (by omega) (hv a ha) (.inl k1) (hall a ha) o1 (by simpa using o2) o3 j];simp
   ·by_cases k2:a.1=2
    ·rw[zty hp (by omega) (hv a ha) (.inr k2) (hall a ha) o1 (by simpa using o2) o3 j];simp
    ·rw[contr_quota k1 k2];simp
 match h:zgr gs n (2^n) n,q1,hwin,q3 with
 | [x],_,hw',_=>rw[hw' x (by simp)]
 |x::y::r,_,hw',hd=>
  have e1:=hw' x (by simp)
  have e2:=hw' y (by simp)
  have:=(xdx.1 hd).1
  rw[e1,e2]at this
  simp at this
def quota_lie{n:Nat}{gs:List Grp}{N:Int}(hp:PileOK (n:Int) gs N)(c:CT)(lots:List Int){s:Int}(hs:s=c.2.2.2.1)(h1:1≤s){x:Nat}(h:(fav (3,(x:Int),0,[],s+1) gs).2<(fav (3,(x:Int),0,[],s+1) gs).1):(gpOf c gs lots).mkd<((gpOf c gs lots).seats+1)*g0.lie (gpOf c gs lots) x:=by
 unfold fav at h
 simp only[show ¬((3:Int)=1) by omega,show ¬((3:Int)=2) by omega,xbf]at h
 rw[first_votes hp c lots x,zue hp c lots]at h
 have e:((gpOf c gs lots).seats:Int)=s:=by
  show(c.2.2.2.1.toNat:Int)=s
  omega
 have h':(((gpOf c gs lots).mkd:Nat):Int)<((((gpOf c gs lots).seats+1)*g0.lie (gpOf c gs lots) x:Nat):Int):=by
  rw[xgm,Int.natCast_add,e]
  exact h
 exact_mod_cast h'
def in_flat{L:List Rd}(hne:0<L.length){x:Int}(h:x∈(L.getD 0 rd0).el):x∈L.flatMap Rd.el:=by
 refine xhh.2 ⟨L.getD 0 rd0,?_,h⟩
 rw[zag _ _ hne];exact xbc _
def wins_same{n seats:Nat}{W ws:List Int}(hn:n≤7)(hW:isB (n:Int) W)(hWl:W.length=min seats n)(hws:isB (n:Int) ws)(h:if n≤seats then ws.length=n else ws.length=seats∧∀x∈ws,x∈W):∀x,x∈W↔x∈ws:=by
 by_cases k:n≤seats
 ·rw[if_pos k]at h
  exact fun x=>⟨fun hx=>zqc (by omega) hws (by omega) (hW.2 x hx),fun hx=>zqc (by omega) hW (by omega) (hws.2 x hx)⟩
 ·rw[if_neg k]at h
  exact same_of_sub hws.1 h.2 (by omega)
set_option maxHeartbeats 1000000 in
def d3_true{p0 p1 p2 p3 p4 p5:Int}{p6 p7:List (List Int)}{p8:List Int}{p9:Int}(h0:WT (.int .i64) p0)(h1:WT (.int .i64) p1)(h2:WT (.int .i64) p2)(h3:WT (.int .i64) p3)(h4:WT (.int .i64) p4)(h5:WT (.int .i64) p5)
  (l6:p6.length≤281474976710656) (w6:∀y∈p6,WT (.slice (.int .i64)) y) (l7:p7.length≤281474976710656) (w7:∀y∈p7,WT (.slice (.int .i64)) y) (h8:WT (.slice (.int .i64)) p8) (h9:WT (.int .i64) p9) :
  d3 p0 p1 p2 p3 p4 p5 p6 p7 p8 p9=some true:=by
 have b0:=zbf p0 (n:=4) (by omega)
 have b3:=zbf p3 (n:=3) (by omega)
 have bm:=zbf p1 (n:=3) (by omega)
 obtain⟨n,hn⟩:∃n:Nat,1+p0%4=(n:Int):=⟨(1+p0%4).toNat,by omega⟩
 have hw1:w (1+p0%4)=(n:Int):=by rw[w_id (by omega) (by omega)];exact hn
 have n1:1≤n:=by omega
 have n7:n≤7:=by omega
 clear hn b0
 unfold d3
 rw[zlo h0 (by omega) (by omega),xaa,zlo h3 (by omega) (by omega),xaa,hw1,d5_con (n:=n) (by omega) h1 h2 (wt_of (by omega) (by omega)) h4,xaa]
 have hC:ConOK (conB p1 n p2 (p3%3) p4) n (1+p1%3):=conB_ok
 have hm:1≤1+p1%3∧1+p1%3≤3:=by omega
 generalize conB p1 n p2 (p3%3) p4=c at hC ⊢
 generalize 1+p1%3=m at hC hm
 have e7:d7 p6 14=some (cuts p6 14):=d7_eq l6 w6 (k:=14) (by omega)
 obtain⟨cl,cw⟩:=cuts_wt (k:=14) w6
 have e6:d6 (n:Int) (cuts p6 14) 14=some (zhs (bals (n:Int) (cuts p6 14) 14)):=d6_eq (n:=(n:Int)) (by omega) (by omega) (by omega) cw (most:=14) (by omega)
 have hbl:=bals_len (n:=(n:Int)) (l:=cuts p6 14) (most:=14)
 have hbb:=bals_isB (n:=(n:Int)) (by omega) (l:=cuts p6 14) (most:=14)
 have hp:=(pileOf_ok (bals (n:Int) (cuts p6 14) 14) hbb (by omega)).1
 have hws9:WT (.slice (.int .i64)) (p8.take 9):=⟨xbb (by rw[xbj];exact xih _ _) h8.1,fun y hy=>h8.2 y (xcq hy)⟩
 rw[e7,xaa,e6,xaa,d9_eq h8,xaa,d8_eq (n:=(n:Int)) (by omega) (by omega) hws9,xaa]
 generalize zhs (bals (n:Int) (cuts p6 14) 14)=gs at hp ⊢
 generalize(((bals (n:Int) (cuts p6 14) 14).length:Nat):Int)=NN at hp
 generalize p8.take 9=ws9
 obtain⟨m1,m2⟩:=win_min (s:=c.2.2.2.1) (b:=bal (n:Int) ws9) hC.seats1
 have hwin:(bal (n:Int) ws9).take (if c.2.2.2.1<((bal (n:Int) ws9).length:Int)then c.2.2.2.1 else((bal (n:Int) ws9).length:Int)).toNat=winP (n:Int) c.2.2.2.1 ws9:=rfl
 rw[m1,m2]
 simp only[xab,hwin]
 have hwp:=winP_len (n:=(n:Int)) (s:=c.2.2.2.1) (by omega) (by omega) ws9
 have hcn:=hC.names
 have hg:=gs_of n7 hp
 rw[d11_eq (c:=c) (n:=(n:Int)) (gs:=gs) (by omega) hg (by omega) (by omega) l7 w7 h9,xaa]
 obtain⟨q1,q2⟩:=mixP_ok (c:=c) (n:=(n:Int)) (by omega) (by omega) gs (winP (n:Int) c.2.2.2.1 ws9) p7 p9
 generalize mixP c (n:Int) gs (winP (n:Int) c.2.2.2.1 ws9) p7 p9=l0 at q1 q2
 generalize winP (n:Int) c.2.2.2.1 ws9=ws at hwp
 rw[d10_eq hg (fun a ha=>by have:=zlg (q2 a ha);omega) (by omega),xaa]
 have hL0:∀a∈holdP (n:Int) gs l0,zar (n:Int) a=true:=fun a ha=>q2 a (xfy.1 ha).1
 have hLl:(holdP (n:Int) gs l0).length≤42:=xbb (xfn _ _) q1
 have hall:=fun a (ha:a∈holdP (n:Int) gs l0)=>fav_of hp n1 n7 (hL0 a ha) ha
 generalize holdP (n:Int) gs l0=L at hL0 hLl hall
 have hlok:=lok_of (show L.length≤100000 by omega) hL0
 rw[d12_eq (by omega) (by omega) hlok,xaa]
 cases hs:sufB c ws L
 ·simp only[xao,xab,d13_eq,xaa]
  rw[d14_eq (by omega) (by omega) hlok,hs];rfl
 simp only[xaq,xac]
 obtain⟨s1,s2,s3⟩:=sufB_true hs
 clear hs
 rw[hcn]at s1 s2 s3
 obtain⟨lots,r1,r2,r3⟩:=d15_eq (n:=n) (by omega) h5
 rw[r1,xaa,zaq]
 have hfit:=fitE_made hC hm.1 hm.2 n1 n7 hp r2 r3
 have hll:lots.length≤281474976710656:=by omega
 have hP:=(zwk hfit).1
 have hs1:=hC.seats1
 have hseat:(((gpOf c gs lots).seats:Nat):Int)=c.2.2.2.1:=by
  show(c.2.2.2.1.toNat:Int)=_
  omega
 have hPn:(gpOf c gs lots).n=n:=hcn
 have fin:∀(T:Int×(Int×(Int×(Int×(List RD×List Int))))),T.2.2.2.2.2.length≤1000→(∀x,x∈T.2.2.2.2.2↔x∈ws) →
   ((d13).bind fun r_18=>bif r_18 then bif (decide ((0:Int)=0))then(d21 T.2.2.2.2.2).bind fun r_19=>(d21 ws).bind fun r_20=>(d19 r_19 r_20).bind fun r_21=>some r_21 else some false else some false)=some true:=fun T hT h=>by
  rw[d13_eq,xaa,xab,xag (show(0:Int)=0 from rfl),xab]
  exact same_true (by omega) (by omega) h
 rw[hC.method]
 by_cases k2:m=2
 ·subst k2
  have hQ:=(mqOf_ok hfit).1
  rw[xag (show(2:Int)=2 from rfl),xab,d16_eq hg hll,if_pos hfit,xaa]
  have hlen:=winM_len hQ
  refine fin _ (by show((zjh _).flatMap Rd.el).length≤1000;have:=hQ.P.n7;omega) ?_
  refine wins_same (seats:=(gpOf c gs lots).seats) n7 (hPn▸winM_isB hQ) (hPn▸hlen) s1 ?_
  by_cases kk:(n:Int)≤c.2.2.2.1
  ·rw[if_pos (show n≤(gpOf c gs lots).seats by omega)]
   rw[if_pos kk]at s3
   exact s3
  ·rw[if_neg (show ¬n≤(gpOf c gs lots).seats by omega)]
   rw[if_neg kk,hC.method,if_neg (show ¬((2:Int)=1) by omega)]at s3
   refine⟨by omega,fun x hx=>?_⟩
   have hxb:=s1.2 x hx
   obtain⟨i,rfl⟩:∃i:Nat,x=(i:Int):=⟨x.toNat,by omega⟩
   exact in_flat (xcr.2 (mcount_ne hQ)) (ztk hQ (x:=i) (by show i<c.2.1.length;omega) (quota_lie hp c lots rfl hs1 (hall _ (s3.2 _ hx))))
 rw[xaj k2,xac]
 by_cases k3:m=3
 ·subst k3
  rw[xag (show(3:Int)=3 from rfl),xab,d17_eq hg hll,if_pos hfit,xaa]
  have hlen:=win_len hP
  refine fin _ (by show((zji _).flatMap Rd.el).length≤1000;have:=hP.n7;omega) ?_
  refine wins_same (seats:=(gpOf c gs lots).seats) n7 (hPn▸win_isB hP) (hPn▸hlen) s1 ?_
  by_cases kk:(n:Int)≤c.2.2.2.1
  ·rw[if_pos (show n≤(gpOf c gs lots).seats by omega)]
   rw[if_pos kk]at s3
   exact s3
  ·rw[if_neg (show ¬n≤(gpOf c gs lots).seats by omega)]
   rw[if_neg kk,hC.method,if_neg (show ¬((3:Int)=1) by omega)]at s3
   refine⟨by omega,fun x hx=>?_⟩
   have hxb:=s1.2 x hx
   obtain⟨i,rfl⟩:∃i:Nat,x=(i:Int):=⟨x.toNat,by omega⟩
   exact in_flat (xcr.2 (gcount_ne hP)) (zwp hP (quota_eq hp hs1) (x:=i) (by show i<c.2.1.length;omega) (quota_lie hp c lots rfl hs1 (hall _ (s3.2 _ hx))))
 rw[xaj k3,xac]
 have k1:m=1:=by omega
 subst k1
 have hone:=hC.seat rfl
 have hwl:ws.length=1:=by
  by_cases kk:(n:Int)≤c.2.2.2.1
  ·rw[if_pos kk]at s3;omega
  ·rw[if_neg kk]at s3;omega
 obtain⟨x,hx⟩:=xem.1 hwl
 subst hx
 have hxb:=s1.2 x (by simp)
 have hposs:zgr gs n (2^n) n=[x]:=by
  refine poss_one n1 n7 hp s2 hall ⟨hxb,?_⟩
  by_cases kk:(n:Int)≤c.2.2.2.1
  ·exact .inl (by omega)
  ·rw[if_neg kk,hC.method,if_pos rfl]at s3
   exact .inr s3.2
 obtain⟨y,y1,y2,y3⟩:=icount_poss n1 n7 hp c hcn lots hP
 rw[hposs,xbn]at y3
 rw[d18_eq hg hll,if_pos hfit,xaa,d20_eq hp (by omega) (by omega),xaa,xaf,hposs,d19_eq (by simp) (by simp),xaa,xag (show [x]=[x]from rfl),xaq,xac]
 have hT:(trI (gpOf c gs lots)).2.2.2.2.2=[x]:=by
  show(icount (gpOf c gs lots)).flatMap Rd.el=[x]
  rw[y2,y3]
 exact fin (trI (gpOf c gs lots)) (by rw[hT];simp) (by rw[hT];exact fun _=>Iff.rfl)
end Go.Proofs.YtfgjbkjddcjlfaaGreat
