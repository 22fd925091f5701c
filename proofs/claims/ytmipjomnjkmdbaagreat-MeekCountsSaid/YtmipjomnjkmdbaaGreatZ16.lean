/- Part 16 of what stands below the statement. -/
import Derived.Test.YtmipjomnjkmdbaaGreatZ15
set_option linter.unusedSimpArgs false
set_option linter.unusedVariables false
namespace Go.Proofs.YtmipjomnjkmdbaaGreat
open Go Go.X
def KM(Q:MP)(c:CT)(gs:List Grp)(st kp:Nat→Nat)(fl:Nat)(rs:List Rd)(ev sur:Int):MT:=
 (c,gs,Q.P.lots,(Q.one:Int),lst (fun i=>(st i:Int)) Q.P.n,lst (fun i=>(kp i:Int)) Q.P.n,(fl:Int),(rs.map Rd.votes).map (List.map rr),ev,sur,2,(Q.P.seats:Int),c.2.2.2.2.2.1,(Q.P.n:Int),rs.map rdT,rs.flatMap Rd.el)
variable {Q:MP} {s:MS}
structure MQ(Q:MP)(c:CT)(gs:List Grp)(d:Nat):Prop where
 ok:Q.OK
 P:∃lots,gpOf c gs lots=Q.P
 n:c.2.1.length=Q.P.n
 pile:∃N,PileOK (Q.P.n:Int) gs N
 seats:c.2.2.2.1=(Q.P.seats:Int)
 dig:c.2.2.2.2.2.1=(d:Int)
 d1:1≤d
 d6:d≤6
 ties:c.2.2.2.2.2.2.1=Q.P.ties
 one:Q.one=10^d
 om:Q.om=10^(d/2)
theorem MQ.d58{c:CT}{gs:List Grp}{d:Nat}(h:MQ Q c gs d)(hI:MI Q s):d58 (d:Int) (lst (fun i=>(s.kp i:Int)) Q.P.n) gs=some (lst (fun i=>((s.v Q i:Nat):Int)) Q.P.n,((s.rest Q:Nat):Int),true):=by
 obtain⟨lots,hl⟩:=h.P
 obtain⟨N,hp⟩:=h.pile
 have:=d58_ok h.ok.P.n1 h.ok.P.n7 h.d1 h.d6 hp c lots (kp:=s.kp) (by rw[←h.one];exact hI.kp1)
 rw[hl,←h.one]at this
 exact this
theorem rdM(s:MS)(el ex ti:List Int):(lst (fun i=>rr (frac (s.v Q i) Q.one)) Q.P.n,lst (fun i=>rr (frac (s.kp i) Q.one)) Q.P.n,rr (frac (s.quo Q) Q.one),rr (frac (s.rest Q) Q.one),rr (frac (s.sur Q) Q.one),el,ex,ti)=rdT {s.rd0 Q with el:=el,ex:=ex,ti:=ti}:=by
 unfold rdT MS.rd0
 simp only[lst_map]
theorem sur_part(p:Nat→Bool)(f:Nat→Nat)(n:Nat){j:Nat}(hj:j<(selN p n).length):(((selN p n).take (j+1)).map f).sum=(((selN p n).take j).map f).sum+f ((selN p n).getD j 0):=by
 rw[zbb (selN p n) 0 hj,xcp,List.sum_append];simp
theorem flat_lim{rs:List Rd}(h:∀r∈rs,RndOK Q.P.n r.votes∧r.el.length≤7):(rs.flatMap Rd.el).length≤7*rs.length:=zqe fun r hr=>(h r hr).2
theorem letJ_of{α β:Type}{f:α→Option β}{g:(α→Option β)→Option β}{X:Option β→Prop}(Jp:(α→Option β)→Prop)(hf:Jp f)(h:∀J,Jp J→X (g J)):X (letJ f g):=by
 rw[zae];exact h f hf
def RndM(Q:MP)(c:CT)(gs:List Grp)(s:MS)(rs:List Rd)(z:Option (Bool×MT)):Prop:=
  (s.fin Q=true∧∃st' kp' fl' ev' su',z=some (false,KM Q c gs st' kp' fl' (rs++[s.done Q]) ev' su')) ∨
  (s.fin Q=false∧s.cut Q=true∧z=some (true,KM Q c gs (s.excl Q (rs.map Rd.votes)).st (s.excl Q (rs.map Rd.votes)).kp ((s.excl Q (rs.map Rd.votes)).fl Q) (rs++[s.exR Q (rs.map Rd.votes)]) (((rs++[s.exR Q (rs.map Rd.votes)]).length:Int)-((s.excl Q (rs.map Rd.votes)).since:Int)) ((s.sur Q:Nat):Int))) ∨
  (s.fin Q=false∧s.cut Q=false∧z=some (true,KM Q c gs (s.redu Q).st (s.redu Q).kp ((s.redu Q).fl Q) (rs++[s.rd0 Q]) (((rs++[s.rd0 Q]).length:Int)-((s.redu Q).since:Int)) ((s.sur Q:Nat):Int)))
set_option maxHeartbeats 4000000 in
theorem d113_eq{c:CT}{gs:List Grp}{d:Nat}(hQ:MQ Q c gs d){rs:List Rd}(hR:MRun Q s rs)(hsi:s.since≤rs.length){su:Nat}(hb:Bef rs s.bef su) :
  RndM Q c gs s rs (d113 (KM Q c gs s.st s.kp (s.fl Q) rs ((rs.length:Int)-(s.since:Int)) (su:Int))):=by
 have hI:=hR.inv
 have hok:=hQ.ok
 have hn7:=hok.P.n7
 have hs5:=hok.P.seats5
 have ho1:=hok.one1
 have ho6:=hok.one6
 have htl:=MS.tot_le hok
 have hsum:=MS.sum_le hok hI
 have hv:∀i,i<Q.P.n→s.v Q i≤100000000000:=fun i hi=>by
  have h1:=MS.v_le hok hI hi
  omega
 have hq:s.quo Q≤100000000001:=by
  have:=MS.quo_le hok hI
  omega
 have hsurS:s.sur Q≤sumN (s.v Q) Q.P.n:=zgy fun i _=>by split<;>omega
 have hrl:=hR.len
 have hfill:=hI.fill
 have hf1:=f1_le hok hI
 have hf1e:=f1_eq (Q:=Q) (s:=s)
 have hE:∀r∈rs.map Rd.votes,RndOK Q.P.n r:=fun r hr=>by
  obtain⟨r',h1,rfl⟩:=xed.1 hr
  exact(hR.rnd r' h1).1
 have hfl:=flat_lim hR.rnd
 obtain⟨L,hL1,hL2⟩:=d160_ex hok hI (k:=KM Q c gs s.st s.kp (s.fl Q) rs ((rs.length:Int)-(s.since:Int)) (su:Int)) rfl rfl hQ.seats rfl
 have hLlen:L.length=cntN (s.el Q) Q.P.n:=by
  have:=hL2.length_eq
  rw[xbe,zay]at this
  exact this
 have hLn:∀i∈L,i<Q.P.n:=fun i hi=>by
  obtain⟨k,e,hk,_⟩:=zaz.1 (hL2.mem_iff.1 (xfo hi))
  have:Int.ofNat i=(k:Int):=e
  have:=xdi.1 this
  omega
 have hLl:L.length≤7:=by rw[hLlen];have:=zbu (s.el Q) Q.P.n;omega
 have hst1:lst (fun i=>((zfk s.st L 1 i:Nat):Int)) Q.P.n=lst (fun i=>((s.st1 Q i:Nat):Int)) Q.P.n:=zao fun i hi=>by
  unfold zfk MS.st1
  have:i∈L↔s.el Q i=true:=by
   constructor
   ·intro h
    obtain⟨k,e,hk,h2⟩:=zaz.1 (hL2.mem_iff.1 (xfo h))
    have e:Int.ofNat i=(k:Int):=e
    rw[xdi.1 e];exact h2
   ·intro h
    obtain⟨k,hk,e⟩:=xed.1 (hL2.mem_iff.2 (zaz.2 ⟨i,rfl,hi,h⟩))
    have e:Int.ofNat k=(i:Int):=e
    rw[←xdi.1 e];exact hk
  by_cases h:i∈L
  ·rw[if_pos h,if_pos (this.1 h)]
  ·rw[if_neg h,if_neg fun h'=>h (this.2 h')]
 have hsel:zdu ([]++L.map Int.ofNat)=selI (s.el Q) Q.P.n:=sortI_of hL2 ((zdp _ _).imp fun h=>Int.le_of_lt h)
 have hfl1:s.fl Q+L.length=s.f1 Q:=by omega
 have h159:=fun(v kk:List Rt) (qu ex su':Rt)=>d159_eq (c:=c) (gs:=gs) (lots:=Q.P.lots) (one:=(Q.one:Int)) (st:=s.st) (n:=Q.P.n) (kp:=lst (fun i=>(s.kp i:Int)) Q.P.n) (filled:=s.fl Q) (rest:=((rs.map Rd.votes).map (List.map rr),(rs.length:Int)-(s.since:Int),(su:Int),2,(Q.P.seats:Int),c.2.2.2.2.2.1,(Q.P.n:Int),rs.map rdT,rs.flatMap Rd.el)) (v:=v) (kk:=kk) (qu:=qu) (ex:=ex) (su:=su') (el:=[]) (ex2:=[]) (ti:=[]) (L:=L) (by omega) hLn hLl (by omega) (by simp)
 simp only[hst1,hsel,hfl1]at h159
 have hK:KM Q c gs s.st s.kp (s.fl Q) rs ((rs.length:Int)-(s.since:Int)) (su:Int)=(c,gs,Q.P.lots,(Q.one:Int),lst (fun i=>(s.st i:Int)) Q.P.n,lst (fun i=>(s.kp i:Int)) Q.P.n,((s.fl Q:Nat):Int),(rs.map Rd.votes).map (List.map rr),(rs.length:Int)-(s.since:Int),(su:Int),2,(Q.P.seats:Int),c.2.2.2.2.2.1,(Q.P.n:Int),rs.map rdT,rs.flatMap Rd.el):=rfl
 have h58:=hQ.d58 hI
 have h157v:=d157_eq (k:=KM Q c gs s.st s.kp (s.fl Q) rs ((rs.length:Int)-(s.since:Int)) (su:Int)) (v:=s.v Q) (n:=Q.P.n) (one:=Q.one) rfl (by omega) ho1 ho6 fun i hi=>by have:=hv i hi;omega
 have h157k:=d157_eq (k:=KM Q c gs s.st s.kp (s.fl Q) rs ((rs.length:Int)-(s.since:Int)) (su:Int)) (v:=s.kp) (n:=Q.P.n) (one:=Q.one) rfl (by omega) ho1 ho6 fun i hi=>by have:=hI.kp1 i;omega
 have hw1:w (c.2.2.2.1+1)=((Q.P.seats+1:Nat):Int):=by rw[hQ.seats,zau (by omega)]
 have hdiv:w (w (Int.tdiv ((sumN (s.v Q) Q.P.n:Nat):Int) ((Q.P.seats+1:Nat):Int))+1)=((s.quo Q:Nat):Int):=by
  have h1:Int.tdiv ((sumN (s.v Q) Q.P.n:Nat):Int) ((Q.P.seats+1:Nat):Int)=((sumN (s.v Q) Q.P.n/(Q.P.seats+1):Nat):Int):=by
   rw[xdp (by omega)];rfl
  have h2:=xcv (sumN (s.v Q) Q.P.n) (Q.P.seats+1)
  have h3:s.quo Q=sumN (s.v Q) Q.P.n/(Q.P.seats+1)+1:=rfl
  rw[h1,h3]
  generalize sumN (s.v Q) Q.P.n/(Q.P.seats+1)=z at h2 ⊢
  rw[zbi (n:=(z:Int)) (by omega) (by omega),zau (by omega)]
 unfold d113
 generalize hKK:KM Q c gs s.st s.kp (s.fl Q) rs ((rs.length:Int)-(s.since:Int)) (su:Int)=K at *
 have k1:K.1=c:=by rw[hK]
 have k2:K.2.1=gs:=by rw[hK]
 have k4:K.2.2.2.1=(Q.one:Int):=by rw[hK]
 have k6:K.2.2.2.2.2.1=lst (fun i=>(s.kp i:Int)) Q.P.n:=by rw[hK]
 simp only[k1,k2,k6,hQ.dig,h58,Option.bind_some,zak]
 have goalS:∀(X:Option (Bool×MT)→Prop) (kf:MT×(List Int)×Int×Int→Option (Bool×MT)),X (kf (K,lst (fun i=>((s.v Q i:Nat):Int)) Q.P.n,((s.rest Q:Nat):Int),((sumN (s.v Q) Q.P.n:Nat):Int)))→X ((zaa (β:=(MT×(List Int)×Int×Int)) (fun((t0,t3,t4,t6,t34,t35,t36):MT×(List Int)×Int×Int×(List Int)×Int×Int)=>
   bif (decide (t36<t35))then
    bif (decide (0≤t36)&&decide (t36<(t34.length:Int)))then
     some (Sum.inl (t0,t3,t4,(w (t6+(List.getD t34 (Int.toNat t36) 0))),t34,t35,(w (t36+1))))
    else none
   else
    some (Sum.inr (t0,t3,t4,t6))) (K,lst (fun i=>((s.v Q i:Nat):Int)) Q.P.n,((s.rest Q:Nat):Int),0,lst (fun i=>((s.v Q i:Nat):Int)) Q.P.n,(Q.P.n:Int),0)).bind kf):=fun X kf hX=>by
  refine while_prp (fun i=>(K,lst (fun i=>((s.v Q i:Nat):Int)) Q.P.n,((s.rest Q:Nat):Int),((sumN (s.v Q) i:Nat):Int),lst (fun i=>((s.v Q i:Nat):Int)) Q.P.n,(Q.P.n:Int),(i:Int))) Q.P.n rfl (fun i hi=>?_) ?_ hX
  ·have hm:=zgx (s.v Q) (show i+1≤Q.P.n by omega)
   rw[sumN]at hm
   simp only[dlt hi,d0le,zak,xac,cond_true,tn,zam (fun i=>((s.v Q i:Nat):Int)) hi,wadd (show sumN (s.v Q) i+s.v Q i≤9223372036854775807 by omega),zau (show i<9223372036854775807 by omega)]
   rfl
  ·simp only[nlt (Nat.le_refl Q.P.n),cond_false]
 refine goalS (RndM Q c gs s rs) _ ?_
 simp only[k1,k4,k6,hw1,decide_eq_false (show ¬((Q.P.seats+1:Nat):Int)=0 by omega),xae,cond_true,hdiv,h157v,h157k,Option.bind_some,zqn (show s.quo Q≤9223372036854775807 by omega) (show Q.one≤9223372036854775807 by omega) ho1,zqn (show s.rest Q≤9223372036854775807 by omega) (show Q.one≤9223372036854775807 by omega) ho1,hL1]
 rw[hK]
 simp only[h159,Option.bind_some,show d161 (c,gs,Q.P.lots,(Q.one:Int),lst (fun i=>((s.st1 Q i:Nat):Int)) Q.P.n,lst (fun i=>(s.kp i:Int)) Q.P.n,((s.f1 Q:Nat):Int),(rs.map Rd.votes).map (List.map rr),(rs.length:Int)-(s.since:Int),(su:Int),2,(Q.P.seats:Int),c.2.2.2.2.2.1,(Q.P.n:Int),rs.map rdT,rs.flatMap Rd.el) 1=some (selI (fun i=>decide (s.st1 Q i=1)) Q.P.n)from zkn (st:=s.st1 Q) (n:=Q.P.n) rfl (by omega) 1,show d161 (c,gs,Q.P.lots,(Q.one:Int),lst (fun i=>((s.st1 Q i:Nat):Int)) Q.P.n,lst (fun i=>(s.kp i:Int)) Q.P.n,((s.f1 Q:Nat):Int),(rs.map Rd.votes).map (List.map rr),(rs.length:Int)-(s.since:Int),(su:Int),2,(Q.P.seats:Int),c.2.2.2.2.2.1,(Q.P.n:Int),rs.map rdT,rs.flatMap Rd.el) 0=some (selI (fun i=>decide (s.st1 Q i=0)) Q.P.n)from zkn (st:=s.st1 Q) (n:=Q.P.n) rfl (by omega) 0]
 have hpl:(selI (fun i=>decide (s.st1 Q i=1)) Q.P.n).length=(selN (fun i=>decide (s.st1 Q i=1)) Q.P.n).length:=xbe ..
 have hpl7:(selN (fun i=>decide (s.st1 Q i=1)) Q.P.n).length≤7:=by rw[zgd];have:=zbu (fun i=>decide (s.st1 Q i=1)) Q.P.n;omega
 have hss:=sum_sel (fun i=>decide (s.st1 Q i=1)) (fun i=>s.v Q i-s.quo Q) Q.P.n
 have hss2:sumN (fun i=>if decide (s.st1 Q i=1)=true then s.v Q i-s.quo Q else 0) Q.P.n=s.sur Q:=zbp fun i _=>by
  by_cases h:s.st1 Q i=1<;>simp[h]
 rw[hss2]at hss
 refine while_prp (X:=RndM Q c gs s rs) (fun j=>((c,gs,Q.P.lots,(Q.one:Int),lst (fun i=>((s.st1 Q i:Nat):Int)) Q.P.n,lst (fun i=>(s.kp i:Int)) Q.P.n,((s.f1 Q:Nat):Int),(rs.map Rd.votes).map (List.map rr),(rs.length:Int)-(s.since:Int),(su:Int),2,(Q.P.seats:Int),c.2.2.2.2.2.1,(Q.P.n:Int),rs.map rdT,rs.flatMap Rd.el),lst (fun i=>((s.v Q i:Nat):Int)) Q.P.n,((s.quo Q:Nat):Int),(lst (fun i=>rr (frac (s.v Q i) Q.one)) Q.P.n,lst (fun i=>rr (frac (s.kp i) Q.one)) Q.P.n,rr (frac (s.quo Q) Q.one),rr (frac (s.rest Q) Q.one),(false,[],[]),selI (s.el Q) Q.P.n,[],[]),(((((selN (fun i=>decide (s.st1 Q i=1)) Q.P.n).take j).map fun i=>s.v Q i-s.quo Q).sum:Nat):Int),selI (fun i=>decide (s.st1 Q i=1)) Q.P.n,((selI (fun i=>decide (s.st1 Q i=1)) Q.P.n).length:Int),(j:Int))) (selN (fun i=>decide (s.st1 Q i=1)) Q.P.n).length (by rw[xct];rfl) (fun j hj=>?_)
  (b:=((c,gs,Q.P.lots,(Q.one:Int),lst (fun i=>((s.st1 Q i:Nat):Int)) Q.P.n,lst (fun i=>(s.kp i:Int)) Q.P.n,((s.f1 Q:Nat):Int),(rs.map Rd.votes).map (List.map rr),(rs.length:Int)-(s.since:Int),(su:Int),2,(Q.P.seats:Int),c.2.2.2.2.2.1,(Q.P.n:Int),rs.map rdT,rs.flatMap Rd.el),lst (fun i=>((s.v Q i:Nat):Int)) Q.P.n,((s.quo Q:Nat):Int),(lst (fun i=>rr (frac (s.v Q i) Q.one)) Q.P.n,lst (fun i=>rr (frac (s.kp i) Q.one)) Q.P.n,rr (frac (s.quo Q) Q.one),rr (frac (s.rest Q) Q.one),(false,[],[]),selI (s.el Q) Q.P.n,[],[]),((s.sur Q:Nat):Int))) ?_ ?_
 ·have hg:=selN_getD_lt hj
  have hsg:=selI_getD hj
  have hvx:=hv _ hg.1
  have hpart:=sum_take_le ((selN (fun i=>decide (s.st1 Q i=1)) Q.P.n).map fun i=>s.v Q i-s.quo Q) (j+1)
  rw[←List.map_take,hss,sur_part _ _ _ hj]at hpart
  have hmax:(bif decide (0<w (((s.v Q ((selN (fun i=>decide (s.st1 Q i=1)) Q.P.n).getD j 0):Nat):Int)-((s.quo Q:Nat):Int)))then w (((s.v Q ((selN (fun i=>decide (s.st1 Q i=1)) Q.P.n).getD j 0):Nat):Int)-((s.quo Q:Nat):Int))else 0)=((s.v Q ((selN (fun i=>decide (s.st1 Q i=1)) Q.P.n).getD j 0)-s.quo Q:Nat):Int):=by
   generalize s.v Q ((selN (fun i=>decide (s.st1 Q i=1)) Q.P.n).getD j 0)=y at hvx ⊢
   rw[zbi (by omega) (by omega)]
   by_cases h:(0:Int)<(y:Int)-((s.quo Q:Nat):Int)
   ·rw[decide_eq_true h,cond_true];omega
   ·rw[decide_eq_false h,cond_false];omega
  simp only[hpl,dlt hj,d0le,xac,cond_true,tn,hsg,zak,dlt hg.1,zam (fun i=>((s.v Q i:Nat):Int)) hg.1,hmax,wadd (show(((selN (fun i=>decide (s.st1 Q i=1)) Q.P.n).take j).map fun i=>s.v Q i-s.quo Q).sum+(s.v Q ((selN (fun i=>decide (s.st1 Q i=1)) Q.P.n).getD j 0)-s.quo Q)≤9223372036854775807 by omega),zau (show j<9223372036854775807 by omega),sur_part _ _ _ hj]
 ·simp only[hpl,nlt (Nat.le_refl _),cond_false,xbd,hss]
 have hd158:=zqn (show s.sur Q≤9223372036854775807 by omega) (show Q.one≤9223372036854775807 by omega) ho1
 have hrounds:w (((rs.map rdT).length:Int)+1)=((rs.length+1:Nat):Int):=by rw[xbe,zau (by omega)]
 simp only[hd158,Option.bind_some]
 refine letJ_of (X:=RndM Q c gs s rs) (fun J=>∀(st kp:Nat→Nat) (fl:Nat) (ev su':Int) (el ex ti:List Int) (last:Bool),el.length≤7→ex.length≤1→J ((c,gs,Q.P.lots,(Q.one:Int),lst (fun i=>((st i:Nat):Int)) Q.P.n,lst (fun i=>(kp i:Int)) Q.P.n,((fl:Nat):Int),(rs.map Rd.votes).map (List.map rr),ev,su',2,(Q.P.seats:Int),c.2.2.2.2.2.1,(Q.P.n:Int),rs.map rdT,rs.flatMap Rd.el),(lst (fun i=>rr (frac (s.v Q i) Q.one)) Q.P.n,lst (fun i=>rr (frac (s.kp i) Q.one)) Q.P.n,rr (frac (s.quo Q) Q.one),rr (frac (s.rest Q) Q.one),rr (frac (s.sur Q) Q.one),el,ex,ti),((s.sur Q:Nat):Int),((rs.length+1:Nat):Int),last)=some (!last,KM Q c gs st kp fl (rs++[{s.rd0 Q with el:=el,ex:=ex,ti:=ti}]) (if el=[]∧ex=[]then ev else((rs.length+1:Nat):Int)) ((s.sur Q:Nat):Int))) ?_ ?_
 ·intro st kp fl ev su' el ex ti last hel hex
  have l1:=lim_one (α:=List Rt) (l:=rs.length) (by omega)
  have l2:=lim_one (α:=RD) (l:=rs.length) (by omega)
  have l3:decide (((rs.flatMap Rd.el).length:Int)+(el.length:Int)≤LIM)=true:=zpz (by omega)
  have hKM:KM Q c gs st kp fl (rs++[{s.rd0 Q with el:=el,ex:=ex,ti:=ti}]) (if el=[]∧ex=[]then ev else((rs.length+1:Nat):Int)) ((s.sur Q:Nat):Int)=(c,gs,Q.P.lots,(Q.one:Int),lst (fun i=>((st i:Nat):Int)) Q.P.n,lst (fun i=>(kp i:Int)) Q.P.n,((fl:Nat):Int),(rs.map Rd.votes).map (List.map rr)++[lst (fun i=>rr (frac (s.v Q i) Q.one)) Q.P.n],(if el=[]∧ex=[]then ev else((rs.length+1:Nat):Int)),((s.sur Q:Nat):Int),2,(Q.P.seats:Int),c.2.2.2.2.2.1,(Q.P.n:Int),rs.map rdT++[(lst (fun i=>rr (frac (s.v Q i) Q.one)) Q.P.n,lst (fun i=>rr (frac (s.kp i) Q.one)) Q.P.n,rr (frac (s.quo Q) Q.one),rr (frac (s.rest Q) Q.one),rr (frac (s.sur Q) Q.one),el,ex,ti)],rs.flatMap Rd.el++el):=by
   rw[rdM]
   unfold KM MS.rd0
   simp only[xcp,List.flatMap_append,xcx,xez,xfg,List.flatMap_nil,xcf,lst_map]
  rw[hKM]
  simp only[zae,xbe,xbo,l1,l2,l3,cond_true,wadd (show el.length+ex.length≤9223372036854775807 by omega)]
  by_cases h0:el=[]∧ex=[]
  ·rw[if_pos h0,h0.1,h0.2];rfl
  ·rw[if_neg h0,decide_eq_true,cond_true]
   have:0<el.length+ex.length:=by
    refine xda fun h=>h0 ⟨xcy.1 (by omega),xcy.1 (by omega)⟩
   omega
 intro J hJ
 have h161:d161 (c,gs,Q.P.lots,(Q.one:Int),lst (fun i=>((s.st1 Q i:Nat):Int)) Q.P.n,lst (fun i=>(s.kp i:Int)) Q.P.n,((s.f1 Q:Nat):Int),(rs.map Rd.votes).map (List.map rr),(rs.length:Int)-(s.since:Int),(su:Int),2,(Q.P.seats:Int),c.2.2.2.2.2.1,(Q.P.n:Int),rs.map rdT,rs.flatMap Rd.el) 0=some (selI (fun i=>decide (s.st1 Q i=0)) Q.P.n):=zkn (st:=s.st1 Q) (n:=Q.P.n) rfl (by omega) 0
 rw[hQ.seats]
 simp only[zgn,h161,Option.bind_some]
 have hse7:=zkl (s:=s) hok
 by_cases c1:s.f1 Q=Q.P.seats
 ·have hf:s.fin Q=true:=by unfold MS.fin;rw[decide_eq_true c1];rfl
  have hd:{s.rd0 Q with el:=selI (s.el Q) Q.P.n,ex:=[],ti:=[]}=s.done Q:=by
   unfold MS.done
   rw[if_pos c1];rfl
  have:=hJ (s.st1 Q) s.kp (s.f1 Q) ((rs.length:Int)-(s.since:Int)) (su:Int) (selI (s.el Q) Q.P.n) [] [] true hse7 (by simp)
  rw[hd]at this
  refine .inl ⟨hf,s.st1 Q,s.kp,s.f1 Q,_,_,Eq.trans ?_ this⟩
  rw[decide_eq_true c1,cond_true,hrounds]
 rw[decide_eq_false c1,cond_false]
 have hh7:=zbu (fun i=>decide (s.st1 Q i=0)) Q.P.n
 have hh1:(selI (fun i=>decide (s.st1 Q i=0)) Q.P.n).length=s.h1 Q:=zay _ _
 have hh1':s.h1 Q≤7:=by
  have:s.h1 Q=cntN (fun i=>decide (s.st1 Q i=0)) Q.P.n:=rfl
  omega
 simp only[hh1,wadd (show s.f1 Q+s.h1 Q≤9223372036854775807 by omega)]
 by_cases c2:s.f1 Q+s.h1 Q≤Q.P.seats
 ·have hf:s.fin Q=true:=by unfold MS.fin;rw[decide_eq_true c2,Bool.or_true]
  rw[decide_eq_true (show((s.f1 Q+s.h1 Q:Nat):Int)≤(Q.P.seats:Int) by omega),cond_true]
  have h159':=d159_eq (c:=c) (gs:=gs) (lots:=Q.P.lots) (one:=(Q.one:Int)) (st:=s.st1 Q) (n:=Q.P.n) (kp:=lst (fun i=>(s.kp i:Int)) Q.P.n) (filled:=s.f1 Q) (rest:=((rs.map Rd.votes).map (List.map rr),(rs.length:Int)-(s.since:Int),(su:Int),2,(Q.P.seats:Int),c.2.2.2.2.2.1,(Q.P.n:Int),rs.map rdT,rs.flatMap Rd.el)) (v:=lst (fun i=>rr (frac (s.v Q i) Q.one)) Q.P.n) (kk:=lst (fun i=>rr (frac (s.kp i) Q.one)) Q.P.n) (qu:=rr (frac (s.quo Q) Q.one)) (ex:=rr (frac (s.rest Q) Q.one)) (su:=rr (frac (s.sur Q) Q.one)) (el:=selI (s.el Q) Q.P.n) (ex2:=[]) (ti:=[]) (L:=selN (fun i=>decide (s.st1 Q i=0)) Q.P.n) (by omega) (fun i hi=>(zfd.1 hi).1) (by rw[zgd];omega) (by omega) (by omega)
  have hsel2:zdu (selI (s.el Q) Q.P.n++(selN (fun i=>decide (s.st1 Q i=0)) Q.P.n).map Int.ofNat)=selI (fun i=>s.el Q i||decide (s.st1 Q i=0)) Q.P.n:=sortI_two (q:=fun i=>decide (s.st1 Q i=0)) (fun i h=>by
   rcases zbx (Q:=Q) (s:=s) i with⟨h0,h1,h2,_⟩|⟨h0,h2⟩
   ·rw[h2];rfl
   ·rw[h]at h0;cases h0) Q.P.n
  rw[hsel2]at h159'
  have hsl:(selI (fun i=>s.el Q i||decide (s.st1 Q i=0)) Q.P.n).length≤7:=by
   rw[zay];have:=zbu (fun i=>s.el Q i||decide (s.st1 Q i=0)) Q.P.n;omega
  have hd:{s.rd0 Q with el:=selI (fun i=>s.el Q i||decide (s.st1 Q i=0)) Q.P.n,ex:=[],ti:=[]}=s.done Q:=by
   unfold MS.done
   rw[if_neg c1];rfl
  have:=hJ (zfk (s.st1 Q) (selN (fun i=>decide (s.st1 Q i=0)) Q.P.n) 1) s.kp (s.f1 Q+(selN (fun i=>decide (s.st1 Q i=0)) Q.P.n).length) ((rs.length:Int)-(s.since:Int)) (su:Int) (selI (fun i=>s.el Q i||decide (s.st1 Q i=0)) Q.P.n) [] [] true hsl (by simp)
  rw[hd]at this
  refine .inl ⟨hf,_,_,_,_,_,Eq.trans ?_ this⟩
  have hsI:selI (fun i=>decide (s.st1 Q i=0)) Q.P.n=(selN (fun i=>decide (s.st1 Q i=0)) Q.P.n).map Int.ofNat:=rfl
  rw[hsI,h159',Option.bind_some]
  simp only[hrounds]
 have hf:s.fin Q=false:=by unfold MS.fin;rw[decide_eq_false c1,decide_eq_false c2];rfl
 rw[decide_eq_false (show ¬((s.f1 Q+s.h1 Q:Nat):Int)≤(Q.P.seats:Int) by omega),cond_false]
 have hlen1:((rs++[s.exR Q (rs.map Rd.votes)]).length:Int)=((rs.length+1:Nat):Int):=by simp
 have hlen2:((rs++[s.rd0 Q]).length:Int)=((rs.length+1:Nat):Int):=by simp
 have hredu:s.cut Q=false→RndM Q c gs s rs (J ((c,gs,Q.P.lots,(Q.one:Int),lst (fun i=>((s.st1 Q i:Nat):Int)) Q.P.n,lst (fun i=>((s.kp1 Q i:Nat):Int)) Q.P.n,((s.f1 Q:Nat):Int),(rs.map Rd.votes).map (List.map rr),(rs.length:Int)-(s.since:Int),(su:Int),2,(Q.P.seats:Int),c.2.2.2.2.2.1,(Q.P.n:Int),rs.map rdT,rs.flatMap Rd.el),(lst (fun i=>rr (frac (s.v Q i) Q.one)) Q.P.n,lst (fun i=>rr (frac (s.kp i) Q.one)) Q.P.n,rr (frac (s.quo Q) Q.one),rr (frac (s.rest Q) Q.one),rr (frac (s.sur Q) Q.one),selI (s.el Q) Q.P.n,[],[]),((s.sur Q:Nat):Int),((rs.length+1:Nat):Int),false)):=fun hc=>by
  have:=hJ (s.st1 Q) (s.kp1 Q) (s.f1 Q) ((rs.length:Int)-(s.since:Int)) (su:Int) (selI (s.el Q) Q.P.n) [] [] false hse7 (by simp)
  refine .inr (.inr ⟨hf,hc,?_⟩)
  rw[this,hlen2]
  show some (true,KM Q c gs (s.st1 Q) (s.kp1 Q) (s.f1 Q) (rs++[s.rd0 Q]) _ _)=some (true,KM Q c gs (s.st1 Q) (s.kp1 Q) (s.f1 Q) (rs++[s.rd0 Q]) (((rs.length+1:Nat):Int)-((if s.some1 Q then 0 else s.since+1:Nat):Int)) _)
  congr 3
  cases h1:s.some1 Q
  ·have hnil:selI (s.el Q) Q.P.n=[]:=by
    rw[←xcy,zay]
    refine xgb fun h=>?_
    unfold MS.some1 at h1
    exact absurd h (xcn h1)
   rw[if_pos ⟨hnil,rfl⟩]
   simp only[xbg,xcm]
   omega
  ·have hnn:¬(selI (s.el Q) Q.P.n=[]∧([]:List Int)=[]):=fun h=>by
    have:=xbh List.length h.1
    rw[zay]at this
    unfold MS.some1 at h1
    have:=of_decide_eq_true h1
    simp at *
    omega
   rw[if_neg hnn]
   simp
 have h164:=d164_eq (Q:=Q) (s:=s) hok hI (c:=c) (gs:=gs) (lots:=Q.P.lots) (filled:=((s.f1 Q:Nat):Int)) (rest:=((rs.map Rd.votes).map (List.map rr),(rs.length:Int)-(s.since:Int),(su:Int),2,(Q.P.seats:Int),c.2.2.2.2.2.1,(Q.P.n:Int),rs.map rdT,rs.flatMap Rd.el))
 simp only[hrounds,zae]
 cases h1:s.some1 Q
 ·have hnil:selI (s.el Q) Q.P.n=[]:=by
   rw[←xcy,zay]
   refine xgb fun h=>?_
   unfold MS.some1 at h1
   exact absurd h (xcn h1)
  have hcut:s.cut Q=s.stall Q:=by unfold MS.cut;rw[h1];rfl
  have hsteq:lst (fun i=>((s.st1 Q i:Nat):Int)) Q.P.n=lst (fun i=>(s.st i:Int)) Q.P.n:=zao fun i hi=>by rw[(el_out h1 hi).2]
  have hf1fl:s.f1 Q=s.fl Q:=by
   have:cntN (s.el Q) Q.P.n=0:=by rw[←zay,hnil];rfl
   omega
  have h162:=d162_eq (Q:=Q) (s:=s) (k:=(c,gs,Q.P.lots,(Q.one:Int),lst (fun i=>((s.st1 Q i:Nat):Int)) Q.P.n,lst (fun i=>(s.kp i:Int)) Q.P.n,((s.f1 Q:Nat):Int),(rs.map Rd.votes).map (List.map rr),(rs.length:Int)-(s.since:Int),(su:Int),2,(Q.P.seats:Int),c.2.2.2.2.2.1,(Q.P.n:Int),rs.map rdT,rs.flatMap Rd.el)) (rs:=rs) hQ.d1 hQ.d6 hQ.dig rfl (by omega) hsi rfl rfl hb hQ.om
  have hz:decide (((selI (s.el Q) Q.P.n).length:Int)=0)=true:=by rw[hnil];rfl
  simp only[hz,cond_true,h162,Option.bind_some]
  cases hs:s.stall Q
  ·rw[cond_false]
   simp only[h164,Option.bind_some]
   exact hredu (hcut.trans hs)
  ·rw[cond_true]
   obtain⟨x,x1,x2,h163⟩:=d163_eq (Q:=Q) (s:=s) hok hI hQ.ties (gs:=gs) (one:=(Q.one:Int)) (filled:=((s.f1 Q:Nat):Int)) (E:=rs.map Rd.votes) (rest:=((rs.length:Int)-(s.since:Int),(su:Int),2,(Q.P.seats:Int),c.2.2.2.2.2.1,(Q.P.n:Int),rs.map rdT,rs.flatMap Rd.el)) hE (by rw[xbe];omega) (lst (fun i=>rr (frac (s.v Q i) Q.one)) Q.P.n) (lst (fun i=>rr (frac (s.kp i) Q.one)) Q.P.n) (rr (frac (s.quo Q) Q.one)) (rr (frac (s.rest Q) Q.one)) (rr (frac (s.sur Q) Q.one)) (selI (s.el Q) Q.P.n) [] []
   rw[hsteq,h163,Option.bind_some]
   have:=hJ (upd s.st x 2) (upd s.kp x 0) (s.f1 Q) ((rs.length:Int)-(s.since:Int)) (su:Int) (selI (s.el Q) Q.P.n) [(x:Int)] (if(s.tied Q).length=1 then []else s.tied Q) false hse7 (by simp)
   refine .inr (.inl ⟨hf,hcut.trans hs,?_⟩)
   rw[hlen1]
   have hex:(s.excl Q (rs.map Rd.votes)).fl Q=s.f1 Q:=by
    rw[hf1fl]
    obtain⟨x',y1,y2,y3⟩:=zix hI (rs.map Rd.votes)
    unfold MS.excl
    rw[y1,xak]
    exact fl_excl y2 y3
   have hex2:(s.excl Q (rs.map Rd.votes)).st=upd s.st x 2:=by
    unfold MS.excl
    rw[x2];rfl
   have hex3:(s.excl Q (rs.map Rd.votes)).kp=upd s.kp x 0:=by
    unfold MS.excl
    rw[x2];rfl
   have hexr:{s.rd0 Q with el:=selI (s.el Q) Q.P.n,ex:=[(x:Int)],ti:=if(s.tied Q).length=1 then []else s.tied Q}=s.exR Q (rs.map Rd.votes):=by
    unfold MS.exR
    rw[x2];rfl
   rw[hex,hex2,hex3]
   rw[hexr,if_neg (show ¬(selI (s.el Q) Q.P.n=[]∧[(x:Int)]=[]) by simp)]at this
   refine this.trans ?_
   show some (true,KM Q c gs (upd s.st x 2) (upd s.kp x 0) (s.f1 Q) (rs++[s.exR Q (rs.map Rd.votes)]) ((rs.length+1:Nat):Int) _)=some (true,KM Q c gs (upd s.st x 2) (upd s.kp x 0) (s.f1 Q) (rs++[s.exR Q (rs.map Rd.votes)]) (((rs.length+1:Nat):Int)-((0:Nat):Int)) _)
   rw[show((rs.length+1:Nat):Int)-((0:Nat):Int)=((rs.length+1:Nat):Int) by omega]
 ·have hz:decide (((selI (s.el Q) Q.P.n).length:Int)=0)=false:=by
   refine decide_eq_false ?_
   rw[zay]
   unfold MS.some1 at h1
   have:=of_decide_eq_true h1
   omega
  simp only[hz,cond_false,h164,Option.bind_some]
  exact hredu (by unfold MS.cut;rw[h1];rfl)
def mqOf(c:CT)(gs:List Grp)(lots:List Int):MP:=⟨gpOf c gs lots,10^c.2.2.2.2.2.1.toNat,10^(c.2.2.2.2.2.1.toNat/2)⟩
def trM(c:CT)(Q:MP):Int×(Int×(Int×(Int×(List RD×List Int)))):=(2,(Q.P.seats:Int),c.2.2.2.2.2.1,(Q.P.n:Int),(zhe Q).map rdT,(zhe Q).flatMap Rd.el)
theorem mqOf_ok{c:CT}{gs:List Grp}{lots:List Int}(h:fitE 2 c gs lots=0):MQ (mqOf c gs lots) c gs c.2.2.2.2.2.1.toNat:=by
 obtain⟨hP,_⟩:=gpOf_okM h
 obtain⟨_,_,_,n1,n7,s1,s5,_,hd,_,t1,t3,hp,ll,hB⟩:=zmz h
 obtain⟨hd1,hd6⟩:=hd rfl
 refine⟨⟨hP,zpd _,ten_six (by omega),zpd _⟩,⟨lots,rfl⟩,rfl,⟨_,hp⟩,?_,by omega,by omega,by omega,rfl,rfl,rfl⟩
 show c.2.2.2.1=(c.2.2.2.1.toNat:Int)
 omega
theorem Bef.excl'{rs:List Rd}{r:Rd}{sur:Nat}(h:r.ex≠ []):Bef (rs++[r]) none sur:=.excl rs r rfl h rfl
theorem Bef.kept'{rs:List Rd}{r:Rd}{sur:Nat}(h:r.ex=[]):Bef (rs++[r]) (some sur) sur:=.kept rs r rfl h rfl
set_option maxHeartbeats 1000000 in
theorem d56_eq{c:CT}{gs:List Grp}{lots:List Int}(hg:GsOK gs)(hl:lots.length≤281474976710656):d56 c gs lots=some (if fitE 2 c gs lots=0 then(trM c (mqOf c gs lots),0)else((0,0,0,0,[],[]),fitE 2 c gs lots)):=by
 unfold d56
 rw[d66_eq 2 c hg hl,Option.bind_some]
 by_cases hfit:¬fitE 2 c gs lots=0
 ·rw[if_neg hfit,decide_eq_false hfit];rfl
 have hfit:=xfh.1 hfit
 rw[if_pos hfit,decide_eq_true hfit,xaj,cond_false]
 have hQ:=mqOf_ok hfit
 have hlo:(mqOf c gs lots).P.lots=lots:=rfl
 have hdig:=hQ.dig
 have hone:=hQ.one
 generalize hd:c.2.2.2.2.2.1.toNat=d at hQ hdig hone
 generalize mqOf c gs lots=Q at hQ hlo hone ⊢
 have hn:=hQ.n
 have hok:=hQ.ok
 have hn7:=hok.P.n7
 have hd6:=hQ.d6
 have h112:d112 [((Q.one:Nat):Int)] (Q.P.n:Int)=some (lst (fun _=>((Q.one:Nat):Int)) Q.P.n):=by
  unfold d112
  rw[decide_eq_true (show([((Q.one:Nat):Int)]:List Int).length=1 from rfl),decide_eq_true (show(0:Int)≤(Q.P.n:Int) by omega),decide_eq_true (show(Q.P.n:Int)≤1000 by omega),xac,xac,cond_true,tn,zkf]
  rfl
 rw[hdig,d111_eq (by omega),Option.bind_some,←hone,hn]
 simp only[xaz,d0le,zbo (n:=Q.P.n) (by omega),xac,cond_true,tn,h112,Option.bind_some,hQ.seats]
 have hK0:(c,gs,lots,((Q.one:Nat):Int),List.replicate Q.P.n (0:Int),lst (fun _=>((Q.one:Nat):Int)) Q.P.n,(0:Int),([]:List (List Rt)),(0:Int),(0:Int),(2:Int),(Q.P.seats:Int),(d:Int),(Q.P.n:Int),([]:List RD),([]:List Int))=KM Q c gs Q.s0.st Q.s0.kp (Q.s0.fl Q) [] ((([]:List Rd).length:Int)-(Q.s0.since:Int)) ((0:Nat):Int):=by
  have:Q.s0.fl Q=0:=by unfold MS.fl cntN;exact zfm _
  unfold KM
  rw[this,hlo,zkf,hdig]
  rfl
 rw[hK0]
 refine zco (Q:=fun r=>r=some (trM c Q,0)) (fun(M:Nat) (a:(Int×(Int×(Int×(Int×(List RD×List Int)))))×MT)=>∃(s:MS) (rs:List Rd) (su:Nat),a=((0,0,0,0,[],[]),KM Q c gs s.st s.kp (s.fl Q) rs ((rs.length:Int)-(s.since:Int)) (su:Int))∧MRun Q s rs∧s.since≤rs.length∧Bef rs s.bef su∧M=s.meas Q) (Q.s0.meas Q) ⟨Q.s0,[],0,rfl,MRun.start hok,Nat.le_refl _,.start rfl rfl,rfl⟩ ?_
 rintro M a ⟨s,rs,su,rfl,hR,hsi,hb,rfl⟩
 rcases d113_eq hQ hR hsi hb with⟨hf,st',kp',fl',ev',su',he⟩|⟨hf,hc,he⟩|⟨hf,hc,he⟩
 ·refine .inr ⟨((0,0,0,0,[],[]),KM Q c gs st' kp' fl' (rs++[s.done Q]) ev' su'),by simp only[he,Option.bind_some,cond_false],?_⟩
  show some ((2,(Q.P.seats:Int),c.2.2.2.2.2.1,(Q.P.n:Int),(rs++[s.done Q]).map rdT,(rs++[s.done Q]).flatMap Rd.el),0)=some (trM c Q,0)
  rw[hR.fin hf];rfl
 ·have hme:=(zjm hok hR.inv hf hc (rs.map Rd.votes)).2
  exact .inl ⟨_,(s.excl Q (rs.map Rd.votes)).meas Q,by simp only[he,Option.bind_some,cond_true],hme,_,_,s.sur Q,rfl,hR.excl hok hf hc,xbt _,Bef.excl' (by simp[MS.exR]),rfl⟩
 ·have hme:=(ziw hok hR.inv hf hc).2
  refine .inl ⟨_,(s.redu Q).meas Q,by simp only[he,Option.bind_some,cond_true],hme,_,_,s.sur Q,rfl,hR.redu hok hf hc,?_,Bef.kept' rfl,rfl⟩
  show(if s.some1 Q then 0 else s.since+1)≤(rs++[s.rd0 Q]).length
  rw[List.length_append]
  split
  ·omega
  ·simp;omega
end Go.Proofs.YtmipjomnjkmdbaaGreat
namespace Go.Proofs.YtmipjomnjkmdbaaGreat
open Go Go.X
theorem d211_eq(a:Rt)(h2:a.2.2.length≤1000000000)(h1:a.2.1.length≤1000000000):d211 a=some (!a.1&&(decide (a.2.1.length≤1)&&(decide (a.2.2.length=1)&&decide (0<a.2.2.getD 0 0)))):=by
 unfold d211
 cases a.1
 ·rw[xae,cond_true,xap]
  by_cases hn:a.2.1.length≤1
  ·rw[decide_eq_true (show(a.2.1.length:Int)≤1 by omega),cond_true,decide_eq_true hn,xap]
   by_cases hd:a.2.2.length=1
   ·rw[decide_eq_true (show(a.2.2.length:Int)=1 by omega),cond_true,decide_eq_true hd,xap]
    rw[show(decide (0≤0)&&decide ((0:Int)<(a.2.2.length:Int)))=true by rw[decide_eq_true (show(0:Int)<(a.2.2.length:Int) by omega)];rfl]
    rfl
   ·rw[decide_eq_false (show ¬(a.2.2.length:Int)=1 by omega),decide_eq_false hd];rfl
  ·rw[decide_eq_false (show ¬(a.2.1.length:Int)≤1 by omega),decide_eq_false hn];rfl
 ·rfl
theorem limbs_one{n:Nat}(h:(zan n).length=1):n<4294967296∧(zan n).getD 0 0=(n:Int):=by
 have h1:=(zat n 1).1 (by omega)
 have hp:0<n:=zeg.1 (by omega)
 rw[Nat.pow_one]at h1
 refine⟨h1,?_⟩
 rw[zev (by omega),xel,xcb h1]
theorem d212_eq{x y:Rat}(hx:(rr x).2.1.length≤1)(hy:(rr y).2.2.length=1):d212 (rr x) (rr y)=some ((x.num.natAbs*y.den:Nat):Int):=by
 unfold d212
 have hyd:=limbs_one (n:=y.den) hy
 by_cases h0:(rr x).2.1.length=0
 ·rw[decide_eq_true (show((rr x).2.1.length:Int)=0 by omega),cond_true]
  have:x.num.natAbs=0:=zmu.1 (xcy.1 h0)
  rw[this,xek];rfl
 ·have h1:(rr x).2.1.length=1:=by omega
  have hxn:=limbs_one (n:=x.num.natAbs) h1
  have e1:(rr x).2.1.getD 0 0=(x.num.natAbs:Int):=hxn.2
  have e2:(rr y).2.2.getD 0 0=(y.den:Int):=hyd.2
  obtain⟨p,hp⟩:∃p,x.num.natAbs*y.den=p:=⟨_,rfl⟩
  have hpl:p≤4294967295*4294967295:=by rw[←hp];exact Nat.mul_le_mul (by omega) (by omega)
  have hpi:(x.num.natAbs:Int)*(y.den:Int)=(p:Int):=by rw[←hp];simp
  rw[decide_eq_false (show ¬((rr x).2.1.length:Int)=0 by omega),cond_false,h1,hy]
  simp only[e1,e2,zap (show x.num.natAbs<18446744073709551616 by omega),zap (show y.den<18446744073709551616 by omega),hpi,zap (show p<18446744073709551616 by omega),hp]
  rfl
theorem d182_eq{x y:Rat}(hx:Bz eB x)(hy:Bz eB y):d182 (rr x) (rr y)=some (cmpQ x y):=by
 have sx:=hx.sz2
 have sy:=hy.sz2
 have hl:(d34 (rr x)).bind (fun r_2=>(d34 (rr y)).bind fun r_3=>(d36 r_2 r_3).bind fun r_4=>some r_4)=some (cmpQ x y):=by
  rw[d34_rr (hx.mono (by decide)),d34_rr (hy.mono (by decide)),Option.bind_some,Option.bind_some,d36_qb (hx.mono (by decide)) (hy.mono (by decide))];rfl
 unfold d182
 rw[zae,d211_eq (rr x) (by have:=sx.2;omega) (by have:=sx.1;omega),Option.bind_some]
 cases h1:(!(rr x).1&&(decide ((rr x).2.1.length≤1)&&(decide ((rr x).2.2.length=1)&&decide (0<(rr x).2.2.getD 0 0))))
 ·simp only[xae,xaj,cond_false,cond_true]
  exact hl
 ·rw[d211_eq (rr y) (by have:=sy.2;omega) (by have:=sy.1;omega)]
  simp only[xaj,xae,cond_true,Option.bind_some]
  cases h2:(!(rr y).1&&(decide ((rr y).2.1.length≤1)&&(decide ((rr y).2.2.length=1)&&decide (0<(rr y).2.2.getD 0 0))))
  ·simp only[xae,cond_true]
   exact hl
  ·simp only[xag,xgf,xaf]at h1 h2
   obtain⟨a1,a2,a3,_⟩:=h1
   obtain⟨b1,b2,b3,_⟩:=h2
   rw[rr_neg]at a1 b1
   have hxn:=(Rat.num_nonneg (q:=x)).2 (Rat.not_lt.1 (xcn a1))
   have hyn:=(Rat.num_nonneg (q:=y)).2 (Rat.not_lt.1 (xcn b1))
   simp only[xaj,cond_false,d212_eq a2 b3,d212_eq b2 a3,Option.bind_some]
   have hlt:x<y↔x.num.natAbs*y.den<y.num.natAbs*x.den:=by
    rw[Rat.lt_iff]
    have e1:x.num=(x.num.natAbs:Int):=by omega
    have e2:y.num=(y.num.natAbs:Int):=by omega
    rw[e1,e2]
    simp only[xet]
    constructor
    ·intro h;exact_mod_cast h
    ·intro h;exact_mod_cast h
   have hgt:y<x↔y.num.natAbs*x.den<x.num.natAbs*y.den:=by
    rw[Rat.lt_iff]
    have e1:x.num=(x.num.natAbs:Int):=by omega
    have e2:y.num=(y.num.natAbs:Int):=by omega
    rw[e1,e2]
    simp only[xet]
    constructor
    ·intro h;exact_mod_cast h
    ·intro h;exact_mod_cast h
   unfold cmpQ
   generalize x.num.natAbs*y.den=p at hlt hgt ⊢
   generalize y.num.natAbs*x.den=q at hlt hgt ⊢
   by_cases c1:p<q
   ·rw[if_pos (hlt.2 c1),dlt c1];rfl
   ·rw[if_neg fun h=>c1 (hlt.1 h),nlt (by omega),cond_false]
    by_cases c2:q<p
    ·have:=hgt.2 c2
     rw[if_neg (by intro e;rw[e]at this;exact Rat.lt_irrefl this),dlt c2];rfl
    ·rw[nlt (by omega),cond_false]
     have h1:=Rat.not_lt.1 fun h=>c1 (hlt.1 h)
     have h2:=Rat.not_lt.1 fun h=>c2 (hgt.1 h)
     rw[if_pos (Rat.le_antisymm h2 h1)]
theorem d183_eq{n:Nat}{r:List Rat}(h:RndOK n r){c:Nat}(hc:c<n):d183 (r.map rr) (c:Int)=some (rr (zag r (c:Int))):=by
 have hc':c<r.length:=by rw[h.1];exact hc
 unfold d183
 rw[xbe,dlt hc']
 simp only[cond_true,d0le,xac,tn,zms hc']
 rfl
theorem zqy{α:Type}(l:List α)(d:α)(p:α→Bool){k:Nat}(h:k<l.length):(l.take (k+1)).all p=((l.take k).all p&&p (l.getD k d)):=by
 rw[zbb l d h,List.all_append];simp
theorem d148_eq{n:Nat}{r:List Rat}(h:RndOK n r){l:List Int}(hl:∀c∈l,∃i:Nat,c=(i:Int)∧i<n)(hll:l.length≤1000)(least:Bool):d148 (r.map rr) l least=some (extr least (zag r) l):=by
 unfold d148
 have hb:∀i k:Int,∀q:Bool,(if least then decide (zag r i≤zag r k)else decide (zag r k≤zag r i))=q→q=(if least then decide (zag r i≤zag r k)else decide (zag r k≤zag r i)):=fun i k q h=>h.symm
 refine zad (fun i=>(r.map rr,l,least,(l.take i).filter (fun i=>l.all fun k=>if least then decide (zag r i≤zag r k)else decide (zag r k≤zag r i)),(i:Int))) l.length rfl (fun i hi=>?_) (b:=extr least (zag r) l) ?_ rfl
 ·obtain⟨c,hc,hcn⟩:=hl _ (zbg hi)
  simp only[dlt hi,cond_true,zae]
  have hfl:((l.take i).filter (fun i=>l.all fun k=>if least then decide (zag r i≤zag r k)else decide (zag r k≤zag r i))).length≤i:=by
   refine Nat.le_trans (xdv _ _) ?_
   rw[xaq];omega
  have hnext:(l.take (i+1)).filter (fun i=>l.all fun k=>if least then decide (zag r i≤zag r k)else decide (zag r k≤zag r i))=(l.take i).filter (fun i=>l.all fun k=>if least then decide (zag r i≤zag r k)else decide (zag r k≤zag r i))++(if(l.all fun k=>if least then decide (zag r (c:Int)≤zag r k)else decide (zag r k≤zag r (c:Int)))then [(c:Int)]else []):=by
   rw[zby _ l hi,hc]
  generalize(l.take i).filter (fun i=>l.all fun k=>if least then decide (zag r i≤zag r k)else decide (zag r k≤zag r i))=out at hfl hnext ⊢
  refine zad (fun k=>(r.map rr,l,least,out,(i:Int),(l.take k).all (fun k=>if least then decide (zag r (c:Int)≤zag r k)else decide (zag r k≤zag r (c:Int))),(k:Int))) l.length rfl (fun k hk=>?_) (b:=(r.map rr,l,least,out,(i:Int),l.all (fun k=>if least then decide (zag r (c:Int)≤zag r k)else decide (zag r k≤zag r (c:Int))))) ?_ ?_
  ·obtain⟨d,hd,hdn⟩:=hl _ (zbg hk)
   have hcb:=zni (zag r (d:Int)) (zag r (c:Int))
   simp only[dlt hk,dlt hi,d0le,xac,cond_true,tn,hc,hd,d183_eq h hcn,d183_eq h hdn,Option.bind_some,d182_eq (h.bz hdn) (h.bz hcn),zae,zau (show k<9223372036854775807 by omega)]
   rw[zqy l 0 _ hk,hd]
   have k1:cmpQ (zag r (d:Int)) (zag r (c:Int))<0↔¬zag r (c:Int)≤zag r (d:Int):=by
    unfold cmpQ
    rw[Rat.not_le]
    by_cases h1:zag r (d:Int)<zag r (c:Int)
    ·rw[if_pos h1];exact⟨fun _=>h1,fun _=>by omega⟩
    ·rw[if_neg h1];exact⟨fun h=>by split at h<;>omega,fun h=>absurd h h1⟩
   have k2:0<cmpQ (zag r (d:Int)) (zag r (c:Int))↔¬zag r (d:Int)≤zag r (c:Int):=by
    unfold cmpQ
    by_cases h1:zag r (d:Int)<zag r (c:Int)
    ·rw[if_pos h1];exact⟨fun h=>by omega,fun h=>absurd (Rat.le_of_lt h1) h⟩
    ·rw[if_neg h1]
     by_cases h2:zag r (d:Int)=zag r (c:Int)
     ·rw[if_pos h2,h2];exact⟨fun h=>by omega,fun h=>absurd xig h⟩
     ·rw[if_neg h2];exact⟨fun _ hle=>h2 (Rat.le_antisymm hle (Rat.not_lt.1 h1)),fun _=>by omega⟩
   cases least
   ·simp only[xae,cond_true,cond_false,xbg,xcm]
    by_cases hx:0<cmpQ (zag r (d:Int)) (zag r (c:Int))
    ·rw[decide_eq_true hx,cond_true,decide_eq_false (k2.1 hx),xeo]
    ·rw[decide_eq_false hx,cond_false,decide_eq_true (xfh.1 fun hn=>hx (k2.2 hn)),xgp]
   ·simp only[xaj,xae,cond_true,cond_false,if_true]
    by_cases hx:cmpQ (zag r (d:Int)) (zag r (c:Int))<0
    ·rw[decide_eq_true hx,decide_eq_false (k1.1 hx),xeo];rfl
    ·rw[decide_eq_false hx,decide_eq_true (xfh.1 fun hn=>hx (k1.2 hn)),xgp];rfl
  ·simp only[nlt (Nat.le_refl l.length),cond_false,xbd]
  ·simp only[hnext]
   cases(l.all fun k=>if least then decide (zag r (c:Int)≤zag r k)else decide (zag r k≤zag r (c:Int)))
   ·rw[cond_false,zau (by omega)];simp
   ·rw[cond_true]
    simp only[d0le,dlt hi,xac,cond_true,tn,hc,zcg (l:=out) (d:=(c:Int)) (by omega),zau (show i<9223372036854775807 by omega),if_true]
 ·simp only[nlt (Nat.le_refl l.length),cond_false,xbd]
  rfl
theorem d149_eq'{lots:List Int}(hl:lots.length≤1000){c:Int}(hc:c∈lots):d149 lots c=some (zbm lots c:Int):=by
 rw[d149_eq c (by omega),zfa]
 rfl
theorem d147_eq{n:Nat}{ties:Int}{tied lots:List Int}(h1:1≤ties)(h3:ties≤3)(hl:LotsOK n lots)(ht:tied≠ [])(hts:tied.Pairwise (·< ·))(htb:∀c∈tied,∃i:Nat,c=(i:Int)∧i<n)(htl:tied.length≤1000):d147 ties tied lots=some true:=by
 have hn1:=hl.n1
 have hn7:=hl.n7
 have hp:=xcg.2 ht
 have hlb:isB (n:Int) lots:=⟨hl.nodup,fun x hx=>by obtain⟨i,rfl,hi⟩:=hl.within x hx;omega⟩
 have htb':isB (n:Int) tied:=⟨hts.imp fun h=>by omega,fun x hx=>by obtain⟨i,rfl,hi⟩:=htb x hx;omega⟩
 have h71:d71 (n:Int) lots=some true:=by
  unfold d71
  rw[hl.len,decide_eq_true rfl,cond_true,d32_eq _ (by rw[hl.len];omega),decide_eq_true hlb];rfl
 have h32:d32 (n:Int) tied=some true:=by rw[d32_eq _ (by omega),decide_eq_true htb']
 unfold d147
 rw[zae]
 simp only[hl.len,decide_eq_false (show ¬ties<1 by omega),decide_eq_false (show ¬3<ties by omega),decide_eq_false (show ¬(n:Int)<1 by omega),decide_eq_false (show ¬7<(n:Int) by omega),decide_eq_false (show ¬(tied.length:Int)=0 by omega),xae,xaj,cond_true,cond_false,h71,h32,Option.bind_some]
 refine zad (fun i=>(tied,((i+1:Nat):Int))) (tied.length-1) rfl (fun i hi=>?_) (b:=.inl ()) ?_ rfl
 ·have hlt:i+1<tied.length:=by omega
  have hord:tied.getD i 0<tied.getD (i+1) 0:=by
   rw[xab,xad (by omega),xab,xad hlt]
   exact xcu.1 hts i (i+1) (by omega) hlt (by omega)
  simp only[dlt hlt,cond_true,zoz (show i<9223372036854775807 by omega),d0le,dlt (show i<tied.length by omega),xac,tn,decide_eq_false (show ¬tied.getD (i+1) 0≤tied.getD i 0 by omega),cond_false,zau (show i+1<9223372036854775807 by omega)]
 ·rw[show tied.length-1+1=tied.length by omega]
  simp only[nlt (Nat.le_refl tied.length),cond_false]
theorem d88_eq{n:Nat}{ties:Int}{E:List (List Rat)}{tied lots:List Int}{least:Bool}(h1:1≤ties)(h3:ties≤3)(hl:LotsOK n lots)(hE:∀r∈E,RndOK n r)(hEl:E.length≤1000000)(ht:tied≠ [])(hts:tied.Pairwise (·< ·))(htb:∀c∈tied,∃i:Nat,c=(i:Int)∧i<n)(htl:tied.length≤1000) :
  ∃b,d88 ties (E.map (List.map rr)) tied lots least=some (tieB ties E tied lots least,b):=by
 unfold d88
 rw[d147_eq h1 h3 hl ht hts htb htl]
 simp only[Option.bind_some,xaj,cond_false]
 have hEm:(E.map (List.map rr)).length=E.length:=xbe ..
 have hfin:∀left:List Int,left=tieL least (zah ties E) tied→∃b,(bif (decide ((left.length:Int)=1))then
   bif (decide (0≤0)&&decide (0<(left.length:Int)))then
    some ((List.getD left 0 0),false)
   else none
  else
   bif (decide (0≤0)&&decide (0<(left.length:Int)))then
    (zaa (β:=Int) (fun((t3_5,t4_5,t12_5,t15,t16):(List Int)×Bool×(List Int)×Int×Int)=>
      bif (decide (t16<(t12_5.length:Int)))then
       letJ (fun((t3_6,t4_6,t12_6,t15_1,t16_1):(List Int)×Bool×(List Int)×Int×Int)=>
         some (Sum.inl (t3_6,t4_6,t12_6,t15_1,(w (t16_1+1))))) fun j__3=>
       bif (decide (0≤t16)&&decide (t16<(t12_5.length:Int)))then
        (d149 t3_5 (List.getD t12_5 (Int.toNat t16) 0)).bind fun r_2=>
        (d149 t3_5 t15).bind fun r_3=>
        bif ((decide (r_3<r_2)) == t4_5)then
         bif (decide (0≤t16)&&decide (t16<(t12_5.length:Int)))then
          j__3 (t3_5,t4_5,t12_5,(List.getD t12_5 (Int.toNat t16) 0),t16)
         else none
        else
         j__3 (t3_5,t4_5,t12_5,t15,t16)
       else none
      else
       some (Sum.inr t15)) (lots,least,left,(List.getD left 0 0),1)).bind fun(t15_2:Int)=>
    some (t15_2,true)
   else none:Option (Int×Bool))=some (tieB ties E tied lots least,b):=by
  intro left hleft
  have hne:left≠ []:=by rw[hleft];exact zpc ht
  have hpos:=xcg.2 hne
  have hlen:left.length≤tied.length:=by rw[hleft];exact ziq _ _ _
  have hlot:∀a∈left,a∈lots:=fun a ha=>by
   rw[hleft]at ha
   obtain⟨i,rfl,hi⟩:=htb _ (zfy ha)
   exact hl.mem hi
  have hnd:left.Nodup:=by
   have key:∀(rs:List (List Rat)) (l:List Int),l.Nodup→(tieL least rs l).Nodup:=by
    intro rs
    induction rs with
    |nil=>intro l h;exact h
    |cons r rs ih=>
     intro l h
     show(tieL least rs (if 1<l.length then extr least (zag r) l else l)).Nodup
     refine ih _ ?_
     split
     ·exact h.sublist List.filter_sublist
     ·exact h
   rw[hleft]
   exact key _ _ (hts.imp fun h=>by omega)
  have hll:=hl.len
  have hn7:=hl.n7
  unfold tieB
  simp only[←hleft]
  by_cases hone:left.length=1
  ·refine⟨false,?_⟩
   rw[if_pos hone,hone,zde];rfl
  ·refine⟨true,?_⟩
   rw[if_neg hone,decide_eq_false (show ¬(left.length:Int)=1 by omega),cond_false,show(decide (0≤0)&&decide ((0:Int)<(left.length:Int)))=true by rw[decide_eq_true (show(0:Int)<(left.length:Int) by omega)];rfl,cond_true]
   have hmem:∀i,zid lots least (left.take (i+1))∈left.take (i+1):=fun i=>byLot_mem (List.ne_nil_of_length_pos (by rw[xaq];omega))
   refine zad (fun i=>(lots,least,left,zid lots least (left.take (i+1)),((i+1:Nat):Int))) (left.length-1) ?_ (fun i hi=>?_) (b:=zid lots least left) ?_ rfl
   ·have e:left.take 1=[left.headD 0]:=by
     cases left with
     |nil=>exact absurd rfl hne
     |cons y l=>rfl
    rw[show(0:Nat)+1=1 from rfl,e,zde]
    rfl
   ·have hlt:i+1<left.length:=by omega
    have hm:=hmem i
    have hxm:left.getD (i+1) 0∈left:=zbg hlt
    have hs:zid lots least (left.take (i+1+1))=if least then(if zbm lots (zid lots least (left.take (i+1)))<zbm lots (left.getD (i+1) 0)then left.getD (i+1) 0 else zid lots least (left.take (i+1)))else(if zbm lots (left.getD (i+1) 0)<zbm lots (zid lots least (left.take (i+1)))then left.getD (i+1) 0 else zid lots least (left.take (i+1))):=by
     rw[zbb left 0 hlt]
     have e:left.take (i+1)=left.headD 0::(left.take (i+1)).tail:=by
      cases left with
      |nil=>exact absurd rfl hne
      |cons y l=>rfl
     have e2:(left.take (i+1)++[left.getD (i+1) 0]).tail=(left.take (i+1)).tail++[left.getD (i+1) 0]:=by rw[e];rfl
     have e3:(left.take (i+1)++[left.getD (i+1) 0]).headD 0=(left.take (i+1)).headD 0:=by rw[e];rfl
     show(left.take (i+1)++[left.getD (i+1) 0]).tail.foldl _ ((left.take (i+1)++[left.getD (i+1) 0]).headD 0)=_
     rw[e2,e3,List.foldl_append]
     rfl
    have hneq:left.getD (i+1) 0≠zid lots least (left.take (i+1)):=fun e=>by
     have:=hnd.sublist (xge (i+1+1) left)
     rw[zbb left 0 hlt,xeh]at this
     exact this.2.2 _ hm _ (by simp) e.symm
    have hpl:zbm lots (left.getD (i+1) 0)≠zbm lots (zid lots least (left.take (i+1))):=fun e=>by
     have h1:=hlot _ hxm
     have h2:=hlot _ (xbv hm)
     have g1:=xfr.2 h1
     have g2:=xfr.2 h2
     refine hneq ?_
     rw[←xfx g1,←xfx g2]
     congr 1
    rw[hs]
    simp only[dlt hlt,d0le,xac,cond_true,tn,zae,d149_eq' (show lots.length≤1000 by omega) (hlot _ hxm),d149_eq' (show lots.length≤1000 by omega) (hlot _ (xbv hm)),Option.bind_some,zau (show i+1<9223372036854775807 by omega)]
    generalize zid lots least (left.take (i+1))=m at *
    generalize left.getD (i+1) 0=y at *
    by_cases c1:zbm lots m<zbm lots y
    ·rw[dlt c1]
     cases least
     ·rw[if_neg (by simp),if_neg (by omega)];rfl
     ·rw[if_pos rfl,if_pos c1];rfl
    ·rw[nlt (by omega)]
     cases least
     ·rw[if_neg (by simp),if_pos (by omega)];rfl
     ·rw[if_pos rfl,if_neg c1];rfl
   ·rw[show left.length-1+1=left.length by omega,xbd]
    simp only[nlt (Nat.le_refl left.length),cond_false]
 by_cases c3:ties=3
 ·have hr:zah ties E=[]:=by unfold zah;rw[if_pos c3]
  obtain⟨b,hb⟩:=hfin tied (by rw[hr];rfl)
  refine⟨b,?_⟩
  rw[zdo (b:=(lots,least,tied)) ?_]
  ·exact hb
  ·simp only[zae,decide_eq_true c3,xaj]
   cases decide ((0:Int)<((E.map (List.map rr)).length:Int))<;>rfl
 ·have hrl:(zah ties E).length=E.length:=by
   unfold zah
   rw[if_neg c3]
   split
   ·exact List.length_reverse
   ·rfl
  obtain⟨b,hb⟩:=hfin (tieL least (zah ties E) tied) rfl
  refine⟨b,?_⟩
  refine zad (fun i=>(ties,E.map (List.map rr),lots,least,tieL least ((zah ties E).take i) tied,(i:Int))) E.length (by rw[xct];rfl) (fun i hi=>?_) (b:=(lots,least,tieL least (zah ties E) tied)) ?_ hb
  ·have hsub:∀c∈tieL least ((zah ties E).take i) tied,∃j:Nat,c=(j:Int)∧j<n:=fun c hc=>htb c (zfy hc)
   have hlen:=ziq least ((zah ties E).take i) tied
   have hsn:tieL least ((zah ties E).take (i+1)) tied=if 1<(tieL least ((zah ties E).take i) tied).length then extr least (zag ((zah ties E).getD i [])) (tieL least ((zah ties E).take i) tied)else tieL least ((zah ties E).take i) tied:=by
    rw[zbb (zah ties E) [] (by omega),tieL_snoc]
   rw[hsn]
   generalize tieL least ((zah ties E).take i) tied=left at *
   have key:∀(r:List Rat) (z:List Rt),r∈E→(zah ties E).getD i []=r→z=r.map rr→d148 z left least=some (extr least (zag ((zah ties E).getD i [])) left):=by
    rintro r z hr hri rfl
    rw[d148_eq (hE r hr) hsub (by omega),hri]
   simp only[zae,hEm,dlt hi,cond_true,decide_eq_false c3,xae]
   by_cases hl1:1<left.length
   ·have hg:decide ((1:Int)<(left.length:Int))=true:=decide_eq_true (by omega)
    rw[if_pos hl1]
    by_cases c1:ties=1
    ·have i1:w (w ((E.length:Int)-1)-(i:Int))=((E.length-1-i:Nat):Int):=by
      rw[zbi (n:=(E.length:Int)-1) (by omega) (by omega),zbi (by omega) (by omega)];omega
     have hgr:(zah ties E).getD i []=E.getD (E.length-1-i) []:=by
      unfold zah
      rw[if_neg c3,if_pos c1]
      rw[xab,List.getElem?_reverse hi,xab]
     have hz:(E.map (List.map rr)).getD (E.length-1-i) []=(E.getD (E.length-1-i) []).map rr:=by
      rw[xab,xbm,xad (by omega),xab,xad (by omega)];rfl
     simp only[decide_eq_true c1,cond_true,hg,i1,d0le,dlt (show E.length-1-i<E.length by omega),xac,tn,key _ _ (zbr (by omega)) hgr hz,Option.bind_some,zau (show i<9223372036854775807 by omega)]
    ·have hgr:(zah ties E).getD i []=E.getD i []:=by
      unfold zah
      rw[if_neg c3,if_neg c1]
     have hz:(E.map (List.map rr)).getD i []=(E.getD i []).map rr:=by
      rw[xab,xbm,xad hi,xab,xad hi];rfl
     simp only[decide_eq_false c1,cond_false,cond_true,hg,d0le,dlt hi,xac,tn,key _ _ (zbr hi) hgr hz,Option.bind_some,zau (show i<9223372036854775807 by omega)]
   ·have hg:decide ((1:Int)<(left.length:Int))=false:=decide_eq_false (by omega)
    rw[if_neg hl1]
    by_cases c1:ties=1
    ·simp only[decide_eq_true c1,cond_true,hg,cond_false,zau (show i<9223372036854775807 by omega)]
    ·simp only[decide_eq_false c1,cond_false,hg,zau (show i<9223372036854775807 by omega)]
  ·simp only[zae,hEm,nlt (Nat.le_refl E.length),cond_false]
   rw[xan (by omega)]
end Go.Proofs.YtmipjomnjkmdbaaGreat
namespace Go.Proofs.YtmipjomnjkmdbaaGreat
open Go Go.X
theorem d25_meek{n:Nat}(hn:n≤1000){seats digits ties:Int}(hs:WT (.int .i64) seats)(hd:WT (.int .i64) digits)(ht:WT (.int .i64) ties):∃c:CT,d25 1 (n:Int) seats digits ties=some c∧ConOK c n 2∧c.2.2.2.1=1+seats%5∧c.2.2.2.2.2.1=1+digits%6∧c.2.2.2.2.2.2.1=1+ties%3:=by
 obtain⟨l,l1,l2⟩:=d72_eq (n:=n) hn
 have hm:WT (.int .i64) 1:=zbi (by omega) (by omega)
 unfold d25
 rw[l1,zng hm (by omega) (by omega),zng hs (by omega) (by omega),zng ht (by omega) (by omega),zng hd (by omega) (by omega)]
 simp only[Option.bind_some,zae]
 have w2:w (1+seats%5)=1+seats%5:=zbi (by omega) (by omega)
 have w3:w (1+ties%3)=1+ties%3:=zbi (by omega) (by omega)
 have w4:w (1+digits%6)=1+digits%6:=zbi (by omega) (by omega)
 have w1:w (1+1%3)=2:=zbi (n:=2) (by omega) (by omega)
 simp only[w1,w2,w3,w4]
 exact⟨_,rfl,⟨l2,rfl,by show 1≤1+seats%5;omega,by show 1+seats%5≤5;omega,fun h=>absurd h (by omega),fun _=>by show 1≤1+digits%6∧1+digits%6≤6;omega,fun h=>absurd rfl h,by show 1≤1+ties%3;omega,by show 1+ties%3≤3;omega⟩,rfl,rfl,rfl⟩
theorem d54_eq(l:List (List Int))(hl:l.length≤281474976710656):d54 l=some (decide (∀x∈l,x.length≤12)&&decide (l.length≤24)):=by
 unfold d54
 by_cases h:∀x∈l,x.length≤12
 ·refine zad (b:=.inl l) (fun i=>(l,(i:Int))) l.length rfl (fun i hi=>?_) ?_ ?_
  ·have:=h _ (zbr (d:=[]) hi)
   simp only[dlt hi,d0le,xac,cond_true,tn,decide_eq_false (show ¬(12:Int)<((l.getD i []).length:Int) by omega),cond_false,zau (show i<9223372036854775807 by omega)]
  ·simp only[nlt (Nat.le_refl l.length),cond_false]
  ·rw[decide_eq_true h,xap]
   exact xbh some (xca.2 (by omega))
 ·rw[decide_eq_false h,xar]
  refine zco (Q:=fun r=>r=some false) (fun(M:Nat) (st:(List (List Int))×Int)=>∃i:Nat,st=(l,(i:Int))∧i+M=l.length∧∀j,j<i→(l.getD j []).length≤12) l.length ⟨0,rfl,by omega,fun j hj=>by omega⟩ ?_
  rintro M st ⟨i,rfl,h1,h2⟩
  rcases xbk M with h0|h0
  ·exfalso
   refine h fun x hx=>?_
   obtain⟨k,hk,rfl⟩:=xbu hx
   have:=h2 k (by omega)
   rw[xab,xad hk]at this
   exact this
  ·have hi:i<l.length:=by omega
   simp only[dlt hi,d0le,xac,cond_true,tn]
   by_cases hc:12<(l.getD i []).length
   ·refine .inr ⟨.inr false,by rw[decide_eq_true (show(12:Int)<((l.getD i []).length:Int) by omega),cond_true],rfl⟩
   ·refine .inl ⟨_,M-1,by rw[decide_eq_false (show ¬(12:Int)<((l.getD i []).length:Int) by omega),cond_false],by omega,i+1,by rw[zau (by omega)],by omega,fun j hj=>?_⟩
    by_cases hji:j=i
    ·rw[hji];omega
    ·exact h2 j (by omega)
def awM:MP:={P:={gs:=[([0],1),([0,1],3),([2],2)],n:=3,seats:=2,q:=3,tot:=6,ties:=3,lots:=[0,1,2]},one:=1000,om:=10}
theorem awM_pile:zdw [[0,1],[0,1],[0,1],[0],[2],[2]]=[([0],1),([0,1],3),([2],2)]:=by decide +kernel
theorem awM_count:(zhe awM).flatMap Rd.el=[0,2]:=by decide +kernel
theorem awM_mq{c:CT}(h1:c.2.1.length=3)(h2:c.2.2.2.1=2)(h3:c.2.2.2.2.2.2.1=3)(h4:c.2.2.2.2.2.1=3):mqOf c [([0],1),([0,1],3),([2],2)] [0,1,2]=awM:=by
 unfold mqOf gpOf awM
 rw[h1,h2,h3,h4]
 have e1:(wsum zba [([0],1),([0,1],3),([2],2)]/(2+1)+1).toNat=3:=by decide +kernel
 have e2:(wsum (fun _=>1) [([0],1),([0,1],3),([2],2)]).toNat=6:=by decide +kernel
 rw[e1,e2]
 rfl
theorem d55_eq:d55=some true:=by
 have k:∀x:Int,-9223372036854775808≤x→x≤9223372036854775807→WT (.int .i64) x:=fun x h0 h1=>zbi h0 h1
 obtain⟨c,c1,c2,c3,c4,c5⟩:=d25_meek (n:=3) (by omega) (k 1 (by omega) (by omega)) (k 2 (by omega) (by omega)) (k 2 (by omega) (by omega))
 have c3':c.2.2.2.1=2:=by rw[c3];rfl
 have c4':c.2.2.2.2.2.1=3:=by rw[c4];rfl
 have c5':c.2.2.2.2.2.2.1=3:=by rw[c5];rfl
 have hb:∀b∈[[0,1],[0,1],[0,1],[0],[2],[2]],isB 3 b:=by decide +kernel
 have h48:=d48_eq (n:=3) (by omega) (by omega) hb (by simp)
 have hp:=(zmp (n:=3) _ hb (by simp)).1
 rw[awM_pile]at h48 hp
 have hfit:fitE 2 c [([0],1),([0,1],3),([2],2)] [0,1,2]=0:=zna (n:=3) (m:=2) c2 (by omega) (by omega) (by omega) (by omega) hp rfl (by decide +kernel)
 have h56:=d56_eq (c:=c) (lots:=[0,1,2]) (hp.gs (by omega)) (by simp)
 rw[if_pos hfit,awM_mq c2.names c3' c5' c4']at h56
 have hp2:PileOK ((2:Nat):Int) [([0,1],3)] 3:=⟨by decide +kernel,by simp[zjz],by decide +kernel,by omega⟩
 have h58:=d58_ok (n:=2) (d:=2) (by omega) (by omega) (by omega) (by omega) hp2 c [] (kp:=fun i=>if i=0 then 33 else 100) (fun i=>by show(if i=0 then 33 else 100)≤100;split<;>omega)
 have hk:lst (fun i=>((if i=0 then 33 else 100:Nat):Int)) 2=[33,100]:=by decide +kernel
 have hv:lst (fun x=>((mvo (gpOf c [([0,1],3)] []) (10^2) (fun i=>if i=0 then 33 else 100) x:Nat):Int)) 2=[99,201]:=by
  have e:∀x,mvo (gpOf c [([0,1],3)] []) (10^2) (fun i=>if i=0 then 33 else 100) x=3*zpw 100 (fun i=>if i=0 then 33 else 100) [0,1] x:=fun x=>by
   show 0+3*zpw (10^2) (fun i=>if i=0 then 33 else 100) [0,1] x=_
   rw[Nat.zero_add]
  rw[zao fun x _=>by rw[e x]]
  decide +kernel
 have hr:mro (gpOf c [([0,1],3)] []) (10^2) (fun i=>if i=0 then 33 else 100)=0:=by
  show 0+3*mw (10^2) (fun i=>if i=0 then 33 else 100) [0,1] 2=0
  decide +kernel
 rw[hk,hv,hr]at h58
 have h60:d60 5=some 100:=d60_eq (d:=5) (by omega) (by omega)
 unfold d55
 have c1':d25 1 3 1 2 2=some c:=c1
 have h58':d58 2 [33,100] [([0,1],3)]=some ([99,201],0,true):=h58
 rw[h48,Option.bind_some,c1',Option.bind_some,h56,Option.bind_some,h58',Option.bind_some]
 have hT:(trM c awM).2.2.2.2.2=[0,2]:=awM_count
 have h44:d44 [0,2]=some [0,2]:=by rw[d44_eq (by simp)];decide +kernel
 have f38:d38 [0,2] [0,2]=some true:=by rw[znf (by simp) (by simp)];rfl
 have f38':d38 [99,201] [99,201]=some true:=by rw[znf (by simp) (by simp)];rfl
 simp only[hT,h44,f38,f38',h60,Option.bind_some]
 rfl
structure CntM(n:Nat)(c:CT)(gs:List Grp)(lots:List Int)(N:Int):Prop where
 con:ConOK c n 2
 n1:1≤n
 n7:n≤7
 pile:PileOK (n:Int) gs N
 len:lots.length=n
 perm:isB (n:Int) lots
 fit:fitE 2 c gs lots=0
 mq:MQ (mqOf c gs lots) c gs c.2.2.2.2.2.1.toNat
 cands:(mqOf c gs lots).P.n=n
 tot:((mqOf c gs lots).P.tot:Int)=N
theorem CntM.mk'{n:Nat}{c:CT}{gs:List Grp}{lots:List Int}{N:Int}(hc:ConOK c n 2)(h1:1≤n)(h7:n≤7)(hp:PileOK (n:Int) gs N)(hl:lots.length=n)(hb:isB (n:Int) lots):CntM n c gs lots N:=by
 have hf:=zna hc (by omega) (by omega) h1 h7 hp hl hb
 refine⟨hc,h1,h7,hp,hl,hb,hf,mqOf_ok hf,hc.names,?_⟩
 have:=hp.total
 have h0:=(zhn (n:=(n:Int)) hp.ballots (f:=fun _=>1) (fun _=>by omega)).1
 show((wsum (fun _=>1) gs).toNat:Int)=N
 omega
end Go.Proofs.YtmipjomnjkmdbaaGreat
namespace Go.Proofs.YtmipjomnjkmdbaaGreat
open Go Go.X
theorem d81_eq{l:List Int}(c:Int)(hl:l.length≤1000):d81 l c=some (l.filter (fun x=>decide (x<c))++[c]++l.filter (fun x=>decide (c<x))):=by
 unfold d81
 have hf1:=xdv (fun x=>decide (x<c)) l
 refine zad (fun i=>(l,c,(l.take i).filter (fun x=>decide (x<c)),(i:Int))) l.length rfl (fun i hi=>?_) (b:=(l,c,l.filter (fun x=>decide (x<c)))) ?_ ?_
 ·have hfl:=xdv (fun x=>decide (x<c)) (l.take i)
  rw[xaq]at hfl
  rw[zby _ l hi]
  simp only[dlt hi,d0le,xac,cond_true,tn,zae,zau (show i<9223372036854775807 by omega)]
  cases decide (l.getD i 0<c)
  ·simp
  ·rw[cond_true,zcg (by omega)];rfl
 ·simp only[nlt (Nat.le_refl l.length),cond_false,xbd]
 ·simp only[zcg (l:=l.filter (fun x=>decide (x<c))) (d:=c) (by omega),cond_true]
  refine zad (fun i=>(l,c,l.filter (fun x=>decide (x<c))++[c]++(l.take i).filter (fun x=>decide (c<x)),(i:Int))) l.length (by simp) (fun i hi=>?_) (b:=l.filter (fun x=>decide (x<c))++[c]++l.filter (fun x=>decide (c<x))) ?_ rfl
  ·have hfl:=xdv (fun x=>decide (c<x)) (l.take i)
   rw[xaq]at hfl
   rw[zby _ l hi]
   simp only[dlt hi,d0le,xac,cond_true,tn,zae,zau (show i<9223372036854775807 by omega)]
   cases decide (c<l.getD i 0)
   ·simp
   ·rw[cond_true,zcg (by simp;omega),if_pos rfl,←xbz];rfl
  ·simp only[nlt (Nat.le_refl l.length),cond_false,xbd]
theorem selI_put(p:Nat→Bool){i:Nat}:∀{n:Nat},i<n→selI (fun j=>p j&&decide ((j:Int)<(i:Int))) n++[(i:Int)]++selI (fun j=>p j&&decide ((i:Int)<(j:Int))) n=selI (fun j=>p j||decide (j=i)) n
 | 0,h=>by omega
 |n+1,h=>by
  rw[zct,zct,zct (fun j=>p j||decide (j=i))]
  by_cases hin:i=n
  ·subst hin
   rw[decide_eq_false (show ¬(i:Int)<(i:Int) by omega),xeo,decide_eq_true (rfl:i=i),Bool.or_true]
   have e1:selI (fun j=>p j&&decide ((j:Int)<(i:Int))) i=selI p i:=zbk fun j hj=>by rw[decide_eq_true (by omega),xgp]
   have e2:selI (fun j=>p j&&decide ((i:Int)<(j:Int))) i=[]:=by
    have:selI (fun j=>p j&&decide ((i:Int)<(j:Int))) i=selI (fun _=>false) i:=zbk fun j hj=>by rw[decide_eq_false (by omega),xeo]
    rw[this]
    have hl:(selI (fun _=>false) i).length=0:=by rw[zay];unfold cntN;exact zfm _
    exact xcy.1 hl
   have e3:selI (fun j=>p j||decide (j=i)) i=selI p i:=zbk fun j hj=>by rw[decide_eq_false (by omega),xau]
   rw[e1,e2,e3]
   simp
  ·have ih:=selI_put p (i:=i) (n:=n) (by omega)
   rw[decide_eq_false (show ¬(n:Int)<(i:Int) by omega),xeo,decide_eq_true (show(i:Int)<(n:Int) by omega),xgp,decide_eq_false (fun e=>hin e.symm),xau,←ih]
   simp
theorem d81_sel(p:Nat→Bool){i n:Nat}(hi:i<n)(hn:n≤1000):d81 (selI p n) (i:Int)=some (selI (fun j=>p j||decide (j=i)) n):=by
 rw[d81_eq _ (by rw[zay];have:=zbu p n;omega),zge,zge,selI_put p hi]
theorem d84_eq(st:Nat→Nat){n:Nat}(hn:n≤1000)(x:Nat):d84 (lst (fun i=>(st i:Int)) n) (x:Int)=some ((cntN (fun i=>decide (st i=x)) n:Nat):Int):=by
 unfold d84
 refine zad (fun i=>(lst (fun i=>(st i:Int)) n,(x:Int),((cntN (fun i=>decide (st i=x)) i:Nat):Int),(i:Int))) n rfl (fun i hi=>?_) (b:=((cntN (fun i=>decide (st i=x)) n:Nat):Int)) ?_ rfl
 ·have hc:=zbu (fun i=>decide (st i=x)) i
  have hs:cntN (fun i=>decide (st i=x)) (i+1)=cntN (fun i=>decide (st i=x)) i+(if decide (st i=x)then 1 else 0):=rfl
  rw[hs]
  simp only[zak,dlt hi,d0le,xac,cond_true,tn,zam _ hi,zae,zgn,zau (show i<9223372036854775807 by omega)]
  cases decide (st i=x)
  ·simp
  ·rw[cond_true,zau (by omega)];rfl
 ·simp only[zak,nlt (Nat.le_refl n),cond_false]
theorem d85_eq(p:Nat→Bool)(st:Nat→Nat){n:Nat}(hn:n≤7):∃z,d85 (selI p n) (lst (fun i=>(st i:Int)) n)=some (selI (fun i=>p i||decide (st i=0)) n,z):=by
 refine⟨lst (fun i=>((if st i=0 then 1 else st i:Nat):Int)) n,?_⟩
 unfold d85
 refine zad (fun i=>(selI (fun j=>p j||(decide (st j=0)&&decide (j<i))) n,lst (fun j=>((if st j=0∧j<i then 1 else st j:Nat):Int)) n,(i:Int))) n ?_ (fun i hi=>?_) (b:=(selI (fun i=>p i||decide (st i=0)) n,lst (fun i=>((if st i=0 then 1 else st i:Nat):Int)) n)) ?_ rfl
 ·have e1:selI (fun j=>p j||(decide (st j=0)&&decide (j<0))) n=selI p n:=zbk fun j _=>by simp
  have e2:lst (fun j=>((if st j=0∧j<0 then 1 else st j:Nat):Int)) n=lst (fun i=>(st i:Int)) n:=zao fun j _=>by rw[if_neg (by omega)]
  rw[e1,e2];rfl
 ·have hg:(if st i=0∧i<i then 1 else st i:Nat)=st i:=if_neg (by omega)
  simp only[zak,dlt hi,d0le,xac,cond_true,tn,zam _ hi,zae,hg,zau (show i<9223372036854775807 by omega)]
  by_cases h0:st i=0
  ·rw[decide_eq_true (show((st i:Nat):Int)=0 by omega),cond_true,d81_sel _ hi (by omega),Option.bind_some,zce]
   have e1:selI (fun j=>(p j||(decide (st j=0)&&decide (j<i)))||decide (j=i)) n=selI (fun j=>p j||(decide (st j=0)&&decide (j<i+1))) n:=zbk fun j _=>by
    by_cases hji:j=i
    ·subst hji;simp[h0]
    ·have:decide (j<i+1)=decide (j<i):=xca.2 (by omega)
     rw[decide_eq_false hji,xau,this]
   have e2:lst (upd (fun j=>((if st j=0∧j<i then 1 else st j:Nat):Int)) i 1) n=lst (fun j=>((if st j=0∧j<i+1 then 1 else st j:Nat):Int)) n:=zao fun j _=>by
    unfold upd
    by_cases hji:j=i
    ·subst hji;rw[if_pos rfl,if_pos ⟨h0,by omega⟩];rfl
    ·rw[if_neg hji]
     show((if st j=0∧j<i then 1 else st j:Nat):Int)=_
     by_cases h1:st j=0∧j<i
     ·rw[if_pos h1,if_pos ⟨h1.1,by omega⟩]
     ·rw[if_neg h1,if_neg (by omega)]
   rw[e1,e2]
  ·rw[decide_eq_false (show ¬((st i:Nat):Int)=0 by omega),cond_false]
   have e1:selI (fun j=>p j||(decide (st j=0)&&decide (j<i))) n=selI (fun j=>p j||(decide (st j=0)&&decide (j<i+1))) n:=zbk fun j _=>by
    by_cases hji:j=i
    ·subst hji;simp[h0]
    ·have:decide (j<i+1)=decide (j<i):=xca.2 (by omega)
     rw[this]
   have e2:lst (fun j=>((if st j=0∧j<i then 1 else st j:Nat):Int)) n=lst (fun j=>((if st j=0∧j<i+1 then 1 else st j:Nat):Int)) n:=zao fun j _=>by
    by_cases hji:j=i
    ·subst hji;rw[if_neg (by omega),if_neg (by omega)]
    ·by_cases h1:st j=0∧j<i
     ·rw[if_pos h1,if_pos ⟨h1.1,by omega⟩]
     ·rw[if_neg h1,if_neg (by omega)]
   rw[e1,e2]
 ·simp only[zak,nlt (Nat.le_refl n),cond_false]
  have e1:selI (fun j=>p j||(decide (st j=0)&&decide (j<n))) n=selI (fun i=>p i||decide (st i=0)) n:=zbk fun j hj=>by rw[decide_eq_true hj,xgp]
  have e2:lst (fun j=>((if st j=0∧j<n then 1 else st j:Nat):Int)) n=lst (fun i=>((if st i=0 then 1 else st i:Nat):Int)) n:=zao fun j hj=>by
   by_cases h1:st j=0
   ·rw[if_pos ⟨h1,hj⟩,if_pos h1]
   ·rw[if_neg fun h=>h1 h.1,if_neg h1]
  rw[e1,e2]
theorem d86_eq{m s d n:Int}{w0:List Int}{rs:List Rd}(hr:∀r∈rs,r.el.length≤7)(hl:rs.length≤1000):d86 (m,s,d,n,rs.map rdT,w0)=some (rs.flatMap Rd.el):=by
 unfold d86
 refine zad (fun i=>((m,s,d,n,rs.map rdT,w0),(rs.take i).flatMap Rd.el,(i:Int))) rs.length rfl (fun i hi=>?_) (b:=rs.flatMap Rd.el) ?_ rfl
 ·have hg:∀d,(rs.map rdT).getD i d=rdT (rs.getD i ⟨[],[],0,0,0,[],[],[]⟩):=fun d=>by
   rw[xab,xbm,xad hi,xab,xad hi];rfl
  have h1:=zqe (rs:=rs.take i) fun x hx=>hr x (xbv hx)
  rw[xaq]at h1
  have h2:=hr _ (zbr (l:=rs) (d:=⟨[],[],0,0,0,[],[],[]⟩) hi)
  have e:(rdT (rs.getD i ⟨[],[],0,0,0,[],[],[]⟩)).2.2.2.2.2.1=(rs.getD i ⟨[],[],0,0,0,[],[],[]⟩).el:=rfl
  rw[zbb rs ⟨[],[],0,0,0,[],[],[]⟩ hi,List.flatMap_append,xfg,List.flatMap_nil,xcf]
  simp only[xbe,dlt hi,d0le,xac,cond_true,tn,hg,e,zpz (show((rs.take i).flatMap Rd.el).length+(rs.getD i ⟨[],[],0,0,0,[],[],[]⟩).el.length≤4294967296 by omega),zau (show i<9223372036854775807 by omega)]
 ·simp only[xbe,nlt (Nat.le_refl rs.length),cond_false,xbd]
theorem d89_eq{rs:List Rd}(hl:rs.length≤1000):d89 (rs.map rdT)=some ((rs.map Rd.votes).map (List.map rr),rs.map rdT):=by
 unfold d89
 refine zad (fun i=>(rs.map rdT,((rs.take i).map Rd.votes).map (List.map rr),(i:Int))) rs.length rfl (fun i hi=>?_) (b:=(rs.map rdT,(rs.map Rd.votes).map (List.map rr))) ?_ rfl
 ·have hg:∀d,(rs.map rdT).getD i d=rdT (rs.getD i ⟨[],[],0,0,0,[],[],[]⟩):=fun d=>by
   rw[xab,xbm,xad hi,xab,xad hi];rfl
  have e:(rdT (rs.getD i ⟨[],[],0,0,0,[],[],[]⟩)).1=(rs.getD i ⟨[],[],0,0,0,[],[],[]⟩).votes.map rr:=rfl
  rw[zbb rs ⟨[],[],0,0,0,[],[],[]⟩ hi,xcp,xcp]
  simp only[xbe,dlt hi,d0le,xac,cond_true,tn,hg,e,zcg (l:=((rs.take i).map Rd.votes).map (List.map rr)) (d:=(rs.getD i ⟨[],[],0,0,0,[],[],[]⟩).votes.map rr) (by simp;omega),zau (show i<9223372036854775807 by omega),xcx,xez]
  rw[←xbe (f:=Rd.votes),←xbe (f:=List.map rr)]
  have:=zcg (l:=((rs.take i).map Rd.votes).map (List.map rr)) (d:=(rs.getD i ⟨[],[],0,0,0,[],[],[]⟩).votes.map rr) (by simp;omega)
  rw[this];rfl
 ·simp only[xbe,nlt (Nat.le_refl rs.length),cond_false,xbd]
variable {P:GP} {s:GS}
end Go.Proofs.YtmipjomnjkmdbaaGreat
namespace Go.Proofs.YtmipjomnjkmdbaaGreat
open Go Go.X
variable {P:GP} {s:GS}
theorem d184_eq{l:List Rat}(hl:l.length≤1000)(h:∀q∈l,Sz 268435456 (rr q)):d184 (l.map rr) (l.map rr)=some true:=by
 unfold d184
 rw[decide_eq_true rfl,xaj,cond_false]
 refine zad (fun i=>(l.map rr,l.map rr,(i:Int))) l.length rfl (fun i hi=>?_) (b:=(Sum.inl ():Unit⊕Bool)) ?_ rfl
 ·have hg:∀d,(l.map rr).getD i d=rr (l.getD i 0):=fun d=>by
   rw[xab,xbm,xad hi,xab,xad hi];rfl
  simp only[xbe,dlt hi,d0le,xac,cond_true,tn,hg,d37_rr (h _ (zbr hi)),Option.bind_some,xaz,xaj,cond_false,zau (show i<9223372036854775807 by omega)]
 ·simp only[xbe,nlt (Nat.le_refl l.length),cond_false]
structure Rd.Sm(r:Rd):Prop where
 v:r.votes.length≤1000∧∀q∈r.votes,Sz 268435456 (rr q)
 k:r.keep.length≤1000∧∀q∈r.keep,Sz 268435456 (rr q)
 q:Sz 268435456 (rr r.quota)
 e:Sz 268435456 (rr r.exh)
 s:Sz 268435456 (rr r.sur)
 l:r.el.length≤1000∧r.ex.length≤1000∧r.ti.length≤1000
theorem d151_eq{r:Rd}(h:r.Sm):d151 (rdT r) (rdT r)=some true:=by
 unfold d151 rdT
 simp only[d184_eq h.v.1 h.v.2,d184_eq h.k.1 h.k.2,d37_rr h.q,d37_rr h.e,d37_rr h.s,Option.bind_some,cond_true,xaz]
 rw[znf (by have:=h.l;omega) (by have:=h.l;omega),znf (by have:=h.l;omega) (by have:=h.l;omega),znf (by have:=h.l;omega) (by have:=h.l;omega)]
 simp
theorem d29_eq{m s d n:Int}{rs:List Rd}{w0:List Int}(h:∀r∈rs,r.Sm)(hl:rs.length≤1000)(hw:w0.length≤281474976710656):d29 (m,s,d,n,rs.map rdT,w0) (m,s,d,n,rs.map rdT,w0)=some true:=by
 unfold d29 d91
 simp only[zae,xaz,xaj,xae,cond_true,znf hw hw,Option.bind_some,cond_false]
 have e:∀X:Option Bool,X=some true→(X.bind fun r=>some r)=some true:=fun X h=>by rw[h];rfl
 refine e _ ?_
 refine zad (fun i=>((m,s,d,n,rs.map rdT,w0),(m,s,d,n,rs.map rdT,w0),(i:Int))) rs.length rfl (fun i hi=>?_) (b:=(Sum.inl ():Unit⊕Bool)) ?_ rfl
 ·have hg:∀d,(rs.map rdT).getD i d=rdT (rs.getD i ⟨[],[],0,0,0,[],[],[]⟩):=fun d=>by
   rw[xab,xbm,xad hi,xab,xad hi];rfl
  simp only[xbe,dlt hi,d0le,xac,cond_true,tn,hg,d151_eq (h _ (zbr hi)),Option.bind_some,xaj,cond_false,zau (show i<9223372036854775807 by omega)]
 ·simp only[xbe,nlt (Nat.le_refl rs.length),cond_false]
end Go.Proofs.YtmipjomnjkmdbaaGreat
namespace Go.Proofs.YtmipjomnjkmdbaaGreat
open Go Go.X
theorem zfj{α β γ:Type}{f:α→Option (α⊕β)}{k:β→Option γ}{a0:α}{b:β}{X:Option γ→Prop}(st:Nat→α)(n:Nat)(h0:st 0=a0)(hs:∀i,i<n→f (st i)=some (.inl (st (i+1))))(he:f (st n)=some (.inr b))(hk:X (k b)):X ((zaa f a0).bind k):=by
 rw[zad st n h0 hs he rfl];exact hk
abbrev TT:=Int×(Int×(Int×(Int×(List RD×List Int))))
variable {P:GP} {s:GS}
end Go.Proofs.YtmipjomnjkmdbaaGreat
namespace Go.Proofs.YtmipjomnjkmdbaaGreat
open Go Go.X
variable {P:GP} {s:GS}
theorem d19_ex{gs:List Grp}(h:GsOK gs):∃b:Bool,d19 gs=some b:=by
 have hl:=h.1
 unfold d19
 by_cases hb:∀i,i<gs.length→decide (12<((gs.getD i ([],0)).1.length:Int))=false
 ·refine⟨decide ((gs.length:Int)≤60),?_⟩
  refine zad (b:=.inl gs) (fun i=>(gs,(i:Int))) gs.length rfl (fun i hi=>?_) ?_ rfl
  ·simp only[dlt hi,d0le,zau (show i<9223372036854775807 by omega),cond_true,xac,tn,hb i hi,cond_false]
  ·simp only[nlt (Nat.le_refl gs.length),cond_false]
 ·refine⟨false,?_⟩
  refine zeq (fun i=>(gs,(i:Int))) (fun i=>decide (12<((gs.getD i ([],0)).1.length:Int))) gs.length (fun _=>.inr false) (.inl gs) rfl (fun i hi=>?_) ?_ (fun i hi hp hj=>rfl) (fun hall=>absurd hall hb)
  ·simp only[dlt hi,d0le,zau (show i<9223372036854775807 by omega),cond_true,xac,tn]
   cases decide (12<((gs.getD i ([],0)).1.length:Int))<;>rfl
  ·simp only[nlt (Nat.le_refl gs.length),cond_false]
end Go.Proofs.YtmipjomnjkmdbaaGreat
namespace Go.Proofs.YtmipjomnjkmdbaaGreat
open Go Go.X
theorem zqq{a b:Nat}(ha:a≤4611686018427387904)(hb:b≤4611686018427387904)(hb0:0<b):d116 (a:Int) (b:Int)=some (rr (frac a b)):=by
 unfold d116
 rw[d65_eq ha hb hb0];rfl
theorem d115_eq{v:Nat→Nat}{n one:Nat}(hn:n≤1000)(h1:0<one)(h6:one≤1000000)(hv:∀i,i<n→v i≤4611686018427387904):d115 (lst (fun i=>(v i:Int)) n) (one:Int)=some (lst (fun i=>rr (frac (v i) one)) n):=by
 unfold d115
 refine zad (fun i=>(lst (fun i=>(v i:Int)) n,(one:Int),lst (fun i=>rr (frac (v i) one)) i,(i:Int))) n rfl (fun i hi=>?_) (b:=lst (fun i=>rr (frac (v i) one)) n) ?_ rfl
 ·have hl:=zcg (l:=lst (fun i=>rr (frac (v i) one)) i) (d:=rr (frac (v i) one)) (by rw[zak];omega)
  simp only[zak,dlt hi,d0le,xac,cond_true,tn,zam (fun i=>(v i:Int)) hi,zqq (hv i hi) (show one≤4611686018427387904 by omega) h1,Option.bind_some]
  rw[zak]at hl
  simp only[hl,cond_true,←zlo,zau (show i<9223372036854775807 by omega)]
 ·simp only[zak,nlt (Nat.le_refl n),cond_false]
def zgt(v st:Nat→Nat):Nat→Int
 | 0=>-1
 |i+1=>if st i=0 then(if zgt v st i<0 then(v i:Int)else if(v i:Int)<zgt v st i then(v i:Int)else zgt v st i)else zgt v st i
theorem zmv(v st:Nat→Nat):∀i:Nat,(zgt v st i=-1∧∀k,k<i→st k≠0)∨(∃k,k<i∧st k=0∧zgt v st i=(v k:Int)∧∀j,j<i→st j=0→v k≤v j)
 | 0=>.inl ⟨rfl,fun k hk=>by omega⟩
 |i+1=>by
  rw[zgt]
  by_cases h0:st i=0
  ·rw[if_pos h0]
   rcases zmv v st i with⟨h1,h2⟩|⟨k,h1,h2,h3,h4⟩
   ·rw[if_pos (by omega)]
    refine .inr ⟨i,by omega,h0,rfl,fun j hj hj0=>?_⟩
    have:j=i:=by
     refine xdh fun hne=>h2 j (by omega) hj0
    rw[this];exact Nat.le_refl _
   ·rw[h3,if_neg (by omega)]
    by_cases h5:(v i:Int)<(v k:Int)
    ·rw[if_pos h5]
     refine .inr ⟨i,by omega,h0,rfl,fun j hj hj0=>?_⟩
     by_cases hji:j=i
     ·rw[hji];exact Nat.le_refl _
     ·have:=h4 j (by omega) hj0
      omega
    ·rw[if_neg h5]
     refine .inr ⟨k,by omega,h2,rfl,fun j hj hj0=>?_⟩
     by_cases hji:j=i
     ·rw[hji];omega
     ·exact h4 j (by omega) hj0
  ·rw[if_neg h0]
   rcases zmv v st i with⟨h1,h2⟩|⟨k,h1,h2,h3,h4⟩
   ·refine .inl ⟨h1,fun k hk=>?_⟩
    by_cases hki:k=i
    ·rw[hki];exact h0
    ·exact h2 k (by omega)
   ·refine .inr ⟨k,by omega,h2,h3,fun j hj hj0=>?_⟩
    by_cases hji:j=i
    ·rw[hji]at hj0;exact absurd hj0 h0
    ·exact h4 j (by omega) hj0
theorem d118_eq{v st:Nat→Nat}{n sur:Nat}(hn:n≤1000)(hv:∀i,i<n→v i≤1000000000000)(hs:sur≤1000000000000)(h0:∃k,k<n∧st k=0) :
  d118 (lst (fun i=>(v i:Int)) n) (lst (fun i=>(st i:Int)) n) (sur:Int)=some (selI (fun i=>decide (st i=0)&&(List.range n).all fun k=>!decide (st k=0)||decide (v i≤v k+sur)) n):=by
 unfold d118
 refine zad (fun i=>(lst (fun i=>(v i:Int)) n,lst (fun i=>(st i:Int)) n,(sur:Int),zgt v st i,(i:Int))) n rfl (fun i hi=>?_) (b:=(lst (fun i=>(v i:Int)) n,lst (fun i=>(st i:Int)) n,(sur:Int),zgt v st n)) ?_ ?_
 ·simp only[zae,zak,dlt hi,d0le,xac,cond_true,tn,zam (fun i=>(v i:Int)) hi,zam (fun i=>(st i:Int)) hi,zau (show i<9223372036854775807 by omega),zgt]
  by_cases h0:st i=0
  ·rw[decide_eq_true (show((st i:Nat):Int)=0 by omega),cond_true,if_pos h0]
   by_cases h1:zgt v st i<0
   ·rw[decide_eq_true h1,xaj,cond_false,if_pos h1]
   ·rw[decide_eq_false h1,xae,cond_true,if_neg h1]
    by_cases h2:(v i:Int)<zgt v st i
    ·rw[decide_eq_true h2,cond_true,if_pos h2]
    ·rw[decide_eq_false h2,cond_false,if_neg h2]
  ·rw[decide_eq_false (show ¬((st i:Nat):Int)=0 by omega),cond_false,cond_false,if_neg h0]
 ·simp only[zak,nlt (Nat.le_refl n),cond_false]
 obtain⟨k0,hk0,hk1⟩:=h0
 rcases zmv v st n with⟨_,h2⟩|⟨k,h1,h2,h3,h4⟩
 ·exact absurd hk1 (h2 k0 hk0)
 have hvk:=hv k h1
 have hw:w ((v k:Int)+(sur:Int))=((v k+sur:Nat):Int):=wadd (by omega)
 have hp:∀i,i<n→(decide (st i=0)&&decide (v i≤v k+sur))=(decide (st i=0)&&(List.range n).all fun k=>!decide (st k=0)||decide (v i≤v k+sur)):=fun i hi=>by
  congr 1
  rw[xfd,xaf,xcd]
  constructor
  ·intro h j hj
   by_cases hj0:st j=0
   ·have:=h4 j (List.mem_range.1 hj) hj0
    rw[decide_eq_true (show v i≤v j+sur by omega),Bool.or_true]
   ·rw[decide_eq_false hj0];rfl
  ·intro h
   have:=h k (List.mem_range.2 h1)
   rw[decide_eq_true h2,xaj,xat,xaf]at this
   exact this
 simp only[h3]
 refine zad (fun i=>(lst (fun i=>(v i:Int)) n,lst (fun i=>(st i:Int)) n,(sur:Int),(v k:Int),selI (fun i=>decide (st i=0)&&decide (v i≤v k+sur)) i,(i:Int))) n rfl (fun i hi=>?_) (b:=selI (fun i=>decide (st i=0)&&(List.range n).all fun k=>!decide (st k=0)||decide (v i≤v k+sur)) n) ?_ rfl
 ·have hl:=zcg (l:=selI (fun i=>decide (st i=0)&&decide (v i≤v k+sur)) i) (d:=(i:Int)) (by rw[zay];have:=zbu (fun i=>decide (st i=0)&&decide (v i≤v k+sur)) i;omega)
  simp only[zae,zak,dlt hi,d0le,xac,cond_true,tn,zam (fun i=>(v i:Int)) hi,zam (fun i=>(st i:Int)) hi,zau (show i<9223372036854775807 by omega),zct,hw]
  by_cases h0:st i=0
  ·rw[decide_eq_true (show((st i:Nat):Int)=0 by omega),cond_true,decide_eq_true h0,xap]
   by_cases h5:v i≤v k+sur
   ·rw[decide_eq_true (show(v i:Int)≤((v k+sur:Nat):Int) by omega),cond_true,hl,cond_true,decide_eq_true h5,if_pos rfl]
   ·rw[decide_eq_false (show ¬(v i:Int)≤((v k+sur:Nat):Int) by omega),cond_false,decide_eq_false h5,if_neg (by simp),xcf]
  ·rw[decide_eq_false (show ¬((st i:Nat):Int)=0 by omega),cond_false,cond_false,decide_eq_false h0,xar,if_neg (by simp),xcf]
 ·simp only[zak,nlt (Nat.le_refl n),cond_false]
  rw[zbk hp]
end Go.Proofs.YtmipjomnjkmdbaaGreat
namespace Go.Proofs.YtmipjomnjkmdbaaGreat
open Go Go.X
def zdn(p:Nat→Bool)(v:Nat→Nat)(lots:List Int):Nat→Int
 | 0=>-1
 |m+1=>if p (lots.getD m 0).toNat&&(decide (zdn p v lots m<0)||decide (v (zdn p v lots m).toNat<v (lots.getD m 0).toNat))then lots.getD m 0 else zdn p v lots m
theorem zqw{p:Nat→Bool}{v:Nat→Nat}{lots:List Int}(h0:∀j,j<lots.length→0≤lots.getD j 0):∀m,m≤lots.length→(zdn p v lots m=-1∧∀j,j<m→p (lots.getD j 0).toNat=false) ∨
  (∃j,j<m∧zdn p v lots m=lots.getD j 0∧p (lots.getD j 0).toNat=true∧∀k,k<m→p (lots.getD k 0).toNat=true→k≠j→v (lots.getD k 0).toNat<v (lots.getD j 0).toNat∨(v (lots.getD k 0).toNat=v (lots.getD j 0).toNat∧j<k))
 | 0,_=>.inl ⟨rfl,fun j hj=>by omega⟩
 |m+1,hm=>by
  rw[zdn]
  rcases zqw (p:=p) (v:=v) h0 m (by omega)with⟨h1,h2⟩|⟨j,h1,h2,h3,h4⟩
  ·rw[h1,decide_eq_true (show(-1:Int)<0 by omega),xba,xgp]
   by_cases hp:p (lots.getD m 0).toNat=true
   ·rw[if_pos hp]
    refine .inr ⟨m,by omega,rfl,hp,fun k hk hpk hne=>?_⟩
    rw[h2 k (by omega)]at hpk
    cases hpk
   ·rw[if_neg hp]
    refine .inl ⟨rfl,fun j hj=>?_⟩
    by_cases hj':j=m
    ·subst hj';exact Bool.eq_false_iff.2 hp
    ·exact h2 j (by omega)
  ·have hj0:=h0 j (by omega)
   rw[h2,decide_eq_false (show ¬lots.getD j 0<0 by omega),xat]
   by_cases hp:p (lots.getD m 0).toNat=true
   ·by_cases hv:v (lots.getD j 0).toNat<v (lots.getD m 0).toNat
    ·rw[hp,decide_eq_true hv,if_pos (by rfl)]
     refine .inr ⟨m,by omega,rfl,hp,fun k hk hpk hne=>.inl ?_⟩
     by_cases hkj:k=j
     ·subst hkj;exact hv
     ·have:=h4 k (by omega) hpk hkj
      omega
    ·rw[hp,decide_eq_false hv,if_neg (by simp)]
     refine .inr ⟨j,by omega,rfl,h3,fun k hk hpk hne=>?_⟩
     by_cases hkm:k=m
     ·subst hkm;omega
     ·exact h4 k (by omega) hpk hne
   ·rw[Bool.eq_false_iff.2 hp,xar,if_neg (by simp)]
    refine .inr ⟨j,by omega,rfl,h3,fun k hk hpk hne=>?_⟩
    by_cases hkm:k=m
    ·subst hkm;exact absurd hpk hp
    ·exact h4 k (by omega) hpk hne
theorem lots_at{n:Nat}{lots:List Int}(hl:LotsOK n lots){i:Nat}(hi:i<n):∃k,k<lots.length∧lots.getD k 0=(i:Int)∧zbm lots (i:Int)=k:=by
 have hm:=hl.mem hi
 have h1:lots.idxOf (i:Int)<lots.length:=xfa hm
 exact⟨_,h1,by rw[zbh lots 0 h1];exact xfx h1,rfl⟩
theorem lots_inj{n:Nat}{lots:List Int}(hl:LotsOK n lots){j k:Nat}(hj:j<lots.length)(hk:k<lots.length)(h:lots.getD j 0=lots.getD k 0):j=k:=by
 rw[zbh lots 0 hj,zbh lots 0 hk]at h
 have hpw:=xcu.1 (List.nodup_iff_pairwise_ne.1 hl.nodup)
 rcases Nat.lt_trichotomy j k with hlt|heq|hgt
 ·exact absurd h (hpw _ _ hj hk hlt)
 ·exact heq
 ·exact absurd h.symm (hpw _ _ hk hj hgt)
theorem best_all{p:Nat→Bool}{v:Nat→Nat}{n:Nat}{lots:List Int}(hl:LotsOK n lots):(zdn p v lots lots.length=-1∧∀i,i<n→p i=false)∨(∃x:Nat,x<n∧zdn p v lots lots.length=(x:Int)∧p x=true∧∀i,i<n→p i=true→i≠x→zdl v lots x i=true):=by
 have h0:∀j,j<lots.length→0≤lots.getD j 0:=fun j hj=>by
  obtain⟨i,e,_⟩:=hl.within _ (zbg hj)
  omega
 rcases zqw (p:=p) (v:=v) h0 lots.length (Nat.le_refl _)with⟨h1,h2⟩|⟨j,h1,h2,h3,h4⟩
 ·refine .inl ⟨h1,fun i hi=>?_⟩
  obtain⟨k,k1,k2,_⟩:=lots_at hl hi
  have:=h2 k k1
  rw[k2]at this
  exact this
 ·obtain⟨x,hx,hxn⟩:=hl.within _ (zbg h1)
  rw[hx]at h2 h3
  refine .inr ⟨x,hxn,h2,h3,fun i hi hp hne=>?_⟩
  obtain⟨k,k1,k2,k3⟩:=lots_at hl hi
  obtain⟨k',k1',k2',k3'⟩:=lots_at hl hxn
  have hjk:j=k':=lots_inj hl h1 k1' (by rw[hx,k2'])
  have:=h4 k k1 (by rw[k2];exact hp) (fun e=>by rw[e,hx]at k2;exact hne (xdi.1 k2).symm)
  rw[k2,hx,xak,xak]at this
  unfold zdl
  rw[xcw,xag,xaf,xaf,xaf,k3,k3',←hjk]
  omega
theorem zpf{n:Nat}{p:Nat→Bool}{L:List Int}(hL:L.Perm (selI p n))(j:Nat):(L.take j).Perm (selI (fun i=>decide ((i:Int)∈L.take j)) n):=by
 have hnd:L.Nodup:=hL.nodup_iff.2 (zcm _ _)
 refine(List.perm_ext_iff_of_nodup (hnd.sublist (xge _ _)) (zcm _ _)).2 fun c=>?_
 constructor
 ·intro h
  obtain⟨i,rfl,hi,_⟩:=zaz.1 (hL.mem_iff.1 (xbv h))
  exact zaz.2 ⟨i,rfl,hi,decide_eq_true h⟩
 ·intro h
  obtain⟨i,rfl,hi,h2⟩:=zaz.1 h
  exact of_decide_eq_true h2
theorem zgw{n:Nat}{p:Nat→Bool}{L:List Int}(hL:L.Perm (selI p n)){j:Nat}(hj:j≤L.length):(selI (fun i=>decide ((i:Int)∈L.take j)) n).length=j:=by
 rw[←(zpf hL j).length_eq,xaq]
 omega
set_option maxHeartbeats 1000000 in
theorem d117_eq{v st:Nat→Nat}{n quo lim:Nat}{lots L:List Int}(hl:LotsOK n lots)(hlim:lim≤1000)(hL:L.Perm (selI (fun i=>decide (st i=0)&&decide (quo≤v i)) n))(hs:L.Pairwise fun a b=>zkr v lots a b=true) :
  d117 (lst (fun i=>(v i:Int)) n) (lst (fun i=>(st i:Int)) n) lots (quo:Int) (lim:Int)=some (selI (fun i=>decide ((i:Int)∈L.take lim)) n,lst (fun i=>((if(i:Int)∈L.take lim then 1 else st i:Nat):Int)) n):=by
 have hn7:=hl.n7
 have hll:=hl.len
 have hnd:L.Nodup:=hL.nodup_iff.2 (zcm _ _)
 let stj:Nat→Nat→Nat:=fun j i=>if(i:Int)∈L.take j then 1 else st i
 let pj:Nat→Nat→Bool:=fun j i=>decide (stj j i=0)&&decide (quo≤v i)
 have hpj:∀j i,i<n→(pj j i=true↔(i:Int)∈L∧(i:Int)∉L.take j):=fun j i hi=>by
  show(decide (stj j i=0)&&decide (quo≤v i))=true↔_
  rw[hL.mem_iff,zaz]
  show(decide ((if(i:Int)∈L.take j then 1 else st i)=0)&&decide (quo≤v i))=true↔_
  constructor
  ·intro h
   by_cases hm:(i:Int)∈L.take j
   ·rw[if_pos hm]at h;simp at h
   ·rw[if_neg hm]at h
    exact⟨⟨i,rfl,hi,h⟩,hm⟩
  ·rintro⟨⟨k,e,hk,h⟩,hm⟩
   obtain rfl:=xdi.1 e
   rw[if_neg hm];exact h
 have hin:∀j,j<L.length→∃x:Nat,x<n∧L.getD j 0=(x:Int)∧zdn (pj j) v lots n=(x:Int):=fun j hj=>by
  obtain⟨x,hx,hxn,_⟩:=zaz.1 (hL.mem_iff.1 (zbg hj))
  have hxL:(x:Int)∈L:=by rw[←hx];exact zbg hj
  have hxj:(x:Int)∉L.take j:=fun hm=>by
   obtain⟨k,hk,e⟩:=xbu hm
   rw[xei]at e
   rw[xaq]at hk
   rw[zbh L 0 hj]at hx
   have hpw:=xcu.1 (List.nodup_iff_pairwise_ne.1 hnd)
   exact hpw k j (by omega) hj (by omega) (by rw[e,hx])
  have hpx:pj j x=true:=(hpj j x hxn).2 ⟨hxL,hxj⟩
  refine⟨x,hxn,hx,?_⟩
  rcases best_all (p:=pj j) (v:=v) hl with⟨h1,h2⟩|⟨y,h1,h2,h3,h4⟩
  ·rw[h2 x hxn]at hpx;cases hpx
  ·rw[hll]at h2
   rw[h2]
   refine xbh _ (xdh fun hne=>?_)
   have hb:=h4 x hxn hpx fun e=>hne e.symm
   obtain⟨hyL,hyj⟩:=(hpj j y h1).1 h3
   obtain⟨k,hk,e⟩:=xbu hyL
   have hkj:j<k:=by
    rcases Nat.lt_trichotomy k j with hlt|heq|hgt
    ·exact absurd (by rw[xfk];exact⟨k,by omega,e⟩) hyj
    ·subst heq
     rw[zbh L 0 hj,e]at hx
     exact absurd (xdi.1 hx) hne
    ·exact hgt
   have hbt:=xcu.1 hs j k hj hk hkj
   rw[zbh L 0 hj]at hx
   rw[hx,e]at hbt
   have:=znl hbt
   rw[xak,xak]at this
   rw[this]at hb
   cases hb
 have hout:zdn (pj L.length) v lots n=-1:=by
  rcases best_all (p:=pj L.length) (v:=v) hl with⟨h1,h2⟩|⟨y,h1,h2,h3,h4⟩
  ·rw[hll]at h1;exact h1
  ·obtain⟨k1,k2⟩:=(hpj L.length y h1).1 h3
   rw[xbd]at k2
   exact absurd k1 k2
 have hbr:∀j m,m≤n→zdn (pj j) v lots m=-1∨∃y:Nat,y<n∧zdn (pj j) v lots m=(y:Int):=fun j m hm=>by
  rcases zqw (p:=pj j) (v:=v) (lots:=lots) (fun i hi=>by obtain⟨z,e,_⟩:=hl.within _ (zbg hi);omega) m (by omega)with⟨h1,_⟩|⟨i,h1,h2,_⟩
  ·exact .inl h1
  ·obtain⟨y,hy,hyn⟩:=hl.within _ (zbg (l:=lots) (i:=i) (by omega))
   exact .inr ⟨y,hyn,by rw[h2,hy]⟩
 unfold d117
 obtain⟨k,hk⟩:∃k,k=min lim L.length:=⟨_,rfl⟩
 have htk:L.take k=L.take lim:=by
  by_cases h:lim≤L.length
  ·rw[hk,xdu h]
  ·rw[hk,Nat.min_eq_right (by omega),xbd,xan (by omega)]
 rw[←htk]
 have hLn:L.length≤n:=by
  rw[hL.length_eq,zay];exact zbu _ _
 refine zad (fun j=>(lst (fun i=>(v i:Int)) n,lst (fun i=>((stj j i:Nat):Int)) n,lots,(quo:Int),(lim:Int),selI (fun i=>decide ((i:Int)∈L.take j)) n)) k ?_ (fun j hj=>?_) (b:=if lim≤L.length then .inl (lst (fun i=>((stj k i:Nat):Int)) n,selI (fun i=>decide ((i:Int)∈L.take k)) n)else .inr (lst (fun i=>((stj k i:Nat):Int)) n,selI (fun i=>decide ((i:Int)∈L.take k)) n)) ?_ ?_
 ·have e1:selI (fun i=>decide ((i:Int)∈L.take 0)) n=[]:=xcy.1 (zgw hL (xbt _))
  have e2:lst (fun i=>((stj 0 i:Nat):Int)) n=lst (fun i=>(st i:Int)) n:=zao fun i _=>by
   show((if(i:Int)∈L.take 0 then 1 else st i:Nat):Int)=_
   rw[xct,if_neg (by simp)]
  simp only[e1,e2]
 ·obtain⟨x,hx,hxL,hbx⟩:=hin j (by omega)
  have hlen:=zgw hL (j:=j) (by omega)
  simp only[hlen,dlt (show j<lim by omega),cond_true]
  refine zad (fun m=>(lst (fun i=>(v i:Int)) n,lst (fun i=>((stj j i:Nat):Int)) n,lots,(quo:Int),(lim:Int),selI (fun i=>decide ((i:Int)∈L.take j)) n,zdn (pj j) v lots m,(m:Int))) n rfl (fun m hm=>?_) (b:=(lst (fun i=>(v i:Int)) n,lst (fun i=>((stj j i:Nat):Int)) n,lots,(quo:Int),(lim:Int),selI (fun i=>decide ((i:Int)∈L.take j)) n,(x:Int))) ?_ ?_
  ·obtain⟨c,hc,hcn⟩:=hl.within _ (zbg (l:=lots) (i:=m) (by omega))
   have hbm:=hbr j m (by omega)
   have hb:zdn (pj j) v lots (m+1)=if pj j c&&(decide (zdn (pj j) v lots m<0)||decide (v (zdn (pj j) v lots m).toNat<v c))then(c:Int)else zdn (pj j) v lots m:=by
    rw[zdn,hc,xak]
   have hpc:pj j c=(decide (stj j c=0)&&decide (quo≤v c)):=rfl
   generalize zdn (pj j) v lots (m+1)=b2 at hb ⊢
   generalize zdn (pj j) v lots m=b1 at hb hbm ⊢
   generalize stj j=sj at hpc hb ⊢
   generalize pj j c=pc at hpc hb
   subst hpc
   simp only[zae,dlt (show m<lots.length by omega),d0le,xac,cond_true,tn,hc,zak,dlt hcn,zam (fun i=>(v i:Int)) hcn,zam (fun i=>((sj i:Nat):Int)) hcn,zau (show m<9223372036854775807 by omega)]
   by_cases c1:sj c=0
   ·rw[decide_eq_true (show((sj c:Nat):Int)=0 by omega),cond_true]
    by_cases c2:quo≤v c
    ·rw[decide_eq_true c1,decide_eq_true c2,xap,xap]at hb
     rw[decide_eq_true (show(quo:Int)≤(v c:Int) by omega),cond_true]
     rcases hbm with hb1|⟨y,hy,hb1⟩
     ·rw[hb1]at hb ⊢
      have hb':b2=(c:Int):=hb
      rw[hb'];rfl
     ·subst hb1
      rw[decide_eq_false (show ¬(y:Int)<0 by omega),xat,xak]at hb
      simp only[decide_eq_false (show ¬(y:Int)<0 by omega),xae,cond_true,d0le,dlt hy,xac,tn,zam (fun i=>(v i:Int)) hy]
      by_cases c3:v y<v c
      ·rw[decide_eq_true c3,if_pos rfl]at hb
       rw[dlt c3,cond_true,hb]
      ·rw[decide_eq_false c3,if_neg (by simp)]at hb
       rw[nlt (show v c≤v y by omega),cond_false,hb]
    ·rw[decide_eq_false c2,xeo,xar,if_neg (by simp)]at hb
     rw[decide_eq_false (show ¬(quo:Int)≤(v c:Int) by omega),cond_false,cond_false,hb]
   ·rw[decide_eq_false c1,xar,xar,if_neg (by simp)]at hb
    rw[decide_eq_false (show ¬((sj c:Nat):Int)=0 by omega),cond_false,cond_false,hb]
  ·simp only[hll,nlt (Nat.le_refl n),cond_false,hbx]
  ·have hsel:=d81_sel (fun i=>decide ((i:Int)∈L.take j)) hx (by omega)
   have hmem:∀i:Nat,((i:Int)∈L.take (j+1))↔((i:Int)∈L.take j∨i=x):=fun i=>by
    rw[zbb L 0 (show j<L.length by omega),hxL,List.mem_append,xdn]
    exact or_congr_right ⟨fun h=>xdi.1 h,fun h=>by rw[h]⟩
   have e1:selI (fun i=>decide ((i:Int)∈L.take j)||decide (i=x)) n=selI (fun i=>decide ((i:Int)∈L.take (j+1))) n:=zbk fun i _=>by
    rw[xfd,xcw,xaf,xaf,xaf,hmem i]
   have e2:lst (upd (fun i=>((stj j i:Nat):Int)) x 1) n=lst (fun i=>((stj (j+1) i:Nat):Int)) n:=zao fun i _=>by
    show upd _ x 1 i=((if(i:Int)∈L.take (j+1)then 1 else st i:Nat):Int)
    unfold upd
    by_cases h2:i=x
    ·rw[if_pos h2,if_pos ((hmem i).2 (.inr h2))];rfl
    ·rw[if_neg h2]
     show((if(i:Int)∈L.take j then 1 else st i:Nat):Int)=_
     by_cases h1:(i:Int)∈L.take j
     ·rw[if_pos h1,if_pos ((hmem i).2 (.inl h1))]
     ·rw[if_neg h1,if_neg fun h=>((hmem i).1 h).elim h1 h2]
   simp only[decide_eq_false (show ¬(x:Int)<0 by omega),cond_false,zak,d0le,dlt hx,xac,cond_true,hsel,Option.bind_some,tn,zce,e1,e2]
 ·have hlen:=zgw hL (j:=k) (by omega)
  by_cases hle:lim≤L.length
  ·have hkl:k=lim:=by omega
   simp only[hlen,if_pos hle,nlt (show lim≤k by omega),cond_false]
  have hkL:k=L.length:=by omega
  simp only[hlen,if_neg hle,dlt (show k<lim by omega),cond_true]
  refine zad (fun m=>(lst (fun i=>(v i:Int)) n,lst (fun i=>((stj k i:Nat):Int)) n,lots,(quo:Int),(lim:Int),selI (fun i=>decide ((i:Int)∈L.take k)) n,zdn (pj k) v lots m,(m:Int))) n rfl (fun m hm=>?_) (b:=(lst (fun i=>(v i:Int)) n,lst (fun i=>((stj k i:Nat):Int)) n,lots,(quo:Int),(lim:Int),selI (fun i=>decide ((i:Int)∈L.take k)) n,(-1:Int))) ?_ ?_
  ·obtain⟨c,hc,hcn⟩:=hl.within _ (zbg (l:=lots) (i:=m) (by omega))
   have hbm:=hbr k m (by omega)
   have hb:zdn (pj k) v lots (m+1)=if pj k c&&(decide (zdn (pj k) v lots m<0)||decide (v (zdn (pj k) v lots m).toNat<v c))then(c:Int)else zdn (pj k) v lots m:=by
    rw[zdn,hc,xak]
   have hpc:pj k c=(decide (stj k c=0)&&decide (quo≤v c)):=rfl
   generalize zdn (pj k) v lots (m+1)=b2 at hb ⊢
   generalize zdn (pj k) v lots m=b1 at hb hbm ⊢
   generalize stj k=sj at hpc hb ⊢
   generalize pj k c=pc at hpc hb
   subst hpc
   simp only[zae,dlt (show m<lots.length by omega),d0le,xac,cond_true,tn,hc,zak,dlt hcn,zam (fun i=>(v i:Int)) hcn,zam (fun i=>((sj i:Nat):Int)) hcn,zau (show m<9223372036854775807 by omega)]
   by_cases c1:sj c=0
   ·rw[decide_eq_true (show((sj c:Nat):Int)=0 by omega),cond_true]
    by_cases c2:quo≤v c
    ·rw[decide_eq_true c1,decide_eq_true c2,xap,xap]at hb
     rw[decide_eq_true (show(quo:Int)≤(v c:Int) by omega),cond_true]
     rcases hbm with hb1|⟨y,hy,hb1⟩
     ·rw[hb1]at hb ⊢
      have hb':b2=(c:Int):=hb
      rw[hb'];rfl
     ·subst hb1
      rw[decide_eq_false (show ¬(y:Int)<0 by omega),xat,xak]at hb
      simp only[decide_eq_false (show ¬(y:Int)<0 by omega),xae,cond_true,d0le,dlt hy,xac,tn,zam (fun i=>(v i:Int)) hy]
      by_cases c3:v y<v c
      ·rw[decide_eq_true c3,if_pos rfl]at hb
       rw[dlt c3,cond_true,hb]
      ·rw[decide_eq_false c3,if_neg (by simp)]at hb
       rw[nlt (show v c≤v y by omega),cond_false,hb]
    ·rw[decide_eq_false c2,xeo,xar,if_neg (by simp)]at hb
     rw[decide_eq_false (show ¬(quo:Int)≤(v c:Int) by omega),cond_false,cond_false,hb]
   ·rw[decide_eq_false c1,xar,xar,if_neg (by simp)]at hb
    rw[decide_eq_false (show ¬((sj c:Nat):Int)=0 by omega),cond_false,cond_false,hb]
  ·simp only[hll,nlt (Nat.le_refl n),cond_false,hkL,hout]
  ·simp only[xaz,cond_true]
   rfl
 ·by_cases h:lim≤L.length
  ·rw[if_pos h]
  ·rw[if_neg h]
end Go.Proofs.YtmipjomnjkmdbaaGreat
namespace Go.Proofs.YtmipjomnjkmdbaaGreat
open Go Go.X
abbrev BM:=(List Grp)×(List Int)×CT×TT×Int×Int×TT×(List Int)×(List Int)×Int×Int
def dst(x:Nat):Nat:=if x=2 then 3 else x
theorem zhy(x:Nat):dst x=0↔x=0:=by unfold dst;split<;>omega
theorem zgl(x:Nat):dst x=1↔x=1:=by unfold dst;split<;>omega
def befI:Option Nat→Int
 |none=>-1
 |some b=>(b:Int)
def stM(Q:MP)(c:CT)(gs:List Grp)(s:MS)(rs:List Rd):BM:=(gs,Q.P.lots,c,(0,0,0,0,[],[]),(Q.P.n:Int),(Q.one:Int),(2,(Q.P.seats:Int),c.2.2.2.2.2.1,(Q.P.n:Int),rs.map rdT,[]),lst (fun i=>((dst (s.st i):Nat):Int)) Q.P.n,lst (fun i=>(s.kp i:Int)) Q.P.n,befI s.bef,(s.since:Int))
def StepM(Q:MP)(c:CT)(gs:List Grp)(s:MS)(rs:List Rd)(z:Option (BM⊕(TT×Int))):Prop:=
 (s.fin Q=true∧z=some (.inr ((2,(Q.P.seats:Int),c.2.2.2.2.2.1,(Q.P.n:Int),(rs++[s.done Q]).map rdT,(rs++[s.done Q]).flatMap Rd.el),0))) ∨
 (s.fin Q=false∧s.cut Q=true∧z=some (.inl (stM Q c gs (s.excl Q (rs.map Rd.votes)) (rs++[s.exR Q (rs.map Rd.votes)])))) ∨
 (s.fin Q=false∧s.cut Q=false∧z=some (.inl (stM Q c gs (s.redu Q) (rs++[s.rd0 Q]))))
variable {Q:MP} {s:MS}
theorem MQ.d59{c:CT}{gs:List Grp}{d:Nat}(h:MQ Q c gs d)(hI:MI Q s):d59 (d:Int) (lst (fun i=>(s.kp i:Int)) Q.P.n) gs=some (lst (fun i=>((s.v Q i:Nat):Int)) Q.P.n,((s.rest Q:Nat):Int),true):=by
 obtain⟨lots,hl⟩:=h.P
 obtain⟨N,hp⟩:=h.pile
 have:=d59_ok h.ok.P.n1 h.ok.P.n7 h.d1 h.d6 hp c lots (kp:=s.kp) (by rw[←h.one];exact hI.kp1)
 rw[hl,←h.one]at this
 exact this
theorem reach_doc(hQ:Q.OK)(hI:MI Q s):d117 (lst (fun i=>((s.v Q i:Nat):Int)) Q.P.n) (lst (fun i=>((dst (s.st i):Nat):Int)) Q.P.n) Q.P.lots ((s.quo Q:Nat):Int) ((Q.P.seats-s.fl Q:Nat):Int)=some (selI (s.el Q) Q.P.n,lst (fun i=>((dst (s.st1 Q i):Nat):Int)) Q.P.n):=by
 obtain⟨L,hL,hs⟩:=zkx (s:=s) hQ
 have hre:selI (s.reach Q) Q.P.n=selI (fun i=>decide (dst (s.st i)=0)&&decide (s.quo Q≤s.v Q i)) Q.P.n:=zbk fun i _=>by
  unfold MS.reach
  rw[xca.2 (zhy (s.st i))]
 have hs5:=hQ.P.seats5
 rw[d117_eq (v:=s.v Q) (st:=fun i=>dst (s.st i)) (zog hQ.P) (by omega) (by rw[←hre];exact hL) hs]
 have e1:selI (fun i=>decide ((i:Int)∈L.take (Q.P.seats-s.fl Q))) Q.P.n=selI (s.el Q) Q.P.n:=zbk fun i hi=>by
  rw[xfd,xaf]
  exact zql hQ hL hs hi
 have e2:lst (fun i=>((if(i:Int)∈L.take (Q.P.seats-s.fl Q)then 1 else dst (s.st i):Nat):Int)) Q.P.n=lst (fun i=>((dst (s.st1 Q i):Nat):Int)) Q.P.n:=zao fun i hi=>by
  have h:=zql hQ hL hs hi
  unfold MS.st1
  by_cases he:s.el Q i=true
  ·rw[if_pos (h.2 he),if_pos he];rfl
  ·rw[if_neg fun hm=>he (h.1 hm),if_neg he]
 rw[e1,e2]
theorem d84_dst(st:Nat→Nat){n:Nat}(hn:n≤1000):d84 (lst (fun i=>((dst (st i):Nat):Int)) n) 1=some ((cntN (fun i=>decide (st i=1)) n:Nat):Int)∧d84 (lst (fun i=>((dst (st i):Nat):Int)) n) 0=some ((cntN (fun i=>decide (st i=0)) n:Nat):Int):=by
 have h1:=d84_eq (fun i=>dst (st i)) hn 1
 have h0:=d84_eq (fun i=>dst (st i)) hn 0
 rw[zhz (q:=fun i=>decide (st i=1)) fun i _=>xca.2 (zgl (st i))]at h1
 rw[zhz (q:=fun i=>decide (st i=0)) fun i _=>xca.2 (zhy (st i))]at h0
 exact⟨h1,h0⟩
def surU(Q:MP)(s:MS)(m:Nat):Nat:=sumN (fun i=>if s.st1 Q i=1 then s.v Q i-s.quo Q else 0) m
set_option maxHeartbeats 8000000 in
theorem d57_eq{c:CT}{gs:List Grp}{lots:List Int}(hg:GsOK gs)(hl:lots.length≤281474976710656):d57 c gs lots=some (if fitE 2 c gs lots=0 then(trM c (mqOf c gs lots),0)else((0,0,0,0,[],[]),fitE 2 c gs lots)):=by
 unfold d57
 rw[d23_eq 2 c hg hl,Option.bind_some]
 by_cases hfit:¬fitE 2 c gs lots=0
 ·rw[if_neg hfit,decide_eq_false hfit];rfl
 have hfit:=xfh.1 hfit
 rw[if_pos hfit,decide_eq_true hfit,xaj,cond_false]
 have hQ:=mqOf_ok hfit
 have hlo:(mqOf c gs lots).P.lots=lots:=rfl
 have hdig:=hQ.dig
 have hone:=hQ.one
 generalize hd:c.2.2.2.2.2.1.toNat=d at hQ hdig hone
 generalize mqOf c gs lots=Q at hQ hlo hone ⊢
 subst hlo
 have hn:=hQ.n
 have hok:=hQ.ok
 have hn7:=hok.P.n7
 have hs5:=hok.P.seats5
 have hd6:=hQ.d6
 have ho1:=hok.one1
 have ho6:=hok.one6
 rw[hdig,d114_eq (by omega),Option.bind_some,←hone,hn]
 simp only[xaz,d0le,zbo (n:=Q.P.n) (by omega),xac,cond_true,tn,hQ.seats]
 refine zad (fun i=>(gs,Q.P.lots,c,(0,0,0,0,[],[]),(Q.P.n:Int),(Q.one:Int),(2,(Q.P.seats:Int),(d:Int),(Q.P.n:Int),[],[]),List.replicate Q.P.n 0,lst (fun j=>((if j<i then Q.one else 0:Nat):Int)) Q.P.n,(i:Int))) Q.P.n ?_ (fun i hi=>?_) (b:=(gs,Q.P.lots,c,(0,0,0,0,[],[]),(Q.P.n:Int),(Q.one:Int),(2,(Q.P.seats:Int),(d:Int),(Q.P.n:Int),[],[]),List.replicate Q.P.n 0,lst (fun j=>(Q.s0.kp j:Int)) Q.P.n)) ?_ ?_
 ·rw[zkf]
  have e:lst (fun j=>((if j<0 then Q.one else 0:Nat):Int)) Q.P.n=lst (fun _=>(0:Int)) Q.P.n:=zao fun j _=>by rw[if_neg (by omega)];rfl
  rw[e];rfl
 ·have e:lst (upd (fun j=>((if j<i then Q.one else 0:Nat):Int)) i (Q.one:Int)) Q.P.n=lst (fun j=>((if j<i+1 then Q.one else 0:Nat):Int)) Q.P.n:=zao fun j _=>by
   unfold upd
   by_cases h:j=i
   ·rw[if_pos h,if_pos (by omega)]
   ·rw[if_neg h]
    show((if j<i then Q.one else 0:Nat):Int)=_
    by_cases h2:j<i
    ·rw[if_pos h2,if_pos (by omega)]
    ·rw[if_neg h2,if_neg (by omega)]
  simp only[zak,dlt hi,d0le,xac,cond_true,tn,zce,e,zau (show i<9223372036854775807 by omega)]
 ·simp only[nlt (Nat.le_refl Q.P.n),cond_false]
  have e:lst (fun j=>((if j<Q.P.n then Q.one else 0:Nat):Int)) Q.P.n=lst (fun j=>(Q.s0.kp j:Int)) Q.P.n:=zao fun j hj=>by rw[if_pos hj];rfl
  rw[e]
 have h0:(gs,Q.P.lots,c,((0,0,0,0,[],[]):TT),(Q.P.n:Int),(Q.one:Int),(((2:Int),(Q.P.seats:Int),(d:Int),(Q.P.n:Int),([]:List RD),([]:List Int)):TT),List.replicate Q.P.n (0:Int),lst (fun j=>(Q.s0.kp j:Int)) Q.P.n,(-1:Int),(0:Int))=stM Q c gs Q.s0 []:=by
  unfold stM
  rw[zkf,hdig]
  rfl
 rw[h0]
 refine zco (Q:=fun r=>r=some (trM c Q,0)) (fun(M:Nat) (st:BM)=>∃(s:MS) (rs:List Rd),st=stM Q c gs s rs∧MRun Q s rs∧M=s.meas Q) (Q.s0.meas Q) ⟨Q.s0,[],rfl,MRun.start hok,rfl⟩ ?_
 rintro M st ⟨s,rs,rfl,hRun,rfl⟩
 have hI:=hRun.inv
 refine(fun(z:Option (BM⊕(TT×Int))) (h:StepM Q c gs s rs z)=>(?_:(∃a' M',z=some (.inl a')∧M'<s.meas Q∧∃s' rs',a'=stM Q c gs s' rs'∧MRun Q s' rs'∧M'=s'.meas Q)∨∃b,z=some (.inr b)∧(some (b.1,b.2):Option (TT×Int))=some (trM c Q,0))) _ ?_
 ·rcases h with⟨hf,he⟩|⟨hf,hc,he⟩|⟨hf,hc,he⟩
  ·refine .inr ⟨_,he,?_⟩
   rw[hRun.fin hf];rfl
  ·exact .inl ⟨_,_,he,(zjm hok hI hf hc (rs.map Rd.votes)).2,_,_,rfl,hRun.excl hok hf hc,rfl⟩
  ·exact .inl ⟨_,_,he,(ziw hok hI hf hc).2,_,_,rfl,hRun.redu hok hf hc,rfl⟩
 have htl:=MS.tot_le hok
 have hsum:=MS.sum_le hok hI
 have hv:∀i,i<Q.P.n→s.v Q i≤100000000000:=fun i hi=>by
  have h1:=MS.v_le hok hI hi
  omega
 have hq:s.quo Q≤100000000001:=by
  have:=MS.quo_le hok hI
  omega
 have hrl:=hRun.len
 have hfill:=hI.fill
 have hf1:=f1_le hok hI
 have hf1e:=f1_eq (Q:=Q) (s:=s)
 have hsi:=hI.since
 have hsurS:s.sur Q≤sumN (s.v Q) Q.P.n:=zgy fun i _=>by split<;>omega
 have hre:∀x∈rs,x.el.length≤7:=fun x hx=>(hRun.rnd x hx).2
 have hell:=zkl (s:=s) hok
 have hsm:∀m,m≤Q.P.n→sumN (s.v Q) m≤sumN (s.v Q) Q.P.n:=fun m hm=>by apply zgx;omega
 have hsm2:∀m,m≤Q.P.n→surU Q s m≤s.sur Q:=fun m hm=>by unfold surU MS.sur;apply zgx;omega
 have hsU:surU Q s Q.P.n=s.sur Q:=rfl
 have h59:=hQ.d59 hI
 have hw1:w ((Q.P.seats:Int)+1)=((Q.P.seats+1:Nat):Int):=zau (by omega)
 have hdiv:w (w (Int.tdiv ((sumN (s.v Q) Q.P.n:Nat):Int) ((Q.P.seats+1:Nat):Int))+1)=((s.quo Q:Nat):Int):=by
  have h1:Int.tdiv ((sumN (s.v Q) Q.P.n:Nat):Int) ((Q.P.seats+1:Nat):Int)=((sumN (s.v Q) Q.P.n/(Q.P.seats+1):Nat):Int):=by
   rw[xdp (by omega)];rfl
  have h2:=xcv (sumN (s.v Q) Q.P.n) (Q.P.seats+1)
  have h3:s.quo Q=sumN (s.v Q) Q.P.n/(Q.P.seats+1)+1:=rfl
  rw[h1,h3]
  generalize sumN (s.v Q) Q.P.n/(Q.P.seats+1)=z at h2 ⊢
  rw[zbi (n:=(z:Int)) (by omega) (by omega),zau (by omega)]
 have h115v:=d115_eq (v:=s.v Q) (n:=Q.P.n) (one:=Q.one) (by omega) ho1 ho6 fun i hi=>by have:=hv i hi;omega
 have h115k:=d115_eq (v:=s.kp) (n:=Q.P.n) (one:=Q.one) (by omega) ho1 ho6 fun i hi=>by have:=hI.kp1 i;omega
 have h116q:=zqq (a:=s.quo Q) (b:=Q.one) (by omega) (by omega) ho1
 have h116r:=zqq (a:=s.rest Q) (b:=Q.one) (by omega) (by omega) ho1
 have h116s:=zqq (a:=s.sur Q) (b:=Q.one) (by omega) (by omega) ho1
 have h84:=(d84_dst s.st (n:=Q.P.n) (by omega)).1
 obtain⟨h84a,h84b⟩:=d84_dst (s.st1 Q) (n:=Q.P.n) (by omega)
 have h117:=reach_doc hok hI
 simp only[stM,hdig,h59,Option.bind_some]
 refine zfj (X:=StepM Q c gs s rs) (fun i=>(gs,Q.P.lots,c,(0,0,0,0,[],[]),(Q.P.n:Int),(Q.one:Int),(2,(Q.P.seats:Int),(d:Int),(Q.P.n:Int),rs.map rdT,[]),lst (fun i=>((dst (s.st i):Nat):Int)) Q.P.n,lst (fun i=>(s.kp i:Int)) Q.P.n,befI s.bef,(s.since:Int),lst (fun i=>((s.v Q i:Nat):Int)) Q.P.n,((s.rest Q:Nat):Int),((sumN (s.v Q) i:Nat):Int),(i:Int))) Q.P.n rfl (fun i hi=>?_)
  (b:=(gs,Q.P.lots,c,(0,0,0,0,[],[]),(Q.P.n:Int),(Q.one:Int),(2,(Q.P.seats:Int),(d:Int),(Q.P.n:Int),rs.map rdT,[]),lst (fun i=>((dst (s.st i):Nat):Int)) Q.P.n,lst (fun i=>(s.kp i:Int)) Q.P.n,befI s.bef,(s.since:Int),lst (fun i=>((s.v Q i:Nat):Int)) Q.P.n,((s.rest Q:Nat):Int),((sumN (s.v Q) Q.P.n:Nat):Int))) ?_ ?_
 ·have h1:=hsm (i+1) (by omega)
  have h2:sumN (s.v Q) (i+1)=sumN (s.v Q) i+s.v Q i:=rfl
  simp only[zak,dlt hi,d0le,xac,cond_true,tn,zam (fun i=>((s.v Q i:Nat):Int)) hi,wadd (show sumN (s.v Q) i+s.v Q i≤9223372036854775807 by omega),zau (show i<9223372036854775807 by omega),h2]
 ·simp only[nlt (Nat.le_refl Q.P.n),cond_false]
 have hw2:w ((Q.P.seats:Int)-((s.fl Q:Nat):Int))=((Q.P.seats-s.fl Q:Nat):Int):=wsubN (by omega) (by omega)
 have hfl:cntN (fun i=>decide (s.st i=1)) Q.P.n=s.fl Q:=rfl
 have hf1':cntN (fun i=>decide (s.st1 Q i=1)) Q.P.n=s.f1 Q:=rfl
 have hh1':cntN (fun i=>decide (s.st1 Q i=0)) Q.P.n=s.h1 Q:=rfl
 rw[hfl]at h84
 rw[hf1']at h84a
 rw[hh1']at h84b
 simp only[hQ.seats,hw1,decide_eq_false (show ¬((Q.P.seats+1:Nat):Int)=0 by omega),xae,cond_true,hdiv,h115v,h115k,h116q,h116r,h84,hw2,h117,Option.bind_some,zau (show s.since<9223372036854775807 by omega)]
 refine zfj (X:=StepM Q c gs s rs) (fun i=>(gs,Q.P.lots,c,(0,0,0,0,[],[]),(Q.P.n:Int),(Q.one:Int),(2,(Q.P.seats:Int),(d:Int),(Q.P.n:Int),rs.map rdT,[]),lst (fun i=>((dst (s.st1 Q i):Nat):Int)) Q.P.n,lst (fun i=>(s.kp i:Int)) Q.P.n,befI s.bef,((s.since+1:Nat):Int),lst (fun i=>((s.v Q i:Nat):Int)) Q.P.n,((s.quo Q:Nat):Int),(lst (fun i=>rr (frac (s.v Q i) Q.one)) Q.P.n,lst (fun i=>rr (frac (s.kp i) Q.one)) Q.P.n,rr (frac (s.quo Q) Q.one),rr (frac (s.rest Q) Q.one),(false,[],[]),selI (s.el Q) Q.P.n,[],[]),((surU Q s i:Nat):Int),(i:Int))) Q.P.n rfl (fun i hi=>?_)
  (b:=(gs,Q.P.lots,c,(0,0,0,0,[],[]),(Q.P.n:Int),(Q.one:Int),(2,(Q.P.seats:Int),(d:Int),(Q.P.n:Int),rs.map rdT,[]),lst (fun i=>((dst (s.st1 Q i):Nat):Int)) Q.P.n,lst (fun i=>(s.kp i:Int)) Q.P.n,befI s.bef,((s.since+1:Nat):Int),lst (fun i=>((s.v Q i:Nat):Int)) Q.P.n,((s.quo Q:Nat):Int),(lst (fun i=>rr (frac (s.v Q i) Q.one)) Q.P.n,lst (fun i=>rr (frac (s.kp i) Q.one)) Q.P.n,rr (frac (s.quo Q) Q.one),rr (frac (s.rest Q) Q.one),(false,[],[]),selI (s.el Q) Q.P.n,[],[]),((s.sur Q:Nat):Int))) ?_ ?_
 ·have h1:=hsm2 (i+1) (by omega)
  have h2:surU Q s (i+1)=surU Q s i+(if s.st1 Q i=1 then s.v Q i-s.quo Q else 0):=rfl
  have h3:=hv i hi
  simp only[zae,zak,dlt hi,d0le,xac,cond_true,tn,zam (fun i=>((dst (s.st1 Q i):Nat):Int)) hi,zam (fun i=>((s.v Q i:Nat):Int)) hi,zau (show i<9223372036854775807 by omega)]
  by_cases c1:s.st1 Q i=1
  ·rw[if_pos c1]at h2
   have c1':=(zgl (s.st1 Q i)).2 c1
   rw[decide_eq_true (show((dst (s.st1 Q i):Nat):Int)=1 by omega),cond_true]
   by_cases c2:s.quo Q<s.v Q i
   ·rw[dlt c2,cond_true,wsubN (by omega) (by omega),wadd (by omega),h2]
   ·have e0:surU Q s (i+1)=surU Q s i:=by rw[h2];omega
    rw[nlt (by omega),cond_false]
    simp only[e0]
  ·rw[if_neg c1]at h2
   have c1':¬dst (s.st1 Q i)=1:=fun h=>c1 ((zgl (s.st1 Q i)).1 h)
   have e0:surU Q s (i+1)=surU Q s i:=h2
   rw[decide_eq_false (show ¬((dst (s.st1 Q i):Nat):Int)=1 by omega),cond_false,cond_false]
   simp only[e0]
 ·simp only[nlt (Nat.le_refl Q.P.n),cond_false,hsU]
 simp only[hQ.seats,h116s,h84a,Option.bind_some,zgn]
 have push:∀(T:RD),decide ((((rs.map rdT).length:Nat):Int)+(([T]:List RD).length:Int)≤LIM)=true:=fun T=>zcg (by rw[xbe];omega)
 have d86e:∀r:Rd,r.el.length≤7→d86 (2,(Q.P.seats:Int),(d:Int),(Q.P.n:Int),rs.map rdT++[rdT r],[])=some ((rs++[r]).flatMap Rd.el):=fun r hr=>by
  have:=d86_eq (m:=2) (s:=(Q.P.seats:Int)) (d:=(d:Int)) (n:=(Q.P.n:Int)) (w0:=[]) (rs:=rs++[r]) (fun x hx=>by
   rcases List.mem_append.1 hx with hx|hx
   ·exact hre x hx
   ·rw[xdn]at hx;rw[hx];exact hr) (by simp;omega)
  rw[xcp]at this
  exact this
 by_cases c1:s.f1 Q=Q.P.seats
 ·have hf:s.fin Q=true:=by unfold MS.fin;rw[decide_eq_true c1];rfl
  have hd':{s.rd0 Q with el:=selI (s.el Q) Q.P.n,ex:=[],ti:=[]}=s.done Q:=by
   unfold MS.done
   rw[if_pos c1];rfl
  have hdl:(s.done Q).el.length≤7:=by rw[←hd'];exact hell
  refine .inl ⟨hf,?_⟩
  simp only[zae,decide_eq_true c1,xaj,cond_false,cond_true,push]
  rw[rdM,hd',d86e _ hdl,Option.bind_some]
  simp only[xcp,xcx,xez,hdig]
 have hh7:=zbu (fun i=>decide (s.st1 Q i=0)) Q.P.n
 have hww:w (((s.f1 Q:Nat):Int)+((s.h1 Q:Nat):Int))=((s.f1 Q+s.h1 Q:Nat):Int):=wadd (by omega)
 by_cases c2:s.f1 Q+s.h1 Q≤Q.P.seats
 ·have hf:s.fin Q=true:=by unfold MS.fin;rw[decide_eq_true c2,Bool.or_true]
  have hd':{s.rd0 Q with el:=selI (fun i=>s.el Q i||decide (s.st1 Q i=0)) Q.P.n,ex:=[],ti:=[]}=s.done Q:=by
   unfold MS.done
   rw[if_neg c1];rfl
  have hdl:(s.done Q).el.length≤7:=by
   rw[←hd']
   show(selI (fun i=>s.el Q i||decide (s.st1 Q i=0)) Q.P.n).length≤7
   rw[zay];have:=zbu (fun i=>s.el Q i||decide (s.st1 Q i=0)) Q.P.n;omega
  obtain⟨z,hz⟩:=d85_eq (s.el Q) (fun i=>dst (s.st1 Q i)) hn7
  have e85:selI (fun i=>s.el Q i||decide (dst (s.st1 Q i)=0)) Q.P.n=selI (fun i=>s.el Q i||decide (s.st1 Q i=0)) Q.P.n:=zbk fun i _=>by rw[xca.2 (zhy (s.st1 Q i))]
  rw[e85]at hz
  refine .inl ⟨hf,?_⟩
  simp only[zae,decide_eq_false c1,xae,h84a,h84b,Option.bind_some,hww,decide_eq_true (show((s.f1 Q+s.h1 Q:Nat):Int)≤(Q.P.seats:Int) by omega),hz,hQ.seats,zgn,cond_false,cond_true,push]
  rw[rdM,hd',d86e _ hdl,Option.bind_some]
  simp only[xcp,xcx,xez,hdig]
 have hf:s.fin Q=false:=by unfold MS.fin;rw[decide_eq_false c1,decide_eq_false c2];rfl
 simp only[zae,decide_eq_false c1,xae,h84a,h84b,Option.bind_some,hww,decide_eq_false (show ¬((s.f1 Q+s.h1 Q:Nat):Int)≤(Q.P.seats:Int) by omega),hQ.seats,zgn,cond_false,cond_true,hdig]
 have h61:d61 (d:Int)=some ((Q.om:Nat):Int):=by rw[hQ.om];exact d61_eq hQ.d1 hd6
 have hsome:decide (0<((selI (s.el Q) Q.P.n).length:Int))=s.some1 Q:=by
  unfold MS.some1
  rw[zay]
  exact xca.2 (by omega)
 have hcutd:s.cut Q=(!s.some1 Q&&s.stall Q):=rfl
 simp only[hsome,h61,Option.bind_some]
 have hredu:s.cut Q=false→∀si:Nat,si=(s.redu Q).since→StepM Q c gs s rs (some (Sum.inl (gs,Q.P.lots,c,(0,0,0,0,[],[]),(Q.P.n:Int),(Q.one:Int),(2,(Q.P.seats:Int),(d:Int),(Q.P.n:Int),rs.map rdT++[(lst (fun i=>rr (frac (s.v Q i) Q.one)) Q.P.n,lst (fun i=>rr (frac (s.kp i) Q.one)) Q.P.n,rr (frac (s.quo Q) Q.one),rr (frac (s.rest Q) Q.one),rr (frac (s.sur Q) Q.one),selI (s.el Q) Q.P.n,[],[])],[]),lst (fun i=>((dst (s.st1 Q i):Nat):Int)) Q.P.n,lst (fun i=>((s.kp1 Q i:Nat):Int)) Q.P.n,((s.sur Q:Nat):Int),(si:Int)))):=fun hc si hsi=>by
  refine .inr (.inr ⟨hf,hc,?_⟩)
  rw[rdM,hsi]
  unfold stM
  simp only[xcp,xcx,xez,hdig]
  rfl
 have hK0:lst (fun i=>((if i<0 then s.kp1 Q i else s.kp i:Nat):Int)) Q.P.n=lst (fun i=>(s.kp i:Int)) Q.P.n:=zao fun i _=>by rw[if_neg (by omega)]
 have hKn:lst (fun i=>((if i<Q.P.n then s.kp1 Q i else s.kp i:Nat):Int)) Q.P.n=lst (fun i=>((s.kp1 Q i:Nat):Int)) Q.P.n:=zao fun i hi=>by rw[if_pos hi]
 cases hs1:s.some1 Q with
 |true=>
  have hc:s.cut Q=false:=by rw[hcutd,hs1];rfl
  simp only[xaj,cond_false,cond_true]
  refine zfj (X:=StepM Q c gs s rs) (fun j=>(gs,Q.P.lots,c,(0,0,0,0,[],[]),(Q.P.n:Int),(Q.one:Int),(2,(Q.P.seats:Int),(d:Int),(Q.P.n:Int),rs.map rdT,[]),lst (fun i=>((dst (s.st1 Q i):Nat):Int)) Q.P.n,lst (fun i=>((if i<j then s.kp1 Q i else s.kp i:Nat):Int)) Q.P.n,((s.sur Q:Nat):Int),0,lst (fun i=>((s.v Q i:Nat):Int)) Q.P.n,((s.quo Q:Nat):Int),(lst (fun i=>rr (frac (s.v Q i) Q.one)) Q.P.n,lst (fun i=>rr (frac (s.kp i) Q.one)) Q.P.n,rr (frac (s.quo Q) Q.one),rr (frac (s.rest Q) Q.one),rr (frac (s.sur Q) Q.one),selI (s.el Q) Q.P.n,[],[]),(j:Int))) Q.P.n (by rw[hK0];rfl) (fun j hj=>?_)
   (b:=(gs,Q.P.lots,c,(0,0,0,0,[],[]),(Q.P.n:Int),(Q.one:Int),(2,(Q.P.seats:Int),(d:Int),(Q.P.n:Int),rs.map rdT,[]),lst (fun i=>((dst (s.st1 Q i):Nat):Int)) Q.P.n,lst (fun i=>((s.kp1 Q i:Nat):Int)) Q.P.n,((s.sur Q:Nat):Int),0,(lst (fun i=>rr (frac (s.v Q i) Q.one)) Q.P.n,lst (fun i=>rr (frac (s.kp i) Q.one)) Q.P.n,rr (frac (s.quo Q) Q.one),rr (frac (s.rest Q) Q.one),rr (frac (s.sur Q) Q.one),selI (s.el Q) Q.P.n,[],[]))) ?_ ?_
  ·have hvx:=hv j hj
   have hk1:=hI.kp1 j
   have b1:s.kp j*s.quo Q≤1000000*100000000001:=Nat.mul_le_mul (by omega) hq
   have b2:mup (s.kp j*s.quo Q) Q.one≤s.quo Q:=mup_le ho1 (by rw[xbb];exact xby _ hk1)
   have b3:mup (s.kp j*s.quo Q) Q.one*Q.one≤100000000001*1000000:=Nat.mul_le_mul (by omega) ho6
   have hgj:(lst (fun i=>((if i<j then s.kp1 Q i else s.kp i:Nat):Int)) Q.P.n).getD j 0=(s.kp j:Int):=by
    rw[zam _ hj,if_neg (xft j)]
   have hsame:s.kp1 Q j=s.kp j→lst (fun i=>((if i<j then s.kp1 Q i else s.kp i:Nat):Int)) Q.P.n=lst (fun i=>((if i<j+1 then s.kp1 Q i else s.kp i:Nat):Int)) Q.P.n:=fun h=>zao fun i _=>by
    by_cases hij:i=j
    ·subst hij;rw[if_neg (xft i),if_pos (by omega),h]
    ·by_cases h2:i<j
     ·rw[if_pos h2,if_pos (by omega)]
     ·rw[if_neg h2,if_neg (by omega)]
   have hset:lst (upd (fun i=>((if i<j then s.kp1 Q i else s.kp i:Nat):Int)) j ((s.kp1 Q j:Nat):Int)) Q.P.n=lst (fun i=>((if i<j+1 then s.kp1 Q i else s.kp i:Nat):Int)) Q.P.n:=zao fun i _=>by
    unfold upd
    by_cases hij:i=j
    ·subst hij;rw[if_pos rfl,if_pos (by omega)]
    ·rw[if_neg hij]
     show((if i<j then s.kp1 Q i else s.kp i:Nat):Int)=_
     by_cases h2:i<j
     ·rw[if_pos h2,if_pos (by omega)]
     ·rw[if_neg h2,if_neg (by omega)]
   simp only[zae,dlt hj,d0le,zak,xac,cond_true,tn,zam (fun i=>((dst (s.st1 Q i):Nat):Int)) hj,zam (fun i=>((s.v Q i:Nat):Int)) hj,hgj,zau (show j<9223372036854775807 by omega)]
   by_cases k1:s.st1 Q j=1
   ·have k1':=(zgl (s.st1 Q j)).2 k1
    rw[decide_eq_true (show((dst (s.st1 Q j):Nat):Int)=1 by omega),cond_true]
    by_cases k2:0<s.v Q j
    ·have hkp:s.kp1 Q j=min Q.one (mup (mup (s.kp j*s.quo Q) Q.one*Q.one) (s.v Q j)):=by
      unfold MS.kp1;rw[if_pos ⟨k1,k2⟩]
     have hmin:(bif decide (((mup (mup (s.kp j*s.quo Q) Q.one*Q.one) (s.v Q j):Nat):Int)<(Q.one:Int))then((mup (mup (s.kp j*s.quo Q) Q.one*Q.one) (s.v Q j):Nat):Int)else(Q.one:Int))=((s.kp1 Q j:Nat):Int):=by
      rw[hkp]
      generalize mup (mup (s.kp j*s.quo Q) Q.one*Q.one) (s.v Q j)=y
      by_cases h:y<Q.one
      ·rw[dlt h,cond_true];omega
      ·rw[nlt (by omega),cond_false];omega
     simp only[decide_eq_true (show(0:Int)<((s.v Q j:Nat):Int) by omega),cond_true,wmul (show s.kp j*s.quo Q≤9223372036854775807 by omega),zim ho1 (show s.kp j*s.quo Q+Q.one≤4611686018427387904 by omega),Option.bind_some,wmul (show mup (s.kp j*s.quo Q) Q.one*Q.one≤9223372036854775807 by omega),zim k2 (show mup (s.kp j*s.quo Q) Q.one*Q.one+s.v Q j≤4611686018427387904 by omega),hmin,zce,hset]
    ·have hkp:s.kp1 Q j=s.kp j:=by
      unfold MS.kp1;rw[if_neg fun h=>k2 h.2]
     simp only[decide_eq_false (show ¬(0:Int)<((s.v Q j:Nat):Int) by omega),cond_false,hsame hkp]
   ·have k1':¬dst (s.st1 Q j)=1:=fun h=>k1 ((zgl (s.st1 Q j)).1 h)
    have hkp:s.kp1 Q j=s.kp j:=by
     unfold MS.kp1;rw[if_neg fun h=>k1 h.1]
    simp only[decide_eq_false (show ¬((dst (s.st1 Q j):Nat):Int)=1 by omega),cond_false,hsame hkp]
  ·simp only[nlt (Nat.le_refl Q.P.n),cond_false,hKn]
  ·simp only[push,cond_true]
   exact hredu hc 0 (by show 0=if s.some1 Q then 0 else s.since+1;rw[hs1];rfl)
 |false=>
  have hsteq:lst (fun i=>((dst (s.st1 Q i):Nat):Int)) Q.P.n=lst (fun i=>((dst (s.st i):Nat):Int)) Q.P.n:=zao fun i hi=>by rw[(el_out hs1 hi).2]
  simp only[xae,cond_true,cond_false]
  cases hst:s.stall Q with
  |false=>
   have hc:s.cut Q=false:=by rw[hcutd,hs1,hst];rfl
   have hst':=hst
   unfold MS.stall at hst'
   rw[xbw,xbw,xav,xav]at hst'
   obtain⟨⟨g1,g2⟩,g3⟩:=hst'
   have hbv:befI s.bef<0∨(0≤befI s.bef∧¬befI s.bef≤((s.sur Q:Nat):Int)):=by
    cases hbe:s.bef with
    |none=>exact .inl (show(-1:Int)<0 by omega)
    |some b=>
     rw[hbe]at g3
     have g3':decide (b≤s.sur Q)=false:=g3
     rw[xav]at g3'
     exact .inr ⟨show(0:Int)≤(b:Int) by omega,show ¬(b:Int)≤_ by omega⟩
   rcases hbv with hb|⟨hb1,hb2⟩
   ·simp only[nlt (show Q.om≤s.sur Q by omega),xae,cond_true,decide_eq_false (show ¬(0:Int)≤befI s.bef by omega),cond_false,decide_eq_false (show ¬(60:Int)≤((s.since+1:Nat):Int) by omega)]
    refine zfj (X:=StepM Q c gs s rs) (fun j=>(gs,Q.P.lots,c,(0,0,0,0,[],[]),(Q.P.n:Int),(Q.one:Int),(2,(Q.P.seats:Int),(d:Int),(Q.P.n:Int),rs.map rdT,[]),lst (fun i=>((dst (s.st1 Q i):Nat):Int)) Q.P.n,lst (fun i=>((if i<j then s.kp1 Q i else s.kp i:Nat):Int)) Q.P.n,((s.sur Q:Nat):Int),((s.since+1:Nat):Int),lst (fun i=>((s.v Q i:Nat):Int)) Q.P.n,((s.quo Q:Nat):Int),(lst (fun i=>rr (frac (s.v Q i) Q.one)) Q.P.n,lst (fun i=>rr (frac (s.kp i) Q.one)) Q.P.n,rr (frac (s.quo Q) Q.one),rr (frac (s.rest Q) Q.one),rr (frac (s.sur Q) Q.one),selI (s.el Q) Q.P.n,[],[]),(j:Int))) Q.P.n (by rw[hK0];rfl) (fun j hj=>?_)
     (b:=(gs,Q.P.lots,c,(0,0,0,0,[],[]),(Q.P.n:Int),(Q.one:Int),(2,(Q.P.seats:Int),(d:Int),(Q.P.n:Int),rs.map rdT,[]),lst (fun i=>((dst (s.st1 Q i):Nat):Int)) Q.P.n,lst (fun i=>((s.kp1 Q i:Nat):Int)) Q.P.n,((s.sur Q:Nat):Int),((s.since+1:Nat):Int),(lst (fun i=>rr (frac (s.v Q i) Q.one)) Q.P.n,lst (fun i=>rr (frac (s.kp i) Q.one)) Q.P.n,rr (frac (s.quo Q) Q.one),rr (frac (s.rest Q) Q.one),rr (frac (s.sur Q) Q.one),selI (s.el Q) Q.P.n,[],[]))) ?_ ?_
    ·have hvx:=hv j hj
     have hk1:=hI.kp1 j
     have b1:s.kp j*s.quo Q≤1000000*100000000001:=Nat.mul_le_mul (by omega) hq
     have b2:mup (s.kp j*s.quo Q) Q.one≤s.quo Q:=mup_le ho1 (by rw[xbb];exact xby _ hk1)
     have b3:mup (s.kp j*s.quo Q) Q.one*Q.one≤100000000001*1000000:=Nat.mul_le_mul (by omega) ho6
     have hgj:(lst (fun i=>((if i<j then s.kp1 Q i else s.kp i:Nat):Int)) Q.P.n).getD j 0=(s.kp j:Int):=by
      rw[zam _ hj,if_neg (xft j)]
     have hsame:s.kp1 Q j=s.kp j→lst (fun i=>((if i<j then s.kp1 Q i else s.kp i:Nat):Int)) Q.P.n=lst (fun i=>((if i<j+1 then s.kp1 Q i else s.kp i:Nat):Int)) Q.P.n:=fun h=>zao fun i _=>by
      by_cases hij:i=j
      ·subst hij;rw[if_neg (xft i),if_pos (by omega),h]
      ·by_cases h2:i<j
       ·rw[if_pos h2,if_pos (by omega)]
       ·rw[if_neg h2,if_neg (by omega)]
     have hset:lst (upd (fun i=>((if i<j then s.kp1 Q i else s.kp i:Nat):Int)) j ((s.kp1 Q j:Nat):Int)) Q.P.n=lst (fun i=>((if i<j+1 then s.kp1 Q i else s.kp i:Nat):Int)) Q.P.n:=zao fun i _=>by
      unfold upd
      by_cases hij:i=j
      ·subst hij;rw[if_pos rfl,if_pos (by omega)]
      ·rw[if_neg hij]
       show((if i<j then s.kp1 Q i else s.kp i:Nat):Int)=_
       by_cases h2:i<j
       ·rw[if_pos h2,if_pos (by omega)]
       ·rw[if_neg h2,if_neg (by omega)]
     simp only[zae,dlt hj,d0le,zak,xac,cond_true,tn,zam (fun i=>((dst (s.st1 Q i):Nat):Int)) hj,zam (fun i=>((s.v Q i:Nat):Int)) hj,hgj,zau (show j<9223372036854775807 by omega)]
     by_cases k1:s.st1 Q j=1
     ·have k1':=(zgl (s.st1 Q j)).2 k1
      rw[decide_eq_true (show((dst (s.st1 Q j):Nat):Int)=1 by omega),cond_true]
      by_cases k2:0<s.v Q j
      ·have hkp:s.kp1 Q j=min Q.one (mup (mup (s.kp j*s.quo Q) Q.one*Q.one) (s.v Q j)):=by
        unfold MS.kp1;rw[if_pos ⟨k1,k2⟩]
       have hmin:(bif decide (((mup (mup (s.kp j*s.quo Q) Q.one*Q.one) (s.v Q j):Nat):Int)<(Q.one:Int))then((mup (mup (s.kp j*s.quo Q) Q.one*Q.one) (s.v Q j):Nat):Int)else(Q.one:Int))=((s.kp1 Q j:Nat):Int):=by
        rw[hkp]
        generalize mup (mup (s.kp j*s.quo Q) Q.one*Q.one) (s.v Q j)=y
        by_cases h:y<Q.one
        ·rw[dlt h,cond_true];omega
        ·rw[nlt (by omega),cond_false];omega
       simp only[decide_eq_true (show(0:Int)<((s.v Q j:Nat):Int) by omega),cond_true,wmul (show s.kp j*s.quo Q≤9223372036854775807 by omega),zim ho1 (show s.kp j*s.quo Q+Q.one≤4611686018427387904 by omega),Option.bind_some,wmul (show mup (s.kp j*s.quo Q) Q.one*Q.one≤9223372036854775807 by omega),zim k2 (show mup (s.kp j*s.quo Q) Q.one*Q.one+s.v Q j≤4611686018427387904 by omega),hmin,zce,hset]
      ·have hkp:s.kp1 Q j=s.kp j:=by
        unfold MS.kp1;rw[if_neg fun h=>k2 h.2]
       simp only[decide_eq_false (show ¬(0:Int)<((s.v Q j:Nat):Int) by omega),cond_false,hsame hkp]
     ·have k1':¬dst (s.st1 Q j)=1:=fun h=>k1 ((zgl (s.st1 Q j)).1 h)
      have hkp:s.kp1 Q j=s.kp j:=by
       unfold MS.kp1;rw[if_neg fun h=>k1 h.1]
      simp only[decide_eq_false (show ¬((dst (s.st1 Q j):Nat):Int)=1 by omega),cond_false,hsame hkp]
    ·simp only[nlt (Nat.le_refl Q.P.n),cond_false,hKn]
    ·simp only[push,cond_true]
     exact hredu hc (s.since+1) (by show s.since+1=if s.some1 Q then 0 else s.since+1;rw[hs1];rfl)
   ·simp only[nlt (show Q.om≤s.sur Q by omega),xae,cond_true,decide_eq_true hb1,decide_eq_false hb2,cond_false,decide_eq_false (show ¬(60:Int)≤((s.since+1:Nat):Int) by omega)]
    refine zfj (X:=StepM Q c gs s rs) (fun j=>(gs,Q.P.lots,c,(0,0,0,0,[],[]),(Q.P.n:Int),(Q.one:Int),(2,(Q.P.seats:Int),(d:Int),(Q.P.n:Int),rs.map rdT,[]),lst (fun i=>((dst (s.st1 Q i):Nat):Int)) Q.P.n,lst (fun i=>((if i<j then s.kp1 Q i else s.kp i:Nat):Int)) Q.P.n,((s.sur Q:Nat):Int),((s.since+1:Nat):Int),lst (fun i=>((s.v Q i:Nat):Int)) Q.P.n,((s.quo Q:Nat):Int),(lst (fun i=>rr (frac (s.v Q i) Q.one)) Q.P.n,lst (fun i=>rr (frac (s.kp i) Q.one)) Q.P.n,rr (frac (s.quo Q) Q.one),rr (frac (s.rest Q) Q.one),rr (frac (s.sur Q) Q.one),selI (s.el Q) Q.P.n,[],[]),(j:Int))) Q.P.n (by rw[hK0];rfl) (fun j hj=>?_)
     (b:=(gs,Q.P.lots,c,(0,0,0,0,[],[]),(Q.P.n:Int),(Q.one:Int),(2,(Q.P.seats:Int),(d:Int),(Q.P.n:Int),rs.map rdT,[]),lst (fun i=>((dst (s.st1 Q i):Nat):Int)) Q.P.n,lst (fun i=>((s.kp1 Q i:Nat):Int)) Q.P.n,((s.sur Q:Nat):Int),((s.since+1:Nat):Int),(lst (fun i=>rr (frac (s.v Q i) Q.one)) Q.P.n,lst (fun i=>rr (frac (s.kp i) Q.one)) Q.P.n,rr (frac (s.quo Q) Q.one),rr (frac (s.rest Q) Q.one),rr (frac (s.sur Q) Q.one),selI (s.el Q) Q.P.n,[],[]))) ?_ ?_
    ·have hvx:=hv j hj
     have hk1:=hI.kp1 j
     have b1:s.kp j*s.quo Q≤1000000*100000000001:=Nat.mul_le_mul (by omega) hq
     have b2:mup (s.kp j*s.quo Q) Q.one≤s.quo Q:=mup_le ho1 (by rw[xbb];exact xby _ hk1)
     have b3:mup (s.kp j*s.quo Q) Q.one*Q.one≤100000000001*1000000:=Nat.mul_le_mul (by omega) ho6
     have hgj:(lst (fun i=>((if i<j then s.kp1 Q i else s.kp i:Nat):Int)) Q.P.n).getD j 0=(s.kp j:Int):=by
      rw[zam _ hj,if_neg (xft j)]
     have hsame:s.kp1 Q j=s.kp j→lst (fun i=>((if i<j then s.kp1 Q i else s.kp i:Nat):Int)) Q.P.n=lst (fun i=>((if i<j+1 then s.kp1 Q i else s.kp i:Nat):Int)) Q.P.n:=fun h=>zao fun i _=>by
      by_cases hij:i=j
      ·subst hij;rw[if_neg (xft i),if_pos (by omega),h]
      ·by_cases h2:i<j
       ·rw[if_pos h2,if_pos (by omega)]
       ·rw[if_neg h2,if_neg (by omega)]
     have hset:lst (upd (fun i=>((if i<j then s.kp1 Q i else s.kp i:Nat):Int)) j ((s.kp1 Q j:Nat):Int)) Q.P.n=lst (fun i=>((if i<j+1 then s.kp1 Q i else s.kp i:Nat):Int)) Q.P.n:=zao fun i _=>by
      unfold upd
      by_cases hij:i=j
      ·subst hij;rw[if_pos rfl,if_pos (by omega)]
      ·rw[if_neg hij]
       show((if i<j then s.kp1 Q i else s.kp i:Nat):Int)=_
       by_cases h2:i<j
       ·rw[if_pos h2,if_pos (by omega)]
       ·rw[if_neg h2,if_neg (by omega)]
     simp only[zae,dlt hj,d0le,zak,xac,cond_true,tn,zam (fun i=>((dst (s.st1 Q i):Nat):Int)) hj,zam (fun i=>((s.v Q i:Nat):Int)) hj,hgj,zau (show j<9223372036854775807 by omega)]
     by_cases k1:s.st1 Q j=1
     ·have k1':=(zgl (s.st1 Q j)).2 k1
      rw[decide_eq_true (show((dst (s.st1 Q j):Nat):Int)=1 by omega),cond_true]
      by_cases k2:0<s.v Q j
      ·have hkp:s.kp1 Q j=min Q.one (mup (mup (s.kp j*s.quo Q) Q.one*Q.one) (s.v Q j)):=by
        unfold MS.kp1;rw[if_pos ⟨k1,k2⟩]
       have hmin:(bif decide (((mup (mup (s.kp j*s.quo Q) Q.one*Q.one) (s.v Q j):Nat):Int)<(Q.one:Int))then((mup (mup (s.kp j*s.quo Q) Q.one*Q.one) (s.v Q j):Nat):Int)else(Q.one:Int))=((s.kp1 Q j:Nat):Int):=by
        rw[hkp]
        generalize mup (mup (s.kp j*s.quo Q) Q.one*Q.one) (s.v Q j)=y
        by_cases h:y<Q.one
        ·rw[dlt h,cond_true];omega
        ·rw[nlt (by omega),cond_false];omega
       simp only[decide_eq_true (show(0:Int)<((s.v Q j:Nat):Int) by omega),cond_true,wmul (show s.kp j*s.quo Q≤9223372036854775807 by omega),zim ho1 (show s.kp j*s.quo Q+Q.one≤4611686018427387904 by omega),Option.bind_some,wmul (show mup (s.kp j*s.quo Q) Q.one*Q.one≤9223372036854775807 by omega),zim k2 (show mup (s.kp j*s.quo Q) Q.one*Q.one+s.v Q j≤4611686018427387904 by omega),hmin,zce,hset]
      ·have hkp:s.kp1 Q j=s.kp j:=by
        unfold MS.kp1;rw[if_neg fun h=>k2 h.2]
       simp only[decide_eq_false (show ¬(0:Int)<((s.v Q j:Nat):Int) by omega),cond_false,hsame hkp]
     ·have k1':¬dst (s.st1 Q j)=1:=fun h=>k1 ((zgl (s.st1 Q j)).1 h)
      have hkp:s.kp1 Q j=s.kp j:=by
       unfold MS.kp1;rw[if_neg fun h=>k1 h.1]
      simp only[decide_eq_false (show ¬((dst (s.st1 Q j):Nat):Int)=1 by omega),cond_false,hsame hkp]
    ·simp only[nlt (Nat.le_refl Q.P.n),cond_false,hKn]
    ·simp only[push,cond_true]
     exact hredu hc (s.since+1) (by show s.since+1=if s.some1 Q then 0 else s.since+1;rw[hs1];rfl)
  |true=>
   have hc:s.cut Q=true:=by rw[hcutd,hs1,hst];rfl
   obtain⟨x,x1,x2,x3⟩:=zix hI (rs.map Rd.votes)
   have hxn:(s.pick Q (rs.map Rd.votes)).toNat=x:=by rw[x1];rfl
   have htne:=near_ne hI
   have htl0:=xcg.2 htne
   have htl7:(s.tied Q).length≤7:=by
    unfold MS.tied
    rw[zay];exact Nat.le_trans (zbu _ _) hn7
   have h118:d118 (lst (fun i=>((s.v Q i:Nat):Int)) Q.P.n) (lst (fun i=>((dst (s.st1 Q i):Nat):Int)) Q.P.n) ((s.sur Q:Nat):Int)=some (s.tied Q):=by
    rw[hsteq,d118_eq (st:=fun i=>dst (s.st i)) (by omega) (fun i hi=>by have:=hv i hi;omega) (by omega) ⟨x,x2,(zhy _).2 x3⟩]
    refine xbh some (zbk fun i hi=>?_)
    unfold MS.near
    rw[xca.2 (zhy (s.st i))]
    congr 2
    funext k
    rw[xca.2 (zhy (s.st k))]
   have hg0:(decide (0≤0)&&decide (0<((s.tied Q).length:Int)))=true:=by rw[decide_eq_true (show 0<((s.tied Q).length:Int) by omega)];rfl
   have hexs:(s.excl Q (rs.map Rd.votes)).st=upd s.st x 2:=by unfold MS.excl;rw[hxn]
   have hexk:(s.excl Q (rs.map Rd.votes)).kp=upd s.kp x 0:=by unfold MS.excl;rw[hxn]
   have e1c:lst (upd (fun i=>((dst (s.st1 Q i):Nat):Int)) x 3) Q.P.n=lst (fun i=>((dst (upd s.st x 2 i):Nat):Int)) Q.P.n:=zao fun i hi=>by
    unfold upd
    by_cases hix:i=x
    ·subst hix;rw[if_pos rfl,if_pos rfl];rfl
    ·rw[if_neg hix,if_neg hix]
     show((dst (s.st1 Q i):Nat):Int)=_
     rw[(el_out hs1 hi).2]
   have e2c:lst (upd (fun i=>(s.kp i:Int)) x 0) Q.P.n=lst (fun i=>((upd s.kp x 0 i:Nat):Int)) Q.P.n:=zao fun i _=>by
    unfold upd;split<;>rfl
   have hfinal:StepM Q c gs s rs (some (Sum.inl (gs,Q.P.lots,c,(0,0,0,0,[],[]),(Q.P.n:Int),(Q.one:Int),(2,(Q.P.seats:Int),(d:Int),(Q.P.n:Int),rs.map rdT++[(lst (fun i=>rr (frac (s.v Q i) Q.one)) Q.P.n,lst (fun i=>rr (frac (s.kp i) Q.one)) Q.P.n,rr (frac (s.quo Q) Q.one),rr (frac (s.rest Q) Q.one),rr (frac (s.sur Q) Q.one),selI (s.el Q) Q.P.n,[(x:Int)],if(s.tied Q).length=1 then []else s.tied Q)],[]),lst (fun i=>((dst (upd s.st x 2 i):Nat):Int)) Q.P.n,lst (fun i=>((upd s.kp x 0 i:Nat):Int)) Q.P.n,-1,0))):=by
    refine .inr (.inl ⟨hf,hc,?_⟩)
    have hexr:{s.rd0 Q with el:=selI (s.el Q) Q.P.n,ex:=[(x:Int)],ti:=if(s.tied Q).length=1 then []else s.tied Q}=s.exR Q (rs.map Rd.votes):=by
     unfold MS.exR
     rw[x1];rfl
    rw[rdM,hexr]
    unfold stM
    rw[hexs,hexk]
    simp only[xcp,xcx,xez,hdig]
    rfl
   have h89:d89 (rs.map rdT)=some ((rs.map Rd.votes).map (List.map rr),rs.map rdT):=d89_eq (rs:=rs) (by omega)
   obtain⟨b,h88⟩:=d88_eq (n:=Q.P.n) (ties:=Q.P.ties) (E:=rs.map Rd.votes) (tied:=s.tied Q) (lots:=Q.P.lots) (least:=true) (by have:=hok.P.ties1;omega) hok.P.ties3 (zog hok.P) (fun r hr=>by
    obtain⟨r',h1,rfl⟩:=xed.1 hr
    exact(hRun.rnd r' h1).1) (by rw[xbe];omega) htne (zdp _ _) (fun y hy=>by
    obtain⟨i,h1,h2,_⟩:=zaz.1 hy
    exact⟨i,h1,h2⟩) (by omega)
   have hcase:(s.sur Q<Q.om)∨(Q.om≤s.sur Q∧befI s.bef<0∧60≤s.since+1)∨(Q.om≤s.sur Q∧0≤befI s.bef∧befI s.bef≤((s.sur Q:Nat):Int))∨(Q.om≤s.sur Q∧0≤befI s.bef∧¬befI s.bef≤((s.sur Q:Nat):Int)∧60≤s.since+1):=by
    have hst':=hst
    unfold MS.stall at hst'
    rw[xcw,xcw,xaf,xaf]at hst'
    cases hbe:s.bef with
    |none=>
     rw[hbe]at hst'
     have e:befI none=-1:=rfl
     rw[e]
     rcases hst' with(h|h)|h
     ·omega
     ·omega
     ·cases h
    |some b=>
     rw[hbe]at hst'
     have e:befI (some b)=(b:Int):=rfl
     rw[e]
     simp only[xaf]at hst'
     omega
   rcases hcase with g|⟨g,g1,g2⟩|⟨g,g1,g2⟩|⟨g,g1,g2,g3⟩
   ·simp only[dlt g,xaj,cond_false,cond_true]
    by_cases h1:(s.tied Q).length=1
    ·have hx0:(s.tied Q).getD 0 0=(x:Int):=by
      rw[zde,←x1];unfold MS.pick;rw[if_pos h1]
     rw[if_pos h1]at hfinal
     simp only[h118,Option.bind_some,hg0,cond_true,decide_eq_false (show ¬(1:Int)<((s.tied Q).length:Int) by omega),cond_false,hx0,zak,d0le,dlt x2,xac,tn,zce,e1c,e2c,push]
     exact hfinal
    ·have hx0:tieB Q.P.ties (rs.map Rd.votes) (s.tied Q) Q.P.lots true=(x:Int):=by
      rw[←x1];unfold MS.pick;rw[if_neg h1]
     rw[hx0]at h88
     rw[if_neg h1]at hfinal
     simp only[h118,Option.bind_some,hg0,cond_true,decide_eq_true (show(1:Int)<((s.tied Q).length:Int) by omega),h89,hQ.ties,h88,zak,d0le,dlt x2,xac,tn,zce,e1c,e2c,push]
     exact hfinal
   ·simp only[nlt g,xae,cond_true,decide_eq_false (show ¬(0:Int)≤befI s.bef by omega),cond_false,decide_eq_true (show(60:Int)≤((s.since+1:Nat):Int) by omega)]
    by_cases h1:(s.tied Q).length=1
    ·have hx0:(s.tied Q).getD 0 0=(x:Int):=by
      rw[zde,←x1];unfold MS.pick;rw[if_pos h1]
     rw[if_pos h1]at hfinal
     simp only[h118,Option.bind_some,hg0,cond_true,decide_eq_false (show ¬(1:Int)<((s.tied Q).length:Int) by omega),cond_false,hx0,zak,d0le,dlt x2,xac,tn,zce,e1c,e2c,push]
     exact hfinal
    ·have hx0:tieB Q.P.ties (rs.map Rd.votes) (s.tied Q) Q.P.lots true=(x:Int):=by
      rw[←x1];unfold MS.pick;rw[if_neg h1]
     rw[hx0]at h88
     rw[if_neg h1]at hfinal
     simp only[h118,Option.bind_some,hg0,cond_true,decide_eq_true (show(1:Int)<((s.tied Q).length:Int) by omega),h89,hQ.ties,h88,zak,d0le,dlt x2,xac,tn,zce,e1c,e2c,push]
     exact hfinal
   ·simp only[nlt g,xae,xaj,cond_true,decide_eq_true g1,decide_eq_true g2,cond_false]
    by_cases h1:(s.tied Q).length=1
    ·have hx0:(s.tied Q).getD 0 0=(x:Int):=by
      rw[zde,←x1];unfold MS.pick;rw[if_pos h1]
     rw[if_pos h1]at hfinal
     simp only[h118,Option.bind_some,hg0,cond_true,decide_eq_false (show ¬(1:Int)<((s.tied Q).length:Int) by omega),cond_false,hx0,zak,d0le,dlt x2,xac,tn,zce,e1c,e2c,push]
     exact hfinal
    ·have hx0:tieB Q.P.ties (rs.map Rd.votes) (s.tied Q) Q.P.lots true=(x:Int):=by
      rw[←x1];unfold MS.pick;rw[if_neg h1]
     rw[hx0]at h88
     rw[if_neg h1]at hfinal
     simp only[h118,Option.bind_some,hg0,cond_true,decide_eq_true (show(1:Int)<((s.tied Q).length:Int) by omega),h89,hQ.ties,h88,zak,d0le,dlt x2,xac,tn,zce,e1c,e2c,push]
     exact hfinal
   ·simp only[nlt g,xae,cond_true,decide_eq_true g1,decide_eq_false g2,cond_false,decide_eq_true (show(60:Int)≤((s.since+1:Nat):Int) by omega)]
    by_cases h1:(s.tied Q).length=1
    ·have hx0:(s.tied Q).getD 0 0=(x:Int):=by
      rw[zde,←x1];unfold MS.pick;rw[if_pos h1]
     rw[if_pos h1]at hfinal
     simp only[h118,Option.bind_some,hg0,cond_true,decide_eq_false (show ¬(1:Int)<((s.tied Q).length:Int) by omega),cond_false,hx0,zak,d0le,dlt x2,xac,tn,zce,e1c,e2c,push]
     exact hfinal
    ·have hx0:tieB Q.P.ties (rs.map Rd.votes) (s.tied Q) Q.P.lots true=(x:Int):=by
      rw[←x1];unfold MS.pick;rw[if_neg h1]
     rw[hx0]at h88
     rw[if_neg h1]at hfinal
     simp only[h118,Option.bind_some,hg0,cond_true,decide_eq_true (show(1:Int)<((s.tied Q).length:Int) by omega),h89,hQ.ties,h88,zak,d0le,dlt x2,xac,tn,zce,e1c,e2c,push]
     exact hfinal
end Go.Proofs.YtmipjomnjkmdbaaGreat
namespace Go.Proofs.YtmipjomnjkmdbaaGreat
open Go Go.X
variable {Q:MP} {s:MS}
def MS.act(Q:MP)(s:MS):Nat:=cntN (fun i=>decide (s.st i≠2)) Q.P.n
theorem zks(hI:MI Q s):s.f1 Q+s.h1 Q=s.act Q:=by
 unfold MS.f1 MS.h1 MS.act cntN
 rw[←zfz]
 refine zbp fun i hi=>?_
 have h3:=hI.st2 i
 rcases zbx (Q:=Q) (s:=s) i with⟨h0,h1,h2,_⟩|⟨h0,h2⟩
 ·simp[h1,h2]
 ·have:s.st i=0∨s.st i=1∨s.st i=2:=by omega
  rcases this with h|h|h<;>simp[h,h2]
theorem elM_hop{i:Nat}(h:s.el Q i=true):s.st i=0:=by
 unfold MS.el MS.reach at h
 rw[xag,xag,xaf]at h
 exact h.1.1
structure WinM(Q:MP)(s:MS)(l:List Int):Prop where
 nodup:l.Nodup
 within:∀c∈l,∃i:Nat,c=(i:Int)∧i<Q.P.n∧s.st i=0
 num:l.length+s.fl Q=min Q.P.seats Q.P.n
theorem el_nil(h:s.some1 Q=false):selI (s.el Q) Q.P.n=[]:=by
 rw[←xcy,zay]
 refine xgb fun h0=>?_
 unfold MS.some1 at h
 exact absurd h0 (xcn h)
theorem cut_some1(h:s.cut Q=true):s.some1 Q=false:=by
 unfold MS.cut at h
 rw[xag,xgf]at h
 exact h.1
theorem winM_tr(hQ:Q.OK){rs rest:List Rd}(h:MTr Q s rs rest):min Q.P.seats Q.P.n≤s.act Q→WinM Q s (rest.flatMap Rd.el):=by
 induction h with
 | @fin s rs hR hf=>
  intro hact
  have hI:=hR.inv
  have hs:=zks hI
  have hf1:=f1_le hQ hI
  have he:=f1_eq (Q:=Q) (s:=s)
  have hactn:s.act Q≤Q.P.n:=zbu _ _
  have hfill:=hI.fill
  rw[xfg,List.flatMap_nil,xcf]
  unfold MS.done
  show WinM Q s (if s.f1 Q=Q.P.seats then selI (s.el Q) Q.P.n else selI (fun i=>s.el Q i||decide (s.st1 Q i=0)) Q.P.n)
  by_cases h:s.f1 Q=Q.P.seats
  ·rw[if_pos h]
   refine⟨zcm _ _,fun c hc=>?_,?_⟩
   ·obtain⟨i,rfl,h1,h2⟩:=zaz.1 hc
    exact⟨i,rfl,h1,elM_hop h2⟩
   ·rw[zay];omega
  ·rw[if_neg h]
   have hq:s.f1 Q+s.h1 Q≤Q.P.seats:=by
    unfold MS.fin at hf
    rw[xcw,xaf,xaf]at hf
    omega
   refine⟨zcm _ _,fun c hc=>?_,?_⟩
   ·obtain⟨i,rfl,h1,h2⟩:=zaz.1 hc
    refine⟨i,rfl,h1,?_⟩
    rcases zbx (Q:=Q) (s:=s) i with⟨h0,k1,k2,_⟩|⟨h0,k2⟩
    ·exact k1
    ·rw[h0,xat,xaf]at h2
     omega
   ·rw[zay]
    have e:cntN (fun i=>s.el Q i||decide (s.st1 Q i=0)) Q.P.n=cntN (s.el Q) Q.P.n+s.h1 Q:=by
     unfold MS.h1 cntN
     rw[←zfz]
     refine zbp fun i hi=>?_
     rcases zbx (Q:=Q) (s:=s) i with⟨h0,k1,k2,_⟩|⟨h0,k2⟩
     ·simp[h0,k2]
     ·simp[h0]
    rw[e]
    omega
 | @excl s rs rest hR hf hc h ih=>
  intro hact
  have hI:=hR.inv
  have hff:=zhx hQ hI hf
  have hs:=zks hI
  have hnil:=el_nil (cut_some1 hc)
  obtain⟨x,x1,x2,x3⟩:=zix hI (rs.map Rd.votes)
  have hst:(s.excl Q (rs.map Rd.votes)).st=upd s.st x 2:=by
   unfold MS.excl
   rw[x1,xak]
  have hfl:(s.excl Q (rs.map Rd.votes)).fl Q=s.fl Q:=by
   unfold MS.fl
   rw[hst];exact fl_excl x2 x3
  have hac:(s.excl Q (rs.map Rd.votes)).act Q+1=s.act Q:=by
   unfold MS.act
   rw[hst]
   exact(cnt_upd x2 (fun i hi hne=>by rw[zlv _ _ hne]) (by rw[zpa];rfl) (by rw[x3];rfl)).symm
  have hw:=ih (by omega)
  rw[xfg]
  show WinM Q s (selI (s.el Q) Q.P.n++_)
  rw[hnil,xcz]
  refine⟨hw.nodup,fun c hc=>?_,by rw[←hfl];exact hw.num⟩
  obtain⟨i,rfl,h1,h2⟩:=hw.within c hc
  rw[hst]at h2
  refine⟨i,rfl,h1,?_⟩
  unfold upd at h2
  split at h2
  ·omega
  ·exact h2
 | @redu s rs rest hR hf hc h ih=>
  intro hact
  have hI:=hR.inv
  have hff:=zhx hQ hI hf
  have hs:=zks hI
  have he:=f1_eq (Q:=Q) (s:=s)
  have hac:(s.redu Q).act Q=s.act Q:=by
   refine zhz fun i hi=>?_
   show decide (s.st1 Q i≠2)=_
   refine xca.2 ?_
   rcases zbx (Q:=Q) (s:=s) i with⟨h0,h1,h2,_⟩|⟨h0,h2⟩<;>omega
  have hw:=ih (by omega)
  have hfl:(s.redu Q).fl Q=s.f1 Q:=rfl
  rw[xfg]
  show WinM Q s (selI (s.el Q) Q.P.n++_)
  have hwith:∀i,i<Q.P.n→s.st1 Q i=0→s.st i=0∧s.el Q i=false:=fun i hi h0=>by
   rcases zbx (Q:=Q) (s:=s) i with⟨k0,k1,k2,_⟩|⟨k0,k2⟩
   ·omega
   ·exact⟨by omega,k0⟩
  refine⟨xeh.2 ⟨zcm _ _,hw.nodup,fun c hc d hd hcd=>?_⟩,fun c hc=>?_,?_⟩
  ·subst hcd
   obtain⟨i,rfl,h1,h2⟩:=zaz.1 hc
   obtain⟨j,h3,h4,h5⟩:=hw.within _ hd
   have:=(hwith j h4 h5).2
   rw[←xdi.1 h3,h2]at this
   cases this
  ·rcases List.mem_append.1 hc with hc|hc
   ·obtain⟨i,rfl,h1,h2⟩:=zaz.1 hc
    exact⟨i,rfl,h1,elM_hop h2⟩
   ·obtain⟨j,h3,h4,h5⟩:=hw.within _ hc
    exact⟨j,h3,h4,(hwith j h4 h5).1⟩
  ·have h1:=hw.num
   rw[List.length_append,zay]
   omega
theorem winM_ok(hQ:Q.OK):WinM Q Q.s0 ((zhe Q).flatMap Rd.el):=by
 refine winM_tr hQ (zmr hQ) ?_
 have:Q.s0.act Q=Q.P.n:=by
  unfold MS.act cntN
  have key:∀n,sumN (fun _=>1) n=n:=fun n=>by
   induction n with
   |zero=>rfl
   |succ n ih=>rw[sumN,ih]
  exact(zbp (g:=fun _=>1) fun i _=>rfl).trans (key _)
 rw[this]
 exact Nat.min_le_right _ _
theorem winM_len(hQ:Q.OK):((zhe Q).flatMap Rd.el).length=min Q.P.seats Q.P.n:=by
 have h:=(winM_ok hQ).num
 have e1:Q.s0.fl Q=0:=by unfold MS.fl cntN;exact zfm _
 rw[e1]at h
 exact h
theorem MTr.len(hQ:Q.OK){rs rest:List Rd}(h:MTr Q s rs rest):rs.length+rest.length≤488:=by
 induction h with
 |fin hR hf=>have:=hR.len;simp;omega
 |excl hR hf hm h ih=>simp only[List.length_append,xbo,xea]at ih ⊢;omega
 |redu hR hf hm h ih=>simp only[List.length_append,xbo,xea]at ih ⊢;omega
theorem mcount_len(hQ:Q.OK):(zhe Q).length≤488:=by have:=(zmr hQ).len hQ;simpa using this
end Go.Proofs.YtmipjomnjkmdbaaGreat
namespace Go.Proofs.YtmipjomnjkmdbaaGreat
open Go Go.X
variable {Q:MP} {s:MS}
theorem law_start{p0:Int}(h0:WT (.int .i64) p0):∃n:Nat,1≤n∧n≤7∧w (1+p0%7)=(n:Int):=by
 have b:=zke p0 (n:=7) (by omega)
 obtain⟨n,hn⟩:∃n:Nat,1+p0%7=(n:Int):=⟨(1+p0%7).toNat,by omega⟩
 exact⟨n,by omega,by omega,by rw[zbi (by omega) (by omega)];exact hn⟩
end Go.Proofs.YtmipjomnjkmdbaaGreat
namespace Go.Proofs.YtmipjomnjkmdbaaGreat
open Go Go.X
variable {Q:MP} {s:MS}
theorem tiedM_len(hQ:Q.OK):(s.tied Q).length≤7:=by
 unfold MS.tied
 rw[zay];exact Nat.le_trans (zbu _ _) hQ.P.n7
theorem rd_smM(hQ:Q.OK)(hI:MI Q s){el ex ti:List Int}(h1:el.length≤7)(h2:ex.length≤7)(h3:ti.length≤7):Rd.Sm {s.rd0 Q with el:=el,ex:=ex,ti:=ti}:=by
 have hn7:=hQ.P.n7
 have htl:=MS.tot_le hQ
 have hsum:=MS.sum_le hQ hI
 have ho6:=hQ.one6
 have hq:=MS.quo_le hQ hI
 have hsurS:s.sur Q≤sumN (s.v Q) Q.P.n:=zgy fun i _=>by split<;>omega
 refine⟨⟨by show(lst _ Q.P.n).length≤_;rw[zak];omega,fun q hq=>?_⟩,⟨by show(lst _ Q.P.n).length≤_;rw[zak];omega,fun q hq=>?_⟩,(bzM hQ (show s.quo Q≤1000000000000000000 by omega)).sz2,(bzM hQ (show s.rest Q≤1000000000000000000 by omega)).sz2,(bzM hQ (show s.sur Q≤1000000000000000000 by omega)).sz2,⟨by show el.length≤_;omega,by show ex.length≤_;omega,by show ti.length≤_;omega⟩⟩
 ·obtain⟨i,hi,rfl⟩:=mem_lst.1 hq
  have:=MS.v_le hQ hI hi
  exact(bzM hQ (by omega)).sz2
 ·obtain⟨i,hi,rfl⟩:=mem_lst.1 hq
  have:=hI.kp1 i
  exact(bzM hQ (by omega)).sz2
theorem MTr.sm(hQ:Q.OK){rs rest:List Rd}(h:MTr Q s rs rest):∀r∈rest,r.Sm:=by
 induction h with
 | @fin s rs hR hf=>
  intro r hr
  rw[xdn]at hr
  subst hr
  have:=rd_smM hQ hR.inv (el:=(s.done Q).el) (ex:=[]) (ti:=[]) (by
   show(if _ then _ else _:List Int).length≤7
   split
   ·exact zkl hQ
   ·rw[zay];exact Nat.le_trans (zbu _ _) hQ.P.n7) (by simp) (by simp)
  exact this
 | @excl s rs rest hR hf hc h ih=>
  intro r hr
  rcases xaw.1 hr with rfl|hr
  ·exact rd_smM hQ hR.inv (zkl hQ) (by simp) (by
    split
    ·simp
    ·exact tiedM_len hQ)
  ·exact ih r hr
 | @redu s rs rest hR hf hc h ih=>
  intro r hr
  rcases xaw.1 hr with rfl|hr
  ·exact rd_smM hQ hR.inv (zkl hQ) (by simp) (by simp)
  ·exact ih r hr
theorem mcount_sm(hQ:Q.OK):∀r∈zhe Q,r.Sm:=(zmr hQ).sm hQ
theorem d11_true{c:CT}{gs:List Grp}{lots:List Int}{raw:Bool}{size code:Int}{l:List (List Int)}(hg:GsOK gs)(hlo:lots.length≤281474976710656)(hs:WT (.int .i64) c.2.2.2.1)(hdg:WT (.int .i64) c.2.2.2.2.2.1)(ht:WT (.int .i64) c.2.2.2.2.2.2.1)
  (h4:WT (.int .i64) size) (h5:WT (.int .i64) code) (hl:l.length≤281474976710656) (hw:∀x∈l,WT (.slice (.int .i64)) x):d11 c gs lots raw size code l=some true:=by
 obtain⟨b1,hb1⟩:=d19_ex hg
 obtain⟨n,hn1,hn7,hw1⟩:=law_start h4
 obtain⟨c',c1,c2,c3,c4,c5⟩:=d25_meek (n:=n) (by omega) hs hdg ht
 obtain⟨lots',l1,l2,l3⟩:=d27_eq (n:=n) (by omega) h5
 have hpl:=zmp (n:=(n:Int)) (bals (n:Int) l 24) (bals_isB (n:=(n:Int)) (by omega) (l:=l) (most:=24)) (by have:=@bals_len (n:Int) l 24;omega)
 have hC:=CntM.mk' (c:=c') c2 hn1 hn7 hpl.1 l2 l3
 have h26:d26 (n:Int) l 24=some (zdw (bals (n:Int) l 24)):=d26_eq (n:=(n:Int)) (by omega) (by omega) hl hw (most:=24) (by omega)
 have hsame:((d56 c' (zdw (bals (n:Int) l 24)) lots').bind fun r_10=>(d57 c' (zdw (bals (n:Int) l 24)) lots').bind fun r_11=>(d55).bind fun r_12=>
   bif r_12 then bif (decide (r_10.2=r_11.2))then(d29 r_10.1 r_11.1).bind fun r_13=>some r_13 else some false else some false)=some true:=by
  have hgs:=hC.pile.gs (by omega)
  have hll:lots'.length≤281474976710656:=by omega
  have hQ:=hC.mq.ok
  have hlen:=mcount_len hQ
  have hs5:=hQ.P.seats5
  have hwl:=winM_len hQ
  rw[d56_eq hgs hll,d57_eq hgs hll,Option.bind_some,Option.bind_some,d55_eq,Option.bind_some,hC.fit]
  simp only[if_true,cond_true,xaz]
  rw[show d29 (trM c' (mqOf c' (zdw (bals (n:Int) l 24)) lots')) (trM c' (mqOf c' (zdw (bals (n:Int) l 24)) lots'))=some true from d29_eq (mcount_sm hQ) (by omega) (by rw[hwl];omega)]
  rfl
 have hraw:((d56 c gs lots).bind fun r_3=>(d55).bind fun r_4=>bif r_4 then(d23 2 c gs lots).bind fun r_5=>some (decide (r_3.2=r_5))else some false)=some true:=by
  rw[d56_eq hg hlo,d55_eq,d23_eq 2 c hg hlo,Option.bind_some,Option.bind_some,cond_true,Option.bind_some]
  by_cases hf:fitE 2 c gs lots=0
  ·rw[if_pos hf,hf];rfl
  ·rw[if_neg hf];simp
 unfold d11
 simp only[zae]
 rw[hb1,d54_eq l hl,Option.bind_some,Option.bind_some]
 have main:(bif raw then(d56 c gs lots).bind fun r_3=>(d55).bind fun r_4=>bif r_4 then(d23 2 c gs lots).bind fun r_5=>some (decide (r_3.2=r_5))else some false
   else(d24 size 7).bind fun r_6=>(d25 1 (w (1+r_6)) c.2.2.2.1 c.2.2.2.2.2.1 c.2.2.2.2.2.2.1).bind fun r_7=>(d26 (w (1+r_6)) l 24).bind fun r_8=>(d27 (w (1+r_6)) code).bind fun r_9=>(d56 r_7 r_8 r_9).bind fun r_10=>(d57 r_7 r_8 r_9).bind fun r_11=>(d55).bind fun r_12=>
    bif r_12 then bif (decide (r_10.2=r_11.2))then(d29 r_10.1 r_11.1).bind fun r_13=>some r_13 else some false else some false)=some true:=by
  cases raw
  ·rw[cond_false,zng h4 (by omega) (by omega),Option.bind_some,hw1,c1,Option.bind_some,h26,Option.bind_some,l1,Option.bind_some]
   exact hsame
  ·exact hraw
 have fall:((d55).bind fun r_2=>some r_2)=some true:=by rw[d55_eq];rfl
 cases b1
 ·exact fall
 ·cases hfew:(decide (∀x∈l,x.length≤12)&&decide (l.length≤24))
  ·exact fall
  ·simp only[xaj,xae,cond_true]
   by_cases h12:(12:Int)<(lots.length:Int)
   ·rw[decide_eq_true h12];exact fall
   ·rw[decide_eq_false h12]
    by_cases hn12:(12:Int)<(c.2.1.length:Int)
    ·simp only[decide_eq_true hn12,xae,cond_true];exact fall
    ·simp only[decide_eq_false hn12,xae,cond_true,cond_false];exact main
end Go.Proofs.YtmipjomnjkmdbaaGreat
open Go Go.Proofs Go.X
namespace Go.Proofs.YtmipjomnjkmdbaaGreat
set_option maxRecDepth 100000
noncomputable section
def sg57:Sig:=⟨[(y23,.bw),(y25,.bw),(y26,.bw)],[(y32,.sh),(y2,.sh)]⟩
set_option maxHeartbeats 8000000 in
theorem sim57:Sim Tryz.prog 57 sg57 d57:=uqz Tryz.func57 (zab rfl) Tryz.call57 (by kernel_rfl) (by kernel_rfl) [.fn E23,.fn E114,.fn E59,.fn E115,.fn E116,.fn E84,.fn E117,.fn E85,.fn E86,.fn E61,.fn E118,.fn E89,.fn E88,.fn E119] (.post (uqs (.seq (uqs (uqs (.cond (.seq (.reg [] [{fl:=63}]) .nil) .nil))) (uqs (.seq (.reg [] [{},{},{},{},{},{fl:=63}]) (uqs (.seq (uqs (.block (.loop [(1,uqe),(2,uqb),(3,.v (.ptr y23) (.own 0 .bw)),(6,.v (.ptr y32) (.own 0 .sh)),(9,uqa),(10,uqa),(11,.v (.ptr y32) (.own 0 (.pr .sh (.pr .sh (.pr .sh (.pr .sh (.pr (.own 59 .sh) .sh))))))),(12,uqd),(13,uqd),(14,uqa)] [(.brk 0,[(1,uqe),(2,uqb),(3,.v (.ptr y23) (.own 0 .bw)),(6,.v (.ptr y32) (.own 0 .sh)),(9,uqa),(10,uqa),(11,.v (.ptr y32) (.own 0 (.pr .sh (.pr .sh (.pr .sh (.pr .sh (.pr (.own 59 .sh) .sh))))))),(12,uqd),(13,uqd)])] (.seq (uqs (.cond .nil .nil)) (.seq (.block uqr) uqr))))) (uqs (.block (.loop [(1,uqe),(2,uqb),(3,.v (.ptr y23) (.own 0 .bw)),(6,.v (.ptr y32) (.own 0 .sh)),(9,uqa),(10,uqa),(11,.v (.ptr y32) (.own 0 (.pr .sh (.pr .sh (.pr .sh (.pr .sh (.pr (.own 59 .sh) .sh))))))),(12,uqd),(13,uqd),(15,uqa),(16,uqa)] [(.ret,[(6,.v (.ptr y32) (.own 0 (.pr .sh (.pr .sh (.pr .sh (.pr .sh (.pr .sh .sh))))))),(7,uqa)])] (.block (.seq (.reg [] [{},{},{},{},{},{fl:=1}]) (uqs (.seq (uqs (.block (.loop [(1,uqe),(2,uqb),(3,.v (.ptr y23) (.own 0 .bw)),(6,.v (.ptr y32) (.own 0 .sh)),(9,uqa),(10,uqa),(11,.v (.ptr y32) (.own 0 (.pr .sh (.pr .sh (.pr .sh (.pr .sh (.pr (.own 59 .sh) .sh))))))),(12,uqd),(13,uqd),(15,uqa),(16,uqa),(17,uqf),(18,uqa),(20,uqa),(21,uqa)] [(.brk 4,[(1,uqe),(2,uqb),(3,.v (.ptr y23) (.own 0 .bw)),(6,.v (.ptr y32) (.own 0 .sh)),(9,uqa),(10,uqa),(11,.v (.ptr y32) (.own 0 (.pr .sh (.pr .sh (.pr .sh (.pr .sh (.pr (.own 59 .sh) .sh))))))),(12,uqd),(13,uqd),(15,uqa),(16,uqa),(17,uqf),(18,uqa),(20,uqa)])] (.seq (uqs (.cond .nil .nil)) (.seq (.block uqr) uqr))))) (uqs (.seq (.reg [] [{},{},{},{},{},{},{},{},{},{},{},{},{frz:=[(92,[]),(95,[])]}]) (uqs (uqs (uqs (.seq (uqs (.block (.loop [(1,uqe),(2,uqb),(3,.v (.ptr y23) (.own 0 .bw)),(6,.v (.ptr y32) (.own 0 .sh)),(9,uqa),(10,uqa),(11,.v (.ptr y32) (.own 0 (.pr .sh (.pr .sh (.pr .sh (.pr .sh (.pr (.own 59 .sh) .sh))))))),(12,uqd),(13,uqd),(15,uqa),(16,uqa),(17,uqf),(22,uqa),(23,.v y154 (.own 0 (.pr .sh (.pr .sh (.pr .sh (.pr .sh (.pr .sh (.pr (.own 3 .sh) .sh)))))))),(24,uqa),(25,uqa)] [(.brk 6,[(1,uqe),(2,uqb),(3,.v (.ptr y23) (.own 0 .bw)),(6,.v (.ptr y32) (.own 0 .sh)),(9,uqa),(10,uqa),(11,.v (.ptr y32) (.own 0 (.pr .sh (.pr .sh (.pr .sh (.pr .sh (.pr (.own 59 .sh) .sh))))))),(12,uqd),(13,uqd),(15,uqa),(16,uqa),(17,uqf),(22,uqa),(23,.v y154 (.own 0 (.pr .sh (.pr .sh (.pr .sh (.pr .sh (.pr .sh (.pr (.own 3 .sh) .sh)))))))),(24,uqa)])] (.seq (uqs (.cond .nil .nil)) (.join (.block (.join uqr [(1,uqe),(2,uqb),(3,.v (.ptr y23) (.own 0 .bw)),(6,.v (.ptr y32) (.own 0 .sh)),(9,uqa),(10,uqa),(11,.v (.ptr y32) (.own 0 (.pr .sh (.pr .sh (.pr .sh (.pr .sh (.pr (.own 59 .sh) .sh))))))),(12,uqd),(13,uqd),(15,uqa),(16,uqa),(17,uqf),(22,uqa),(23,.v y154 (.own 0 (.pr .sh (.pr .sh (.pr .sh (.pr .sh (.pr .sh (.pr (.own 3 .sh) .sh)))))))),(24,uqa),(25,uqa),(133,uqc)] (.cond uqr .nil))) [(1,uqe),(2,uqb),(3,.v (.ptr y23) (.own 0 .bw)),(6,.v (.ptr y32) (.own 0 .sh)),(9,uqa),(10,uqa),(11,.v (.ptr y32) (.own 0 (.pr .sh (.pr .sh (.pr .sh (.pr .sh (.pr (.own 59 .sh) .sh))))))),(12,uqd),(13,uqd),(15,uqa),(16,uqa),(17,uqf),(22,uqa),(23,.v y154 (.own 0 (.pr .sh (.pr .sh (.pr .sh (.pr .sh (.pr .sh (.pr (.own 3 .sh) .sh)))))))),(24,uqa),(25,uqa)] uqr))))) (uqs (uqs (uqs (.join (.post (.join uqr [(1,uqe),(2,uqb),(3,.v (.ptr y23) (.own 0 .bw)),(6,.v (.ptr y32) (.own 0 .sh)),(9,uqa),(10,uqa),(11,.v (.ptr y32) (.own 0 (.pr .sh (.pr .sh (.pr .sh (.pr .sh (.pr (.own 59 .sh) .sh))))))),(12,uqd),(13,uqd),(15,uqa),(16,uqa),(17,uqf),(22,uqa),(23,.v y154 (.own 0 (.pr .sh (.pr .sh (.pr .sh (.pr .sh (.pr .sh (.pr (.own 3 .sh) .sh)))))))),(24,uqa),(26,uqc),(27,uqc),(166,uqc)] (.cond (.seq (.reg [(23,[0,1,1,1,1,1,0])] []) uqr) .nil)) [(23,[0,1,1,1,1,1,0])]) [(1,uqe),(2,uqb),(3,.v (.ptr y23) (.own 0 .bw)),(6,.v (.ptr y32) (.own 0 .sh)),(9,uqa),(10,uqa),(11,.v (.ptr y32) (.own 0 (.pr .sh (.pr .sh (.pr .sh (.pr .sh (.pr (.own 59 .sh) .sh))))))),(12,uqd),(13,uqd),(15,uqa),(16,uqa),(17,uqf),(22,uqa),(23,.v y154 (.own 0 (.pr .sh (.pr .sh (.pr .sh (.pr .sh (.pr .sh (.pr .sh .sh)))))))),(24,uqa),(26,uqc),(27,uqc)] (.seq (uqs (.cond (uqs (.seq (.reg [(11,[0,1,1,1,1,0])] []) (.seq (.reg [(11,[0,1,1,1,1,1])] []) .nil))) .nil)) (.seq (.join uqr [(1,uqe),(2,uqb),(3,.v (.ptr y23) (.own 0 .bw)),(6,.v (.ptr y32) (.own 0 .sh)),(9,uqa),(10,uqa),(11,.v (.ptr y32) (.own 0 (.pr .sh (.pr .sh (.pr .sh (.pr .sh (.pr (.own 59 .sh) .sh))))))),(12,uqd),(13,uqd),(16,uqa),(17,uqf),(22,uqa),(23,.v y154 (.own 0 (.pr .sh (.pr .sh (.pr .sh (.pr .sh (.pr .sh (.pr .sh .sh)))))))),(24,uqa),(26,uqc),(204,uqc)] (.cond (uqs (uqs (.join (uqs (.cond (.seq (.reg [(28,[])] []) (.reg [] [{},{},{},{},{},{},{},{frz:=[(222,[])]},{fl:=1}])) .nil)) [(1,uqe),(2,uqb),(3,.v (.ptr y23) (.own 0 .bw)),(6,.v (.ptr y32) (.own 0 .sh)),(9,uqa),(10,uqa),(11,.v (.ptr y32) (.own 0 (.pr .sh (.pr .sh (.pr .sh (.pr .sh (.pr (.own 59 .sh) .sh))))))),(12,uqd),(13,uqd),(23,.v y154 (.own 0 (.pr .sh (.pr .sh (.pr .sh (.pr .sh (.pr .sh (.pr .sh .sh)))))))),(29,uqa)] (uqs (uqs (uqs (.seq (.reg [(23,[0,1,1,1,1,1,1,0])] []) .nil))))))) .nil)) (.join (uqs (.cond uqr .nil)) [(1,uqe),(2,uqb),(3,.v (.ptr y23) (.own 0 .bw)),(6,.v (.ptr y32) (.own 0 .sh)),(9,uqa),(10,uqa),(11,.v (.ptr y32) (.own 0 (.pr .sh (.pr .sh (.pr .sh (.pr .sh (.pr (.own 59 .sh) .sh))))))),(12,uqd),(13,uqd),(16,uqa),(17,uqf),(22,uqa),(23,.v y154 (.own 0 (.pr .sh (.pr .sh (.pr .sh (.pr .sh (.pr .sh (.pr .sh .sh)))))))),(24,uqa)] (uqs (.seq (uqs (.block (.loop [(1,uqe),(2,uqb),(3,.v (.ptr y23) (.own 0 .bw)),(6,.v (.ptr y32) (.own 0 .sh)),(9,uqa),(10,uqa),(11,.v (.ptr y32) (.own 0 (.pr .sh (.pr .sh (.pr .sh (.pr .sh (.pr (.own 59 .sh) .sh))))))),(12,uqd),(13,uqd),(15,uqa),(16,uqa),(17,uqf),(22,uqa),(23,.v y154 (.own 0 (.pr .sh (.pr .sh (.pr .sh (.pr .sh (.pr .sh (.pr .sh .sh)))))))),(30,uqa)] [(.brk 8,[(1,uqe),(2,uqb),(3,.v (.ptr y23) (.own 0 .bw)),(6,.v (.ptr y32) (.own 0 .sh)),(9,uqa),(10,uqa),(11,.v (.ptr y32) (.own 0 (.pr .sh (.pr .sh (.pr .sh (.pr .sh (.pr (.own 59 .sh) .sh))))))),(12,uqd),(13,uqd),(15,uqa),(16,uqa),(23,.v y154 (.own 0 (.pr .sh (.pr .sh (.pr .sh (.pr .sh (.pr .sh (.pr .sh .sh))))))))])] (.seq (uqs (.cond .nil .nil)) (.join (.block (.join uqr [(1,uqe),(2,uqb),(3,.v (.ptr y23) (.own 0 .bw)),(6,.v (.ptr y32) (.own 0 .sh)),(9,uqa),(10,uqa),(11,.v (.ptr y32) (.own 0 (.pr .sh (.pr .sh (.pr .sh (.pr .sh (.pr (.own 59 .sh) .sh))))))),(12,uqd),(13,uqd),(15,uqa),(16,uqa),(17,uqf),(22,uqa),(23,.v y154 (.own 0 (.pr .sh (.pr .sh (.pr .sh (.pr .sh (.pr .sh (.pr .sh .sh)))))))),(30,uqa),(261,uqc)] (.cond uqr .nil))) [(1,uqe),(2,uqb),(3,.v (.ptr y23) (.own 0 .bw)),(6,.v (.ptr y32) (.own 0 .sh)),(9,uqa),(10,uqa),(11,.v (.ptr y32) (.own 0 (.pr .sh (.pr .sh (.pr .sh (.pr .sh (.pr (.own 59 .sh) .sh))))))),(12,uqd),(13,uqd),(15,uqa),(16,uqa),(17,uqf),(22,uqa),(23,.v y154 (.own 0 (.pr .sh (.pr .sh (.pr .sh (.pr .sh (.pr .sh (.pr .sh .sh)))))))),(30,uqa)] uqr))))) uqr)))))))))))))))))))))))))))) [(6,[0])]) fun xs=>by kernel_rfl
def E57:FnE Tryz.prog:=⟨57,sg57,d57,sim57⟩
def sg11:Sig:=⟨[(y23,.sh),(y25,.sh),(y26,.sh),(y4,.sh),(y2,.sh),(y2,.sh),(y27,.bw)],[(y4,.sh)]⟩
theorem sim11:Sim Tryz.prog 11 sg11 d11:=uqz Tryz.func11 (zab rfl) Tryz.call11 (by kernel_rfl) (by kernel_rfl) [.fn E19,.fn E54,.fn E55,.fn E56,.fn E23,.fn E24,.fn E25,.fn E26,.fn E27,.fn E57,.fn E29] (uqs (.seq (.join uqr [(1,.v y25 .sh),(2,uqf),(3,uqc),(4,uqa),(5,uqa),(6,.v y27 .bw),(7,.v (.ptr y23) (.own 0 .sh)),(39,uqc)] (.cond (uqs .nil) .nil)) (.seq (uqs (.cond (.seq (.reg [] [{},{},{},{},{fl:=1}]) (uqs .nil)) .nil)) (uqs (uqs (uqs (.seq (.reg [(2,[])] [{},{},{},{},{fl:=1}]) (.seq (.reg [] [{},{},{},{},{fl:=1}]) (uqs .nil))))))))) fun xs=>by kernel_rfl
end
end Go.Proofs.YtmipjomnjkmdbaaGreat
