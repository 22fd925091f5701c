/- Part 18 of what stands below the statement. -/
import Derived.Test.YtfgjbkjddcjlfaaGreatS17
set_option linter.defProp false
set_option linter.unusedSimpArgs false
set_option linter.unusedVariables false
namespace Go.Proofs.YtfgjbkjddcjlfaaGreat
open Tryz
open Go Go.X
section
variable {P:GP} {s:GS}
def zoc{α:Type}{l m:List α}(h:l.length+m.length≤4294967296):decide ((l.length:Int)+(m.length:Int)≤LIM)=true:=by
 rw[show(l.length:Int)+(m.length:Int)=((l.length+m.length:Nat):Int) by omega];exact zce h
def zvw{c:CT}{s:GS}{st:Nat→Nat}{fl:Nat}{rs:List Rd}{r:Rd}{T:RD}{b:Bool}(hT:T=rdT r)(hr:∀x∈rs,x.el.length≤7)(hl:rs.length≤7)(he:r.el.length≤7) :
  (bif (decide (((KTof P c s st fl rs).2.2.2.2.2.2.2.2.1.length:Int)+(([T.1]:List (List Rt)).length:Int)≤LIM))then
    bif (decide (((KTof P c s st fl rs).2.2.2.2.2.2.2.2.2.2.2.2.2.1.length:Int)+(([T]:List RD).length:Int)≤LIM))then
     bif (decide (((KTof P c s st fl rs).2.2.2.2.2.2.2.2.2.2.2.2.2.2.length:Int)+(T.2.2.2.2.2.1.length:Int)≤LIM))then
      some (!b,((KTof P c s st fl rs).1,(KTof P c s st fl rs).2.1,(KTof P c s st fl rs).2.2.1,(KTof P c s st fl rs).2.2.2.1,(KTof P c s st fl rs).2.2.2.2.1,(KTof P c s st fl rs).2.2.2.2.2.1,(KTof P c s st fl rs).2.2.2.2.2.2.1,(KTof P c s st fl rs).2.2.2.2.2.2.2.1,((KTof P c s st fl rs).2.2.2.2.2.2.2.2.1++[T.1]),(KTof P c s st fl rs).2.2.2.2.2.2.2.2.2.1,(KTof P c s st fl rs).2.2.2.2.2.2.2.2.2.2.1,(KTof P c s st fl rs).2.2.2.2.2.2.2.2.2.2.2.1,(KTof P c s st fl rs).2.2.2.2.2.2.2.2.2.2.2.2.1,((KTof P c s st fl rs).2.2.2.2.2.2.2.2.2.2.2.2.2.1++[T]),((KTof P c s st fl rs).2.2.2.2.2.2.2.2.2.2.2.2.2.2++T.2.2.2.2.2.1)))
     else none
    else none
   else none:Option (Bool×KT))=some (!b,KTof P c s st fl (rs++[r])):=by
 subst hT
 have h1:=zwo hr
 have e1:(KTof P c s st fl rs).2.2.2.2.2.2.2.2.1.length=rs.length:=by simp[KTof]
 have e2:(KTof P c s st fl rs).2.2.2.2.2.2.2.2.2.2.2.2.2.1.length=rs.length:=by simp[KTof]
 have e3:(KTof P c s st fl rs).2.2.2.2.2.2.2.2.2.2.2.2.2.2.length=(rs.flatMap Rd.el).length:=rfl
 rw[zoc (by rw[e1];simp;omega),zoc (by rw[e2];simp;omega),zoc (by rw[e3];show(rs.flatMap Rd.el).length+r.el.length≤_;omega)]
 simp only[xab,KTof,xdd,xeq,xen,xgz,xed,xhi,xco]
 rfl
def zqi(P:GP)(s:GS)(el ex ti:List Int):((zdn P s el).1,(zdn P s el).2.1,(zdn P s el).2.2.1,(zdn P s el).2.2.2.1,(zdn P s el).2.2.2.2.1,el,ex,ti)=rdT {s.rd0 P with el:=el,ex:=ex,ti:=ti}:=by
 unfold zdn rdT GS.rd0
 simp only[zrz]
set_option maxHeartbeats 2000000 in
def d50_eq(hP:P.OK)(hI:GI P s)(hG:P.G≤1000000){rs:List Rd}(hR:RsOK P s rs){c:CT}(hc:c.2.2.2.2.2.2.1=P.ties)(hcs:c.2.2.2.1=(P.seats:Int)){fl:Nat}(hfl:fl=cntN (fun i=>decide (s.st i=1)) P.n+cntN (fun i=>decide (s.st i=2)) P.n) :
  (s.fin P=true∧∃st' fl',d50 (KTof P c s s.st fl rs)=some (false,KTof P c s st' fl' (rs++[s.done P]))) ∨
  (s.fin P=false∧s.most P=true∧d50 (KTof P c s s.st fl rs)=some (true,KTof P c (s.trans P (rs.map Rd.votes)) (s.trans P (rs.map Rd.votes)).st (s.e1 P+s.e2 P) (rs++[{s.rd0 P with ti:=s.tiedR P}]))) ∨
  (s.fin P=false∧s.most P=false∧d50 (KTof P c s s.st fl rs)=some (true,KTof P c (s.excl P (rs.map Rd.votes)) (s.excl P (rs.map Rd.votes)).st (s.e1 P+s.e2 P) (rs++[{s.rd0 P with ti:=s.tiedR P,ex:=[s.pick P (rs.map Rd.votes)]}]))):=by
 have hn7:=hP.n7
 have hq5:=hP.q5
 have ht5:=hP.tot5
 have hs5:=hP.seats5
 have hsum:=znh hP hI
 have hz0:d49 0=some (rr 0):=zur (n:=0) (by omega) (by omega)
 unfold d50
 rw[d96_eq hP hI hG (k:=KTof P c s s.st fl rs) rfl rfl rfl,xaa,show d97 (KTof P c s s.st fl rs).2.2.2.2.2.2.1=some (lst (fun i=>rr (s.keep i)) P.n)from d97_eq (by omega) hR.keep,xaa,
  show d49 (KTof P c s s.st fl rs).2.2.2.1=some (rr (P.q:Rat))from zhl (by omega),xaa,show d49 (KTof P c s s.st fl rs).2.2.1=some (rr (P.tot:Rat))from zhl (by omega),xaa,zaf]
 obtain⟨K,hK⟩:∃K:KT,KTof P c s s.st fl rs=K:=⟨_,rfl⟩
 rw[hK]
 have partial_le:∀i,i≤P.n→sumN (s.vt P) i≤sumN (s.vt P) P.n:=fun i hi=>by
  have key:∀(f:Nat→Nat) (m n:Nat),m≤n→sumN f m≤sumN f n:=by
   intro f m n
   induction n with
   |zero=>intro h;rw[show m=0 by omega];exact xak _
   |succ n ih=>
    intro h
    by_cases hm:m=n+1
    ·rw[hm];exact xak _
    ·rw[sumN];have:=ih (by omega);omega
  exact key _ _ _ hi
 have sumS:∀i,sumN (s.vt P) (i+1)=sumN (s.vt P) i+s.vt P i:=fun i=>rfl
 obtain⟨R0,hR0⟩:∃R0:Nat→RD,(fun i=>((lst (fun i=>rr (frac (s.vt P i) s.D)) P.n,lst (fun i=>rr (s.keep i)) P.n,rr (P.q:Rat),rr (frac (P.tot*s.D-sumN (s.vt P) i) s.D),(false,[],[]),[],[],[]):RD))=R0:=⟨_,rfl⟩
 have goalA:∀X:Option (Bool×KT)→Prop,∀Kf:KT×RD→Option (Bool×KT),X (Kf (K,R0 P.n))→X ((zad (β:=(KT×RD)) (fun((t0,t3,t29,t30,t31):KT×RD×(List Rt)×Int×Int)=>
   bif (decide (t31<t30))then
    bif (decide (0≤t31)&&decide (t31<(t29.length:Int)))then
     (d98 t3.2.2.2.1 (List.getD t29 (Int.toNat t31) (false,[],[]))).bind fun r_4=>
     some (Sum.inl (t0,(t3.1,t3.2.1,t3.2.2.1,r_4,t3.2.2.2.2),t29,t30,(w (t31+1))))
    else none
   else
    some (Sum.inr (t0,t3))) (K,(lst (fun i=>rr (frac (s.vt P i) s.D)) P.n,lst (fun i=>rr (s.keep i)) P.n,rr (P.q:Rat),rr (P.tot:Rat),(false,[],[]),[],[],[]),lst (fun i=>rr (frac (s.vt P i) s.D)) P.n,(P.n:Int),0)).bind Kf):=by
  intro X Kf hX
  refine Eq.mpr (xbx X ?_) hX
  refine zaa (fun i=>(K,R0 i,lst (fun i=>rr (frac (s.vt P i) s.D)) P.n,(P.n:Int),(i:Int))) P.n (b:=(K,R0 P.n)) ?_ (fun i hi=>?_) ?_ rfl
  ·rw[←hR0]
   simp only[sumN,Nat.sub_zero,zmo hI.D0];rfl
  ·have h1:=partial_le i (by omega)
   have h2:=partial_le (i+1) (by omega)
   rw[sumS]at h2
   have hv:=zvc hP hI hi
   have hd:d98 (rr (frac (P.tot*s.D-sumN (s.vt P) i) s.D)) (rr (frac (s.vt P i) s.D))=some (rr (frac (P.tot*s.D-sumN (s.vt P) (i+1)) s.D)):=by
    rw[d98_rr (zbo hP hI (by omega)).sz2 (zbo hP hI hv).sz2,zqd hI.D0 (by omega),sumS,Nat.sub_sub]
   rw[←hR0]
   simp only[dlt hi,d0le,zaf,xai,xab,tn,zam (fun i=>rr (frac (s.vt P i) s.D)) hi,hd,xaa,zbk (show i<9223372036854775807 by omega)]
  ·simp only[nlt (xak P.n),xac]
 refine goalA (fun z=>(s.fin P=true∧∃st' fl',z=some (false,KTof P c s st' fl' (rs++[s.done P]))) ∨
  (s.fin P=false∧s.most P=true∧z=some (true,KTof P c (s.trans P (rs.map Rd.votes)) (s.trans P (rs.map Rd.votes)).st (s.e1 P+s.e2 P) (rs++[{s.rd0 P with ti:=s.tiedR P}]))) ∨
  (s.fin P=false∧s.most P=false∧z=some (true,KTof P c (s.excl P (rs.map Rd.votes)) (s.excl P (rs.map Rd.votes)).st (s.e1 P+s.e2 P) (rs++[{s.rd0 P with ti:=s.tiedR P,ex:=[s.pick P (rs.map Rd.votes)]}])))) _ ?_
 clear goalA
 simp only
 have h5:d101 K 0=some (selI (fun i=>decide (s.st i=0)) P.n):=zoj (k:=K) (by rw[←hK];rfl) (by omega) 0
 rw[h5,xaa]
 have h6:d100 (selI (fun i=>decide (s.st i=0)) P.n) (fun a=>d102 a (R0 P.n))=some (selI (s.el1 P) P.n):=by
  have hl:(selI (fun i=>decide (s.st i=0)) P.n).length≤1000000:=by rw[zat];have:=zbd (fun i=>decide (s.st i=0)) P.n;omega
  rw[d100_eq (g:=fun c=>decide (s.vt P c.toNat<s.bar P)) (fun x hx=>by
   obtain⟨i,rfl,hi,_⟩:=zal.1 hx
   exact d102_eq hP hI hi (by rw[←hR0]) (by rw[←hR0])) hl,zgq]
  congr 1
  refine zho fun i hi=>?_
  unfold GS.el1
  simp only[xaf]
  congr 1
  by_cases h:s.vt P i<s.bar P
  ·rw[xag h,xaj (by omega)];rfl
  ·rw[xaj h,xag (by omega)];rfl
 rw[h6,xaa]
 have hKfl:fl≤1000:=by
  have h1:=zbd (fun i=>decide (s.st i=1)) P.n
  have h2:=zbd (fun i=>decide (s.st i=2)) P.n
  omega
 have hcs2:=zsw hI
 have h7:d99 K (R0 P.n) (selI (s.el1 P) P.n)=some (KTof P c s (s.st1 P) (s.e1 P+s.e2 P) rs,lst (fun i=>rr (frac (s.vt P i) s.D)) P.n,lst (fun i=>rr (s.keep i)) P.n,rr (P.q:Rat),rr (frac (P.tot*s.D-sumN (s.vt P) P.n) s.D),(false,[],[]),selI (s.el1 P) P.n,[],[]):=by
  rw[←hK,←hR0]
  unfold KTof
  simp only
  rw[d99_eq hn7 hKfl (by simp),xci,sortI_selI,hfl,hcs2]
  rfl
 rw[h7,xaa,hz0,xaa]
 simp only
 have h9:d101 (KTof P c s (s.st1 P) (s.e1 P+s.e2 P) rs) 1=some (selI (fun i=>decide (s.st1 P i=1)) P.n):=zoj (k:=KTof P c s (s.st1 P) (s.e1 P+s.e2 P) rs) rfl (by omega) 1
 have h10:d101 (KTof P c s (s.st1 P) (s.e1 P+s.e2 P) rs) 0=some (selI (fun i=>decide (s.st1 P i=0)) P.n):=zoj (k:=KTof P c s (s.st1 P) (s.e1 P+s.e2 P) rs) rfl (by omega) 0
 rw[h9,xaa]
 obtain⟨L,hL⟩:∃L,selN (fun i=>decide (s.st1 P i=1)) P.n=L:=⟨_,rfl⟩
 have hLi:(selI (fun i=>decide (s.st1 P i=1)) P.n).length=L.length:=by rw[←hL,selI,xbw]
 have hLl:L.length≤7:=by rw[←hL,zca];have:=zbd (fun i=>decide (s.st1 P i=1)) P.n;omega
 have hLs:(L.map fun i=>s.vt P i-s.bar P).sum=sumN (fun i=>if s.st1 P i=1 then s.vt P i-s.bar P else 0) P.n:=by
  rw[←hL,sum_sel]
  refine zak fun i hi=>?_
  by_cases h:s.st1 P i=1
  ·simp[h]
  ·simp[h]
 have hLt:(L.map fun i=>s.vt P i-s.bar P).sum≤P.tot*s.D:=by rw[hLs];exact sur_le hP hI
 rw[hLi]
 obtain⟨K1,hK1⟩:∃K1:KT,KTof P c s (s.st1 P) (s.e1 P+s.e2 P) rs=K1:=⟨_,rfl⟩
 rw[hK1]
 obtain⟨T,hT⟩:∃T:Nat→RD,(fun j=>((lst (fun i=>rr (frac (s.vt P i) s.D)) P.n,lst (fun i=>rr (s.keep i)) P.n,rr (P.q:Rat),rr (frac (P.tot*s.D-sumN (s.vt P) P.n) s.D),rr (frac ((L.take j).map fun i=>s.vt P i-s.bar P).sum s.D),selI (s.el1 P) P.n,[],[]):RD))=T:=⟨_,rfl⟩
 have hTb:T L.length=zdn P s (selI (s.el1 P) P.n):=by
  rw[←hT]
  simp only[xbh,hLs]
  rfl
 have goalB:∀X:Option (Bool×KT)→Prop,∀Kf:KT×RD→Option (Bool×KT),X (Kf (K1,zdn P s (selI (s.el1 P) P.n)))→X ((zad (β:=(KT×RD)) (fun((t0_2,t3_2,t50,t51,t52):KT×RD×(List Int)×Int×Int)=>
   bif (decide (t52<t51))then
    bif (decide (0≤t52)&&decide (t52<(t50.length:Int)))then
     bif (decide (0≤(List.getD t50 (Int.toNat t52) 0))&&decide ((List.getD t50 (Int.toNat t52) 0)<(t3_2.1.length:Int)))then
      (d98 (List.getD t3_2.1 (Int.toNat (List.getD t50 (Int.toNat t52) 0)) (false,[],[])) t3_2.2.2.1).bind fun r_10=>
      (d104 t3_2.2.2.2.2.1 r_10).bind fun r_11=>
      some (Sum.inl (t0_2,(t3_2.1,t3_2.2.1,t3_2.2.2.1,t3_2.2.2.2.1,r_11,t3_2.2.2.2.2.2),t50,t51,(w (t52+1))))
     else none
    else none
   else
    some (Sum.inr (t0_2,t3_2))) (K1,(lst (fun i=>rr (frac (s.vt P i) s.D)) P.n,lst (fun i=>rr (s.keep i)) P.n,rr (P.q:Rat),rr (frac (P.tot*s.D-sumN (s.vt P) P.n) s.D),rr 0,selI (s.el1 P) P.n,[],[]),selI (fun i=>decide (s.st1 P i=1)) P.n,(L.length:Int),0)).bind Kf):=by
  intro X Kf hX
  refine Eq.mpr (xbx X ?_) hX
  refine zaa (fun j=>(K1,T j,selI (fun i=>decide (s.st1 P i=1)) P.n,(L.length:Int),(j:Int))) L.length (b:=(K1,zdn P s (selI (s.el1 P) P.n))) ?_ (fun j hj=>?_) ?_ rfl
  ·rw[←hT]
   simp only[xei,xgz,List.sum_nil]
   have:frac 0 s.D=0:=by unfold frac;rw[xgw];simp
   rw[this];rfl
  ·have hj':j<(selN (fun i=>decide (s.st1 P i=1)) P.n).length:=by rw[hL];exact hj
   have hg:=zhb hj'
   have hsg:=zjp hj'
   rw[hL]at hg hsg
   obtain⟨x,hx⟩:∃x,L.getD j 0=x:=⟨_,rfl⟩
   rw[hx]at hg hsg
   obtain⟨_,_,k3⟩:=zqx hI hg.1 (xbl hg.2)
   have hv:=zvc hP hI hg.1
   have hd1:d98 (rr (frac (s.vt P x) s.D)) (rr (P.q:Rat))=some (rr (frac (s.vt P x-s.bar P) s.D)):=by
    rw[q_frac hI,d98_rr (zbo hP hI hv).sz2 (bar_le hP hI).sz2,zqd hI.D0 k3]
   have hst:((L.take (j+1)).map fun i=>s.vt P i-s.bar P).sum=((L.take j).map fun i=>s.vt P i-s.bar P).sum+(s.vt P x-s.bar P):=by
    rw[zbg L 0 hj,hx,xdd,xke];simp
   have hle1:((L.take j).map fun i=>s.vt P i-s.bar P).sum≤P.tot*s.D:=by
    rw[xhr];exact xbb (zqu _ _) hLt
   have hd2:d104 (rr (frac ((L.take j).map fun i=>s.vt P i-s.bar P).sum s.D)) (rr (frac (s.vt P x-s.bar P) s.D))=some (rr (frac ((L.take (j+1)).map fun i=>s.vt P i-s.bar P).sum s.D)):=by
    rw[d104_rr (zbo hP hI hle1).sz2 (zbo hP hI (by omega)).sz2,zwn hI.D0,hst]
   rw[←hT]
   simp only[dlt hj,d0le,hLi,xai,xab,tn,hsg,zaf,dlt hg.1,zam (fun i=>rr (frac (s.vt P i) s.D)) hg.1,hd1,hd2,xaa,zbk (show j<9223372036854775807 by omega)]
  ·simp only[nlt (xak L.length),xac,hTb]
 refine goalB (fun z=>(s.fin P=true∧∃st' fl',z=some (false,KTof P c s st' fl' (rs++[s.done P]))) ∨
  (s.fin P=false∧s.most P=true∧z=some (true,KTof P c (s.trans P (rs.map Rd.votes)) (s.trans P (rs.map Rd.votes)).st (s.e1 P+s.e2 P) (rs++[{s.rd0 P with ti:=s.tiedR P}]))) ∨
  (s.fin P=false∧s.most P=false∧z=some (true,KTof P c (s.excl P (rs.map Rd.votes)) (s.excl P (rs.map Rd.votes)).st (s.e1 P+s.e2 P) (rs++[{s.rd0 P with ti:=s.tiedR P,ex:=[s.pick P (rs.map Rd.votes)]}])))) _ ?_
 clear goalB hT hTb
 subst hK1
 clear hK h5 h6 h7
 have hel:(selI (s.el1 P) P.n).length≤7:=by rw[zat];have:=zbd (s.el1 P) P.n;omega
 have hrl:=hR.len
 have hre:∀x∈rs,x.el.length≤7:=fun x hx=>(hR.rnd x hx).2
 simp only[zaq]
 have hfs:(KTof P c s (s.st1 P) (s.e1 P+s.e2 P) rs).2.2.2.2.2.2.2.1=((s.e1 P+s.e2 P:Nat):Int):=rfl
 have hss:(KTof P c s (s.st1 P) (s.e1 P+s.e2 P) rs).1.2.2.2.1=(P.seats:Int):=hcs
 have helec:=zoi hP hI
 simp only[hfs,hss,zge]
 by_cases hq:s.e1 P+s.e2 P=P.seats
 ·have hfin:s.fin P=true:=by
   unfold GS.fin
   rw[xdj]
   exact .inl (xag hq)
  refine .inl ⟨hfin,s.st1 P,s.e1 P+s.e2 P,?_⟩
  simp only[xag hq,xab]
  have hdone:s.done P={s.rd0 P with el:=selI (s.el1 P) P.n,ex:=[],ti:=[]}:=by
   unfold GS.done
   have h':¬(cntN (fun i=>decide (s.st1 P i=1)) P.n+cntN (fun i=>decide (s.st1 P i=2)) P.n<P.seats):=by
    show ¬(s.e1 P+s.e2 P<P.seats);omega
   simp only[if_neg h']
   rfl
  rw[hdone]
  exact zvw (b:=true) (zqi P s (selI (s.el1 P) P.n) [] []) hre (by omega) hel
 ·simp only[xaj hq,xac,h10,xaa]
  have hlen0:(selI (fun i=>decide (s.st1 P i=0)) P.n).length=s.e0 P:=zat _ _
  have he0:s.e0 P≤7:=by unfold GS.e0;have:=zbd (fun i=>decide (s.st1 P i=0)) P.n;omega
  rw[hlen0,wadd (by omega)]
  by_cases hq2:s.e1 P+s.e2 P+s.e0 P≤P.seats
  ·have hfin:s.fin P=true:=by
    unfold GS.fin
    rw[xdj]
    exact .inr (xag hq2)
   rw[show decide (((s.e1 P+s.e2 P+s.e0 P:Nat):Int)≤(P.seats:Int))=true from xag (by omega),xab]
   have h14:d99 (KTof P c s (s.st1 P) (s.e1 P+s.e2 P) rs) (zdn P s (selI (s.el1 P) P.n)) (selI (fun i=>decide (s.st1 P i=0)) P.n)=some (KTof P c s (fun i=>if decide (s.st1 P i=0)then 1 else s.st1 P i) (s.e1 P+s.e2 P+s.e0 P) rs,zdn P s (selI (fun i=>s.el1 P i||decide (s.st1 P i=0)) P.n)):=by
    unfold KTof zdn
    rw[d99_eq (st:=s.st1 P) hn7 (by omega) (by omega),sortI_two fun i hi=>?_]
    ·rfl
    ·rcases zch (P:=P) (s:=s) i with⟨_,_,h2,_⟩|⟨h0,_⟩
     ·rw[h2];rfl
     ·rw[h0]at hi;cases hi
   rw[h14,xaa]
   refine .inl ⟨hfin,fun i=>if decide (s.st1 P i=0)then 1 else s.st1 P i,s.e1 P+s.e2 P+s.e0 P,?_⟩
   have hdone:s.done P={s.rd0 P with el:=selI (fun i=>s.el1 P i||decide (s.st1 P i=0)) P.n,ex:=[],ti:=[]}:=by
    unfold GS.done
    have h':cntN (fun i=>decide (s.st1 P i=1)) P.n+cntN (fun i=>decide (s.st1 P i=2)) P.n<P.seats:=by
     show s.e1 P+s.e2 P<P.seats;omega
    simp only[if_pos h']
    rfl
   rw[hdone]
   exact zvw (b:=true) (zqi P s (selI (fun i=>s.el1 P i||decide (s.st1 P i=0)) P.n) [] []) hre (by omega) (by
    show(selI _ _).length≤7
    rw[zat];have:=zbd (fun i=>s.el1 P i||decide (s.st1 P i=0)) P.n;omega)
  ·have hfin:s.fin P=false:=by
    unfold GS.fin
    rw[xcj]
    exact⟨xaj hq,xaj hq2⟩
   rw[show decide (((s.e1 P+s.e2 P+s.e0 P:Nat):Int)≤(P.seats:Int))=false from xaj (by omega),xac,h9,xaa]
   have hlen1:(selI (fun i=>decide (s.st1 P i=1)) P.n).length=s.e1 P:=zat _ _
   rw[hlen1]
   refine .inr ?_
   cases hm:s.most P with
   |true=>
    refine .inl ⟨hfin,rfl,?_⟩
    have h0:0<s.e1 P:=xbl hm
    rw[show decide ((0:Int)<(s.e1 P:Int))=true from xag (by omega),xab,d105_eq hP hI hG hR hc _ hfin hm,xaa]
    exact zvw (b:=false) (zqi P s (selI (s.el1 P) P.n) [] (s.tiedR P)) hre (by omega) hel
   |false=>
    refine .inr ⟨hfin,rfl,?_⟩
    have h0:¬0<s.e1 P:=xee hm
    rw[show decide ((0:Int)<(s.e1 P:Int))=false from xaj (by omega),xac,d106_eq hP hI hG hR hc _ hfin hm,xaa]
    exact zvw (b:=false) (zqi P s (selI (s.el1 P) P.n) [s.pick P (rs.map Rd.votes)] (s.tiedR P)) hre (by omega) hel
end
section
def permB(n:Int)(lots:List Int):Bool:=decide ((lots.length:Int)=n)&&decide (isB n lots)
def fitE(m:Int)(c:CT)(gs:List Grp)(lots:List Int):Int:=
 bif decide (m<1)||(decide (3<m)|| !decide (c.2.2.1=m))then 5
 else bif decide ((c.2.1.length:Int)<1)||(decide (7<(c.2.1.length:Int))||(decide (c.2.2.2.1<1)||(decide (5<c.2.2.2.1)||((decide (m=1)&& !decide (c.2.2.2.1=1))||(!(bif decide (m=2)then decide (1≤c.2.2.2.2.2.1)&&decide (c.2.2.2.2.2.1≤6)else decide (c.2.2.2.2.2.1=0))||(decide (c.2.2.2.2.2.2.1<1)||decide (3<c.2.2.2.2.2.2.1)))))))then 4
 else bif !pileB (c.2.1.length:Int) gs then 8
 else bif !permB (c.2.1.length:Int) lots then 13
 else 0
set_option maxHeartbeats 2000000 in
def d42_eq(m:Int)(c:CT){gs:List Grp}{lots:List Int}(hg:GsOK gs)(hl:lots.length≤281474976710656):d42 m c gs lots=some (fitE m c gs lots):=by
 have hp:decide ((c.2.1.length:Int)<1)=false→decide (7<(c.2.1.length:Int))=false→d77 (c.2.1.length:Int) gs=some (pileB (c.2.1.length:Int) gs):=fun h1 h2=>by
  have h1:=xee h1
  have h2:=xee h2
  rw[d77_eq (by omega) hg.1 hg.2]
  unfold pileB goodP
  rw[xag (show 1≤(c.2.1.length:Int)∧(c.2.1.length:Int)≤7 by omega)];rfl
 have hq:decide (7<(c.2.1.length:Int))=false→d78 lots (c.2.1.length:Int)=some (permB (c.2.1.length:Int) lots):=fun h2=>by
  have h2:=xee h2
  unfold d78 permB
  by_cases h:(lots.length:Int)=(c.2.1.length:Int)
  ·rw[xag h,xab,d121_eq (by omega) hl];rfl
  ·rw[xaj h];rfl
 unfold d42 fitE
 cases he2:decide (m=2)<;>cases hg1:decide (1≤c.2.2.2.2.2.1)<;>simp only[he2,hg1,xaq,xao,xab,xac,xcw,xbp,xdi,xcx,xax,xbe,xaa]
 all_goals
  rw[zaq]
  cases ha1:decide (m<1)
  case true=>simp only[ha1,zaq,xaq,xao,xab,xac,xcw,xbp,xdi,xcx,xax,xbe,xaa]
  try simp only[ha1,xaq,xao,xab,xac,xcw,xbp,xdi,xcx,xax,xbe,xaa]
  cases ha2:decide (3<m)
  case true=>simp only[ha2,zaq,xaq,xao,xab,xac,xcw,xbp,xdi,xcx,xax,xbe,xaa]
  try simp only[ha2,xaq,xao,xab,xac,xcw,xbp,xdi,xcx,xax,xbe,xaa]
  cases ha3:decide (c.2.2.1=m)
  case false=>simp only[ha3,zaq,xaq,xao,xab,xac,xcw,xbp,xdi,xcx,xax,xbe,xaa]
  try simp only[ha3,xaq,xao,xab,xac,xcw,xbp,xdi,xcx,xax,xbe,xaa]
  rw[zaq]
  try simp only[xaq,xao,xab,xac,xcw,xbp,xdi,xcx,xax,xbe,xaa]
  cases hn1:decide ((c.2.1.length:Int)<1)
  case true=>simp only[hn1,zaq,xaq,xao,xab,xac,xcw,xbp,xdi,xcx,xax,xbe,xaa]
  try simp only[hn1,xaq,xao,xab,xac,xcw,xbp,xdi,xcx,xax,xbe,xaa]
  cases hn2:decide (7<(c.2.1.length:Int))
  case true=>simp only[hn2,zaq,xaq,xao,xab,xac,xcw,xbp,xdi,xcx,xax,xbe,xaa]
  try simp only[hn2,xaq,xao,xab,xac,xcw,xbp,xdi,xcx,xax,xbe,xaa]
  simp only[zaq,hp hn1 hn2,hq hn2,xaq,xao,xab,xac,xcw,xbp,xdi,xcx,xax,xbe,xaa]
  cases hs1:decide (c.2.2.2.1<1)
  case true=>simp only[hs1,zaq,xaq,xao,xab,xac,xcw,xbp,xdi,xcx,xax,xbe,xaa]
  try simp only[hs1,xaq,xao,xab,xac,xcw,xbp,xdi,xcx,xax,xbe,xaa]
  cases hs2:decide (5<c.2.2.2.1)
  case true=>simp only[hs2,zaq,xaq,xao,xab,xac,xcw,xbp,xdi,xcx,xax,xbe,xaa]
  try simp only[hs2,xaq,xao,xab,xac,xcw,xbp,xdi,xcx,xax,xbe,xaa]
  cases hm1:decide (m=1)<;>cases hso:decide (c.2.2.2.1=1)<;>simp only[hm1,hso,xaq,xao,xab,xac,xcw,xbp,xdi,xcx,xax,xbe,xaa]
  all_goals (try (cases hg2:decide (c.2.2.2.2.2.1≤6)<;>simp only[hg2,xaq,xao,xab,xac,xcw,xbp,xdi,xcx,xax,xbe,xaa]))
  all_goals (try (cases hg0:decide (c.2.2.2.2.2.1=0)<;>simp only[hg0,xaq,xao,xab,xac,xcw,xbp,xdi,xcx,xax,xbe,xaa]))
  all_goals (try (cases ht1:decide (c.2.2.2.2.2.2.1<1)<;>simp only[ht1,xaq,xao,xab,xac,xcw,xbp,xdi,xcx,xax,xbe,xaa]))
  all_goals (try (cases ht2:decide (3<c.2.2.2.2.2.2.1)<;>simp only[ht2,xaq,xao,xab,xac,xcw,xbp,xdi,xcx,xax,xbe,xaa]))
  all_goals (try (cases pileB (c.2.1.length:Int) gs<;>simp only[xaq,xao,xab,xac,xcw,xbp,xdi,xcx,xax,xbe,xaa]))
  all_goals (try (cases permB (c.2.1.length:Int) lots<;>simp only[xaq,xao,xab,xac,xcw,xbp,xdi,xcx,xax,xbe,xaa]))
def zkc{m:Int}{c:CT}{gs:List Grp}{lots:List Int}(h:fitE m c gs lots=0):1≤m∧m≤3∧c.2.2.1=m∧1≤c.2.1.length∧c.2.1.length≤7∧1≤c.2.2.2.1∧c.2.2.2.1≤5∧(m=1→c.2.2.2.1=1)∧(m=2→1≤c.2.2.2.2.2.1∧c.2.2.2.2.2.1≤6)∧(m≠2→c.2.2.2.2.2.1=0)∧1≤c.2.2.2.2.2.2.1∧c.2.2.2.2.2.2.1≤3∧PileOK (c.2.1.length:Int) gs (wsum (fun _=>1) gs)∧lots.length=c.2.1.length∧isB (c.2.1.length:Int) lots:=by
 unfold fitE at h
 by_cases h1:(decide (m<1)||(decide (3<m)|| !decide (c.2.2.1=m)))=true
 ·rw[h1]at h;exact absurd h (by show ¬(5:Int)=0;omega)
 have h1:(decide (m<1)||(decide (3<m)|| !decide (c.2.2.1=m)))=false:=by simpa using h1
 rw[h1,xac]at h
 cases h2:(decide ((c.2.1.length:Int)<1)||(decide (7<(c.2.1.length:Int))||(decide (c.2.2.2.1<1)||(decide (5<c.2.2.2.1)||((decide (m=1)&& !decide (c.2.2.2.1=1))||(!(bif decide (m=2)then decide (1≤c.2.2.2.2.2.1)&&decide (c.2.2.2.2.2.1≤6)else decide (c.2.2.2.2.2.1=0))||(decide (c.2.2.2.2.2.2.1<1)||decide (3<c.2.2.2.2.2.2.1))))))))
 case true=>rw[h2]at h;exact absurd h (by show ¬(4:Int)=0;omega)
 rw[h2,xac]at h
 cases h3:pileB (c.2.1.length:Int) gs
 case false=>rw[h3]at h;exact absurd h (by show ¬(8:Int)=0;omega)
 rw[h3,xaq,xac]at h
 cases h4:permB (c.2.1.length:Int) lots
 case false=>rw[h4]at h;exact absurd h (by show ¬(13:Int)=0;omega)
 simp only[xcj,xay,xgv,xam]at h1 h2
 obtain⟨a1,a2,a3⟩:=h1
 obtain⟨b1,b2,b3,b4,b5,b6,b7,b8⟩:=h2
 unfold permB at h4
 simp only[xan,xam]at h4
 refine⟨by omega,by omega,a3,by omega,by omega,by omega,by omega,fun hm=>?_,fun hm=>?_,fun hm=>?_,by omega,by omega,(zpv h3).2.2,by omega,h4.2⟩
 ·rw[xag hm,xax,xgv,xam]at b5
  exact b5
 ·rw[xag hm,xab,xan,xam,xam]at b6
  exact b6
 ·rw[xaj hm,xac,xam]at b6
  exact b6
def d47_eq{b s:Int}(h0:0≤b)(h1:b≤100000)(h2:1≤s)(h3:s≤5):d47 b s=some (b/(s+1)+1):=by
 have e:w (s+1)=s+1:=zbx (by omega) (by omega)
 have hd:Int.tdiv b (s+1)=b/(s+1):=xgb h0
 have hle:b/(s+1)≤b:=Int.ediv_le_self _ h0
 have hge:0≤b/(s+1):=Int.ediv_nonneg h0 (by omega)
 unfold d47
 rw[zaq]
 simp only[xaj (show ¬b<0 by omega),xaj (show ¬100000<b by omega),xaj (show ¬s<1 by omega),xaj (show ¬5<s by omega),xao,xab,xac,e,xaj (show ¬s+1=0 by omega),hd]
 rw[zbx (n:=b/(s+1)) (by omega) (by omega),zbx (by omega) (by omega)]
def PileOK.d46{n:Int}{gs:List Grp}{N:Int}(h:PileOK n gs N)(hn:n≤7):d46 gs=some (wsum (fun _=>1) gs):=by
 obtain⟨hl,hg⟩:=h.sizes hn
 have hf:∀p:List Int,0≤(1:Int)∧(1:Int)≤1:=fun p=>by omega
 unfold Go.Proofs.YtfgjbkjddcjlfaaGreat.d46
 rw[h.d89 hn]
 simp only[xaa,xaq,xac]
 have:d90 gs (fun a=>d91 a)=some (wsum (fun _=>1) gs):=by
  unfold d90
  refine zaa (b:=wsum (fun _=>1) gs) (fun i=>((fun a=>d91 a),wsum (fun _=>1) (gs.take i),gs,(gs.length:Int),(i:Int))) gs.length rfl (fun i hi=>?_) ?_ rfl
  ·have h1:=h.part hf (i+1)
   rw[zcp _ gs hi]at h1
   simp only[dlt hi,d0le,xai,xab,tn,d91,xaa,zbk (show i<9223372036854775807 by omega)]
   rw[zbx (by omega) (by omega),zcp _ gs hi,Int.mul_one]
  ·simp only[nlt (xak gs.length),xac,xbh]
 rw[this];rfl
def gpOf(c:CT)(gs:List Grp)(lots:List Int):GP:=
 {gs:=gs,n:=c.2.1.length,seats:=c.2.2.2.1.toNat,q:=(wsum zao gs/(c.2.2.2.1+1)+1).toNat,tot:=(wsum (fun _=>1) gs).toNat,ties:=c.2.2.2.2.2.2.1,lots:=lots}
def zlt{n:Int}{gs:List Grp}{N:Int}(h:PileOK n gs N)(b:List Int→Bool)(c:CT)(lots:List Int):∀m,m≤gs.length→wsum (fun p=>if b p then 1 else 0) (gs.take m)=((sumN (fun g=>if b ((gpOf c gs lots).p g)then(gpOf c gs lots).k g else 0) m:Nat):Int)
 | 0,_=>rfl
 |m+1,hm=>by
  have hb:=(h.ballots _ (zdf (l:=gs) (d:=([],0)) (i:=m) (by omega))).2
  rw[zcp _ gs (by omega),zlt h b c lots m (by omega),sumN,Int.natCast_add]
  congr 1
  show _*(if b (gs.getD m ([],0)).1 then 1 else 0)=((if b (gs.getD m ([],0)).1 then(gs.getD m ([],0)).2.toNat else 0:Nat):Int)
  split
  ·rw[Int.mul_one];omega
  ·rw[Int.mul_zero];rfl
def quo_lt{m s:Nat}(h1:1≤s)(h5:s≤5):m<(m/(s+1)+1)*(s+1):=by
 have:s=1∨s=2∨s=3∨s=4∨s=5:=by omega
 rcases this with rfl|rfl|rfl|rfl|rfl<;>omega
def gpOf_ok{c:CT}{gs:List Grp}{lots:List Int}(h:fitE 3 c gs lots=0):(gpOf c gs lots).OK∧(gpOf c gs lots).G≤1000000∧c.2.2.2.1=((gpOf c gs lots).seats:Int)∧d46 gs=some ((gpOf c gs lots).tot:Int)∧d48 gs=some (wsum zao gs)∧d47 (wsum zao gs) c.2.2.2.1=some ((gpOf c gs lots).q:Int):=by
 obtain⟨_,_,_,n1,n7,s1,s5,_,_,_,t1,t3,hp,ll,hB⟩:=zkc h
 obtain⟨hl,hg⟩:=hp.sizes (by omega)
 have hmk:=hp.part (f:=zao) (fun p=>by unfold zao;split<;>omega) gs.length
 have hto:=hp.part (f:=fun _=>1) (fun p=>by omega) gs.length
 rw[xbh]at hmk hto
 have hS:c.2.2.2.1=(c.2.2.2.1.toNat:Int):=by omega
 have e1:wsum (fun _=>1) gs=((sumN (gpOf c gs lots).k gs.length:Nat):Int):=by
  have:=zlt hp (fun _=>true) c lots gs.length (xak _)
  rw[xbh]at this
  simpa using this
 have e2:wsum zao gs=(((gpOf c gs lots).mkd:Nat):Int):=by
  have:=zlt hp (fun p=>decide (p≠ [])) c lots gs.length (xak _)
  rw[xbh]at this
  have hf:(fun p:List Int=>if decide (p≠ [])=true then(1:Int)else 0)=zao:=by
   funext p;unfold zao;by_cases hp:p=[]<;>simp[hp]
  rw[hf]at this
  rw[this]
  congr 1
  unfold GP.mkd
  refine zak fun g hg=>?_
  by_cases hp:(gpOf c gs lots).p g=[]<;>simp[hp]
 obtain⟨S,hSS⟩:∃S,c.2.2.2.1.toNat=S:=⟨_,rfl⟩
 have hq:(gpOf c gs lots).q=(gpOf c gs lots).mkd/(S+1)+1:=by
  show(wsum zao gs/(c.2.2.2.1+1)+1).toNat=_
  rw[e2,hS,hSS]
  rfl
 have hm5:(gpOf c gs lots).mkd≤100000:=by omega
 have hdiv:=xfc (gpOf c gs lots).mkd (S+1)
 have hq1:1≤(gpOf c gs lots).q∧(gpOf c gs lots).q≤100001:=by
  rw[hq]
  generalize(gpOf c gs lots).mkd/(S+1)=Q at hdiv ⊢
  omega
 refine⟨⟨n1,n7,by show 1≤c.2.2.2.1.toNat;omega,by show c.2.2.2.1.toNat≤5;omega,fun g hgl x hx=>?_,fun g hgl=>?_,?_,by show(wsum (fun _=>1) gs).toNat≤_;omega,hq1.1,hq1.2,?_,t1,t3,ll,fun x hx=>?_,hB.1⟩,by show gs.length≤_;omega,?_,?_,hp.d48 (by omega),?_⟩
 ·have:=(hp.ballots _ (zdf (l:=gs) (d:=([],0)) (i:=g) hgl)).1.2 x hx
  exact⟨x.toNat,by omega,by show x.toNat<c.2.1.length;omega⟩
 ·exact(hg _ (zdf (l:=gs) (d:=([],0)) (i:=g) hgl)).1
 ·show sumN (gpOf c gs lots).k gs.length=(wsum (fun _=>1) gs).toNat
  omega
 ·rw[hq]
  show _<_*(c.2.2.2.1.toNat+1)
  rw[hSS]
  exact quo_lt (by omega) (by omega)
 ·have:=hB.2 x hx
  exact⟨x.toNat,by omega,by show x.toNat<c.2.1.length;omega⟩
 ·exact hS
 ·rw[hp.d46 (by omega)]
  congr 1
  show _=((wsum (fun _=>1) gs).toNat:Int)
  omega
 ·rw[d47_eq hmk.1 hmk.2 s1 s5]
  congr 1
  show _=((wsum zao gs/(c.2.2.2.1+1)+1).toNat:Int)
  have:0≤wsum zao gs/(c.2.2.2.1+1):=Int.ediv_nonneg hmk.1 (by omega)
  omega
variable {P:GP} {s:GS}
def RsOK.next(hP:P.OK)(hI:GI P s){rs:List Rd}(hR:RsOK P s rs)(hl:rs.length+1≤7){s':GS}(hk:∀i,i<P.n→Bz eB (s'.keep i)){r:Rd}(hv:r.votes=(s.rd0 P).votes)(he:r.el.length≤7):RsOK P s' (rs++[r]):=by
 refine⟨fun x hx=>?_,by simp;omega,hk⟩
 rcases xbq.1 hx with hx|hx
 ·exact hR.rnd x hx
 ·rw[xbn]at hx
  subst hx
  rw[hv]
  exact⟨votes_rnd hP hI,he⟩
def el_len(hP:P.OK):(selI (s.el1 P) P.n).length≤7:=by rw[zat];have:=zbd (s.el1 P) P.n;have:=hP.n7;omega
def fl_next{x y:Nat}(hx:x<P.n)(hy:(s.st1 P x=1∧y=2)∨(s.st1 P x=0∧y=3)){st:Nat→Nat}(hst:st=upd (s.st1 P) x y):s.e1 P+s.e2 P=cntN (fun i=>decide (st i=1)) P.n+cntN (fun i=>decide (st i=2)) P.n:=by
 subst hst
 unfold GS.e1 GS.e2 cntN
 rw[←zbz,←zbz]
 refine zak fun i hi=>?_
 by_cases h:i=x
 ·subst h
  rcases hy with⟨h1,rfl⟩|⟨h1,rfl⟩<;>simp[h1,zbu]
 ·simp[upd,h]
def trans_keep(hP:P.OK)(hI:GI P s)(hf:s.fin P=false)(hm:s.most P=true)(earlier:List (List Rat))(hk:∀i,i<P.n→Bz eB (s.keep i)):∀i,i<P.n→Bz eB ((s.trans P earlier).keep i):=by
 intro i hi
 obtain⟨x,x1,x2,x3⟩:=zgs hP hI hf earlier
 have hv:=zvc hP hI x2
 unfold GS.trans
 simp only[x1,xaf]
 show Bz eB (upd s.keep x _ i)
 unfold upd
 split
 ·exact zll (zki hP hI (by omega)) (zki hP hI hv) (by decide)
 ·exact hk i hi
def excl_keep(earlier:List (List Rat))(hk:∀i,i<P.n→Bz eB (s.keep i)):∀i,i<P.n→Bz eB ((s.excl P earlier).keep i):=by
 intro i hi
 unfold GS.excl
 show Bz eB (upd s.keep _ 0 i)
 unfold upd
 split
 ·exact bz_zero
 ·exact hk i hi
def grun_fin{k:Nat}{rs:List Rd}(hf:s.fin P=true):grun P (k+1) rs s=rs++[s.done P]:=by
 unfold grun gstep;rw[if_pos hf]
def grun_trans{k:Nat}{rs:List Rd}(hf:s.fin P=false)(hm:s.most P=true):grun P (k+1) rs s=grun P k (rs++[{s.rd0 P with ti:=s.tiedR P}]) (s.trans P (rs.map Rd.votes)):=by
 rw[grun];unfold gstep;rw[if_neg (by rw[hf];simp),if_pos hm]
def grun_excl{k:Nat}{rs:List Rd}(hf:s.fin P=false)(hm:s.most P=false):grun P (k+1) rs s=grun P k (rs++[{s.rd0 P with ti:=s.tiedR P,ex:=[s.pick P (rs.map Rd.votes)]}]) (s.excl P (rs.map Rd.votes)):=by
 rw[grun];unfold gstep;rw[if_neg (by rw[hf];simp),if_neg (by rw[hm];simp)]
structure Run(P:GP)(s:GS)(rs:List Rd):Prop where
 inv:GI P s
 ok:RsOK P s rs
 len:rs.length+s.meas P≤P.n
 run:grun P (P.n+1-rs.length) rs s=zji P
 one:∀i,i<P.n→s.st i=0∨s.st i=1→s.keep i=1
def keep_one{x y:Nat}(hy:y=2∨y=3){k:Rat}{a b:Nat}(h:∀i,i<P.n→s.st i=0∨s.st i=1→s.keep i=1):∀i,i<P.n→(s.move P (upd (s.st1 P) x y) (upd s.keep x k) x a b).st i=0∨(s.move P (upd (s.st1 P) x y) (upd s.keep x k) x a b).st i=1→(s.move P (upd (s.st1 P) x y) (upd s.keep x k) x a b).keep i=1:=by
 intro i hi hs
 have hs':upd (s.st1 P) x y i=0∨upd (s.st1 P) x y i=1:=hs
 show upd s.keep x k i=1
 by_cases hix:i=x
 ·subst hix
  rw[zbu]at hs'
  omega
 ·rw[zep _ _ hix]at hs' ⊢
  refine h i hi ?_
  rcases zch (P:=P) (s:=s) i with⟨h0,h1,h2,_⟩|⟨h0,h2⟩<;>omega
def Run.start(hP:P.OK):Run P g0 []:=⟨g0_inv hP,⟨fun r hr=>by simp at hr,by simp,fun i _=>by
 have:=bz_nat (n:=1) (by decide)
 exact this⟩,by simp;exact meas_le _,rfl,fun i _ _=>rfl⟩
def Run.trans(hP:P.OK){rs:List Rd}(h:Run P s rs)(hf:s.fin P=false)(hm:s.most P=true):Run P (s.trans P (rs.map Rd.votes)) (rs++[{s.rd0 P with ti:=s.tiedR P}]):=by
 have hme:=znn hP h.inv hf hm (rs.map Rd.votes)
 have hl:=h.len
 have hn:=hP.n7
 refine⟨trans_inv hP h.inv hf hm _,h.ok.next hP h.inv (by omega) (trans_keep hP h.inv hf hm _ h.ok.keep) rfl (el_len hP),by simp;omega,?_,keep_one (.inl rfl) h.one⟩
 have hr:=h.run
 rw[show P.n+1-rs.length=P.n-rs.length+1 by omega,grun_trans hf hm]at hr
 rw[←hr]
 congr 1
 simp
def Run.excl(hP:P.OK){rs:List Rd}(h:Run P s rs)(hf:s.fin P=false)(hm:s.most P=false):Run P (s.excl P (rs.map Rd.votes)) (rs++[{s.rd0 P with ti:=s.tiedR P,ex:=[s.pick P (rs.map Rd.votes)]}]):=by
 have hme:=zsp hP h.inv hf hm (rs.map Rd.votes)
 have hl:=h.len
 have hn:=hP.n7
 refine⟨excl_inv hP h.inv hf hm _,h.ok.next hP h.inv (by omega) (excl_keep _ h.ok.keep) rfl (el_len hP),by simp;omega,?_,keep_one (.inr rfl) h.one⟩
 have hr:=h.run
 rw[show P.n+1-rs.length=P.n-rs.length+1 by omega,grun_excl hf hm]at hr
 rw[←hr]
 congr 1
 simp
def Run.fin{rs:List Rd}(h:Run P s rs)(hf:s.fin P=true):rs++[s.done P]=zji P:=by
 have hl:=h.len
 have hr:=h.run
 rw[show P.n+1-rs.length=P.n-rs.length+1 by omega,grun_fin hf]at hr
 exact hr
def trT(P:GP):Int×(Int×(Int×(Int×(List RD×List Int)))):=(3,(P.seats:Int),0,(P.n:Int),(zji P).map rdT,(zji P).flatMap Rd.el)
set_option maxHeartbeats 1000000 in
def d17_eq{c:CT}{gs:List Grp}{lots:List Int}(hg:GsOK gs)(hl:lots.length≤281474976710656):d17 c gs lots=some (if fitE 3 c gs lots=0 then(trT (gpOf c gs lots),0)else((0,0,0,0,[],[]),fitE 3 c gs lots)):=by
 unfold d17
 rw[d42_eq 3 c hg hl,xaa]
 by_cases hfit:¬fitE 3 c gs lots=0
 ·rw[if_neg hfit,xaj hfit];rfl
 have hfit:=xia.1 hfit
 rw[if_pos hfit,xag hfit,xaq,xac]
 obtain⟨hP,hG,hs,h67,h52,h30⟩:=gpOf_ok hfit
 have hgs:(gpOf c gs lots).gs=gs:=rfl
 have hn:c.2.1.length=(gpOf c gs lots).n:=rfl
 have hlo:(gpOf c gs lots).lots=lots:=rfl
 have hti:c.2.2.2.2.2.2.1=(gpOf c gs lots).ties:=rfl
 have hGl:gs.length=(gpOf c gs lots).G:=rfl
 have hpar:∀i,parc (gpOf c gs lots) g0 i=((gs.getD i ([],0)).1,((gs.getD i ([],0)).2.toNat:Int),0,rr (frac 1 1)):=fun i=>rfl
 have hpos:∀i,i<gs.length→((gs.getD i ([],0)).2.toNat:Int)=(gs.getD i ([],0)).2:=fun i hi=>by
  obtain⟨_,_,_,_,_,_,_,_,_,_,_,_,hp,_,_⟩:=zkc hfit
  have:=(hp.ballots _ (zdf (l:=gs) (d:=([],0)) (i:=i) hi)).2
  omega
 rw[h67,h52,xaa,xaa,h30,xaa]
 generalize hPP:gpOf c gs lots=P at *
 have hn7:=hP.n7
 have hz1:d49 1=some (rr 1):=zur (n:=1) (by omega) (by omega)
 have hone:rr (frac 1 1)=rr (1:Rat):=by rw[zwm];rfl
 rw[hn]
 simp only[xah,d0le,zce (n:=P.n) (by omega),xai,xab,tn,hs]
 refine zaa (fun i=>(gs,(0,0,0,0,[],[]),(c,lots,(P.tot:Int),(P.q:Int),[],List.replicate P.n 0,lst (fun _=>rr 1) i,0,[],3,(P.seats:Int),0,(P.n:Int),[],[]),(P.n:Int),(i:Int))) P.n rfl (fun i hi=>?_) (b:=(gs,(0,0,0,0,[],[]),(c,lots,(P.tot:Int),(P.q:Int),[],List.replicate P.n 0,lst (fun _=>rr 1) P.n,0,[],3,(P.seats:Int),0,(P.n:Int),[],[]))) ?_ ?_
 ·have hl:=zcm (l:=lst (fun _=>rr (1:Rat)) i) (d:=rr 1) (by rw[zaf];omega)
  simp only[dlt hi,xab,hz1,xaa,hl,zbk (show i<9223372036854775807 by omega),←zhc]
 ·simp only[nlt (xak P.n),xac]
 simp only
 refine zaa (fun i=>((0,0,0,0,[],[]),(c,lots,(P.tot:Int),(P.q:Int),lst (parc P g0) i,List.replicate P.n 0,lst (fun _=>rr 1) P.n,0,[],3,(P.seats:Int),0,(P.n:Int),[],[]),gs,(gs.length:Int),(i:Int))) gs.length rfl (fun i hi=>?_) (b:=((0,0,0,0,[],[]),(c,lots,(P.tot:Int),(P.q:Int),lst (parc P g0) gs.length,List.replicate P.n 0,lst (fun _=>rr 1) P.n,0,[],3,(P.seats:Int),0,(P.n:Int),[],[]))) ?_ ?_
 ·have hl:=zcm (l:=lst (parc P g0) i) (d:=((gs.getD i ([],0)).1,(gs.getD i ([],0)).2,0,rr 1)) (by rw[zaf];omega)
  simp only[dlt hi,d0le,xai,xab,tn,hz1,xaa,hl,zbk (show i<9223372036854775807 by omega),zhc,hpar,hpos i hi,hone]
 ·simp only[nlt (xak gs.length),xac]
 simp only
 have hK0:(c,lots,(P.tot:Int),(P.q:Int),lst (parc P g0) gs.length,List.replicate P.n 0,lst (fun _=>rr 1) P.n,0,[],3,(P.seats:Int),0,(P.n:Int),[],[])=KTof P c g0 g0.st 0 []:=by
  unfold KTof
  rw[hlo,hGl,zry]
  rfl
 rw[hK0]
 refine zic (Q:=fun r=>r=some (trT P,0)) (fun(M:Nat) (st:(Int×(Int×(Int×(Int×(List RD×List Int)))))×KT)=>∃(s:GS) (rs:List Rd) (fl:Nat),st=((0,0,0,0,[],[]),KTof P c s s.st fl rs)∧Run P s rs∧fl=cntN (fun i=>decide (s.st i=1)) P.n+cntN (fun i=>decide (s.st i=2)) P.n∧M=s.meas P) (g0.meas P) ⟨g0,[],0,rfl,Run.start hP,?_,rfl⟩ ?_
 ·have e1:cntN (fun i=>decide (g0.st i=1)) P.n=0:=by unfold cntN;exact zcs _
  have e2:cntN (fun i=>decide (g0.st i=2)) P.n=0:=by unfold cntN;exact zcs _
  rw[e1,e2]
 ·rintro M st ⟨s,rs,fl,rfl,hR,hfl,rfl⟩
  rcases d50_eq hP hR.inv hG hR.ok hti hs hfl with⟨hf,st',fl',he⟩|⟨hf,hm,he⟩|⟨hf,hm,he⟩
  ·refine .inr ⟨((0,0,0,0,[],[]),KTof P c s st' fl' (rs++[s.done P])),by simp only[he,xaa,xac],?_⟩
   show some ((3,(P.seats:Int),0,(P.n:Int),(rs++[s.done P]).map rdT,(rs++[s.done P]).flatMap Rd.el),0)=some (trT P,0)
   rw[hR.fin hf];rfl
  ·have hme:=znn hP hR.inv hf hm (rs.map Rd.votes)
   obtain⟨x,x1,x2,x3⟩:=zgs hP hR.inv hf (rs.map Rd.votes)
   rw[hm,if_pos rfl]at x3
   exact .inl ⟨_,(s.trans P (rs.map Rd.votes)).meas P,by simp only[he,xaa,xab],by omega,_,_,_,rfl,hR.trans hP hf hm,fl_next x2 (.inl ⟨x3,rfl⟩) (by unfold GS.trans;simp only[x1,xaf];rfl),rfl⟩
  ·have hme:=zsp hP hR.inv hf hm (rs.map Rd.votes)
   obtain⟨x,x1,x2,x3⟩:=zgs hP hR.inv hf (rs.map Rd.votes)
   rw[hm]at x3
   have x3':s.st1 P x=0:=by simpa using x3
   exact .inl ⟨_,(s.excl P (rs.map Rd.votes)).meas P,by simp only[he,xaa,xab],by omega,_,_,_,rfl,hR.excl hP hf hm,fl_next x2 (.inr ⟨x3',rfl⟩) (by unfold GS.excl;simp only[x1,xaf];rfl),rfl⟩
end
structure ConOK(c:CT)(n:Nat)(m:Int):Prop where
 names:c.2.1.length=n
 method:c.2.2.1=m
 seats1:1≤c.2.2.2.1
 seats5:c.2.2.2.1≤5
 seat:m=1→c.2.2.2.1=1
 digits:m=2→1≤c.2.2.2.2.2.1∧c.2.2.2.2.2.1≤6
 nodigits:m≠2→c.2.2.2.2.2.1=0
 ties1:1≤c.2.2.2.2.2.2.1
 ties3:c.2.2.2.2.2.2.1≤3
def d15_eq{n:Nat}(hn:n≤1000){code:Int}(hc:WT (.int .i64) code):∃l,d15 (n:Int) code=some l∧l.length=n∧isB (n:Int) l:=by
 have hwt:∀x:Int,WT (.int .i64) x→-9223372036854775808≤x∧x≤9223372036854775807:=fun x hx=>wt_int hx
 unfold d15
 refine zcq (Q:=fun r=>∃l,r=some l∧l.length=n∧isB (n:Int) l) (fun(i:Nat) (st:Int×Int×(List Int)×Int)=>∃(cd:Int) (out:List Int),st=((n:Int),cd,out,(i:Int))∧WT (.int .i64) cd∧out.length=i∧isB (i:Int) out) n ?_ ?_ ?_
 ·exact⟨code,[],rfl,hc,rfl,xkm,fun x hx=>by simp at hx⟩
 ·rintro i st hi ⟨cd,out,rfl,hcd,hlen,hb⟩
  have hcb:=hwt cd hcd
  have b:=zbf cd (n:=((i+1:Nat):Int)) (by omega)
  obtain⟨r,hr⟩:∃r:Nat,cd%((i+1:Nat):Int)=(r:Int):=⟨(cd%((i+1:Nat):Int)).toNat,by omega⟩
  have hri:r≤i:=by omega
  have c1:zbs 0 (r:Int) out.length=true:=by
   unfold zbs
   simp only[xan,xam]
   omega
  have c2:zbs (r:Int) (out.length:Int) out.length=true:=by
   unfold zbs
   simp only[xan,xam]
   omega
  have hq:-9223372036854775808≤Int.tdiv cd ((i+1:Nat):Int)∧Int.tdiv cd ((i+1:Nat):Int)≤9223372036854775807:=by
   have h1:=Int.natAbs_tdiv_le_natAbs cd ((i+1:Nat):Int)
   by_cases h0:cd=-9223372036854775808
   ·subst h0
    have h2:Int.tdiv (-9223372036854775808) ((i+1:Nat):Int)=-(Int.tdiv 9223372036854775808 ((i+1:Nat):Int)):=by rw[←Int.neg_tdiv]
    have h3:0≤Int.tdiv 9223372036854775808 ((i+1:Nat):Int):=Int.tdiv_nonneg (by omega) (by omega)
    omega
   ·omega
  have hne:decide (((i+1:Nat):Int)=0)=false:=xaj (by omega)
  have ht:(out.take r).length=r:=by rw[xbj];omega
  have l1:decide ((([]:List Int).length:Int)+((out.take r).length:Int)≤LIM)=true:=zoc (by rw[ht];simp;omega)
  have l2:=zcm (l:=out.take r) (d:=(i:Int)) (by omega)
  have l3:decide (((out.take r++[(i:Int)]).length:Int)+((out.drop r).length:Int)≤LIM)=true:=zoc (by simp;omega)
  simp only[dlt hi,xab,zbk (show i<9223372036854775807 by omega),zlo hcd (show(0:Int)<((i+1:Nat):Int) by omega) (by omega),hr,xaa,hne,xao,c1,c2,xex,tn,xbh,l1,l2,l3]
  refine⟨_,rfl,_,_,rfl,?_,by simp;omega,?_,fun x hx=>?_⟩
  ·rw[zbx hq.1 hq.2]
   exact zbx hq.1 hq.2
  ·have hp:(out.take r++[(i:Int)]++out.drop r).Perm ((i:Int)::out):=by
    have h1:(out.take r++[(i:Int)]++out.drop r).Perm ([(i:Int)]++out.take r++out.drop r):=List.Perm.append_right _ xkf
    have h2:[(i:Int)]++out.take r++out.drop r=(i:Int)::out:=by rw[xcp,xez];rfl
    rwa[h2]at h1
   refine hp.nodup_iff.2 (xdx.2 ⟨fun hm=>?_,hb.1⟩)
   have:=hb.2 _ hm
   omega
  ·simp only[xbq,xbn]at hx
   rcases hx with(hx|hx)|hx
   ·have:=hb.2 x (xcq hx);omega
   ·omega
   ·have:=hb.2 x (xgi hx);omega
 ·rintro st ⟨cd,out,rfl,hcd,hlen,hb⟩
  exact⟨out,by simp only[nlt (xak n),xac],out,rfl,hlen,hb⟩
def fitE_made{c:CT}{n:Nat}{m:Int}{gs:List Grp}{lots:List Int}{N:Int}(hc:ConOK c n m)(hm:1≤m)(hm3:m≤3)(h1:1≤n)(h7:n≤7)(hp:PileOK (n:Int) gs N)(hl:lots.length=n)(hb:isB (n:Int) lots):fitE m c gs lots=0:=by
 have hn:=hc.names
 have hpb:pileB (n:Int) gs=true:=by
  unfold pileB goodP
  rw[xag hp.good,xag (show 1≤(n:Int)∧(n:Int)≤7 by omega)];rfl
 have hqb:permB (n:Int) lots=true:=by
  unfold permB
  rw[xag hb,xag (by omega)];rfl
 have:=hc.seats1
 have:=hc.seats5
 have:=hc.ties1
 have:=hc.ties3
 unfold fitE
 rw[hn,hpb,hqb]
 simp only[xaj (show ¬m<1 by omega),xaj (show ¬3<m by omega),xag hc.method,xaj (show ¬(n:Int)<1 by omega),xaj (show ¬7<(n:Int) by omega),xaj (show ¬c.2.2.2.1<1 by omega),xaj (show ¬5<c.2.2.2.1 by omega),xaj (show ¬c.2.2.2.2.2.2.1<1 by omega),xaj (show ¬3<c.2.2.2.2.2.2.1 by omega),xaq,xcx,xbp,xac]
 have h1:(decide (m=1)&& !decide (c.2.2.2.1=1))=false:=by
  by_cases h:m=1
  ·rw[xag (hc.seat h)];simp
  ·rw[xaj h];rfl
 have h2:(bif decide (m=2)then decide (1≤c.2.2.2.2.2.1)&&decide (c.2.2.2.2.2.1≤6)else decide (c.2.2.2.2.2.1=0))=true:=by
  by_cases h:m=2
  ·rw[xag h,xab,xag (hc.digits h).1,xag (hc.digits h).2];rfl
  ·rw[xaj h,xac,xag (hc.nodigits h)]
 rw[h1,h2]
 rfl
def gs_of{n:Nat}(h7:n≤7){gs:List Grp}{N:Int}(hp:PileOK (n:Int) gs N):GsOK gs:=hp.gs (by omega)
section
inductive Tr(P:GP):GS→List Rd→List Rd→Prop
 |fin {s:GS} {rs:List Rd}:Run P s rs→s.fin P=true→Tr P s rs [s.done P]
 |trans {s:GS} {rs rest:List Rd}:Run P s rs→s.fin P=false→s.most P=true→Tr P (s.trans P (rs.map Rd.votes)) (rs++[{s.rd0 P with ti:=s.tiedR P}]) rest→Tr P s rs ({s.rd0 P with ti:=s.tiedR P}::rest)
 |excl {s:GS} {rs rest:List Rd}:Run P s rs→s.fin P=false→s.most P=false→Tr P (s.excl P (rs.map Rd.votes)) (rs++[{s.rd0 P with ti:=s.tiedR P,ex:=[s.pick P (rs.map Rd.votes)]}]) rest→Tr P s rs ({s.rd0 P with ti:=s.tiedR P,ex:=[s.pick P (rs.map Rd.votes)]}::rest)
def tr_ex{P:GP}(hP:P.OK):∀(m:Nat) {s:GS} {rs:List Rd},s.meas P<m→Run P s rs→∃rest,Tr P s rs rest∧rs++rest=zji P
 | 0,_,_,h,_=>by omega
 |m+1,s,rs,h,hR=>by
  cases hf:s.fin P with
  |true=>exact⟨_,.fin hR hf,hR.fin hf⟩
  |false=>
   cases hm:s.most P with
   |true=>
    have hme:=znn hP hR.inv hf hm (rs.map Rd.votes)
    obtain⟨rest,h1,h2⟩:=tr_ex hP m (by omega) (hR.trans hP hf hm)
    exact⟨_,.trans hR hf hm h1,by rw[←h2,xcp];rfl⟩
   |false=>
    have hme:=zsp hP hR.inv hf hm (rs.map Rd.votes)
    obtain⟨rest,h1,h2⟩:=tr_ex hP m (by omega) (hR.excl hP hf hm)
    exact⟨_,.excl hR hf hm h1,by rw[←h2,xcp];rfl⟩
def zsf{P:GP}(hP:P.OK):Tr P g0 [] (zji P):=by
 obtain⟨rest,h1,h2⟩:=tr_ex hP (g0.meas P+1) (by omega) (Run.start hP)
 rw[xci]at h2
 rwa[h2]at h1
variable {P:GP} {s:GS}
def Tr.run{rs rest:List Rd}(h:Tr P s rs rest):Run P s rs:=by
 cases h<;>assumption
def Tr.ne{rs rest:List Rd}(h:Tr P s rs rest):rest≠ []:=by
 cases h<;>simp
def GS.act(P:GP)(s:GS):Nat:=cntN (fun i=>decide (s.st i≠3)) P.n
def act_split(hI:GI P s):s.e1 P+s.e2 P+s.e0 P=s.act P:=by
 unfold GS.e1 GS.e2 GS.e0 GS.act cntN
 rw[←zbz,←zbz]
 refine zak fun i hi=>?_
 have h3:=hI.st3 i
 rcases zch (P:=P) (s:=s) i with⟨h0,h1,h2,_⟩|⟨h0,h2⟩
 ·simp[h1,h2]
 ·have:s.st i=0∨s.st i=1∨s.st i=2∨s.st i=3:=by omega
  rcases this with h|h|h|h<;>simp[h,h2]
def el1_hop{i:Nat}(h:s.el1 P i=true):s.st i=0:=by
 unfold GS.el1 at h
 rw[xan,xam]at h
 exact h.1
def trans_st(hP:P.OK)(hI:GI P s)(hf:s.fin P=false)(hm:s.most P=true)(E:List (List Rat)):∃x,x<P.n∧s.st1 P x=1∧s.pick P E=(x:Int)∧s.trans P E=s.move P (upd (s.st1 P) x 2) (upd s.keep x (frac (s.vt P x-s.bar P) (s.vt P x))) x (s.vt P x-s.bar P) (s.vt P x):=by
 obtain⟨x,x1,x2,x3⟩:=zgs hP hI hf E
 rw[hm,if_pos rfl]at x3
 exact⟨x,x2,x3,x1,by unfold GS.trans;simp only[x1,xaf]⟩
def excl_st(hP:P.OK)(hI:GI P s)(hf:s.fin P=false)(hm:s.most P=false)(E:List (List Rat)):∃x,x<P.n∧s.st1 P x=0∧s.pick P E=(x:Int)∧s.excl P E=s.move P (upd (s.st1 P) x 3) (upd s.keep x 0) x 1 1:=by
 obtain⟨x,x1,x2,x3⟩:=zgs hP hI hf E
 rw[hm]at x3
 exact⟨x,x2,by simpa using x3,x1,by unfold GS.excl;simp only[x1,xaf]⟩
def next_hop{x y:Nat}(hy:y≠0){keep:Nat→Rat}{a b i:Nat}(h:(s.move P (upd (s.st1 P) x y) keep x a b).st i=0):s.st i=0∧s.el1 P i=false:=by
 have h':upd (s.st1 P) x y i=0:=h
 unfold upd at h'
 split at h'
 ·omega
 ·rcases zch (P:=P) (s:=s) i with⟨h0,h1,h2,_⟩|⟨h0,h2⟩
  ·omega
  ·exact⟨by omega,h0⟩
structure WinOK(P:GP)(s:GS)(l:List Int):Prop where
 nodup:l.Nodup
 within:∀c∈l,∃i:Nat,c=(i:Int)∧i<P.n∧s.st i=0
 num:l.length+cntN (fun i=>decide (s.st i=1)) P.n+cntN (fun i=>decide (s.st i=2)) P.n=min P.seats P.n
def zdg(p:Nat→Bool)(n:Nat):(selI p n).Nodup:=(zcz p n).imp fun h=>by omega
def WinOK.cons(hI:GI P s){x y:Nat}(hx:x<P.n)(hy:(s.st1 P x=1∧y=2)∨(s.st1 P x=0∧y=3)){keep:Nat→Rat}{a b:Nat}{l:List Int}(h:WinOK P (s.move P (upd (s.st1 P) x y) keep x a b) l):WinOK P s (selI (s.el1 P) P.n++l):=by
 refine⟨xdp.2 ⟨zdg _ _,h.nodup,fun c hc d hd hcd=>?_⟩,fun c hc=>?_,?_⟩
 ·subst hcd
  obtain⟨i,rfl,h1,h2⟩:=zal.1 hc
  obtain⟨j,h3,h4,h5⟩:=h.within _ hd
  have:=(next_hop (by omega) h5).2
  rw[←xfk.1 h3,h2]at this
  cases this
 ·rcases xbq.1 hc with hc|hc
  ·obtain⟨i,rfl,h1,h2⟩:=zal.1 hc
   exact⟨i,rfl,h1,el1_hop h2⟩
  ·obtain⟨j,h3,h4,h5⟩:=h.within _ hc
   exact⟨j,h3,h4,(next_hop (by omega) h5).1⟩
 ·have h1:=h.num
  have h2:=fl_next (P:=P) (s:=s) hx hy (st:=(s.move P (upd (s.st1 P) x y) keep x a b).st) rfl
  have h3:=zsw hI
  rw[xbk,zat]
  omega
def act_move{x y:Nat}(hx:x<P.n)(hy:(s.st1 P x=1∧y=2)∨(s.st1 P x=0∧y=3)){keep:Nat→Rat}{a b:Nat}:(s.move P (upd (s.st1 P) x y) keep x a b).act P+(if y=3 then 1 else 0)=s.act P:=by
 unfold GS.act
 show cntN (fun i=>decide (upd (s.st1 P) x y i≠3)) P.n+_=_
 have e:∀i,decide (s.st1 P i≠3)=decide (s.st i≠3):=fun i=>by
  refine xbv.2 ?_
  rcases zch (P:=P) (s:=s) i with⟨h0,h1,h2,_⟩|⟨h0,h2⟩<;>omega
 rcases hy with⟨h1,rfl⟩|⟨h1,rfl⟩
 ·rw[if_neg (by omega),xdl]
  refine zhz fun i hi=>?_
  by_cases h:i=x
  ·subst h
   rw[zbu,←e,h1];rfl
  ·rw[zep _ _ h,e]
 ·rw[if_pos rfl]
  refine(zlq (p:=fun i=>decide (s.st i≠3)) hx (fun i hi hne=>?_) ?_ ?_).symm
  ·rw[zep _ _ hne,e]
  ·rw[zbu];rfl
  ·rw[←e,h1];rfl
def fin_win(hP:P.OK)(hI:GI P s)(hf:s.fin P=true)(hact:min P.seats P.n≤s.act P):WinOK P s (s.done P).el:=by
 have hs:=act_split hI
 have hc:=zsw hI
 have helec:=zoi hP hI
 have hactn:s.act P≤P.n:=zbd _ _
 unfold GS.done
 show WinOK P s (if s.e1 P+s.e2 P<P.seats then selI (fun i=>s.el1 P i||decide (s.st1 P i=0)) P.n else selI (s.el1 P) P.n)
 by_cases h:s.e1 P+s.e2 P<P.seats
 ·rw[if_pos h]
  have hq:s.e1 P+s.e2 P+s.e0 P≤P.seats:=by
   unfold GS.fin at hf
   rw[xdj,xam,xam]at hf
   rcases hf with h1|h1
   ·have:s.e1 P+s.e2 P=P.seats:=h1
    omega
   ·exact h1
  refine⟨zdg _ _,fun c hc=>?_,?_⟩
  ·obtain⟨i,rfl,h1,h2⟩:=zal.1 hc
   refine⟨i,rfl,h1,?_⟩
   rcases zch (P:=P) (s:=s) i with⟨h0,k1,k2,_⟩|⟨h0,k2⟩
   ·exact k1
   ·rw[h0,xbp,xam]at h2
    omega
  ·rw[zat]
   have e:cntN (fun i=>s.el1 P i||decide (s.st1 P i=0)) P.n=cntN (s.el1 P) P.n+s.e0 P:=by
    unfold GS.e0 cntN
    rw[←zbz]
    refine zak fun i hi=>?_
    rcases zch (P:=P) (s:=s) i with⟨h0,k1,k2,_⟩|⟨h0,k2⟩
    ·simp[h0,k2]
    ·simp[h0]
   rw[e]
   omega
 ·rw[if_neg h]
  refine⟨zdg _ _,fun c hc=>?_,?_⟩
  ·obtain⟨i,rfl,h1,h2⟩:=zal.1 hc
   exact⟨i,rfl,h1,el1_hop h2⟩
  ·rw[zat]
   have:s.e1 P+s.e2 P≤P.n:=by omega
   omega
def win_tr(hP:P.OK){rs rest:List Rd}(h:Tr P s rs rest):min P.seats P.n≤s.act P→WinOK P s (rest.flatMap Rd.el):=by
 induction h with
 |fin hR hf=>
  intro hact
  rw[xed,xhi,xco]
  exact fin_win hP hR.inv hf hact
 | @trans s rs rest hR hf hm h ih=>
  intro hact
  obtain⟨x,x1,x2,x3,x4⟩:=trans_st hP hR.inv hf hm (rs.map Rd.votes)
  rw[x4]at ih
  have ha:=act_move (P:=P) (s:=s) (y:=2) x1 (.inl ⟨x2,rfl⟩) (keep:=upd s.keep x (frac (s.vt P x-s.bar P) (s.vt P x))) (a:=s.vt P x-s.bar P) (b:=s.vt P x)
  rw[if_neg (by omega),xdl]at ha
  rw[xed]
  exact WinOK.cons hR.inv x1 (.inl ⟨x2,rfl⟩) (ih (by rw[ha];exact hact))
 | @excl s rs rest hR hf hm h ih=>
  intro hact
  obtain⟨x,x1,x2,x3,x4⟩:=excl_st hP hR.inv hf hm (rs.map Rd.votes)
  rw[x4]at ih
  have ha:=act_move (P:=P) (s:=s) (y:=3) x1 (.inr ⟨x2,rfl⟩) (keep:=upd s.keep x 0) (a:=1) (b:=1)
  rw[if_pos rfl]at ha
  have hs:=act_split hR.inv
  have hff:=fin_false hP hR.inv hf
  rw[xed]
  exact WinOK.cons hR.inv x1 (.inr ⟨x2,rfl⟩) (ih (by omega))
def win_ok(hP:P.OK):WinOK P g0 ((zji P).flatMap Rd.el):=by
 refine win_tr hP (zsf hP) ?_
 have:g0.act P=P.n:=by
  unfold GS.act cntN
  have key:∀n,sumN (fun _=>1) n=n:=fun n=>by
   induction n with
   |zero=>rfl
   |succ n ih=>rw[sumN,ih]
  exact(zak (g:=fun _=>1) fun i _=>rfl).trans (key _)
 rw[this]
 exact xih _ _
def win_len(hP:P.OK):((zji P).flatMap Rd.el).length=min P.seats P.n:=by
 have h:=(win_ok hP).num
 have e1:cntN (fun i=>decide (g0.st i=1)) P.n=0:=by unfold cntN;exact zcs _
 have e2:cntN (fun i=>decide (g0.st i=2)) P.n=0:=by unfold cntN;exact zcs _
 rw[e1,e2]at h
 exact h
def win_isB(hP:P.OK):isB (P.n:Int) ((zji P).flatMap Rd.el):=⟨(win_ok hP).nodup,fun c hc=>by
 obtain⟨i,rfl,h,_⟩:=(win_ok hP).within c hc
 omega⟩
def gcount_ne(hP:P.OK):zji P≠ []:=(zsf hP).ne
def GS.exh(P:GP)(s:GS):Nat:=P.tot*s.D-sumN (s.vt P) P.n
end
section
variable {P:GP} {s:GS}
def rd0:Rd:=⟨[],[],0,0,0,[],[],[]⟩
def zss{α:Type}{l:List α}{i:Nat}(d:α)(h:i<l.length):l.drop i=l.getD i d::l.drop (i+1):=by
 rw[xae,xar h]
 exact xjd h
structure StR(P:GP)(s:GS)(r:Rd):Prop where
 inv:GI P s
 keepOK:∀i,i<P.n→Bz eB (s.keep i)
 votes:r.votes=lst (fun i=>frac (s.vt P i) s.D) P.n
 keep:r.keep=lst s.keep P.n
 quota:r.quota=(P.q:Rat)
 exh:r.exh=frac (s.exh P) s.D
 one:∀i,i<P.n→s.st i=0∨s.st i=1→s.keep i=1
 el:∀i,i<P.n→s.el1 P i=true→(i:Int)∈r.el
def done_el(P:GP)(s:GS):∀i,i<P.n→s.el1 P i=true→(i:Int)∈(s.done P).el:=by
 intro i hi h
 show(i:Int)∈(if _ then _ else _)
 split
 ·exact zal.2 ⟨i,rfl,hi,by rw[h];rfl⟩
 ·exact zal.2 ⟨i,rfl,hi,h⟩
def rd0_el(P:GP)(s:GS):∀i,i<P.n→s.el1 P i=true→(i:Int)∈(s.rd0 P).el:=fun i hi h=>zal.2 ⟨i,rfl,hi,h⟩
def Tr.head{rs rest:List Rd}{r:Rd}(h:Tr P s rs (r::rest)):StR P s r:=by
 have hR:=h.run
 cases h with
 |fin=>exact⟨hR.inv,hR.ok.keep,rfl,rfl,rfl,rfl,hR.one,done_el P s⟩
 |trans=>exact⟨hR.inv,hR.ok.keep,rfl,rfl,rfl,rfl,hR.one,rd0_el P s⟩
 |excl=>exact⟨hR.inv,hR.ok.keep,rfl,rfl,rfl,rfl,hR.one,rd0_el P s⟩
end
section
def pl(P:GP)(st:Nat→Nat):GS:={D:=1,num:=fun _=>1,at_:=fun g=>nxt (P.p g) st 0,st:=st,keep:=fun _=>1}
def iv(P:GP)(st:Nat→Nat)(c:Nat):Nat:=(pl P st).lie P c
def zpo(P:GP)(st:Nat→Nat):Nat:=sumN (iv P st) P.n
def iquo(P:GP)(st:Nat→Nat):Nat:=zpo P st/2+1
def zdv(P:GP)(st:Nat→Nat):List Nat:=selN (fun i=>decide (st i=0)) P.n
def iwin(P:GP)(st:Nat→Nat):Option Nat:=if(zdv P st).length=1 then(zdv P st).head? else(zdv P st).find? fun i=>decide (iquo P st≤iv P st i)
def zhj(P:GP)(st:Nat→Nat):List Int:=selI (zpm P (iv P st) st 0 false) P.n
def ipick(P:GP)(E:List (List Rat))(st:Nat→Nat):Int:=if(zhj P st).length=1 then(zhj P st).headD 0 else tieB P.ties E (zhj P st) P.lots true
def iexh(P:GP)(st:Nat→Nat):Nat:=sumN (fun g=>if nxt (P.p g) st 0<(P.p g).length then 0 else P.k g) P.G
def ird0(P:GP)(st:Nat→Nat):Rd:=
 {votes:=lst (fun i=>(iv P st i:Rat)) P.n
  keep:=lst (fun i=>if st i=0 then 1 else 0) P.n
  quota:=(iquo P st:Rat)
  exh:=(iexh P st:Rat)
  sur:=0
  el:=[]
  ex:=[]
  ti:=[]}
def irdW(P:GP)(st:Nat→Nat)(x:Nat):Rd:={ird0 P st with el:=[(x:Int)]}
def irdX(P:GP)(E:List (List Rat))(st:Nat→Nat):Rd:={ird0 P st with ex:=[ipick P E st],ti:=if(zhj P st).length=1 then []else zhj P st}
def irun(P:GP):Nat→List Rd→(Nat→Nat)→List Rd
 | 0,rs,_=>rs
 |k+1,rs,st=>match iwin P st with
  |some x=>rs++[irdW P st x]
  |none=>irun P k (rs++[irdX P (rs.map Rd.votes) st]) (upd st (ipick P (rs.map Rd.votes) st).toNat 3)
def icount(P:GP):List Rd:=irun P P.n [] fun _=>0
def sum_two{f:Nat→Nat}{n x y:Nat}(hx:x<n)(hy:y<n)(hxy:x≠y):f x+f y≤sumN f n:=by
 have h1:=zgo (f:=fun i=>if i=x then 0 else f i) hy
 have h2:=sumN_upd (f:=f) (g:=fun i=>if i=x then 0 else f i) hx fun i hi hne=>by rw[if_neg hne]
 simp only[if_pos,if_neg (Ne.symm hxy)]at h1 h2
 omega
def nxt_skip{p:List Int}{st:Nat→Nat}:∀{d k m:Nat},m=k+d→m≤p.length→(∀i,k≤i→i<m→st (p.getD i 0).toNat≠0)→nxt p st k=nxt p st m
 | 0,k,m,h,_,_=>by rw[h,xdl]
 |d+1,k,m,h,hm,hs=>by
  rw[nxt_step (by omega),if_neg (hs k (by omega) (by omega))]
  exact nxt_skip (d:=d) (by omega) hm fun i h1 h2=>hs i (by omega) h2
def nxt_upd{p:List Int}{st:Nat→Nat}{x:Nat}:nxt p (upd st x 3) 0=if nxt p st 0<p.length∧(p.getD (nxt p st 0) 0).toNat=x then nxt p (upd st x 3) (nxt p st 0+1)else nxt p st 0:=by
 have hle:nxt p st 0≤p.length:=nxt_le st (xbz _)
 have h1:nxt p (upd st x 3) 0=nxt p (upd st x 3) (nxt p st 0):=nxt_skip (d:=nxt p st 0) (by omega) hle fun i _ hi=>by
  have:=zud (st:=st) (xbz i) hi
  unfold upd
  split
  ·omega
  ·exact this
 rw[h1]
 by_cases hlt:nxt p st 0<p.length
 ·have ha:=nxt_at hlt
  rw[nxt_step hlt]
  by_cases hx:(p.getD (nxt p st 0) 0).toNat=x
  ·rw[if_neg (by rw[hx,zbu];omega),if_pos ⟨hlt,hx⟩]
  ·rw[if_pos (by rw[zep _ _ hx];exact ha),if_neg fun h=>hx h.2]
 ·rw[if_neg fun h=>hlt h.1]
  exact nxt_end (by omega)
variable {P:GP} {s:GS}
def zsc(hP:P.OK)(st:Nat→Nat):zpo P st≤P.mkd:=by
 refine xbb (zks (s:=pl P st) hP) (zdp fun g _=>?_)
 show(if P.p g=[]then 0 else P.k g*1)≤_
 rw[xdu]
 exact xak _
structure Lead(P:GP)(s:GS)(x:Nat):Prop where
 lt:x<P.n
 st:s.st x=0
 how:(∀i,i<P.n→s.st i=0→i=x)∨zpo P s.st<2*iv P s.st x
def iwin_some(hP:P.OK){x:Nat}(h:iwin P s.st=some x):Lead P s x:=by
 unfold iwin at h
 split at h
 ·rename_i h1
  obtain⟨y,hy⟩:=xem.1 h1
  rw[hy]at h
  cases h
  have hm:x∈zdv P s.st:=by rw[hy];simp
  obtain⟨m1,m2⟩:=zbn.1 hm
  refine⟨m1,xbl m2,.inl fun i hi hs=>?_⟩
  have:i∈zdv P s.st:=zbn.2 ⟨hi,xag hs⟩
  rw[hy]at this
  simpa using this
 ·have hp:=List.find?_some h
  have hm:=List.mem_of_find?_eq_some h
  obtain⟨m1,m2⟩:=zbn.1 hm
  refine⟨m1,xbl m2,.inr ?_⟩
  have:=xbl hp
  unfold iquo at this
  omega
def iwin_none(h:iwin P s.st=none):(zdv P s.st).length≠1∧∀i,i<P.n→s.st i=0→iv P s.st i<iquo P s.st:=by
 unfold iwin at h
 split at h
 ·rename_i h1
  obtain⟨y,hy⟩:=xem.1 h1
  rw[hy]at h
  cases h
 ·rename_i h1
  refine⟨h1,fun i hi hs=>?_⟩
  have:=List.find?_eq_none.1 h i (zbn.2 ⟨hi,xag hs⟩)
  simpa using this
def zwg{st:Nat→Nat}{x:Nat}(hx:x<P.n)(h:st x=0):(zdv P st).length=(zdv P (upd st x 3)).length+1:=by
 unfold zdv
 rw[zca,zca]
 refine zlq hx (fun i hi hne=>by rw[zep _ _ hne]) (by rw[zbu];rfl) (xag h)
end
def zlu{n:Int}{gs:List Grp}{N:Int}(h:PileOK n gs N)(b:List Int→Bool)(f:List Int→Int)(hf:∀p,f p=if b p then 1 else 0)(c:CT)(lots:List Int):wsum f gs=((sumN (fun g=>if b ((gpOf c gs lots).p g)then(gpOf c gs lots).k g else 0) gs.length:Nat):Int):=by
 have:=zlt h b c lots gs.length (xak _)
 rw[xbh]at this
 rw[←this]
 congr 1
 funext p
 exact hf p
def first_votes{n:Int}{gs:List Grp}{N:Int}(h:PileOK n gs N)(c:CT)(lots:List Int)(x:Nat):wsum (zcu (x:Int)) gs=((g0.lie (gpOf c gs lots) x:Nat):Int):=by
 rw[zlu h (fun p=>decide (p≠ [])&&decide (p.getD 0 0=(x:Int))) (zcu (x:Int)) (fun p=>?_) c lots]
 ·congr 1
  unfold GS.lie
  refine zak fun g hg=>?_
  have e:(decide ((gpOf c gs lots).p g≠ [])&&decide (((gpOf c gs lots).p g).getD 0 0=(x:Int)))=g0.on (gpOf c gs lots) g x:=by
   unfold GS.on
   show _=(decide (0<((gpOf c gs lots).p g).length)&&decide (((gpOf c gs lots).p g).getD 0 0=(x:Int)))
   congr 1
   exact xbv.2 xcr.symm
  rw[e]
  show _=if g0.on (gpOf c gs lots) g x=true then(gpOf c gs lots).k g*1 else 0
  rw[xdu]
 ·unfold zcu
  by_cases h1:p≠ []∧p.getD 0 0=(x:Int)
  ·rw[if_pos h1,xag h1.1,xag h1.2];rfl
  ·rw[if_neg h1]
   have:(decide (p≠ [])&&decide (p.getD 0 0=(x:Int)))=false:=by
    rw[Bool.and_eq_false_iff,xay,xay]
    by_cases h2:p=[]
    ·exact .inl fun h=>h h2
    ·exact .inr fun h=>h1 ⟨h2,h⟩
   rw[this];rfl
def zue{n:Int}{gs:List Grp}{N:Int}(h:PileOK n gs N)(c:CT)(lots:List Int):wsum zao gs=(((gpOf c gs lots).mkd:Nat):Int):=by
 rw[zlu h (fun p=>decide (p≠ [])) zao (fun p=>by unfold zao;by_cases hp:p=[]<;>simp[hp]) c lots]
 congr 1
 unfold GP.mkd
 refine zak fun g hg=>?_
 by_cases hp:(gpOf c gs lots).p g=[]<;>simp[hp]
def quota_eq{c:CT}{gs:List Grp}{lots:List Int}{n:Int}{N:Int}(h:PileOK n gs N)(h1:1≤c.2.2.2.1):(gpOf c gs lots).q=(gpOf c gs lots).mkd/((gpOf c gs lots).seats+1)+1:=by
 show(wsum zao gs/(c.2.2.2.1+1)+1).toNat=_/(c.2.2.2.1.toNat+1)+1
 rw[zue h c lots]
 generalize hS:c.2.2.2.1.toNat=S
 have:c.2.2.2.1=(S:Int):=by omega
 rw[this]
 rfl
def zwp{P:GP}(hP:P.OK)(hq:P.q=P.mkd/(P.seats+1)+1){x:Nat}(hx:x<P.n)(h:P.mkd<(P.seats+1)*g0.lie P x):(x:Int)∈((zji P).getD 0 rd0).el:=by
 have hne:=xcr.2 (gcount_ne hP)
 have ht:=zsf hP
 have e:=zss rd0 hne
 rw[xex]at e
 rw[e]at ht
 refine ht.head.el x hx ?_
 unfold GS.el1
 have hv:g0.vt P x=g0.lie P x:=vt_lie (g0_inv hP) (.inl rfl)
 have hb:g0.bar P=P.q:=xdu _
 rw[hv,hb,hq,xag (show g0.st x=0 from rfl),xax]
 refine xag ?_
 have:P.mkd/(P.seats+1)<g0.lie P x:=(xep (by omega)).2 (by rw[xby];exact h)
 omega
abbrev IT:=CT×(List Grp×(List Int×(List Bool×List (List Rt))))
def fit_any{m:Int}{c:CT}{gs:List Grp}{lots:List Int}(h:fitE m c gs lots=0):fitE 3 (c.1,c.2.1,3,c.2.2.2.1,c.2.2.2.2.1,0,c.2.2.2.2.2.2) gs lots=0:=by
 obtain⟨_,_,_,n1,n7,s1,s5,_,_,_,t1,t3,hp,ll,hB⟩:=zkc h
 exact fitE_made (n:=c.2.1.length) ⟨rfl,rfl,s1,s5,fun h=>absurd h (by omega),fun h=>absurd h (by omega),fun _=>rfl,t1,t3⟩ (by omega) (by omega) n1 n7 hp ll hB
def zwk{m:Int}{c:CT}{gs:List Grp}{lots:List Int}(h:fitE m c gs lots=0):(gpOf c gs lots).OK∧(gpOf c gs lots).G≤1000000:=by
 have:=gpOf_ok (fit_any h)
 exact⟨this.1,this.2.1⟩
def zsb{α:Type}{l:Nat}(h:l+1≤4294967296):decide ((l:Int)+((([]:List α).length+1:Nat):Int)≤LIM)=true:=zcm (l:=List.replicate l ()) (d:=()) (by simpa using h) |> fun h=>by simpa using h
def lim_inc{l:Nat}(h:l+1≤4294967296):decide ((l:Int)+1≤LIM)=true:=zcm (l:=List.replicate l ()) (d:=()) (by simpa using h) |> fun h=>by simpa using h
def d51_eq{c:CT}(gs:List Grp)(lots:List Int)(hn:c.2.1.length≤1000):d51 c gs lots=some (c,gs,lots,lst (fun _=>true) c.2.1.length,[]):=by
 unfold d51
 generalize hm:c.2.1.length=n at hn
 simp only[xah,d0le,zce (n:=n) (by omega),xai,xab,tn,xce]
 refine zaa (fun i=>(gs,lots,c,lst (fun k=>decide (k<i)) n,(n:Int),(i:Int))) n ?_ (fun i hi=>?_) (b:=(gs,lots,c,lst (fun _=>true) n)) ?_ rfl
 ·have:lst (fun k=>decide (k<0)) n=List.replicate n false:=by
   rw[zry]
   exact zay fun k _=>xaj (by omega)
  rw[this];rfl
 ·have e:(lst (fun k=>decide (k<i)) n).set i true=lst (fun k=>decide (k<i+1)) n:=by
   rw[zen]
   refine zay fun k _=>?_
   unfold upd
   by_cases h:k=i
   ·rw[if_pos h];exact(xag (by omega)).symm
   ·rw[if_neg h];exact xbv.2 (by omega)
  simp only[dlt hi,d0le,zaf,xai,xab,tn,e,zbk (show i<9223372036854775807 by omega)]
 ·have e:lst (fun k=>decide (k<n)) n=lst (fun _=>true) n:=zay fun k hk=>xag hk
  simp only[nlt (xak n),xac,e]
def d54_eq{k:IT}{st:Nat→Nat}{n:Nat}(hk:k.2.2.2.1=lst (fun i=>decide (st i=0)) n)(hn:n≤1000):d54 k=some (selI (fun i=>decide (st i=0)) n):=by
 unfold d54
 rw[hk,zaf]
 refine zaa (fun i=>(selI (fun i=>decide (st i=0)) i,lst (fun i=>decide (st i=0)) n,(n:Int),(i:Int))) n rfl (fun i hi=>?_) ?_ rfl
 ·have hl:(selI (fun i=>decide (st i=0)) i).length+1≤4294967296:=by
   rw[zat];have:=zbd (fun i=>decide (st i=0)) i;omega
  rw[zev]
  simp only[dlt hi,d0le,zaf,xai,xab,tn,zam _ hi,zaq,zbk (show i<9223372036854775807 by omega)]
  by_cases h:st i=0
  ·rw[xag h,xab,zcm hl,xab];rfl
  ·rw[xaj h,xac];simp
 ·simp only[nlt (xak n),xac]
def d109_eq{v:Nat→Nat}{n:Nat}(hn:n≤1000)(hv:∀i,i<n→v i≤9223372036854775807):d109 (lst (fun i=>(v i:Int)) n)=some (lst (fun i=>rr (v i:Rat)) n):=by
 unfold d109
 rw[zaf]
 refine zaa (fun i=>(lst (fun i=>rr (v i:Rat)) i,lst (fun i=>(v i:Int)) n,(n:Int),(i:Int))) n rfl (fun i hi=>?_) ?_ rfl
 ·have hl:=zcm (l:=lst (fun i=>rr (v i:Rat)) i) (d:=rr (v i:Rat)) (by rw[zaf];omega)
  simp only[dlt hi,d0le,zaf,xai,xab,tn,zam (fun i=>(v i:Int)) hi,zhl (hv i hi),xaa,zbk (show i<9223372036854775807 by omega)]
  rw[zaf]at hl
  rw[hl,xab,zhc]
 ·simp only[nlt (xak n),xac]
def d53_eq{k:IT}{st v:Nat→Nat}{n e:Nat}(hk:k.2.2.2.1=lst (fun i=>decide (st i=0)) n)(hn:n≤1000)(hs:sumN v n≤4611686018427387904)(he:e≤9223372036854775807) :
  d53 k (lst (fun i=>(v i:Int)) n) (e:Int)=some ((lst (fun i=>rr (v i:Rat)) n,lst (fun i=>rr (if st i=0 then 1 else 0)) n,rr ((sumN v n/2+1:Nat):Rat),rr (e:Rat),rr 0,[],[],[]),((sumN v n/2+1:Nat):Int)):=by
 have hv:∀i,i<n→v i≤4611686018427387904:=fun i hi=>xbb (zgo hi) hs
 have hpart:∀i,i≤n→sumN v i≤sumN v n:=by
  intro i
  induction n with
  |zero=>intro h;rw[show i=0 by omega];exact xak _
  |succ n ih=>?_
  intro h
  clear ih
  have key:∀(f:Nat→Nat) (m n:Nat),m≤n→sumN f m≤sumN f n:=by
   intro f m n
   induction n with
   |zero=>intro h;rw[show m=0 by omega];exact xak _
   |succ n ih=>
    intro h
    by_cases hm:m=n+1
    ·rw[hm];exact xak _
    ·rw[sumN];have:=ih (by omega);omega
  exact key v i (n+1) h
 unfold d53
 rw[zaf]
 refine zaa (fun i=>(k,lst (fun i=>(v i:Int)) n,(e:Int),([],[],(false,[],[]),(false,[],[]),(false,[],[]),[],[],[]),((sumN v i:Nat):Int),lst (fun i=>(v i:Int)) n,(n:Int),(i:Int))) n rfl (fun i hi=>?_) (b:=(k,lst (fun i=>(v i:Int)) n,(e:Int),([],[],(false,[],[]),(false,[],[]),(false,[],[]),[],[],[]),((sumN v n:Nat):Int))) ?_ ?_
 ·have hp:=hpart (i+1) (by omega)
  rw[sumN]at hp
  simp only[dlt hi,d0le,zaf,xai,xab,tn,zam (fun i=>(v i:Int)) hi,wadd (show sumN v i+v i≤9223372036854775807 by omega),zbk (show i<9223372036854775807 by omega)]
  rfl
 ·simp only[nlt (xak n),xac]
 have hq:w (w (Int.tdiv ((sumN v n:Nat):Int) 2)+1)=((sumN v n/2+1:Nat):Int):=by
  have h1:Int.tdiv ((sumN v n:Nat):Int) 2=((sumN v n/2:Nat):Int):=by
   rw[xgb (by omega)];rfl
  rw[h1,zbx (n:=((sumN v n/2:Nat):Int)) (by omega) (by omega),zbk (by omega)]
 have h0:d49 0=some (rr 0):=zhl (n:=0) (by omega)
 have h1:d49 1=some (rr 1):=zhl (n:=1) (by omega)
 simp only[d109_eq hn fun i hi=>xbb (hv i hi) (by omega),xaa,hq,zhl (show sumN v n/2+1≤9223372036854775807 by omega),zhl he,h0,hk,zaf]
 generalize sumN v n/2+1=q
 refine zaa (fun i=>((lst (fun i=>rr (v i:Rat)) n,lst (fun i=>rr (if st i=0 then 1 else 0)) i,rr (q:Rat),rr (e:Rat),rr 0,[],[],[]),(q:Int),lst (fun i=>decide (st i=0)) n,(n:Int),(i:Int))) n rfl (fun i hi=>?_) (b:=((lst (fun i=>rr (v i:Rat)) n,lst (fun i=>rr (if st i=0 then 1 else 0)) n,rr (q:Rat),rr (e:Rat),rr 0,[],[],[]),(q:Int))) ?_ rfl
 ·have hl:=fun d=>zcm (l:=lst (fun i=>rr (if st i=0 then 1 else 0)) i) (d:=d) (by rw[zaf];omega)
  simp only[dlt hi,d0le,zaf,xai,xab,tn,zam (fun i=>decide (st i=0)) hi,zaq,zbk (show i<9223372036854775807 by omega),zhc]
  by_cases h:st i=0
  ·have:=hl (rr 1)
   rw[zaf]at this
   simp only[xag h,xab,h1,xaa,this,if_pos h]
  ·have:=hl (rr 0)
   rw[zaf]at this
   simp only[xaj h,xac,h0,xaa,this,if_neg h,xab]
 ·simp only[nlt (xak n),xac]
def zuk(q:Int→Bool):∀p:List Int,zac q p=(p.takeWhile fun c=>!q c).length
 | []=>rfl
 |x::p=>by
  rw[zac,xfj,zuk q p]
  cases q x<;>rfl
def zjn{α:Type}{p q:α→Bool}:∀{l:List α},(∀x∈l,p x=q x)→l.takeWhile p=l.takeWhile q
 | [],_=>rfl
 |x::l,h=>by
  rw[xfj,xfj,h x (by simp),zjn fun y hy=>h y (xap _ hy)]
def zsk{st:Nat→Nat}{n:Nat}{p:List Int}(hb:isB (n:Int) p):zac (rem (lst (fun i=>decide (st i=0)) n)) p=nxt p st 0:=by
 rw[zuk]
 unfold nxt
 rw[xex,xdc]
 congr 1
 refine zjn fun x hx=>?_
 have:=hb.2 x hx
 unfold rem
 rw[zaf,if_pos this.2,zam _ (show x.toNat<n by omega)]
 by_cases h:st x.toNat=0<;>simp[h]
def votes_iv{n:Nat}{gs:List Grp}{N:Int}(h:PileOK (n:Int) gs N)(c:CT)(lots:List Int)(st:Nat→Nat):zap (lst (fun i=>decide (st i=0)) n) gs=lst (fun i=>((iv (gpOf c gs lots) st i:Nat):Int)) n:=by
 unfold zap
 rw[zaf]
 refine zay (f:=fun(c:Nat)=>wsum (zdk (lst (fun i=>decide (st i=0)) n) (c:Int)) gs) fun x hx=>?_
 rw[zlu h (fun p=>decide (zac (rem (lst (fun i=>decide (st i=0)) n)) p<p.length)&&decide (p.getD (zac (rem (lst (fun i=>decide (st i=0)) n)) p) 0=(x:Int))) (zdk (lst (fun i=>decide (st i=0)) n) (x:Int)) (fun p=>?_) c lots]
 ·congr 1
  unfold iv GS.lie
  refine zak fun g hg=>?_
  have hb:isB (n:Int) ((gpOf c gs lots).p g):=(h.ballots _ (zdf (l:=gs) (d:=([],0)) (i:=g) hg)).1
  rw[zsk hb]
  show _=if(pl (gpOf c gs lots) st).on (gpOf c gs lots) g x=true then(gpOf c gs lots).k g*1 else 0
  rw[xdu];rfl
 ·unfold zdk
  by_cases h1:zac (rem (lst (fun i=>decide (st i=0)) n)) p<p.length∧p.getD (zac (rem (lst (fun i=>decide (st i=0)) n)) p) 0=(x:Int)
  ·rw[if_pos h1,xag h1.1,xag h1.2];rfl
  ·rw[if_neg h1]
   have:(decide (zac (rem (lst (fun i=>decide (st i=0)) n)) p<p.length)&&decide (p.getD (zac (rem (lst (fun i=>decide (st i=0)) n)) p) 0=(x:Int)))=false:=by
    cases h2:(decide (zac (rem (lst (fun i=>decide (st i=0)) n)) p<p.length)&&decide (p.getD (zac (rem (lst (fun i=>decide (st i=0)) n)) p) 0=(x:Int)))
    ·rfl
    ·rw[xan,xam,xam]at h2
     exact absurd h2 h1
   rw[this];rfl
def exh_iv{n:Nat}{gs:List Grp}{N:Int}(h:PileOK (n:Int) gs N)(c:CT)(lots:List Int)(st:Nat→Nat):wsum (zds (lst (fun i=>decide (st i=0)) n)) gs=((iexh (gpOf c gs lots) st:Nat):Int):=by
 rw[zlu h (fun p=>!decide (zac (rem (lst (fun i=>decide (st i=0)) n)) p<p.length)) (zds (lst (fun i=>decide (st i=0)) n)) (fun p=>?_) c lots]
 ·congr 1
  unfold iexh
  refine zak fun g hg=>?_
  have hb:isB (n:Int) ((gpOf c gs lots).p g):=(h.ballots _ (zdf (l:=gs) (d:=([],0)) (i:=g) hg)).1
  rw[zsk hb]
  by_cases hlt:nxt ((gpOf c gs lots).p g) st 0<((gpOf c gs lots).p g).length<;>simp[hlt]
 ·unfold zds
  by_cases h1:zac (rem (lst (fun i=>decide (st i=0)) n)) p<p.length<;>simp[h1]
def ext0_tops(P:GP)(v st:Nat→Nat)(c:Nat):ext0 (fun x=>frac (v x.toNat) 1) (selI (fun i=>decide (st i=c)) P.n)=selI (zpm P v st c false) P.n:=by
 unfold ext0
 rw[zgq]
 refine zho fun i hi=>?_
 unfold zpm
 congr 1
 rw[xff,xbt,xbt]
 constructor
 ·intro h k hk
  by_cases hc:st k=c
  ·have:=h (k:Int) (zal.2 ⟨k,rfl,xbu.1 hk,xag hc⟩)
   simpa[hc,zir]using this
  ·simp[hc]
 ·intro h x hx
  obtain⟨k,rfl,hk,hc⟩:=zal.1 hx
  have:=h k (xbu.2 hk)
  rw[hc]at this
  simpa[zir]using this
def votes_rndI{P:GP}(hP:P.OK)(st:Nat→Nat):RndOK P.n (lst (fun i=>(iv P st i:Rat)) P.n):=⟨zaf _ _,fun q hq=>by
 obtain⟨i,hi,rfl⟩:=mem_lst.1 hq
 have h1:=zsc hP st
 have h2:=mk_le hP
 have h3:=hP.tot5
 have h4:iv P st i≤zpo P st:=zgo hi
 exact bz_nat (by omega)⟩
def zwi{P:GP}{st:Nat→Nat}(h:0<(zdv P st).length):zhj P st≠ []:=by
 unfold zhj
 rw[←ext0_tops]
 refine zso fun e=>?_
 have:=xbx List.length e
 rw[zat,←zca]at this
 have e2:(zdv P st).length=0:=this
 omega
def itied_in{P:GP}{st:Nat→Nat}{x:Int}(h:x∈zhj P st):∃i:Nat,x=(i:Int)∧i<P.n∧st i=0:=by
 obtain⟨i,h1,h2,h3⟩:=zal.1 h
 unfold zpm at h3
 rw[xan,xam]at h3
 exact⟨i,h1,h2,h3.1⟩
def ipick_in{P:GP}{st:Nat→Nat}(E:List (List Rat))(h:0<(zdv P st).length):∃i:Nat,ipick P E st=(i:Int)∧i<P.n∧st i=0:=by
 refine itied_in ?_
 unfold ipick
 have hne:=zwi h
 split
 ·exact zfs hne
 ·exact zps hne
set_option maxHeartbeats 1000000 in
def d57_eq{P:GP}(hP:P.OK){st:Nat→Nat}{c:CT}{gs:List Grp}(hc:c.2.2.2.2.2.2.1=P.ties){E:List (List Rat)}(hE:∀r∈E,RndOK P.n r)(hEl:E.length≤1000)(hl:0<(zdv P st).length) :
  ∃x:Nat,x<P.n∧st x=0∧ipick P E st=(x:Int)∧d57 (c,gs,P.lots,lst (fun i=>decide (st i=0)) P.n,E.map (List.map rr)) (lst (fun i=>((iv P st i:Nat):Int)) P.n) =
   some ((x:Int),(if(zhj P st).length=1 then []else zhj P st),(c,gs,P.lots,lst (fun i=>decide (upd st x 3 i=0)) P.n,(E++[lst (fun i=>(iv P st i:Rat)) P.n]).map (List.map rr))):=by
 obtain⟨x,x1,x2,x3⟩:=ipick_in E hl
 refine⟨x,x2,x3,x1,?_⟩
 have hn7:=hP.n7
 have hb:∀i,i<P.n→iv P st i≤100000:=fun i hi=>by
  have h1:=zsc hP st
  have h2:=mk_le hP
  have h3:=hP.tot5
  have h4:iv P st i≤zpo P st:=zgo hi
  omega
 unfold d57
 rw[d54_eq (st:=st) (n:=P.n) rfl (by omega),xaa]
 have hL:∀y∈selI (fun i=>decide (st i=0)) P.n,∃i:Nat,y=(i:Int)∧i<P.n:=fun y hy=>by
  obtain⟨i,h1,h2,h3⟩:=zal.1 hy
  exact⟨i,h1,h2⟩
 have hT:ext0 (fun x=>frac (iv P st x.toNat) 1) (selI (fun i=>decide (st i=0)) P.n)=zhj P st:=ext0_tops P (iv P st) st 0
 have hLl:(selI (fun i=>decide (st i=0)) P.n).length≤7:=by
  rw[zat];have:=zbd (fun i=>decide (st i=0)) P.n;omega
 generalize selI (fun i=>decide (st i=0)) P.n=L at hL hT hLl ⊢
 refine zaa (fun i=>((c,gs,P.lots,lst (fun i=>decide (st i=0)) P.n,E.map (List.map rr)),lst (fun i=>((iv P st i:Nat):Int)) P.n,ext0 (fun x=>frac (iv P st x.toNat) 1) (L.take i),L,(L.length:Int),(i:Int))) L.length rfl (fun i hi=>?_) (b:=((c,gs,P.lots,lst (fun i=>decide (st i=0)) P.n,E.map (List.map rr)),lst (fun i=>((iv P st i:Nat):Int)) P.n,zhj P st)) ?_ ?_
 ·obtain⟨y,hy,hyn⟩:=hL _ (zci hi)
  have htk:L.take (i+1)=L.take i++[(y:Int)]:=by rw[zbg L 0 hi,hy]
  simp only[dlt hi,d0le,xai,xab,tn,zaq,hy,zbk (show i<9223372036854775807 by omega),htk]
  by_cases hi0:i=0
  ·subst hi0
   rw[xei,zwr]
   have:ext0 (fun x=>frac (iv P st x.toNat) 1) ([]++[(y:Int)])=[(y:Int)]:=by
    unfold ext0
    have:frac (iv P st y) 1≤frac (iv P st y) 1:=xhy
    simp[this]
   rw[this]
   rfl
  ·have hne:L.take i≠ []:=by
    intro e
    have:=xbx List.length e
    rw[xbj,xde]at this
    omega
   have hne2:=zso (ρ:=fun x=>frac (iv P st x.toNat) 1) hne
   have hsub:∀z∈ext0 (fun x=>frac (iv P st x.toNat) 1) (L.take i),z∈L:=fun z hz=>xcq (zmt.1 hz).1
   have hlen:(ext0 (fun x=>frac (iv P st x.toNat) 1) (L.take i)).length≤7:=by
    have:=zqe (fun x=>frac (iv P st x.toNat) 1) (L.take i)
    rw[xbj]at this
    omega
   rw[zsn _ _ hne]
   generalize ext0 (fun x=>frac (iv P st x.toNat) 1) (L.take i)=T at hne2 hsub hlen ⊢
   obtain⟨z,T',hT'⟩:=xiu hne2
   subst hT'
   obtain⟨zn,hz,hzn⟩:=hL _ (hsub z (by simp))
   subst hz
   simp only[xht,xaz,xef,zaf,dlt hyn,dlt hzn,d0le,xai,xab,tn,zam (fun i=>((iv P st i:Nat):Int)) hyn,zam (fun i=>((iv P st i:Nat):Int)) hzn,xaj (show ¬((T'.length+1:Nat):Int)=0 by omega),xao,xag (show(0:Int)<((T'.length+1:Nat):Int) by omega),show decide ((0:Nat)≤0)=true from rfl,xaf,frac_lt (show 0<1 by omega),frac_inj (show 0<1 by omega)]
   have hl1:=zsb (α:=Int) (l:=T'.length+1) (by rw[xaz]at hlen;omega)
   by_cases c1:iv P st y<iv P st zn
   ·simp only[dlt c1,xab,if_pos c1]
   ·rw[if_neg c1,xaj (show ¬((iv P st y:Nat):Int)<((iv P st zn:Nat):Int) by omega),xac]
    by_cases c2:iv P st y=iv P st zn
    ·simp only[zge,xag c2,xab,hl1,if_pos c2]
    ·simp only[zge,xaj c2,xac,if_neg c2]
 ·simp only[nlt (xak L.length),xac,xbh,hT]
 have hne:=zwi hl
 have hin:=fun y hy=>itied_in (P:=P) (st:=st) (x:=y) hy
 have hlt:(zhj P st).length≤7:=by
  rw[←hT]
  have:=zqe (fun x=>frac (iv P st x.toNat) 1) L
  omega
 have h154:=d109_eq (v:=iv P st) (n:=P.n) (by omega) fun i hi=>by have:=hb i hi;omega
 have hset:(lst (fun i=>decide (st i=0)) P.n).set x false=lst (fun i=>decide (upd st x 3 i=0)) P.n:=by
  rw[zen]
  refine zay fun k _=>?_
  unfold upd
  by_cases h:k=x
  ·rw[if_pos h,if_pos h];rfl
  ·rw[if_neg h,if_neg h]
 have hlE:=zsb (α:=List Rt) (l:=(E.map (List.map rr)).length) (by rw[xbw];omega)
 have hmap:(E++[lst (fun i=>(iv P st i:Rat)) P.n]).map (List.map rr)=E.map (List.map rr)++[lst (fun i=>rr (iv P st i:Rat)) P.n]:=by
  rw[xdd,xen,xgz,zrz]
 have hsorted:(zhj P st).Pairwise (·< ·):=zcz _ _
 obtain⟨b,hb155⟩:=d110_eq (n:=P.n) (ties:=P.ties) (E:=E) (tied:=zhj P st) (lots:=P.lots) (least:=true) hP.ties1 hP.ties3 (zsa hP) hE (by omega) hne hsorted (fun y hy=>by obtain⟨i,h1,h2,_⟩:=hin y hy;exact⟨i,h1,h2⟩) (by omega)
 rw[hmap]
 unfold ipick at x1
 generalize zhj P st=T at hne hlt x1 hb155 ⊢
 obtain⟨z,T',hT'⟩:=xiu hne
 subst hT'
 simp only[xaz,xag (show(0:Int)<((T'.length+1:Nat):Int) by omega),show decide ((0:Nat)≤0)=true from rfl,xai,xab,zaq,hc,hb155,xaa,xef]
 rw[xaz]at x1
 by_cases hone:T'.length+1=1
 ·rw[if_pos hone,xht]at x1
  simp only[if_pos hone,xaj (show ¬(1:Int)<((T'.length+1:Nat):Int) by omega),xac,x1,d0le,zaf,dlt x2,xai,xab,h154,xaa,hlE,tn,hset]
 ·rw[if_neg hone]at x1
  simp only[if_neg hone,xag (show(1:Int)<((T'.length+1:Nat):Int) by omega),xab,x1,d0le,zaf,dlt x2,xai,h154,xaa,hlE,tn,hset]
def zpc(g:Nat→Bool)(q:Int→Bool)(hq:∀i:Nat,q (i:Int)=g i):∀L:List Nat,(zac q (L.map Int.ofNat)<L.length∧L.find? g=some ((L.map Int.ofNat).getD (zac q (L.map Int.ofNat)) 0).toNat)∨(zac q (L.map Int.ofNat)=L.length∧L.find? g=none)
 | []=>.inr ⟨rfl,rfl⟩
 |x::L=>by
  rw[xen,zac,List.find?_cons]
  have e:q (Int.ofNat x)=g x:=hq x
  rw[e]
  cases h:g x
  ·rcases zpc g q hq L with⟨h1,h2⟩|⟨h1,h2⟩
   ·refine .inl ⟨by simp only[xaw,xbf,xaz];omega,?_⟩
    simp only[xaw,xbf,h2,xhm]
   ·refine .inr ⟨by simp only[xaw,xbf,xaz];omega,h2⟩
  ·refine .inl ⟨by simp,by simp⟩
def trI(P:GP):Int×(Int×(Int×(Int×(List RD×List Int)))):=(1,1,0,(P.n:Int),(icount P).map rdT,(icount P).flatMap Rd.el)
set_option maxHeartbeats 2000000 in
def d18_eq{c:CT}{gs:List Grp}{lots:List Int}(hg:GsOK gs)(hl:lots.length≤281474976710656):d18 c gs lots=some (if fitE 1 c gs lots=0 then(trI (gpOf c gs lots),0)else((0,0,0,0,[],[]),fitE 1 c gs lots)):=by
 unfold d18
 rw[d42_eq 1 c hg hl,xaa]
 by_cases hfit:¬fitE 1 c gs lots=0
 ·rw[if_neg hfit,xaj hfit];rfl
 have hfit:=xia.1 hfit
 rw[if_pos hfit,xag hfit,xaq,xac]
 obtain⟨hP,hG⟩:=zwk hfit
 obtain⟨_,_,_,n1,n7,_,_,_,_,_,_,_,hp,_,_⟩:=zkc hfit
 have hlo:(gpOf c gs lots).lots=lots:=rfl
 have hti:c.2.2.2.2.2.2.1=(gpOf c gs lots).ties:=rfl
 have hPn:c.2.1.length=(gpOf c gs lots).n:=rfl
 rw[d51_eq gs lots (by omega),xaa]
 have hvot:=fun st=>votes_iv hp c lots st
 have hexh:=fun st=>exh_iv hp c lots st
 have h50:=fun(st:Nat→Nat)=>hp.d52 (by omega) (r:=lst (fun i=>decide (st i=0)) c.2.1.length) (by rw[zaf];exact n7)
 have hexb:∀st,iexh (gpOf c gs lots) st≤100000:=fun st=>by
  refine xbb (xbb (zdp (g:=(gpOf c gs lots).k) fun g _=>?_) (Nat.le_of_eq hP.total)) hP.tot5
  split<;>omega
 simp only[hvot,hexh]at h50
 generalize hPP:gpOf c gs lots=P at *
 rw[hPn]at n1 n7 h50 ⊢
 rw[←hlo]
 have hst0:lst (fun _=>true) P.n=lst (fun i=>decide ((fun _=>0:Nat→Nat) i=0)) P.n:=rfl
 rw[hst0]
 refine zic (Q:=fun r=>r=some (trI P,0)) (fun(M:Nat) (a:List Grp×(Int×(Int×(Int×(Int×(List RD×List Int)))))×IT×(Int×(Int×(Int×(Int×(List RD×List Int))))))=>∃(st:Nat→Nat) (rs:List Rd),a=(gs,(0,0,0,0,[],[]),(c,gs,P.lots,lst (fun i=>decide (st i=0)) P.n,(rs.map Rd.votes).map (List.map rr)),(1,1,0,(P.n:Int),rs.map rdT,[]))∧irun P M rs st=icount P∧0<(zdv P st).length∧(zdv P st).length≤M∧rs.length+M=P.n∧(∀r∈rs.map Rd.votes,RndOK P.n r)∧rs.flatMap Rd.el=[]) P.n ⟨fun _=>0,[],rfl,rfl,?_,?_,by simp,by simp,rfl⟩ ?_
 ·have:0<cntN (fun i=>decide ((fun _=>0:Nat→Nat) i=0)) P.n:=zqf.2 ⟨0,by omega,rfl⟩
  unfold zdv
  rw[zca]
  exact this
 ·unfold zdv
  rw[zca]
  exact zbd _ _
 ·rintro M a ⟨st,rs,rfl,hrun,hl0,hlM,hrs,hR,hel⟩
  have hsum:=zsc hP st
  have hmk:=mk_le hP
  have ht5:=hP.tot5
  have hle:=hexb st
  have h107:=d53_eq (k:=(c,gs,P.lots,lst (fun i=>decide (st i=0)) P.n,(rs.map Rd.votes).map (List.map rr))) (st:=st) (v:=iv P st) (n:=P.n) (e:=iexh P st) rfl (by omega) (by show zpo P st≤_;omega) (by omega)
  have hquo:sumN (iv P st) P.n/2+1=iquo P st:=rfl
  rw[hquo]at h107
  have hrd:(lst (fun i=>rr (iv P st i:Rat)) P.n,lst (fun i=>rr (if st i=0 then 1 else 0)) P.n,rr (iquo P st:Rat),rr (iexh P st:Rat),rr 0,[],[],[])=rdT (ird0 P st):=by
   unfold rdT ird0
   simp only[zrz]
  have hleft:selI (fun i=>decide (st i=0)) P.n=(zdv P st).map Int.ofNat:=rfl
  have hll:(zdv P st).length≤7:=by
   unfold zdv
   rw[zca]
   have:=zbd (fun i=>decide (st i=0)) P.n
   omega
  have hlin:∀i∈zdv P st,i<P.n:=fun i hi=>(zbn.1 hi).1
  have h101:=d55_on (s:=(zdv P st).map Int.ofNat) (f:=fun a=>d56 a (lst (fun i=>((iv P st i:Nat):Int)) P.n) ((iquo P st:Nat):Int)) (g:=fun x=>decide (iquo P st≤iv P st x.toNat)) (fun x hx=>by
   obtain⟨i,hi,rfl⟩:=xdg.1 hx
   have hin:=hlin i hi
   have e:Int.ofNat i=(i:Int):=rfl
   unfold d56
   rw[e]
   simp only[d0le,zaf,dlt hin,xai,xab,tn,zam (fun i=>((iv P st i:Nat):Int)) hin]
   congr 1
   exact xbv.2 (by omega)) (by rw[xbw];omega)
  simp only[h50 st,xaa,h107,d54_eq (k:=(c,gs,P.lots,lst (fun i=>decide (st i=0)) P.n,(rs.map Rd.votes).map (List.map rr))) (st:=st) (n:=P.n) rfl (by omega),hleft,h101,zaq,xbw,zge]
  obtain⟨M,rfl⟩:∃M',M=M'+1:=⟨M-1,by omega⟩
  rw[irun]at hrun
  have hlr:=lim_inc (l:=rs.length) (by omega)
  have hlr1:=zsb (α:=RD) (l:=rs.length) (by omega)
  have hW:∀x:Nat,(lst (fun i=>rr (iv P st i:Rat)) P.n,lst (fun i=>rr (if st i=0 then 1 else 0)) P.n,rr (iquo P st:Rat),rr (iexh P st:Rat),rr 0,[(x:Int)],[],[])=rdT (irdW P st x):=fun x=>by
   have:=xbx (fun r:RD=>(r.1,r.2.1,r.2.2.1,r.2.2.2.1,r.2.2.2.2.1,[(x:Int)],r.2.2.2.2.2.2.1,r.2.2.2.2.2.2.2)) hrd
   exact this
  have hdone:∀x:Nat,iwin P st=some x→some (((1,1,0,(P.n:Int),rs.map rdT++[rdT (irdW P st x)],[(x:Int)]):Int×(Int×(Int×(Int×(List RD×List Int))))),(0:Int))=some (trI P,0):=fun x hx=>by
   rw[hx]at hrun
   unfold trI
   rw[←hrun,xdd,xeq,hel]
   rfl
  by_cases h1:(zdv P st).length=1
  ·obtain⟨x,hx⟩:=xem.1 h1
   have hw:iwin P st=some x:=by unfold iwin;rw[if_pos h1,hx];rfl
   refine .inr ⟨((1,1,0,(P.n:Int),rs.map rdT++[rdT (irdW P st x)],[(x:Int)]),0),?_,hdone x hw⟩
   have e0:((zdv P st).map Int.ofNat).getD 0 0=(x:Int):=by rw[hx];rfl
   simp only[h1,show decide (((1:Nat):Int)=1)=true from rfl,xah,xab,show decide ((0:Int)≤0)=true from rfl,show decide ((0:Int)<((1:Nat):Int))=true from rfl,xai,Int.toNat_zero,e0,hW,hlr,hlr1,xbw,xaz]
  ·have hd1:decide (((zdv P st).length:Int)=1)=false:=xaj (by omega)
   have hq:∀i:Nat,(fun x:Int=>decide (iquo P st≤iv P st x.toNat)) (i:Int)=decide (iquo P st≤iv P st i):=fun i=>rfl
   rcases zpc (fun i=>decide (iquo P st≤iv P st i)) (fun x=>decide (iquo P st≤iv P st x.toNat)) hq (zdv P st)with⟨f1,f2⟩|⟨f1,f2⟩
   ·generalize zac (fun x=>decide (iquo P st≤iv P st x.toNat)) ((zdv P st).map Int.ofNat)=j at f1 f2 ⊢
    obtain⟨x,hx⟩:∃x:Nat,((zdv P st).map Int.ofNat).getD j 0=(x:Int):=⟨_,zjp (p:=fun i=>decide (st i=0)) (n:=P.n) f1⟩
    rw[hx,xaf]at f2
    have hw:iwin P st=some x:=by unfold iwin;rw[if_neg h1,f2]
    refine .inr ⟨((1,1,0,(P.n:Int),rs.map rdT++[rdT (irdW P st x)],[(x:Int)]),0),?_,hdone x hw⟩
    simp only[hd1,xac,if_pos f1,d0le,dlt f1,xab,xai,tn,hx,hW,hlr,hlr1,xbw,xaz]
   ·rw[f1]
    have hw:iwin P st=none:=by unfold iwin;rw[if_neg h1,f2]
    rw[hw]at hrun
    obtain⟨x,x1,x2,x3,x4⟩:=d57_eq (st:=st) (c:=c) (gs:=gs) hP hti hR (by rw[xbw];omega) hl0
    have hlu:=zwg (P:=P) x1 x2
    have hmap:(rs++[irdX P (rs.map Rd.votes) st]).map Rd.votes=rs.map Rd.votes++[lst (fun i=>(iv P st i:Rat)) P.n]:=by
     rw[xdd];rfl
    have hX:(lst (fun i=>rr (iv P st i:Rat)) P.n,lst (fun i=>rr (if st i=0 then 1 else 0)) P.n,rr (iquo P st:Rat),rr (iexh P st:Rat),rr 0,[],[(x:Int)],(if(zhj P st).length=1 then []else zhj P st))=rdT (irdX P (rs.map Rd.votes) st):=by
     have:=xbx (fun r:RD=>(r.1,r.2.1,r.2.2.1,r.2.2.2.1,r.2.2.2.2.1,([]:List Int),[(x:Int)],(if(zhj P st).length=1 then []else zhj P st))) hrd
     rw[←x3]at this ⊢
     exact this
    refine .inl ⟨(gs,(0,0,0,0,[],[]),(c,gs,P.lots,lst (fun i=>decide (upd st x 3 i=0)) P.n,((rs++[irdX P (rs.map Rd.votes) st]).map Rd.votes).map (List.map rr)),(1,1,0,(P.n:Int),(rs++[irdX P (rs.map Rd.votes) st]).map rdT,[])),M,?_,by omega,upd st x 3,rs++[irdX P (rs.map Rd.votes) st],rfl,?_,?_,by omega,by simp;omega,?_,?_⟩
    ·simp only[hd1,xac,if_neg (Nat.lt_irrefl _),show decide ((0:Int)≤-1)=false from rfl,x4,xaa,hX,hlr,hlr1,xab,xbw,xaz,hmap]
     simp only[xdd]
     rfl
    ·rw[←hrun]
     simp only
     rw[x3,xaf]
    ·omega
    ·rw[hmap]
     intro r hr
     rcases xbq.1 hr with hr|hr
     ·exact hR r hr
     ·rw[xbn.1 hr]
      exact votes_rndI hP st
    ·rw[xeq,hel];rfl
section
def zjk(p:Nat→Bool):Nat→Nat
 | 0=>0
 |k+1=>if p k then zjk p k+2^k else zjk p k
def zna(p:Nat→Bool):∀n,zjk p n<2^n
 | 0=>by simp[zjk]
 |k+1=>by
  have:=zna p k
  rw[zjk,xch]
  split<;>omega
def zfu(p:Nat→Bool)(i:Nat):∀n,(zjk p n).testBit i=(decide (i<n)&&p i)
 | 0=>by simp[zjk]
 |k+1=>by
  have h:=zna p k
  have ih:=zfu p i k
  rw[zjk]
  by_cases hp:p k=true
  ·rw[if_pos hp,xgy]
   by_cases hi:i=k
   ·subst hi
    rw[Nat.testBit_two_pow_add_eq,xhu h,hp];simp
   ·by_cases hik:i<k
    ·rw[Nat.testBit_two_pow_add_gt hik,ih]
     simp[hik,show i<k+1 by omega]
    ·have h1:2^k+zjk p k<2^i:=xau (by rw[xch];omega) (xck (by omega) (show k+1≤i by omega))
     rw[xhu h1]
     simp[show ¬i<k+1 by omega]
  ·rw[if_neg hp,ih]
   by_cases hi:i=k
   ·subst hi
    simp[hp]
   ·rw[xbv.2 (show i<k↔i<k+1 by omega)]
def zsi(p:Nat→Bool)(n:Nat):zcj n (zjk p n)=lst p n:=by
 refine xfq (by rw[zez,zaf]) fun i h1 h2=>?_
 rw[zez]at h1
 have e1:=zkb n (zjk p n) h1
 have e2:=zam p h1 false
 rw[zag _ _ (by rw[zez];exact h1)]at e1
 rw[zag _ _ (by rw[zaf];exact h1)]at e2
 rw[e1,e2,zfu]
 simp[h1]
def bitsN_upd{n x:Nat}(hn:n≤7){st:Nat→Nat}(hx:x<n)(h0:st x=0):zjk (fun i=>decide (upd st x 3 i=0)) n=zjk (fun i=>decide (st i=0)) n-2^x:=by
 have hb:∀p:Nat→Bool,zjk p n<128:=fun p=>xau (zna p n) (xbb (xck (by omega) hn) (by decide))
 have ht:(zjk (fun i=>decide (st i=0)) n).testBit x=true:=by rw[zfu];simp[hx,h0]
 refine xkh fun d=>?_
 by_cases hd:d<7
 ·rw[tb_off _ (hb _) x (by omega) ht d hd,zfu,zfu]
  by_cases hdx:d=x
  ·subst hdx
   rw[zbu];simp
  ·rw[zep _ _ hdx];simp[hdx]
 ·have h2:2^7≤2^d:=xck (by omega) (by omega)
  have g1:=hb (fun i=>decide (upd st x 3 i=0))
  have g2:=hb (fun i=>decide (st i=0))
  rw[xhu (xau g1 h2),xhu (xdq (xik _ _) (xau g2 h2))]
def bitsN_one{n x:Nat}(hn:n≤7){p:Nat→Bool}(hx:x<n)(hp:p x=true)(hu:∀i,i<n→p i=true→i=x):zjk p n=2^x:=by
 refine xkh fun d=>?_
 rw[zfu,Nat.testBit_two_pow]
 by_cases hd:d<n
 ·by_cases hdx:d=x
  ·subst hdx;simp[hd,hp]
  ·have:¬p d=true:=fun h=>hdx (hu d hd h)
   simp[hd,this,Ne.symm hdx]
 ·simp[hd,show ¬x=d by omega]
def bitsN_all(n:Nat):zjk (fun _=>true) n=2^n-1:=by
 refine xkh fun d=>?_
 rw[zfu,Nat.testBit_two_pow_sub_one];simp
def RA(gs:List Grp)(n S:Nat):Prop:=(zbl gs n (2^n) (2^n-1)).getD S false=true
def ra_step{gs:List Grp}{n S c:Nat}(hn:n≤7)(h1:1≤n)(hS:S<2^n)(h0:0<S)(hr:RA gs n S)(hc:c<n)(hl:zhi (zap (zcj n S) gs) (zcj n S) c n=true):RA gs n (S-2^c):=by
 have hM:2^n≤128:=xbb (xck (by omega) hn) (by decide)
 have hM1:2≤2^n:=xbb (show 2≤2^1 by decide) (xck (by omega) h1)
 unfold RA at hr ⊢
 generalize 2^n=M at hS hM hM1 hr ⊢
 have hturn:=zua (gs:=gs) hn hM hS (M-2) (by omega) (by rw[show M-2+1=M-1 by omega];exact hr)
 have hnew:=zwa (R:=zbl gs n M (M-1-S)) (by rw[zdz];exact hS) hl n hc
 refine zhq (xdq (xik _ _) hS) _ (M-1-S+1) (by omega) ?_
 unfold zbl
 rw[show M-1-(M-1-S)=S by omega,if_pos hturn]
 exact hnew
def ra_full{gs:List Grp}{n:Nat}(hn:n≤7)(h1:1≤n):RA gs n (2^n-1):=by
 have hM1:2≤2^n:=xbb (show 2≤2^1 by decide) (xck (by omega) h1)
 unfold RA
 generalize 2^n=M at hM1 ⊢
 refine zhq (by omega) _ 0 (xbz _) ?_
 unfold zbl
 rw[xae,xjx (by simp;omega)]
 rfl
variable {P:GP}
def iv_mono{st:Nat→Nat}{x w:Nat}(hxw:x≠w):iv P st w≤iv P (upd st x 3) w:=by
 unfold iv GS.lie
 refine zdp fun g _=>?_
 by_cases h:(pl P st).on P g w=true
 ·rw[if_pos h,if_pos]
  ·exact xak _
  ·have h1:=GS.on_lt h
   have h2:=GS.on_at h
   have h1':nxt (P.p g) st 0<(P.p g).length:=h1
   have h2':(P.p g).getD (nxt (P.p g) st 0) 0=(w:Int):=h2
   unfold GS.on
   show(decide (nxt (P.p g) (upd st x 3) 0<_)&&decide ((P.p g).getD (nxt (P.p g) (upd st x 3) 0) 0=_))=true
   rw[nxt_upd,if_neg (by rw[h2',xaf];exact fun h=>hxw h.2.symm),xag h1',xag h2'];rfl
 ·rw[if_neg h];exact xbz _
def ivsum_mono(hP:P.OK){st:Nat→Nat}{x:Nat}:zpo P (upd st x 3)≤zpo P st:=by
 have e1:zpo P (upd st x 3)=_:=lie_sum (s:=pl P (upd st x 3)) hP
 have e2:zpo P st=_:=lie_sum (s:=pl P st) hP
 rw[e1,e2]
 refine zdp fun g _=>?_
 show(if nxt (P.p g) (upd st x 3) 0<_ then _ else 0)≤(if nxt (P.p g) st 0<_ then _ else 0)
 by_cases h:nxt (P.p g) st 0<(P.p g).length
 ·rw[if_pos h]
  split
  ·exact xak _
  ·exact xbz _
 ·rw[if_neg h,if_neg]
  ·exact xak _
  ·rw[nxt_upd,if_neg fun h'=>h h'.1]
   exact h
def zgp(st:Nat→Nat)(n:Nat):Nat:=zjk (fun i=>decide (st i=0)) n
def low_iv{n:Nat}{gs:List Grp}{N:Int}(hp:PileOK (n:Int) gs N)(c:CT)(lots:List Int){st:Nat→Nat}{x:Nat}(hx:x<n) :
  zhi (zap (zcj n (zgp st n)) gs) (zcj n (zgp st n)) x n=true↔st x=0∧∀k,k<n→st k=0→iv (gpOf c gs lots) st x≤iv (gpOf c gs lots) st k:=by
 unfold zgp
 rw[zsi,votes_iv hp c lots st,zgv]
 have hr:∀k,k<n→rem (lst (fun i=>decide (st i=0)) n) (k:Int)=decide (st k=0):=fun k hk=>by
  unfold rem
  rw[zaf,if_pos (by omega),xaf,zam _ hk]
 rw[hr x hx,xam]
 refine and_congr_right fun _=>⟨fun h k hk h0=>?_,fun h k hk h0=>?_⟩
 ·have:=h k hk (by rw[hr k hk];exact xag h0)
  rw[zam _ hx,zam _ hk]at this
  omega
 ·rw[hr k hk,xam]at h0
  have:=h k hk h0
  rw[zam _ hx,zam _ hk]
  omega
def stand_pos{st:Nat→Nat}{n x:Nat}(hx:x<n)(h0:st x=0):0<zgp st n:=by
 rcases xda (zgp st n)with h|h
 ·exfalso
  have:(zgp st n).testBit x=true:=by unfold zgp;rw[zfu];simp[hx,h0]
  rw[h,Nat.zero_testBit]at this
  cases this
 ·exact h
def lead_poss{n:Nat}(h1:1≤n)(hn:n≤7){gs:List Grp}{N:Int}(hp:PileOK (n:Int) gs N)(c:CT)(hcn:c.2.1.length=n)(lots:List Int)(hP:(gpOf c gs lots).OK){x:Nat}(hx:x<n) :
  ∀(k:Nat) {st:Nat→Nat},(zdv (gpOf c gs lots) st).length≤k→st x=0→((∀i,i<n→st i=0→i=x)∨zpo (gpOf c gs lots) st<2*iv (gpOf c gs lots) st x)→RA gs n (zgp st n)→RA gs n (2^x)
 | 0,st,hk,h0,_,_=>by
  have:x∈zdv (gpOf c gs lots) st:=zbn.2 ⟨by show x<c.2.1.length;omega,xag h0⟩
  have:=xhw this
  omega
 |k+1,st,hk,h0,hlead,hra=>by
  by_cases hone:∀i,i<n→st i=0→i=x
  ·have:zgp st n=2^x:=bitsN_one hn hx (xag h0) fun i hi h=>hone i hi (xbl h)
   rw[←this];exact hra
  ·have hl:=hlead.resolve_left hone
   obtain⟨y,hy,y0,hyx⟩:∃y,y<n∧st y=0∧y≠x:=by
    refine xhg fun h=>hone fun i hi h0=>xhg fun hne=>h ⟨i,hi,h0,hne⟩
   obtain⟨d,hd,hlow⟩:=low_ex (zap (zcj n (zgp st n)) gs) (zcj n (zgp st n)) n ⟨x,hx,by
    unfold zgp
    rw[zsi]
    unfold rem
    rw[zaf,if_pos (by omega),xaf,zam _ hx]
    exact xag h0⟩
   have hlow':=(low_iv hp c lots hd).1 hlow
   have hdx:d≠x:=by
    intro e
    subst e
    have h3:=hlow'.2 y hy y0
    have h4:=sum_two (f:=iv (gpOf c gs lots) st) (n:=(gpOf c gs lots).n) (x:=y) (y:=d) (by show y<c.2.1.length;omega) (by show d<c.2.1.length;omega) hyx
    have h5:sumN (iv (gpOf c gs lots) st) (gpOf c gs lots).n=zpo (gpOf c gs lots) st:=rfl
    omega
   have hra':RA gs n (zgp st n-2^d):=ra_step hn h1 (zna _ n) (stand_pos hx h0) hra hd hlow
   have he:zgp st n-2^d=zgp (upd st d 3) n:=(bitsN_upd hn hd hlow'.1).symm
   rw[he]at hra'
   have hll:=zwg (P:=gpOf c gs lots) (st:=st) (x:=d) (by show d<c.2.1.length;omega) hlow'.1
   refine lead_poss h1 hn hp c hcn lots hP hx k (by omega) (by rw[zep _ _ (Ne.symm hdx)];exact h0) (.inr ?_) hra'
   have m1:=iv_mono (P:=gpOf c gs lots) (st:=st) hdx
   have m2:=ivsum_mono hP (st:=st) (x:=d)
   omega
def irun_poss{n:Nat}(h1:1≤n)(hn:n≤7){gs:List Grp}{N:Int}(hp:PileOK (n:Int) gs N)(c:CT)(hcn:c.2.1.length=n)(lots:List Int)(hP:(gpOf c gs lots).OK) :
  ∀(k:Nat) {rs:List Rd} {st:Nat→Nat},rs.flatMap Rd.el=[]→0<(zdv (gpOf c gs lots) st).length→(zdv (gpOf c gs lots) st).length≤k→RA gs n (zgp st n) →
   ∃x:Nat,x<n∧(irun (gpOf c gs lots) k rs st).flatMap Rd.el=[(x:Int)]∧RA gs n (2^x)
 | 0,rs,st,_,h0,h2,_=>by omega
 |k+1,rs,st,he,h0,h2,hra=>by
  rw[irun]
  cases hw:iwin (gpOf c gs lots) st with
  |some x=>
   have hL:=iwin_some (P:=gpOf c gs lots) (s:=pl (gpOf c gs lots) st) hP hw
   have hxn:x<n:=by
    have:x<c.2.1.length:=hL.lt
    omega
   refine⟨x,hxn,?_,lead_poss h1 hn hp c hcn lots hP hxn (k+1) h2 hL.st ?_ hra⟩
   ·rw[xeq,he];rfl
   ·rcases hL.how with h|h
    ·exact .inl fun i hi=>h i (by show i<c.2.1.length;omega)
    ·exact .inr h
  |none=>
   obtain⟨d,d1,d2,d3⟩:=ipick_in (P:=gpOf c gs lots) (rs.map Rd.votes) h0
   have hdn:d<n:=by
    have:d<c.2.1.length:=d2
    omega
   have hmem:(d:Int)∈zhj (gpOf c gs lots) st:=by
    rw[←d1]
    unfold ipick
    have hne:=zwi h0
    split
    ·exact zfs hne
    ·exact zps hne
   have hlow:zhi (zap (zcj n (zgp st n)) gs) (zcj n (zgp st n)) d n=true:=by
    rw[low_iv hp c lots hdn]
    refine⟨d3,fun i hi hs=>?_⟩
    obtain⟨j,j1,j2,j3⟩:=zal.1 hmem
    have j1:=xfk.1 j1
    subst j1
    unfold zpm at j3
    rw[xan,xbt]at j3
    have:=j3.2 i (xbu.2 (by show i<c.2.1.length;omega))
    rw[hs]at this
    simpa using this
   have hra':RA gs n (zgp st n-2^d):=ra_step hn h1 (zna _ n) (stand_pos hdn d3) hra hdn hlow
   have hee:zgp st n-2^d=zgp (upd st d 3) n:=(bitsN_upd hn hdn d3).symm
   rw[hee]at hra'
   have hll:=zwg (P:=gpOf c gs lots) (st:=st) (x:=d) d2 d3
   rw[d1,xaf]
   have hnone:=(iwin_none (P:=gpOf c gs lots) (s:=pl (gpOf c gs lots) st) hw).1
   have hnone':(zdv (gpOf c gs lots) st).length≠1:=hnone
   refine irun_poss h1 hn hp c hcn lots hP k (by rw[xeq,he];rfl) (by omega) (by omega) hra'
def icount_poss{n:Nat}(h1:1≤n)(hn:n≤7){gs:List Grp}{N:Int}(hp:PileOK (n:Int) gs N)(c:CT)(hcn:c.2.1.length=n)(lots:List Int)(hP:(gpOf c gs lots).OK) :
  ∃x:Nat,x<n∧(icount (gpOf c gs lots)).flatMap Rd.el=[(x:Int)]∧(x:Int)∈zgr gs n (2^n) n:=by
 have hl:(zdv (gpOf c gs lots) fun _=>0).length=n:=by
  unfold zdv
  rw[zca]
  show cntN (fun i=>decide ((0:Nat)=0)) c.2.1.length=n
  rw[hcn]
  clear hP hp hcn
  induction n with
  |zero=>omega
  |succ n ih=>
   unfold cntN sumN
   rcases xda n with h|h
   ·subst h;rfl
   ·have:=ih h (by omega)
    unfold cntN at this
    rw[this];rfl
 have hra:RA gs n (zgp (fun _=>0) n):=by
  have:zgp (fun _=>0) n=2^n-1:=bitsN_all n
  rw[this];exact ra_full hn h1
 obtain⟨x,x1,x2,x3⟩:=irun_poss h1 hn hp c hcn lots hP (gpOf c gs lots).n (rs:=[]) (st:=fun _=>0) rfl (by rw[hl];exact h1) (by rw[hl];show n≤c.2.1.length;omega) hra
 exact⟨x,x1,x2,zhr.2 ⟨x,rfl,x1,x3⟩⟩
end
end Go.Proofs.YtfgjbkjddcjlfaaGreat
namespace Go.Proofs.YtfgjbkjddcjlfaaGreat
open Go Go.Proofs Go.X
open Tryz
set_option maxRecDepth 100000
noncomputable def d70 (vals:List Int):Option Int:=
 (zad (β:=Int⊕Int) (fun((zero,t6,t7,t8):Int×(List Int)×Int×Int)=>
   bif (decide (t8<t7))then
    bif (decide (0≤t8)&&decide (t8<(t6.length:Int)))then
     bif !(decide ((List.getD t6 (Int.toNat t8) 0)=zero))then
      some (Sum.inr (Sum.inr (List.getD t6 (Int.toNat t8) 0)))
     else
      some (Sum.inl (zero,t6,t7,(w (t8+1))))
    else none
   else
    some (Sum.inr (Sum.inl zero))) (0,vals,(vals.length:Int),0)).bind fun
 |Sum.inl zero_1=>
  some zero_1
 |Sum.inr t2=>
  some t2
def sg70:Sig:=⟨[(y23,.bw)],[(y2,.sh)]⟩
def plan70:Plan:=(.seq (.reg [] []) (.seq (.reg [] []) (.seq (.seq (.reg [] []) (.block (.loop [(3,.v y2 .sh),(6,.v y23 .bw),(7,.v y2 .sh),(8,.v y2 .sh)] [(.brk 0,[(3,.v y2 .sh)]),(.ret,[(2,.v y2 .sh)])] (.seq (.reg [] []) (.seq (.cond .nil .nil) (.seq (.block (.seq (.reg [] []) (.seq (.reg [] []) (.cond (.seq (.reg [] []) .nil) .nil)))) (.reg [] []))))))) (.seq (.reg [] []) .nil))))
def ev70(xs:Vals (ptys sg70.ps)):evF (P:=prog) tab [] sg70 Tryz.f70.results.toList (code Tryz.f70) plan70 xs=d70 xs.1:=by kernel_rfl
def sim70:Sim prog 70 sg70 d70:=zow mixd tabOK func70 (zfw rfl) call70 (xkb (by kernel_rfl)) (by kernel_rfl) plan70 _ fun xs y h=>(ev70 xs).trans h
noncomputable def E70:FnE prog:=⟨70,sg70,d70,sim70⟩
noncomputable def d35 (a:(Int×(Int×(Int×(List Int×Int))))) (b:(Int×(Int×(Int×(List Int×Int))))):Option Int:=
 (d71 a.1 b.1).bind fun r=>
 (d71 a.2.1 b.2.1).bind fun r_1=>
 (d71 a.2.2.1 b.2.2.1).bind fun r_2=>
 (d71 (a.2.2.2.1.length:Int) (b.2.2.2.1.length:Int)).bind fun r_3=>
 (d68 a.2.2.2.1 b.2.2.2.1).bind fun r_4=>
 (d71 a.2.2.2.2 b.2.2.2.2).bind fun r_5=>
 (d70 [r,r_1,r_2,r_3,r_4,r_5]).bind fun r_6=>
 some r_6
def sg35:Sig:=⟨[(y57,.bw),(y57,.bw)],[(y2,.sh)]⟩
def plan35:Plan:=(.seq (.reg [] []) (.seq (.reg [] []) .nil))
def ev35(xs:Vals (ptys sg35.ps)):evF (P:=prog) tab [.fn E71,.fn E68,.fn E70] sg35 Tryz.f35.results.toList (code Tryz.f35) plan35 xs=d35 xs.1 xs.2.1:=by kernel_rfl
def sim35:Sim prog 35 sg35 d35:=zow mixd tabOK func35 (zfw rfl) call35 (xkb (by kernel_rfl)) (by kernel_rfl) plan35 _ fun xs y h=>(ev35 xs).trans h
noncomputable def E35:FnE prog:=⟨35,sg35,d35,sim35⟩
structure Good{α:Type}(c:α→α→Int):Prop where
 anti:∀x y,c y x=-c x y
 zero:∀x y,c x y=0↔x=y
 trans:∀x y z,c x y<0→c y z<0→c x z<0
 bnd:∀x y,-1≤c x y∧c x y≤1
def or2(u v:Int):Int:=if u=0 then v else u
def lexC{α β:Type}(c:α→α→Int)(d:β→β→Int)(x y:α×β):Int:=or2 (c x.1 y.1) (d x.2 y.2)
def Good.lex{α β:Type}{c:α→α→Int}{d:β→β→Int}(hc:Good c)(hd:Good d):Good (lexC c d) where
 anti:=fun x y=>by
  unfold lexC or2
  have h1:=hc.anti x.1 y.1
  have h2:=hd.anti x.2 y.2
  by_cases h:c x.1 y.1=0
  ·rw[if_pos h,if_pos (by omega)];exact h2
  ·rw[if_neg h,if_neg (by omega)];exact h1
 zero:=fun x y=>by
  unfold lexC or2
  obtain⟨a,b⟩:=x
  obtain⟨a',b'⟩:=y
  have h1:=hc.zero a a'
  have h2:=hd.zero b b'
  simp only[xba]
  by_cases h:c a a'=0
  ·rw[if_pos h,h2]
   exact⟨fun e=>⟨h1.1 h,e⟩,fun e=>e.2⟩
  ·rw[if_neg h]
   exact⟨fun e=>absurd e h,fun e=>absurd (h1.2 e.1) h⟩
 trans:=fun x y z=>by
  unfold lexC or2
  intro h1 h2
  by_cases e1:c x.1 y.1=0
  ·rw[if_pos e1]at h1
   have:=(hc.zero _ _).1 e1
   rw[this]
   by_cases e2:c y.1 z.1=0
   ·rw[if_pos e2]at h2 ⊢
    exact hd.trans _ _ _ h1 h2
   ·rw[if_neg e2]at h2 ⊢
    exact h2
  ·rw[if_neg e1]at h1
   by_cases e2:c y.1 z.1=0
   ·have:=(hc.zero _ _).1 e2
    rw[←this,if_neg e1]
    exact h1
   ·rw[if_neg e2]at h2
    have:=hc.trans _ _ _ h1 h2
    rw[if_neg (by omega)]
    exact this
 bnd:=fun x y=>by
  unfold lexC or2
  have h1:=hc.bnd x.1 y.1
  have h2:=hd.bnd x.2 y.2
  split<;>assumption
def cI(x y:Int):Int:=if x<y then -1 else if y<x then 1 else 0
def cI_good:Good cI where
 anti:=fun x y=>by
  unfold cI
  by_cases h:x<y
  ·rw[if_pos h,if_neg (by omega),if_pos h];rfl
  ·by_cases h':y<x
   ·rw[if_pos h',if_neg h,if_pos h']
   ·rw[if_neg h,if_neg h',if_neg h',if_neg h];rfl
 zero:=fun x y=>by
  unfold cI
  split
  ·omega
  ·split<;>omega
 trans:=fun x y z=>by
  unfold cI
  intro h1 h2
  split at h1
  ·split at h2
   ·rw[if_pos (by omega)];omega
   ·split at h2<;>omega
  ·split at h1<;>omega
 bnd:=fun x y=>by
  unfold cI
  split
  ·omega
  ·split<;>omega
def cmpL_good:Good cmpL where
 anti:=fun a b=>by
  unfold cmpL
  rcases ziq a b with h|h|h
  ·rw[if_neg (zgx h),if_pos h,if_pos h];rfl
  ·subst h
   rw[if_neg (zbm a),if_neg (zbm a)];rfl
  ·rw[if_pos h,if_neg (zgx h),if_pos h]
 zero:=fun a b=>by
  unfold cmpL
  rcases ziq a b with h|h|h
  ·rw[if_pos h]
   exact⟨fun e=>by omega,fun e=>absurd (e▸h) (zbm _)⟩
  ·subst h
   rw[if_neg (zbm a),if_neg (zbm a)]
   simp
  ·rw[if_neg (zgx h),if_pos h]
   exact⟨fun e=>by omega,fun e=>absurd (e▸h) (zbm _)⟩
 trans:=fun a b c=>by
  unfold cmpL
  intro h1 h2
  split at h1
  ·rename_i g1
   split at h2
   ·rename_i g2
    rw[if_pos (zgw g1 g2)];omega
   ·split at h2<;>omega
  ·split at h1<;>omega
 bnd:=fun a b=>by
  unfold cmpL
  split
  ·omega
  ·split<;>omega
def key(a:Asn):Int×(Int×(Int×(Int×(List Int×Int)))):=(a.1,a.2.1,a.2.2.1,(a.2.2.2.1.length:Int),a.2.2.2.1,a.2.2.2.2)
def keyC:(Int×(Int×(Int×(Int×(List Int×Int)))))→(Int×(Int×(Int×(Int×(List Int×Int)))))→Int:=lexC cI (lexC cI (lexC cI (lexC cI (lexC cmpL cI))))
def keyC_good:Good keyC:=cI_good.lex (cI_good.lex (cI_good.lex (cI_good.lex (cmpL_good.lex cI_good))))
def cmpA(a b:Asn):Int:=keyC (key a) (key b)
def d71_cI(x y:Int):d71 x y=some (cI x y):=d71_eq x y
def d76_cI(x y:Int):d76 x y=some (cI x y):=by
 unfold d76 cI
 by_cases h:x<y
 ·simp[h]
 ·by_cases h':y<x
  ·simp[h,h']
  ·simp[h,h']
def zhk:List Int→Int
 | []=>0
 |x::l=>or2 x (zhk l)
def zoh:∀(l:List Int) (i:Nat),i<l.length→l.getD i 0≠0→(∀j,j<i→l.getD j 0=0)→zhk l=l.getD i 0
 | [],i,h,_,_=>by simp at h
 |x::l,0,_,hne,_=>by
  simp only[xef]at hne ⊢
  unfold zhk or2
  rw[if_neg hne]
 |x::l,i+1,h,hne,hz=>by
  have h0:=hz 0 (by omega)
  simp only[xef]at h0
  simp only[xhm]at hne ⊢
  unfold zhk or2
  rw[if_pos h0]
  exact zoh l i (by simp at h;omega) hne fun j hj=>by have:=hz (j+1) (by omega);simpa using this
def zpb:∀(l:List Int),(∀i,i<l.length→l.getD i 0=0)→zhk l=0
 | [],_=>rfl
 |x::l,hz=>by
  have h0:=hz 0 (by simp)
  simp only[xef]at h0
  unfold zhk or2
  rw[if_pos h0]
  exact zpb l fun i hi=>by have:=hz (i+1) (by simp;omega);simpa using this
def d70_eq(l:List Int)(hl:l.length≤1000):d70 l=some (zhk l):=by
 unfold d70
 refine zaw (fun i=>(0,l,(l.length:Int),(i:Int))) (fun i=>!decide (l.getD i 0=0)) l.length (fun i=>.inr (l.getD i 0)) (.inl 0) rfl (fun i hi=>?_) ?_ (fun i hi hp hj=>?_) (fun hall=>?_)
 ·have h2:(i:Int)<(l.length:Int):=by omega
  have h3:(0:Int)≤(i:Int):=by omega
  have hw:w ((i:Int)+1)=((i+1:Nat):Int):=by rw[w_id (by omega) (by omega)];omega
  simp only[h2,h3,hw,xah,xab,xai,xaf]
  cases decide (l.getD i 0=0)<;>rfl
 ·simp
 ·simp only
  rw[zoh l i hi (by simpa using hp) fun j hj'=>by have:=hj j hj';simpa using this]
 ·simp only
  rw[zpb l fun i hi=>by have:=hall i hi;simpa using this]
def cmpA_nz(a b:Asn):cmpA a b=zhk [cI a.1 b.1,cI a.2.1 b.2.1,cI a.2.2.1 b.2.2.1,cI (a.2.2.2.1.length:Int) (b.2.2.2.1.length:Int),cmpL a.2.2.2.1 b.2.2.2.1,cI a.2.2.2.2 b.2.2.2.2]:=by
 have last:∀u:Int,or2 u 0=u:=fun u=>by unfold or2;split<;>simp_all
 simp only[zhk,last]
 rfl
def d35_eq{a b:Asn}(ha:a.2.2.2.1.length≤281474976710656)(hb:b.2.2.2.1.length≤281474976710656):d35 a b=some (cmpA a b):=by
 unfold d35
 rw[cmpA_nz]
 simp only[d71_cI,d68_eq ha hb,xaa,d70_eq _ (show([cI a.1 b.1,cI a.2.1 b.2.1,cI a.2.2.1 b.2.2.1,cI (a.2.2.2.1.length:Int) (b.2.2.2.1.length:Int),cmpL a.2.2.2.1 b.2.2.2.1,cI a.2.2.2.2 b.2.2.2.2]:List Int).length≤1000 by simp)]
def d41_eq{a b:Asn}(ha:a.2.2.2.1.length≤281474976710656)(hb:b.2.2.2.1.length≤281474976710656):d41 a b=some (cmpA a b):=by
 unfold d41
 rw[cmpA_nz]
 simp only[d76_cI,xaa,zpg ha hb,zpg hb ha]
 generalize cI a.1 b.1=r0
 generalize cI a.2.1 b.2.1=r1
 generalize cI a.2.2.1 b.2.2.1=r2
 generalize cI (a.2.2.2.1.length:Int) (b.2.2.2.1.length:Int)=r3
 have last:∀u:Int,or2 u 0=u:=fun u=>by unfold or2;split<;>simp_all
 refine zaw (fun i=>(a,b,[r0,r1,r2,r3],(i:Int))) (fun i=>!decide (([r0,r1,r2,r3]:List Int).getD i 0=0)) 4 (fun i=>.inr (([r0,r1,r2,r3]:List Int).getD i 0)) (.inl (a,b)) rfl (fun i hi=>?_) ?_ (fun i hi hp hj=>?_) (fun hall=>?_)
 ·have h2:(i:Int)<4:=by omega
  have h3:(0:Int)≤(i:Int):=by omega
  have hw:w ((i:Int)+1)=((i+1:Nat):Int):=by rw[w_id (by omega) (by omega)];omega
  simp only[h2,h3,hw,xah,xab,xai,xaf]
  cases decide (([r0,r1,r2,r3]:List Int).getD i 0=0)<;>rfl
 ·simp
 ·simp only
  have h4:=zoh [r0,r1,r2,r3,cmpL a.2.2.2.1 b.2.2.2.1,cI a.2.2.2.2 b.2.2.2.2] i (by simp;omega)
  have e:∀j,j<4→([r0,r1,r2,r3,cmpL a.2.2.2.1 b.2.2.2.1,cI a.2.2.2.2 b.2.2.2.2]:List Int).getD j 0=([r0,r1,r2,r3]:List Int).getD j 0:=fun j hj=>by
   have:j=0∨j=1∨j=2∨j=3:=by omega
   rcases this with h|h|h|h<;>subst h<;>rfl
  rw[h4 (by rw[e i hi];simpa using hp) fun j hj'=>by rw[e j (by omega)];have:=hj j hj';simpa using this,e i hi]
 ·simp only
  have z:∀i,i<4→([r0,r1,r2,r3]:List Int).getD i 0=0:=fun i hi=>by have:=hall i hi;simpa using this
  have z0:r0=0:=z 0 (by omega)
  have z1:r1=0:=z 1 (by omega)
  have z2:r2=0:=z 2 (by omega)
  have z3:r3=0:=z 3 (by omega)
  subst z0 z1 z2 z3
  simp only[zhk,last,d76_cI,zpg ha hb,zpg hb ha,xaa]
  have o0:∀v:Int,or2 0 v=v:=fun v=>by unfold or2;simp
  simp only[o0]
  unfold cmpL
  rcases ziq a.2.2.2.1 b.2.2.2.1 with h|h|h
  ·simp[h,or2]
  ·have h1:¬a.2.2.2.1<b.2.2.2.1:=by rw[h];exact zbm _
   have h2:¬b.2.2.2.1<a.2.2.2.1:=by rw[h];exact zbm _
   simp[h1,h2,o0]
  ·have h1:=zgx h
   simp[h,h1,or2]
def cmpA_zero(a b:Asn):cmpA a b=0↔a=b:=by
 unfold cmpA
 rw[keyC_good.zero]
 obtain⟨a0,a1,a2,a3,a4⟩:=a
 obtain⟨b0,b1,b2,b3,b4⟩:=b
 simp only[key,xba]
 constructor
 ·rintro⟨h0,h1,h2,_,h3,h4⟩;exact⟨h0,h1,h2,h3,h4⟩
 ·rintro⟨h0,h1,h2,h3,h4⟩;exact⟨h0,h1,h2,by rw[h3],h3,h4⟩
def w8_id{n:Int}(h0:0≤n)(h1:n<256):wu8 n=n:=IntWalk.u8_in n ⟨h0,by omega⟩
def allV(l:List Asn):Bool:=l.all fun a=>zar 7 a
def zlg{n:Int}{a:Asn}(h:zar n a=true):a.2.2.2.1.length≤7:=by
 have hw:=zlw h
 rcases zfb h with k|k|k
 ·unfold zar at h
  simp[k]at h
  simp[h.2]
 ·unfold zar at h
  simp only[k,if_true,xbf,show ¬(2:Int)=1 by omega,xan]at h
  obtain⟨q1,q2⟩:=(zoo _ _).1 h.2.1.1.2
  exact zfe (n:=n) ⟨q1.imp fun hh e=>by omega,q2⟩ (by omega)
 ·unfold zar at h
  simp[k]at h
  simp[h.2]
def dec1(s:List Int):Option (Asn×List Int):=
 if s.length<5 then none else if s.length<5+(s.getD 4 0).toNat then none else
  if zar 7 (s.getD 0 0,s.getD 1 0,s.getD 2 0,(s.take (5+(s.getD 4 0).toNat)).drop 5,s.getD 3 0)then
   some ((s.getD 0 0,s.getD 1 0,s.getD 2 0,(s.take (5+(s.getD 4 0).toNat)).drop 5,s.getD 3 0),s.drop (5+((s.take (5+(s.getD 4 0).toNat)).drop 5).length))else none
def stD(r:List Int):Nat→List Int×List Asn
 | 0=>(r,[])
 |i+1=>match dec1 (stD r i).1 with
  |some (a,s)=>(s,(stD r i).2++[a])
  |none=>stD r i
def kk(x:List Int):Nat→List Int
 | 0=>[0,0,0,0,0]
 |j+1=>(kk x j).set j (x.getD j 0)
def kk_len(x:List Int):∀j,(kk x j).length=5
 | 0=>rfl
 |j+1=>by unfold kk;rw[xcd];exact kk_len x j
def kk_get(x:List Int){i:Nat}(hi:i<5):∀j,(kk x j).getD i 0=if i<j then x.getD i 0 else 0
 | 0=>by
  have:i=0∨i=1∨i=2∨i=3∨i=4:=by omega
  rcases this with h|h|h|h|h<;>subst h<;>rfl
 |j+1=>by
  have ih:=kk_get x hi j
  have hl:=kk_len x j
  rw[show kk x (j+1)=(kk x j).set j (x.getD j 0)from rfl,xae,xfw,hl]
  by_cases e:j=i
  ·subst e
   rw[if_pos rfl,if_pos hi,if_pos (by omega)]
   rfl
  ·rw[if_neg e,←xae,ih]
   by_cases h:i<j
   ·rw[if_pos h,if_pos (by omega)]
   ·rw[if_neg h,if_neg (by omega)]
def kk_end(x:List Int){i:Nat}(hi:i<5):(kk x (min 5 x.length)).getD i 0=x.getD i 0:=by
 rw[kk_get x hi]
 by_cases h:i<min 5 x.length
 ·rw[if_pos h]
 ·rw[if_neg h,xae,xdh (by omega)]
  rfl
def mkOf(n:Int)(x:List Int):Asn:=mk n (x.getD 0 0) (x.getD 1 0) (x.getD 2 0) (x.getD 3 0) (x.getD 4 0)
def alls(n:Int)(l:List (List Int)):List Asn:=(l.take 12).map (mkOf n)
def zqj{x:List Int}(h:WT (.slice (.int .i64)) x)(i:Nat):WT (.int .i64) (x.getD i 0):=by
 rcases xcy i x.length with hi|hi
 ·rw[zag x 0 hi];exact h.2 _ (xbc _)
 ·rw[xae,xdh hi]
  exact w_id (n:=0) (by omega) (by omega)
def d28_eq{n:Int}(hn:2≤n)(hn':n≤7){l:List (List Int)}(hl:l.length≤281474976710656)(hw:∀x∈l,WT (.slice (.int .i64)) x):d28 n l=some (alls n l):=by
 unfold d28
 refine zaa (b:=alls n l) (fun i=>(n,l,(l.take i).map (mkOf n),(i:Int))) (min l.length 12) rfl (fun i hi=>?_) ?_ rfl
 ·have h1:(i:Int)<(l.length:Int):=by omega
  have h2:(i:Int)<12:=by omega
  have h3:(0:Int)≤(i:Int):=by omega
  have hwi:w ((i:Int)+1)=((i+1:Nat):Int):=by rw[w_id (by omega) (by omega)];omega
  have hx:=hw (l.getD i []) (by rw[zag l [] (by omega)];exact xbc _)
  have ht:=zdx l [] (by omega:i<l.length)
  have hxl:=wt_len hx
  simp only[h1,h2,h3,hwi,letJ,xah,xab,xai,xaf]
  obtain⟨x,hxd⟩:∃x,l.getD i []=x:=⟨_,rfl⟩
  simp only[hxd]at hx ht hxl
  refine zaa (b:=(n,l,(l.take i).map (mkOf n),(i:Int),kk x (min 5 x.length))) (fun j=>(n,l,(l.take i).map (mkOf n),(i:Int),kk x j,(j:Int))) (min 5 x.length) rfl (fun j hj=>?_) ?_ ?_
  ·have k1:(j:Int)<5:=by omega
   have k2:(j:Int)<(x.length:Int):=by omega
   have k3:(0:Int)≤(j:Int):=by omega
   have kw:w ((j:Int)+1)=((j+1:Nat):Int):=by rw[w_id (by omega) (by omega)];omega
   simp only[h1,h3,k1,k2,k3,kw,xah,xab,xai,xaf,hxd]
   rfl
  ·by_cases c:x.length<5
   ·have k1:((min 5 x.length:Nat):Int)<5:=by omega
    have k2:¬((min 5 x.length:Nat):Int)<(x.length:Int):=by omega
    simp only[h1,h3,k1,k2,xah,xal,xab,xac,xai,xaf,hxd]
   ·have k1:¬((min 5 x.length:Nat):Int)<5:=by omega
    simp only[k1,xal,xac]
  ·have hlim:=zdu ((l.take i).map (mkOf n)) (mkOf n x) (by simp;omega)
   simp only[kk_end x (show 0<5 by omega),kk_end x (show 1<5 by omega),kk_end x (show 2<5 by omega),kk_end x (show 3<5 by omega),kk_end x (show 4<5 by omega)]
   rw[d64_eq hn hn' (zqj hx 0) (zqj hx 1) (zqj hx 2) (zqj hx 3) (zqj hx 4)]
   simp only[xaa]
   have hlim':(((l.take i).map (mkOf n)).length:Int)+(([mk n (x.getD 0 0) (x.getD 1 0) (x.getD 2 0) (x.getD 3 0) (x.getD 4 0)]:List Asn).length:Int)≤LIM:=hlim
   simp only[hlim',xah,xab,hwi,ht,xdd,xen,xgz]
   rfl
 ·have hb:(l.take (min l.length 12)).map (mkOf n)=alls n l:=by
   unfold alls
   congr 1
   by_cases c:l.length≤12
   ·rw[xeo c,xbi (xak _),xbi c]
   ·rw[xjr (by omega)]
  simp only[letJ,hb]
  by_cases c:l.length≤12
  ·have h1:¬((min l.length 12:Nat):Int)<(l.length:Int):=by omega
   simp only[h1,xal,xac]
  ·have h1:((min l.length 12:Nat):Int)<(l.length:Int):=by omega
   have h2:¬((min l.length 12:Nat):Int)<12:=by omega
   simp only[h1,h2,xah,xal,xab,xac]
def alls_ok{n:Int}(hn:2≤n)(hn':n≤7)(l:List (List Int)):(alls n l).length≤12∧allV (alls n l)=true:=by
 refine⟨by simp[alls];omega,?_⟩
 unfold allV
 rw[xbt]
 intro a ha
 obtain⟨x,_,rfl⟩:=xdg.1 ha
 exact valid_wide hn' (mk_valid hn hn')
end Go.Proofs.YtfgjbkjddcjlfaaGreat
namespace Go.X
open Go Go.RowKit
section
variable {P:Program}
def ztz(hm:P.follows .mixedOrders=true){id:Nat}{ops:Array Oper}{Q:Exit→Act→World→Prop}(J:(Nat→Bool)→Act→World→Prop)
  (hac:∀k o,ops[k]?=some o→o.guard=none∧∀e∈o.after,Region.binds .any e=true→e.on<k)
  (step:∀(D:Nat→Bool) i o a w,ops[i]?=some o→D i=false→(∀e∈o.after,Region.binds .any e=true→D e.on=true)→J D a w→o.wp P a w (fun a' w'=>J (fun k=>D k||k == i) a' w') Q)
  (fin:∀(D:Nat→Bool) a w,(∀k,k<ops.size→D k=true)→J D a w→Q .normal a w)
  {a:Act} {w:World} (h0:J (fun _=>false) a w.drew):(Code.region id ops true).wp P Q a w:=by
 have hready:∀(listed:Array Bool),listed.size=ops.size→Region.ready .any ops listed=[]→∀k,k<ops.size→listed.getD k true=true:=fun listed hs hr=>by
  intro k
  induction k using Nat.strongRecOn with
  |_ k ih=>
   intro hk
   cases hl:listed.getD k true with
   |true=>rfl
   |false=>
    exfalso
    have hmem:k∈Region.ready .any ops listed:=mem_ready.2 ⟨hl,ops[k],xcg hk,fun e he hb=>by
     have hlt:=(hac k _ (xcg hk)).2 e he hb
     have:=ih e.on hlt (by omega)
     simpa[hs,show e.on<ops.size from by omega]using this⟩
    rw[hr]at hmem
    cases hmem
 have hdone:∀(listed:Array Bool) (k:Nat),listed.size=ops.size→k<ops.size→listed.getD k true=true→listed.getD k false=true:=fun listed k hs hk h=>by simpa[hs,hk]using h
 have key:∀(fuel:Nat) (listed:Array Bool) (a:Act) (w:World),listed.size=ops.size→((List.range ops.size).filter fun k=>!listed.getD k true).length=fuel →
   J (fun k=>listed.getD k false) a w→wpAny P .any ops Q fuel listed a w:=by
  intro fuel
  induction fuel with
  |zero=>
   intro listed a w hs hf h
   have hall:∀k,k<ops.size→listed.getD k true=true:=fun k hk=>by
    have:=xcf hf
    rw[xgr]at this
    simpa using this k (xbu.2 hk)
   refine⟨?_,fin _ a w (fun k hk=>hdone listed k hs hk (hall k hk)) h⟩
   apply List.eq_nil_iff_forall_not_mem.2
   intro k hk
   obtain⟨h1,o,ho,_⟩:=mem_ready.1 hk
   rw[hall k (xbg.1 ho).1]at h1
   cases h1
  |succ fuel ih=>
   intro listed a w hs hf h
   refine⟨fun hr=>fin _ a w (fun k hk=>hdone listed k hs hk (hready listed hs hr k hk)) h,fun i hi=>?_⟩
   obtain⟨hun,o,ho,hedge⟩:=mem_ready.1 hi
   have hin:i<ops.size:=(xbg.1 ho).1
   have hiun:listed.getD i false=false:=by simpa[hs,hin]using hun
   have hset:(listed.setIfInBounds i true).size=ops.size:=by simpa using hs
   have hwant:Region.wanted o (yielded ops a.tmps)=true:=by unfold Region.wanted;rw[(hac i o ho).1]
   unfold wpOp
   rw[ho]
   show if Region.wanted o (yielded ops a.tmps)=true then _ else _
   rw[if_pos hwant]
   refine .inl (Oper.wp_mono (fun a' w' h'=>?_) (step _ i o a w ho hiun hedge h))
   refine ih _ a' w' hset ?_ ?_
   ·have key:∀(l:List Nat),l.Nodup→i∈l→(l.filter fun k=>!listed.getD k true).length=(l.filter fun k=>!(listed.setIfInBounds i true).getD k true).length+1:=by
     intro l
     induction l with
     |nil=>intro _ h;cases h
     |cons x l ih2=>
      intro hnd hmem
      obtain⟨hx,hnd'⟩:=xdx.1 hnd
      rw[xey,xey]
      by_cases hxi:x=i
      ·subst hxi
       have e1:(!listed.getD x true)=true:=by rw[hun];rfl
       have e2:(!(listed.setIfInBounds x true).getD x true)=false:=by simp[hs,hin]
       rw[if_pos e1,e2]
       simp only[xaw,xbf,xaz]
       congr 1
       congr 1
       apply xfa
       intro k hk
       have hkx:x≠k:=fun he=>hx (he▸hk)
       rw[getD_set_ne true hkx]
      ·have hmem':i∈l:=(xbd.1 hmem).resolve_left (fun e=>hxi e.symm)
       have:=ih2 hnd' hmem'
       rw[getD_set_ne true (Ne.symm hxi)]
       split
       ·rw[xaz,xaz,this]
       ·exact this
    have:=key _ xii (xbu.2 hin)
    omega
   ·have e:(fun k=>(listed.setIfInBounds i true).getD k false)=fun k=>listed.getD k false||k == i:=by
     funext k
     by_cases hki:k=i
     ·subst hki;simp[hs,hin]
     ·rw[getD_set_ne false (Ne.symm hki)]
      simp[hki]
    rw[e]
    exact h'
 refine wp_region_any hm ?_
 have hrep:∀(k:Nat) (d:Bool),k<ops.size→(Array.replicate ops.size false).getD k d=false:=fun k d hk=>by simp[hk]
 have hself:((List.range ops.size).filter fun k=>!(Array.replicate ops.size false).getD k true)=List.range ops.size:=by
  rw[xhn]
  intro k hk
  rw[xbu]at hk
  rw[hrep k true hk];rfl
 refine key ops.size _ a _ (by simp) (by rw[hself,List.length_range]) ?_
 have e:(fun k=>(Array.replicate ops.size false).getD k false)=fun _=>false:=by
  funext k
  by_cases hk:k<ops.size
  ·exact hrep k false hk
  ·simp[hk]
 rw[e]
 exact h0
end
end Go.X
