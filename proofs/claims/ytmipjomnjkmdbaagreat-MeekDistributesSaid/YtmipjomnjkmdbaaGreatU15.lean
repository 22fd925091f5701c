/- Part 15 of what stands below the statement. -/
import Derived.Test.YtmipjomnjkmdbaaGreatU14
set_option linter.unusedSimpArgs false
set_option linter.unusedVariables false
namespace Go.Proofs.YtmipjomnjkmdbaaGreat
open Go Go.X
abbrev MT:=CT×(List Grp×(List Int×(Int×(List Int×(List Int×(Int×(List (List Rt)×(Int×(Int×(Int×(Int×(Int×(Int×(List RD×List Int))))))))))))))
theorem zjf{k:MT}{st:Nat→Nat}{n:Nat}(hk:k.2.2.2.2.1=lst (fun i=>(st i:Int)) n)(hn:n≤1000)(x:Nat):d161 k (x:Int)=some (selI (fun i=>decide (st i=x)) n):=by
 unfold d161
 rw[hk,zam]
 refine zae (fun i=>((x:Int),selI (fun i=>decide (st i=x)) i,lst (fun i=>(st i:Int)) n,(n:Int),(i:Int))) n rfl (fun i hi=>?_) ?_ rfl
 ·have hl:(selI (fun i=>decide (st i=x)) i).length+1≤4294967296:=by
   rw[zbp];have:=zdc (fun i=>decide (st i=x)) i;omega
  rw[zec]
  simp only[dlt hi,d0le,zam,xah,xad,tn,zbd _ hi,zah,zos,zbc (show i<9223372036854775807 by omega)]
  by_cases h:st i=x
  ·rw[decide_eq_true h,xad,zet hl,xad];rfl
  ·rw[decide_eq_false h,xae];simp
 ·simp only[nlt (Nat.le_refl n),xae]
theorem d157_eq{k:MT}{v:Nat→Nat}{n one:Nat}(hk:k.2.2.2.1=(one:Int))(hn:n≤1000)(h1:0<one)(h6:one≤1000000)(hv:∀i,i<n→v i≤9223372036854775807):d157 k (lst (fun i=>(v i:Int)) n)=some (lst (fun i=>rr (frac (v i) one)) n):=by
 unfold d157
 rw[zam]
 refine zae (fun i=>(k,lst (fun i=>rr (frac (v i) one)) i,lst (fun i=>(v i:Int)) n,(n:Int),(i:Int))) n rfl (fun i hi=>?_) ?_ rfl
 ·have hl:=zet (l:=lst (fun i=>rr (frac (v i) one)) i) (d:=rr (frac (v i) one)) (by rw[zam];omega)
  rw[zam]at hl
  simp only[dlt hi,d0le,zam,xah,xad,tn,zbd (fun i=>(v i:Int)) hi,hk,zov (hv i hi) (show one≤9223372036854775807 by omega) h1,xab,zbc (show i<9223372036854775807 by omega),hl,zia]
 ·simp only[nlt (Nat.le_refl n),xae]
theorem d159_eq{c:CT}{gs:List Grp}{lots:List Int}{one:Int}{st:Nat→Nat}{n:Nat}{kp:List Int}{filled:Nat}{rest:List (List Rt)×(Int×(Int×(Int×(Int×(Int×(Int×(List RD×List Int)))))))}
  {v kk:List Rt} {qu ex su:Rt} {el ex2 ti:List Int} {L:List Nat} (hn:n≤7) (hL:∀i∈L,i<n) (hLl:L.length≤7) (hf:filled≤1000) (hel:el.length≤1000) :
  d159 (c,gs,lots,one,lst (fun i=>(st i:Int)) n,kp,(filled:Int),rest) (v,kk,qu,ex,su,el,ex2,ti) (L.map Int.ofNat)
   =some ((c,gs,lots,one,lst (fun i=>((zeu st L 1 i:Nat):Int)) n,kp,((filled+L.length:Nat):Int),rest),(v,kk,qu,ex,su,zdh (el++L.map Int.ofNat),ex2,ti)):=by
 unfold d159
 have hLi:(L.map Int.ofNat).length=L.length:=xbz ..
 rw[hLi]
 refine zae (fun j=>((c,gs,lots,one,lst (fun i=>((zeu st (L.take j) 1 i:Nat):Int)) n,kp,((filled+j:Nat):Int),rest),(v,kk,qu,ex,su,el++(L.take j).map Int.ofNat,ex2,ti),L.map Int.ofNat,(L.length:Int),(j:Int))) L.length ?_ (fun j hj=>?_) (b:=((c,gs,lots,one,lst (fun i=>((zeu st L 1 i:Nat):Int)) n,kp,((filled+L.length:Nat):Int),rest),(v,kk,qu,ex,su,el++L.map Int.ofNat,ex2,ti))) ?_ ?_
 ·rw[xdn,updAll_nil,List.map_nil,xcm];rfl
 ·have hm:L.getD j 0∈L:=by
   rw[xac,xag hj]
   exact xbm hj
  have hg:=hL _ hm
  have hsg:(L.map Int.ofNat).getD j 0=((L.getD j 0:Nat):Int):=by
   rw[xac,xbr,xag hj,xac,xag hj];rfl
  have hll:(el++(L.take j).map Int.ofNat).length+1≤4294967296:=by rw[List.length_append,xbz,xav];omega
  simp only[dlt hj,d0le,hLi,xah,xad,tn,hsg,zam,dlt hg,zet hll,zbc (show j<9223372036854775807 by omega),zbc (show filled+j<9223372036854775807 by omega),ziy]
  have e:lst (upd (fun i=>((zeu st (L.take j) 1 i:Nat):Int)) (L.getD j 0) 1) n=lst (fun i=>((zeu st (L.take (j+1)) 1 i:Nat):Int)) n:=zbu fun i hi=>by
   rw[zbj L 0 hj,←updAll_snoc]
   unfold upd
   split<;>rfl
  rw[e,zbj L 0 hj,xdq,xcp]
  rfl
 ·simp only[nlt (Nat.le_refl L.length),xae,xbo]
 ·have hd:d174 (el++L.map Int.ofNat)=some (zdh (el++L.map Int.ofNat)):=by
   unfold d174
   rw[zbo (by rw[List.length_append,hLi];omega)];rfl
  simp only[hd,xab]
def cmpM(v:Nat→Nat)(lots:List Int)(a b:Int):Int:=if v a.toNat=v b.toNat then(zbx lots a:Int)-(zbx lots b:Int)else(v b.toNat:Int)-(v a.toNat:Int)
theorem zjg(v:Nat→Nat)(lots:List Int)(a b:Nat):cmpM v lots (a:Int) (b:Int)<0↔zdo v lots a b=true:=by
 unfold cmpM zdo
 rw[xan,xan]
 simp only[xdf,xaf,xaj]
 split<;>omega
theorem d196_eq{v:Nat→Nat}{n:Nat}{k:MT}{lots:List Int}(hk:k.2.2.1=lots)(hl:LotsOK n lots)(hv:∀i,i<n→v i≤1000000000000){a b:Nat}(ha:a<n)(hb:b<n):d196 (a:Int) (b:Int) (lst (fun i=>(v i:Int)) n) k=some (cmpM v lots (a:Int) (b:Int)):=by
 have h1:=hv a ha
 have h2:=hv b hb
 have h7:=hl.n7
 have hll:=hl.len
 have h3:=zou (s:=lots) (a:Int) (by omega)
 have h4:=zou (s:=lots) (b:Int) (by omega)
 rw[zfr]at h3 h4
 have p1:lots.idxOf (a:Int)<lots.length:=xfv (hl.mem ha)
 have p2:lots.idxOf (b:Int)<lots.length:=xfv (hl.mem hb)
 rw[if_pos p1]at h3
 rw[if_pos p2]at h4
 unfold d196 cmpM zbx
 simp only[d0le,zam,dlt ha,dlt hb,xah,xad,tn,zbd (fun i=>(v i:Int)) ha,zbd (fun i=>(v i:Int)) hb,zos,hk,h3,h4,xab]
 by_cases h:v a=v b
 ·rw[if_pos h,decide_eq_true h,xap,xae,zaz (by omega) (by omega)]
 ·rw[if_neg h,decide_eq_false h,xal,xad,zaz (by omega) (by omega)]
variable {Q:MP} {s:MS}
theorem d160_ex(hQ:Q.OK)(hI:MI Q s){k:MT}(hst:k.2.2.2.2.1=lst (fun i=>(s.st i:Int)) Q.P.n)(hlo:k.2.2.1=Q.P.lots)(hse:k.1.2.2.2.1=(Q.P.seats:Int))(hfl:k.2.2.2.2.2.2.1=(s.fl Q:Int)) :
  ∃L:List Nat,d160 k (lst (fun i=>((s.v Q i:Nat):Int)) Q.P.n) ((s.quo Q:Nat):Int)=some (L.map Int.ofNat)∧(L.map Int.ofNat).Perm (selI (s.el Q) Q.P.n):=by
 have hn7:=hQ.P.n7
 have hs5:=hQ.P.seats5
 have hfill:=hI.fill
 have hv:∀i,i<Q.P.n→s.v Q i≤1000000000000:=fun i hi=>by
  have h1:=MS.v_le hQ hI hi
  have h2:=MS.tot_le hQ
  omega
 have h134:=d134_eq (s:=selI (fun i=>decide (s.st i=0)) Q.P.n) (f:=fun a=>d194 a (lst (fun i=>((s.v Q i:Nat):Int)) Q.P.n) ((s.quo Q:Nat):Int)) (g:=fun x=>decide (s.v Q x.toNat<s.quo Q)) (fun x hx=>by
  obtain⟨i,rfl,hi,_⟩:=zbe.1 hx
  unfold d194
  simp only[d0le,zam,dlt hi,xah,xad,tn,zbd (fun i=>((s.v Q i:Nat):Int)) hi,xan]
  congr 1
  exact xdi.2 (by omega)) (by rw[zbp];have:=zdc (fun i=>decide (s.st i=0)) Q.P.n;omega)
 have hre:(selI (fun i=>decide (s.st i=0)) Q.P.n).filter (fun c=>!decide (s.v Q c.toNat<s.quo Q))=selI (s.reach Q) Q.P.n:=by
  rw[zkw]
  refine zmn fun i _=>?_
  unfold MS.reach
  congr 1
  rw[xan]
  by_cases h:s.v Q i<s.quo Q
  ·rw[decide_eq_true h,decide_eq_false (by omega)];rfl
  ·rw[decide_eq_false h,decide_eq_true (by omega)];rfl
 rw[hre]at h134
 have hrl:(selI (s.reach Q) Q.P.n).length≤7:=by rw[zbp];have:=zdc (s.reach Q) Q.P.n;omega
 have hin:∀a∈selI (s.reach Q) Q.P.n,∃i:Nat,a=(i:Int)∧i<Q.P.n:=fun a ha=>by
  obtain⟨i,h,hi,_⟩:=zbe.1 ha
  exact⟨i,h,hi⟩
 obtain⟨L,h1,h2,h3⟩:=d195_ex (l:=selI (s.reach Q) Q.P.n) (cmp:=fun a_1 a_2=>d196 a_1 a_2 (lst (fun i=>((s.v Q i:Nat):Int)) Q.P.n) k) (g:=cmpM (s.v Q) Q.P.lots) (by omega) (zgq _ _) (fun a ha b hb=>by
  obtain⟨i,rfl,hi⟩:=hin a ha
  obtain⟨j,rfl,hj⟩:=hin b hb
  exact d196_eq hlo (lotsOK hQ.P) hv hi hj) (fun a ha b hb hne=>by
  obtain⟨i,rfl,hi⟩:=hin a ha
  obtain⟨j,rfl,hj⟩:=hin b hb
  rw[zjg,zjg]
  exact zjv ((lotsOK hQ.P).mem hi) fun e=>hne (by rw[e])) (fun a ha b hb d hd=>by
  obtain⟨i,rfl,hi⟩:=hin a ha
  obtain⟨j,rfl,hj⟩:=hin b hb
  obtain⟨m,rfl,hm⟩:=hin d hd
  rw[zjg,zjg,zjg]
  exact zju)
 have hLin:∀a∈L,∃i:Nat,a=(i:Int)∧i<Q.P.n:=fun a ha=>hin a (h2.mem_iff.1 ha)
 have hs:L.Pairwise fun a b=>zlv (s.v Q) Q.P.lots a b=true:=h3.imp_of_mem fun{a b} ha hb hab=>by
  obtain⟨i,rfl,hi⟩:=hLin a ha
  obtain⟨j,rfl,hj⟩:=hLin b hb
  exact(zjg _ _ _ _).1 hab
 have hLl:L.length≤7:=by rw[h2.length_eq];exact hrl
 have hmap:((L.take (Q.P.seats-s.fl Q)).map Int.toNat).map Int.ofNat=L.take (Q.P.seats-s.fl Q):=by
  rw[List.map_map]
  refine(xew fun a ha=>?_).trans (List.map_id _)
  obtain⟨i,rfl,_⟩:=hLin a (xcg ha)
  rfl
 refine⟨(L.take (Q.P.seats-s.fl Q)).map Int.toNat,?_,by rw[hmap];exact el_perm hQ h2 hs⟩
 rw[hmap]
 unfold d160
 rw[show d161 k 0=_ from zjf hst (by omega) 0,xab,h134,xab,h1,xab,hse,hfl,wsubN (by omega) (by omega)]
 by_cases hc:((Q.P.seats-s.fl Q:Nat):Int)<(L.length:Int)
 ·rw[decide_eq_true hc,xad]
  have hcut:zbz 0 ((Q.P.seats-s.fl Q:Nat):Int) L.length=true:=by
   unfold zbz
   simp only[xaf,xaj]
   omega
  rw[hcut,xad,tn]
 ·rw[decide_eq_false hc,xae]
  have hcut:zbz 0 (L.length:Int) L.length=true:=by
   unfold zbz
   simp only[xaf,xaj]
   omega
  rw[hcut,xad,tn,xbo,xax (by omega)]
theorem d60_eq{d:Nat}(h1:1≤d)(h6:d≤6):d60 (d:Int)=some ((10^(d/2):Nat):Int):=by
 have e:w (Int.tdiv (d:Int) 2)=((d/2:Nat):Int):=by
  have:Int.tdiv (d:Int) 2=((d/2:Nat):Int):=by
   rw[xdr (by omega)];rfl
  rw[this,zaz (by omega) (by omega)]
 unfold d60
 simp only[zah,decide_eq_false (show ¬(d:Int)<1 by omega),decide_eq_false (show ¬(6:Int)<(d:Int) by omega),xal,xad,xae,e,zoy (show d/2≤18 by omega),xab]
theorem d61_eq{d:Nat}(h1:1≤d)(h6:d≤6):d61 (d:Int)=some ((10^(d/2):Nat):Int):=by
 have e:w (Int.tdiv (d:Int) 2)=((d/2:Nat):Int):=by
  have:Int.tdiv (d:Int) 2=((d/2:Nat):Int):=by
   rw[xdr (by omega)];rfl
  rw[this,zaz (by omega) (by omega)]
 unfold d61
 simp only[zah,decide_eq_false (show ¬(d:Int)<1 by omega),decide_eq_false (show ¬(6:Int)<(d:Int) by omega),xal,xad,xae,e,d114_eq (show d/2≤18 by omega),xab]
inductive Bef(rs:List Rd)(b:Option Nat)(sur:Nat):Prop
 |start:rs=[]→b=none→Bef rs b sur
 |kept (rs':List Rd) (r:Rd):rs=rs'++[r]→r.ex=[]→b=some sur→Bef rs b sur
 |excl (rs':List Rd) (r:Rd):rs=rs'++[r]→r.ex≠ []→b=none→Bef rs b sur
theorem d162_eq{k:MT}{rs:List Rd}{d sur:Nat}(h1:1≤d)(h6:d≤6)(hk:k.1.2.2.2.2.2.1=(d:Int))(hrs:k.2.2.2.2.2.2.2.2.2.2.2.2.2.2.1=rs.map rdT)(hl:rs.length≤1000)(hsi:s.since≤rs.length)(hev:k.2.2.2.2.2.2.2.2.1=(rs.length:Int)-(s.since:Int))(hsu:k.2.2.2.2.2.2.2.2.2.1=(sur:Int))(hb:Bef rs s.bef sur)(hom:Q.om=10^(d/2)) :
  d162 k ((s.sur Q:Nat):Int) ((rs.length+1:Nat):Int)=some (s.stall Q):=by
 unfold d162 MS.stall
 have hw1:w (((rs.length+1:Nat):Int)-((rs.length:Int)-(s.since:Int)))=((s.since+1:Nat):Int):=by rw[zaz (by omega) (by omega)];omega
 simp only[zah,hk,d60_eq h1 h6,xab,hev,hw1,hrs,xbz,hsu,←hom]
 by_cases c1:s.sur Q<Q.om
 ·rw[decide_eq_true (show((s.sur Q:Nat):Int)<((Q.om:Nat):Int) by omega),decide_eq_true c1];rfl
 rw[decide_eq_false (show ¬((s.sur Q:Nat):Int)<((Q.om:Nat):Int) by omega),decide_eq_false c1,xal,xad,xbg]
 by_cases c2:60≤s.since+1
 ·rw[decide_eq_true (show(60:Int)≤((s.since+1:Nat):Int) by omega),decide_eq_true c2];rfl
 rw[decide_eq_false (show ¬(60:Int)≤((s.since+1:Nat):Int) by omega),decide_eq_false c2,xae,xbg]
 have hget:∀(rs':List Rd) (r:Rd) (d0:RD),rs=rs'++[r]→(rs.map rdT).getD rs'.length d0=rdT r:=fun rs' r d0 e=>by
  rw[e,xdq,xac,xcq (by simp),xbz,Nat.sub_self];rfl
 cases hb with
 |start e1 e2=>
  rw[e2,e1]
  have:w (((([]:List Rd).length:Nat):Int)-1)=-1:=by
   show w (-1)=-1
   exact zaz (by omega) (by omega)
  rw[this];rfl
 |kept rs' r e1 e2 e3=>
  have hlen:rs.length=rs'.length+1:=by rw[e1];simp
  rw[e3,hlen,wpred (by omega)]
  have hx:(rdT r).2.2.2.2.2.2.1=[]:=e2
  rw[d0le,xad,tn,dlt (show rs'.length<rs'.length+1 by omega),xah,xad,hget rs' r _ e1,hx]
  show some (decide ((sur:Int)≤((s.sur Q:Nat):Int)))=some (decide (sur≤s.sur Q))
  congr 1
  exact xdi.2 (by omega)
 |excl rs' r e1 e2 e3=>
  have hlen:rs.length=rs'.length+1:=by rw[e1];simp
  rw[e3,hlen,wpred (by omega)]
  have hx:(rdT r).2.2.2.2.2.2.1=r.ex:=rfl
  have hpos:=xco.2 e2
  rw[d0le,xad,tn,dlt (show rs'.length<rs'.length+1 by omega),xah,xad,hget rs' r _ e1,hx,decide_eq_false (show ¬((r.ex.length:Nat):Int)=0 by omega)]
  rfl
end Go.Proofs.YtmipjomnjkmdbaaGreat
namespace Go.Proofs.YtmipjomnjkmdbaaGreat
open Go Go.X
variable {Q:MP} {s:MS}
theorem getD_in{l:List Int}{P:Int→Prop}(h:∀x∈l,P x){j:Nat}(hj:j<l.length):P (l.getD j 0):=h _ (zcb hj)
set_option maxHeartbeats 1000000 in
theorem d163_eq(hQ:Q.OK)(hI:MI Q s){c:CT}(hc:c.2.2.2.2.2.2.1=Q.P.ties){gs:List Grp}{one filled:Int}{E:List (List Rat)}{rest:Int×(Int×(Int×(Int×(Int×(Int×(List RD×List Int))))))}(hE:∀r∈E,RndOK Q.P.n r)(hEl:E.length≤1000)(v kk:List Rt)(qu ex su:Rt)(el ex2 ti:List Int) :
  ∃x:Nat,x<Q.P.n∧s.pick Q E=(x:Int)∧d163 (c,gs,Q.P.lots,one,lst (fun i=>(s.st i:Int)) Q.P.n,lst (fun i=>(s.kp i:Int)) Q.P.n,filled,E.map (List.map rr),rest) (v,kk,qu,ex,su,el,ex2,ti) (lst (fun i=>((s.v Q i:Nat):Int)) Q.P.n) ((s.sur Q:Nat):Int)
   =some ((c,gs,Q.P.lots,one,lst (fun i=>((upd s.st x 2 i:Nat):Int)) Q.P.n,lst (fun i=>((upd s.kp x 0 i:Nat):Int)) Q.P.n,filled,E.map (List.map rr),rest),(v,kk,qu,ex,su,el,[(x:Int)],if(s.tied Q).length=1 then ti else s.tied Q)):=by
 obtain⟨x,x1,x2,x3⟩:=zoa hI E
 refine⟨x,x2,x1,?_⟩
 have hn7:=hQ.P.n7
 have htl:=MS.tot_le hQ
 have hv:∀i,i<Q.P.n→s.v Q i≤100000000000:=fun i hi=>by
  have h1:=MS.v_le hQ hI hi
  omega
 have hsur:s.sur Q≤100000000000:=by
  have h1:=MS.sum_le hQ hI
  have h2:s.sur Q≤sumN (s.v Q) Q.P.n:=ziq fun i _=>by split<;>omega
  omega
 have hLn:∀y∈selI (fun i=>decide (s.st i=0)) Q.P.n,∃i:Nat,y=(i:Int)∧i<Q.P.n:=fun y hy=>by
  obtain⟨i,h,hi,_⟩:=zbe.1 hy
  exact⟨i,h,hi⟩
 have hne:selI (fun i=>decide (s.st i=0)) Q.P.n≠ []:=xfc (zbe.2 ⟨x,rfl,x2,decide_eq_true x3⟩)
 have hLl:(selI (fun i=>decide (s.st i=0)) Q.P.n).length≤7:=by
  rw[zbp];have:=zdc (fun i=>decide (s.st i=0)) Q.P.n;omega
 have hmem:∀i,i<Q.P.n→(s.st i=0↔(i:Int)∈selI (fun i=>decide (s.st i=0)) Q.P.n):=fun i hi=>by
  rw[zbe]
  constructor
  ·intro h;exact⟨i,rfl,hi,decide_eq_true h⟩
  ·rintro⟨k,e,_,h⟩
   rw[xeb.1 e]
   exact of_decide_eq_true h
 have hnear:∀m:Nat,(∃y,y<Q.P.n∧s.st y=0∧m=s.v Q y)→(∀k,k<Q.P.n→s.st k=0→m≤s.v Q k)→(selI (fun i=>decide (s.st i=0)) Q.P.n).filter (fun c=>!decide (m+s.sur Q<s.v Q c.toNat))=s.tied Q:=fun m ⟨y,y1,y2,y3⟩ hm=>by
  rw[zkw]
  refine zmn fun i hi=>?_
  unfold MS.near
  congr 1
  rw[xan,xgz,xby,Bool.not_eq_true',xar]
  constructor
  ·intro h k hk
   by_cases h5:s.st k=0
   ·have:=hm k (List.mem_range.1 hk) h5
    rw[xdf,xaj]
    exact .inr (by omega)
   ·simp[h5]
  ·intro h
   have:=h y (List.mem_range.2 y1)
   rw[decide_eq_true y2,xap,xbg,xaj]at this
   omega
 have h134:∀m:Nat,m≤100000000000→d134 (selI (fun i=>decide (s.st i=0)) Q.P.n) (fun a=>d197 a (lst (fun i=>((s.v Q i:Nat):Int)) Q.P.n) (m:Int) ((s.sur Q:Nat):Int))=some ((selI (fun i=>decide (s.st i=0)) Q.P.n).filter fun c=>!decide (m+s.sur Q<s.v Q c.toNat)):=fun m hm=>d134_eq (g:=fun c=>decide (m+s.sur Q<s.v Q c.toNat)) (fun y hy=>by
  obtain⟨i,rfl,hi⟩:=hLn y hy
  unfold d197
  simp only[d0le,zam,dlt hi,xah,xad,tn,zbd (fun i=>((s.v Q i:Nat):Int)) hi,xan,wadd (show m+s.sur Q≤9223372036854775807 by omega)]
  congr 1
  exact xdi.2 (by omega)) (by omega)
 unfold d163
 rw[show d161 (c,gs,Q.P.lots,one,lst (fun i=>(s.st i:Int)) Q.P.n,lst (fun i=>(s.kp i:Int)) Q.P.n,filled,E.map (List.map rr),rest) 0=_ from zjf (st:=s.st) (n:=Q.P.n) rfl (by omega) 0,xab]
 simp only[show∀i,decide (s.st i=0)=decide (s.st i=0)from fun _=>rfl]
 generalize hLL:selI (fun i=>decide (s.st i=0)) Q.P.n=L at *
 have hpos:=xco.2 hne
 obtain⟨y0,hy0,hy0n⟩:=getD_in hLn hpos
 have hy0m:(y0:Int)∈L:=by rw[←hy0];exact zcb hpos
 simp only[decide_eq_true (show(0:Int)<(L.length:Int) by omega),show decide ((0:Nat)≤0)=true from rfl,xah,xad,hy0,d0le,zam,dlt hy0n,tn,zbd (fun i=>((s.v Q i:Nat):Int)) hy0n]
 refine zbq (Q:=fun z=>z=_) (fun(i:Nat) (st:MT×RD×(List Int)×Int×(List Int)×Int×Int×Int)=>∃m:Nat,st=((c,gs,Q.P.lots,one,lst (fun i=>(s.st i:Int)) Q.P.n,lst (fun i=>(s.kp i:Int)) Q.P.n,filled,E.map (List.map rr),rest),(v,kk,qu,ex,su,el,ex2,ti),lst (fun i=>((s.v Q i:Nat):Int)) Q.P.n,((s.sur Q:Nat):Int),L,(m:Int),(L.length:Int),(i:Int))∧(∃y,y<Q.P.n∧s.st y=0∧m=s.v Q y)∧∀j,j<i→∀y:Nat,L.getD j 0=(y:Int)→m≤s.v Q y) L.length ⟨s.v Q y0,rfl,⟨y0,hy0n,(hmem y0 hy0n).2 hy0m,rfl⟩,fun j hj=>by omega⟩ ?_ ?_
 ·rintro i st hi ⟨m,rfl,⟨y,y1,y2,y3⟩,hm⟩
  obtain⟨z,hz,hzn⟩:=getD_in hLn hi
  have hzm:(z:Int)∈L:=by rw[←hz];exact zcb hi
  refine⟨_,by simp only[dlt hi,d0le,xah,xad,tn,hz,zam,dlt hzn,zbd (fun i=>((s.v Q i:Nat):Int)) hzn,zbc (show i<9223372036854775807 by omega)];rfl,?_⟩
  by_cases hlt:s.v Q z<m
  ·refine⟨s.v Q z,by rw[dlt hlt];rfl,⟨z,hzn,(hmem z hzn).2 hzm,rfl⟩,fun j hj y' hy'=>?_⟩
   by_cases hji:j=i
   ·subst hji
    rw[hz]at hy'
    rw[xeb.1 hy']
    exact Nat.le_refl _
   ·have:=hm j (by omega) y' hy'
    omega
  ·refine⟨m,by rw[nlt (by omega)];rfl,⟨y,y1,y2,y3⟩,fun j hj y' hy'=>?_⟩
   by_cases hji:j=i
   ·subst hji
    rw[hz]at hy'
    rw[←xeb.1 hy']
    omega
   ·exact hm j (by omega) y' hy'
 ·rintro st ⟨m,rfl,hy,hm⟩
  refine⟨((c,gs,Q.P.lots,one,lst (fun i=>(s.st i:Int)) Q.P.n,lst (fun i=>(s.kp i:Int)) Q.P.n,filled,E.map (List.map rr),rest),(v,kk,qu,ex,su,el,ex2,ti),lst (fun i=>((s.v Q i:Nat):Int)) Q.P.n,((s.sur Q:Nat):Int),L,(m:Int)),by simp only[nlt (Nat.le_refl L.length),xae],?_⟩
  have hm2:∀k,k<Q.P.n→s.st k=0→m≤s.v Q k:=fun k hk h0=>by
   obtain⟨j,hj,e⟩:=xbq ((hmem k hk).1 h0)
   exact hm j hj k (by rw[xac,xag hj,e];rfl)
  have hmb:m≤100000000000:=by
   obtain⟨y,y1,_,y3⟩:=hy
   rw[y3];exact hv y y1
  have ht:=hnear m hy hm2
  have h134:=h134 m hmb
  rw[ht]at h134
  have htne:s.tied Q≠ []:=near_ne hI
  have htin:∀y∈s.tied Q,∃i:Nat,y=(i:Int)∧i<Q.P.n:=fun y hy=>by
   obtain⟨i,h,hi,_⟩:=zbe.1 hy
   exact⟨i,h,hi⟩
  have htl7:(s.tied Q).length≤7:=by
   unfold MS.tied
   rw[zbp];have:=zdc (s.near Q) Q.P.n;omega
  have hset1:(lst (fun i=>(s.st i:Int)) Q.P.n).set x 2=lst (fun i=>((upd s.st x 2 i:Nat):Int)) Q.P.n:=by
   rw[ziy]
   refine zbu fun k _=>?_
   unfold upd
   split<;>rfl
  have hset2:(lst (fun i=>(s.kp i:Int)) Q.P.n).set x 0=lst (fun i=>((upd s.kp x 0 i:Nat):Int)) Q.P.n:=by
   rw[ziy]
   refine zbu fun k _=>?_
   unfold upd
   split<;>rfl
  obtain⟨b,hb155⟩:=d155_eq (n:=Q.P.n) (ties:=Q.P.ties) (E:=E) (tied:=s.tied Q) (lots:=Q.P.lots) (least:=true) hQ.P.ties1 hQ.P.ties3 (lotsOK hQ.P) hE (by omega) htne (zed _ _) htin (by omega)
  simp only[h134,xab]
  unfold MS.pick at x1
  generalize s.tied Q=T at htne htl7 x1 hb155 ⊢
  obtain⟨z,T',hT'⟩:=List.exists_cons_of_ne_nil htne
  subst hT'
  simp only[xbx,decide_eq_true (show(0:Int)<((T'.length+1:Nat):Int) by omega),show decide ((0:Nat)≤0)=true from rfl,xah,xad,zah,hc,hb155,xab,xex]
  rw[xbx]at x1
  by_cases hone:T'.length+1=1
  ·rw[if_pos hone,xgy]at x1
   simp only[if_pos hone,decide_eq_false (show ¬(1:Int)<((T'.length+1:Nat):Int) by omega),xae,x1,d0le,zam,dlt x2,xah,xad,tn,hset1,hset2]
  ·rw[if_neg hone]at x1
   simp only[if_neg hone,decide_eq_true (show(1:Int)<((T'.length+1:Nat):Int) by omega),xad,x1,d0le,zam,dlt x2,xah,tn,hset1,hset2]
theorem d164_eq(hQ:Q.OK)(hI:MI Q s){c:CT}{gs:List Grp}{lots:List Int}{filled:Int}{rest:List (List Rt)×(Int×(Int×(Int×(Int×(Int×(Int×(List RD×List Int)))))))} :
  d164 (c,gs,lots,(Q.one:Int),lst (fun i=>((s.st1 Q i:Nat):Int)) Q.P.n,lst (fun i=>(s.kp i:Int)) Q.P.n,filled,rest) (lst (fun i=>((s.v Q i:Nat):Int)) Q.P.n) ((s.quo Q:Nat):Int)
   =some (c,gs,lots,(Q.one:Int),lst (fun i=>((s.st1 Q i:Nat):Int)) Q.P.n,lst (fun i=>((s.kp1 Q i:Nat):Int)) Q.P.n,filled,rest):=by
 have hn7:=hQ.P.n7
 have htl:=MS.tot_le hQ
 have ho1:=hQ.one1
 have ho6:=hQ.one6
 have hv:∀i,i<Q.P.n→s.v Q i≤100000000000:=fun i hi=>by
  have h1:=MS.v_le hQ hI hi
  omega
 have hq:s.quo Q≤100000000001:=by
  have:=MS.quo_le hQ hI
  omega
 unfold d164
 rw[show d161 (c,gs,lots,(Q.one:Int),lst (fun i=>((s.st1 Q i:Nat):Int)) Q.P.n,lst (fun i=>(s.kp i:Int)) Q.P.n,filled,rest) 1=_ from zjf (st:=s.st1 Q) (n:=Q.P.n) rfl (by omega) 1,xab]
 obtain⟨L,hL⟩:∃L,selN (fun i=>decide (s.st1 Q i=1)) Q.P.n=L:=⟨_,rfl⟩
 have hLi:selI (fun i=>decide (s.st1 Q i=1)) Q.P.n=L.map Int.ofNat:=by rw[←hL];rfl
 have hLn:∀i∈L,i<Q.P.n:=fun i hi=>(zen.1 (by rw[hL];exact hi)).1
 have hLl:L.length≤7:=by rw[←hL,zfk];have:=zdc (fun i=>decide (s.st1 Q i=1)) Q.P.n;omega
 have hLd:L.Nodup:=by
  rw[←hL];unfold selN
  exact List.nodup_range.filter _
 have hmem:∀i,i<Q.P.n→(s.st1 Q i=1↔i∈L):=fun i hi=>by
  rw[←hL,zen,xaj]
  exact⟨fun h=>⟨hi,h⟩,fun h=>h.2⟩
 obtain⟨nw,hnw⟩:∃nw:Nat→Nat,(fun i=>min Q.one (mup (mup (s.kp i*s.quo Q) Q.one*Q.one) (s.v Q i)))=nw:=⟨_,rfl⟩
 have hnwi:∀i,min Q.one (mup (mup (s.kp i*s.quo Q) Q.one*Q.one) (s.v Q i))=nw i:=fun i=>by rw[←hnw]
 rw[hLi]
 have hLm:(L.map Int.ofNat).length=L.length:=xbz ..
 simp only[show(L.map Int.ofNat).length=L.length from hLm]
 refine zae (fun j=>((c,gs,lots,(Q.one:Int),lst (fun i=>((s.st1 Q i:Nat):Int)) Q.P.n,lst (fun i=>((if i∈L.take j∧0<s.v Q i then nw i else s.kp i:Nat):Int)) Q.P.n,filled,rest),lst (fun i=>((s.v Q i:Nat):Int)) Q.P.n,((s.quo Q:Nat):Int),L.map Int.ofNat,(L.length:Int),(j:Int))) L.length ?_ (fun j hj=>?_) (b:=(c,gs,lots,(Q.one:Int),lst (fun i=>((s.st1 Q i:Nat):Int)) Q.P.n,lst (fun i=>((s.kp1 Q i:Nat):Int)) Q.P.n,filled,rest)) ?_ rfl
 ·simp only[xdn,List.not_mem_nil,false_and,xch]
  rfl
 ·obtain⟨x,hx⟩:∃x,L.getD j 0=x:=⟨_,rfl⟩
  have hxm:x∈L:=by
   rw[←hx,xac,xag hj]
   exact xbm hj
  have hxn:=hLn x hxm
  have hsg:(L.map Int.ofNat).getD j 0=(x:Int):=by
   rw[xac,xbr,xag hj,←hx,xac,xag hj];rfl
  have htk:L.take (j+1)=L.take j++[x]:=by rw[zbj L 0 hj,hx]
  have hxt:x∉L.take j:=fun h=>by
   have h2:(L.take (j+1)).Nodup:=hLd.sublist (List.take_sublist _ _)
   rw[htk]at h2
   exact(xfh.1 h2).2.2 x h x (by simp) rfl
  have hkx:¬(x∈L.take j∧0<s.v Q x):=fun h=>hxt h.1
  have hvx:=hv x hxn
  have hk1:=hI.kp1 x
  have b1:s.kp x*s.quo Q≤1000000*100000000001:=Nat.mul_le_mul (by omega) hq
  have b2:mup (s.kp x*s.quo Q) Q.one≤s.quo Q:=mup_le ho1 (by rw[xbc];exact xcj _ hk1)
  have b3:mup (s.kp x*s.quo Q) Q.one*Q.one≤100000000001*1000000:=Nat.mul_le_mul (by omega) ho6
  simp only[dlt hj,d0le,hLm,xah,xad,tn,hsg,zam,dlt hxn,zbd (fun i=>((s.v Q i:Nat):Int)) hxn,zah,zbc (show j<9223372036854775807 by omega),htk]
  by_cases h0:0<s.v Q x
  ·simp only[decide_eq_true (show(0:Int)<((s.v Q x:Nat):Int) by omega),xad,zbd (fun i=>((if i∈L.take j∧0<s.v Q i then nw i else s.kp i:Nat):Int)) hxn,if_neg hkx,wmul (show s.kp x*s.quo Q≤9223372036854775807 by omega),zox ho1 (show s.kp x*s.quo Q+Q.one≤4611686018427387904 by omega),xab,wmul (show mup (s.kp x*s.quo Q) Q.one*Q.one≤9223372036854775807 by omega),zox h0 (show mup (s.kp x*s.quo Q) Q.one*Q.one+s.v Q x≤4611686018427387904 by omega)]
   have hmin:(bif decide (((mup (mup (s.kp x*s.quo Q) Q.one*Q.one) (s.v Q x):Nat):Int)<(Q.one:Int))then((mup (mup (s.kp x*s.quo Q) Q.one*Q.one) (s.v Q x):Nat):Int)else(Q.one:Int))=((nw x:Nat):Int):=by
    rw[←hnwi]
    generalize mup (mup (s.kp x*s.quo Q) Q.one*Q.one) (s.v Q x)=y
    by_cases h:y<Q.one
    ·rw[dlt h,xad];omega
    ·rw[nlt (by omega),xae];omega
   have e:lst (upd (fun i=>((if i∈L.take j∧0<s.v Q i then nw i else s.kp i:Nat):Int)) x ((nw x:Nat):Int)) Q.P.n=lst (fun i=>((if i∈L.take j++[x]∧0<s.v Q i then nw i else s.kp i:Nat):Int)) Q.P.n:=zbu fun i hi=>by
    unfold upd
    by_cases hix:i=x
    ·subst hix
     rw[if_pos rfl,if_pos ⟨by simp,h0⟩]
    ·rw[if_neg hix]
     have:(i∈L.take j++[x])↔i∈L.take j:=by simp[hix]
     simp only[this]
   rw[hmin,ziy,e]
  ·simp only[decide_eq_false (show ¬(0:Int)<((s.v Q x:Nat):Int) by omega),xae]
   have e:lst (fun i=>((if i∈L.take j∧0<s.v Q i then nw i else s.kp i:Nat):Int)) Q.P.n=lst (fun i=>((if i∈L.take j++[x]∧0<s.v Q i then nw i else s.kp i:Nat):Int)) Q.P.n:=zbu fun i hi=>by
    by_cases hix:i=x
    ·subst hix
     rw[if_neg hkx,if_neg fun h=>h0 h.2]
    ·have:(i∈L.take j++[x])↔i∈L.take j:=by simp[hix]
     simp only[this]
   rw[e]
 ·simp only[nlt (Nat.le_refl L.length),xae,xbo]
  have e:lst (fun i=>((if i∈L∧0<s.v Q i then nw i else s.kp i:Nat):Int)) Q.P.n=lst (fun i=>((s.kp1 Q i:Nat):Int)) Q.P.n:=zbu fun i hi=>by
   unfold MS.kp1
   rw[hnwi]
   by_cases h:s.st1 Q i=1
   ·have:=(hmem i hi).1 h
    simp only[h,this,xez]
   ·have:¬i∈L:=fun hm=>h ((hmem i hi).2 hm)
    simp only[h,this,false_and]
  rw[e]
end Go.Proofs.YtmipjomnjkmdbaaGreat
namespace Go.Proofs.YtmipjomnjkmdbaaGreat
open Go Go.X
theorem fit_any{m:Int}{c:CT}{gs:List Grp}{lots:List Int}(h:fitE m c gs lots=0):fitE 3 (c.1,c.2.1,3,c.2.2.2.1,c.2.2.2.2.1,0,c.2.2.2.2.2.2) gs lots=0:=by
 obtain⟨_,_,_,n1,n7,s1,s5,_,_,_,t1,t3,hp,ll,hB⟩:=zlm h
 exact zln (n:=c.2.1.length) ⟨rfl,rfl,s1,s5,fun h=>absurd h (by omega),fun h=>absurd h (by omega),fun _=>rfl,t1,t3⟩ (by omega) (by omega) n1 n7 hp ll hB
theorem gpOf_okM{m:Int}{c:CT}{gs:List Grp}{lots:List Int}(h:fitE m c gs lots=0):(gpOf c gs lots).OK∧(gpOf c gs lots).G≤1000000:=by
 have:=gpOf_ok (fit_any h)
 exact⟨this.1,this.2.1⟩
theorem lim_one{α:Type}{l:Nat}(h:l+1≤4294967296):decide ((l:Int)+((([]:List α).length+1:Nat):Int)≤LIM)=true:=zet (l:=List.replicate l ()) (d:=()) (by simpa using h) |> fun h=>by simpa using h
end Go.Proofs.YtmipjomnjkmdbaaGreat
namespace Go.Proofs.YtmipjomnjkmdbaaGreat
open Go Go.X
def KM(Q:MP)(c:CT)(gs:List Grp)(st kp:Nat→Nat)(fl:Nat)(rs:List Rd)(ev sur:Int):MT:=
 (c,gs,Q.P.lots,(Q.one:Int),lst (fun i=>(st i:Int)) Q.P.n,lst (fun i=>(kp i:Int)) Q.P.n,(fl:Int),(rs.map Rd.votes).map (List.map rr),ev,sur,2,(Q.P.seats:Int),c.2.2.2.2.2.1,(Q.P.n:Int),rs.map rdT,rs.flatMap Rd.el)
variable {Q:MP} {s:MS}
structure MQ(Q:MP)(c:CT)(gs:List Grp)(d:Nat):Prop where
 ok:Q.OK
 P:∃lots,gpOf c gs lots=Q.P
 n:c.2.1.length=Q.P.n
 pile:∃N,PileOK (Q.P.n:Int) gs N
 seats:c.2.2.2.1=(Q.P.seats:Int)
 dig:c.2.2.2.2.2.1=(d:Int)
 d1:1≤d
 d6:d≤6
 ties:c.2.2.2.2.2.2.1=Q.P.ties
 one:Q.one=10^d
 om:Q.om=10^(d/2)
theorem MQ.d58{c:CT}{gs:List Grp}{d:Nat}(h:MQ Q c gs d)(hI:MI Q s):d58 (d:Int) (lst (fun i=>(s.kp i:Int)) Q.P.n) gs=some (lst (fun i=>((s.v Q i:Nat):Int)) Q.P.n,((s.rest Q:Nat):Int),true):=by
 obtain⟨lots,hl⟩:=h.P
 obtain⟨N,hp⟩:=h.pile
 have:=d58_ok h.ok.P.n1 h.ok.P.n7 h.d1 h.d6 hp c lots (kp:=s.kp) (by rw[←h.one];exact hI.kp1)
 rw[hl,←h.one]at this
 exact this
theorem rdM(s:MS)(el ex ti:List Int):(lst (fun i=>rr (frac (s.v Q i) Q.one)) Q.P.n,lst (fun i=>rr (frac (s.kp i) Q.one)) Q.P.n,rr (frac (s.quo Q) Q.one),rr (frac (s.rest Q) Q.one),rr (frac (s.sur Q) Q.one),el,ex,ti)=rdT {s.rd0 Q with el:=el,ex:=ex,ti:=ti}:=by
 unfold rdT MS.rd0
 simp only[lst_map]
theorem sur_part(p:Nat→Bool)(f:Nat→Nat)(n:Nat){j:Nat}(hj:j<(selN p n).length):(((selN p n).take (j+1)).map f).sum=(((selN p n).take j).map f).sum+f ((selN p n).getD j 0):=by
 rw[zbj (selN p n) 0 hj,xdq,List.sum_append];simp
theorem flat_lim{rs:List Rd}(h:∀r∈rs,RndOK Q.P.n r.votes∧r.el.length≤7):(rs.flatMap Rd.el).length≤7*rs.length:=flat_len fun r hr=>(h r hr).2
theorem letJ_of{α β:Type}{f:α→Option β}{g:(α→Option β)→Option β}{X:Option β→Prop}(Jp:(α→Option β)→Prop)(hf:Jp f)(h:∀J,Jp J→X (g J)):X (letJ f g):=by
 rw[zah];exact h f hf
def RndM(Q:MP)(c:CT)(gs:List Grp)(s:MS)(rs:List Rd)(z:Option (Bool×MT)):Prop:=
  (s.fin Q=true∧∃st' kp' fl' ev' su',z=some (false,KM Q c gs st' kp' fl' (rs++[s.done Q]) ev' su')) ∨
  (s.fin Q=false∧s.cut Q=true∧z=some (true,KM Q c gs (s.excl Q (rs.map Rd.votes)).st (s.excl Q (rs.map Rd.votes)).kp ((s.excl Q (rs.map Rd.votes)).fl Q) (rs++[s.exR Q (rs.map Rd.votes)]) (((rs++[s.exR Q (rs.map Rd.votes)]).length:Int)-((s.excl Q (rs.map Rd.votes)).since:Int)) ((s.sur Q:Nat):Int))) ∨
  (s.fin Q=false∧s.cut Q=false∧z=some (true,KM Q c gs (s.redu Q).st (s.redu Q).kp ((s.redu Q).fl Q) (rs++[s.rd0 Q]) (((rs++[s.rd0 Q]).length:Int)-((s.redu Q).since:Int)) ((s.sur Q:Nat):Int)))
set_option maxHeartbeats 4000000 in
theorem d113_eq{c:CT}{gs:List Grp}{d:Nat}(hQ:MQ Q c gs d){rs:List Rd}(hR:MRun Q s rs)(hsi:s.since≤rs.length){su:Nat}(hb:Bef rs s.bef su) :
  RndM Q c gs s rs (d113 (KM Q c gs s.st s.kp (s.fl Q) rs ((rs.length:Int)-(s.since:Int)) (su:Int))):=by
 have hI:=hR.inv
 have hok:=hQ.ok
 have hn7:=hok.P.n7
 have hs5:=hok.P.seats5
 have ho1:=hok.one1
 have ho6:=hok.one6
 have htl:=MS.tot_le hok
 have hsum:=MS.sum_le hok hI
 have hv:∀i,i<Q.P.n→s.v Q i≤100000000000:=fun i hi=>by
  have h1:=MS.v_le hok hI hi
  omega
 have hq:s.quo Q≤100000000001:=by
  have:=MS.quo_le hok hI
  omega
 have hsurS:s.sur Q≤sumN (s.v Q) Q.P.n:=ziq fun i _=>by split<;>omega
 have hrl:=hR.len
 have hfill:=hI.fill
 have hf1:=f1_le hok hI
 have hf1e:=f1_eq (Q:=Q) (s:=s)
 have hE:∀r∈rs.map Rd.votes,RndOK Q.P.n r:=fun r hr=>by
  obtain⟨r',h1,rfl⟩:=xdz.1 hr
  exact(hR.rnd r' h1).1
 have hfl:=flat_lim hR.rnd
 obtain⟨L,hL1,hL2⟩:=d160_ex hok hI (k:=KM Q c gs s.st s.kp (s.fl Q) rs ((rs.length:Int)-(s.since:Int)) (su:Int)) rfl rfl hQ.seats rfl
 have hLlen:L.length=cntN (s.el Q) Q.P.n:=by
  have:=hL2.length_eq
  rw[xbz,zbp]at this
  exact this
 have hLn:∀i∈L,i<Q.P.n:=fun i hi=>by
  obtain⟨k,e,hk,_⟩:=zbe.1 (hL2.mem_iff.1 (xev hi))
  have:Int.ofNat i=(k:Int):=e
  have:=xeb.1 this
  omega
 have hLl:L.length≤7:=by rw[hLlen];have:=zdc (s.el Q) Q.P.n;omega
 have hst1:lst (fun i=>((zeu s.st L 1 i:Nat):Int)) Q.P.n=lst (fun i=>((s.st1 Q i:Nat):Int)) Q.P.n:=zbu fun i hi=>by
  unfold zeu MS.st1
  have:i∈L↔s.el Q i=true:=by
   constructor
   ·intro h
    obtain⟨k,e,hk,h2⟩:=zbe.1 (hL2.mem_iff.1 (xev h))
    have e:Int.ofNat i=(k:Int):=e
    rw[xeb.1 e];exact h2
   ·intro h
    obtain⟨k,hk,e⟩:=xdz.1 (hL2.mem_iff.2 (zbe.2 ⟨i,rfl,hi,h⟩))
    have e:Int.ofNat k=(i:Int):=e
    rw[←xeb.1 e];exact hk
  by_cases h:i∈L
  ·rw[if_pos h,if_pos (this.1 h)]
  ·rw[if_neg h,if_neg fun h'=>h (this.2 h')]
 have hsel:zdh ([]++L.map Int.ofNat)=selI (s.el Q) Q.P.n:=sortI_of hL2 ((zed _ _).imp fun h=>Int.le_of_lt h)
 have hfl1:s.fl Q+L.length=s.f1 Q:=by omega
 have h159:=fun(v kk:List Rt) (qu ex su':Rt)=>d159_eq (c:=c) (gs:=gs) (lots:=Q.P.lots) (one:=(Q.one:Int)) (st:=s.st) (n:=Q.P.n) (kp:=lst (fun i=>(s.kp i:Int)) Q.P.n) (filled:=s.fl Q) (rest:=((rs.map Rd.votes).map (List.map rr),(rs.length:Int)-(s.since:Int),(su:Int),2,(Q.P.seats:Int),c.2.2.2.2.2.1,(Q.P.n:Int),rs.map rdT,rs.flatMap Rd.el)) (v:=v) (kk:=kk) (qu:=qu) (ex:=ex) (su:=su') (el:=[]) (ex2:=[]) (ti:=[]) (L:=L) (by omega) hLn hLl (by omega) (by simp)
 simp only[hst1,hsel,hfl1]at h159
 have hK:KM Q c gs s.st s.kp (s.fl Q) rs ((rs.length:Int)-(s.since:Int)) (su:Int)=(c,gs,Q.P.lots,(Q.one:Int),lst (fun i=>(s.st i:Int)) Q.P.n,lst (fun i=>(s.kp i:Int)) Q.P.n,((s.fl Q:Nat):Int),(rs.map Rd.votes).map (List.map rr),(rs.length:Int)-(s.since:Int),(su:Int),2,(Q.P.seats:Int),c.2.2.2.2.2.1,(Q.P.n:Int),rs.map rdT,rs.flatMap Rd.el):=rfl
 have h58:=hQ.d58 hI
 have h157v:=d157_eq (k:=KM Q c gs s.st s.kp (s.fl Q) rs ((rs.length:Int)-(s.since:Int)) (su:Int)) (v:=s.v Q) (n:=Q.P.n) (one:=Q.one) rfl (by omega) ho1 ho6 fun i hi=>by have:=hv i hi;omega
 have h157k:=d157_eq (k:=KM Q c gs s.st s.kp (s.fl Q) rs ((rs.length:Int)-(s.since:Int)) (su:Int)) (v:=s.kp) (n:=Q.P.n) (one:=Q.one) rfl (by omega) ho1 ho6 fun i hi=>by have:=hI.kp1 i;omega
 have hw1:w (c.2.2.2.1+1)=((Q.P.seats+1:Nat):Int):=by rw[hQ.seats,zbc (by omega)]
 have hdiv:w (w (Int.tdiv ((sumN (s.v Q) Q.P.n:Nat):Int) ((Q.P.seats+1:Nat):Int))+1)=((s.quo Q:Nat):Int):=by
  have h1:Int.tdiv ((sumN (s.v Q) Q.P.n:Nat):Int) ((Q.P.seats+1:Nat):Int)=((sumN (s.v Q) Q.P.n/(Q.P.seats+1):Nat):Int):=by
   rw[xdr (by omega)];rfl
  have h2:=xcy (sumN (s.v Q) Q.P.n) (Q.P.seats+1)
  have h3:s.quo Q=sumN (s.v Q) Q.P.n/(Q.P.seats+1)+1:=rfl
  rw[h1,h3]
  generalize sumN (s.v Q) Q.P.n/(Q.P.seats+1)=z at h2 ⊢
  rw[zaz (n:=(z:Int)) (by omega) (by omega),zbc (by omega)]
 unfold d113
 generalize hKK:KM Q c gs s.st s.kp (s.fl Q) rs ((rs.length:Int)-(s.since:Int)) (su:Int)=K at *
 have k1:K.1=c:=by rw[hK]
 have k2:K.2.1=gs:=by rw[hK]
 have k4:K.2.2.2.1=(Q.one:Int):=by rw[hK]
 have k6:K.2.2.2.2.2.1=lst (fun i=>(s.kp i:Int)) Q.P.n:=by rw[hK]
 simp only[k1,k2,k6,hQ.dig,h58,xab,zam]
 have goalS:∀(X:Option (Bool×MT)→Prop) (kf:MT×(List Int)×Int×Int→Option (Bool×MT)),X (kf (K,lst (fun i=>((s.v Q i:Nat):Int)) Q.P.n,((s.rest Q:Nat):Int),((sumN (s.v Q) Q.P.n:Nat):Int)))→X ((zaa (β:=(MT×(List Int)×Int×Int)) (fun((t0,t3,t4,t6,t34,t35,t36):MT×(List Int)×Int×Int×(List Int)×Int×Int)=>
   bif (decide (t36<t35))then
    bif (decide (0≤t36)&&decide (t36<(t34.length:Int)))then
     some (Sum.inl (t0,t3,t4,(w (t6+(List.getD t34 (Int.toNat t36) 0))),t34,t35,(w (t36+1))))
    else none
   else
    some (Sum.inr (t0,t3,t4,t6))) (K,lst (fun i=>((s.v Q i:Nat):Int)) Q.P.n,((s.rest Q:Nat):Int),0,lst (fun i=>((s.v Q i:Nat):Int)) Q.P.n,(Q.P.n:Int),0)).bind kf):=fun X kf hX=>by
  refine while_prp (fun i=>(K,lst (fun i=>((s.v Q i:Nat):Int)) Q.P.n,((s.rest Q:Nat):Int),((sumN (s.v Q) i:Nat):Int),lst (fun i=>((s.v Q i:Nat):Int)) Q.P.n,(Q.P.n:Int),(i:Int))) Q.P.n rfl (fun i hi=>?_) ?_ hX
  ·have hm:=zho (s.v Q) (show i+1≤Q.P.n by omega)
   rw[sumN]at hm
   simp only[dlt hi,d0le,zam,xah,xad,tn,zbd (fun i=>((s.v Q i:Nat):Int)) hi,wadd (show sumN (s.v Q) i+s.v Q i≤9223372036854775807 by omega),zbc (show i<9223372036854775807 by omega)]
   rfl
  ·simp only[nlt (Nat.le_refl Q.P.n),xae]
 refine goalS (RndM Q c gs s rs) _ ?_
 simp only[k1,k4,k6,hw1,decide_eq_false (show ¬((Q.P.seats+1:Nat):Int)=0 by omega),xal,xad,hdiv,h157v,h157k,xab,zov (show s.quo Q≤9223372036854775807 by omega) (show Q.one≤9223372036854775807 by omega) ho1,zov (show s.rest Q≤9223372036854775807 by omega) (show Q.one≤9223372036854775807 by omega) ho1,hL1]
 rw[hK]
 simp only[h159,xab,show d161 (c,gs,Q.P.lots,(Q.one:Int),lst (fun i=>((s.st1 Q i:Nat):Int)) Q.P.n,lst (fun i=>(s.kp i:Int)) Q.P.n,((s.f1 Q:Nat):Int),(rs.map Rd.votes).map (List.map rr),(rs.length:Int)-(s.since:Int),(su:Int),2,(Q.P.seats:Int),c.2.2.2.2.2.1,(Q.P.n:Int),rs.map rdT,rs.flatMap Rd.el) 1=some (selI (fun i=>decide (s.st1 Q i=1)) Q.P.n)from zjf (st:=s.st1 Q) (n:=Q.P.n) rfl (by omega) 1,show d161 (c,gs,Q.P.lots,(Q.one:Int),lst (fun i=>((s.st1 Q i:Nat):Int)) Q.P.n,lst (fun i=>(s.kp i:Int)) Q.P.n,((s.f1 Q:Nat):Int),(rs.map Rd.votes).map (List.map rr),(rs.length:Int)-(s.since:Int),(su:Int),2,(Q.P.seats:Int),c.2.2.2.2.2.1,(Q.P.n:Int),rs.map rdT,rs.flatMap Rd.el) 0=some (selI (fun i=>decide (s.st1 Q i=0)) Q.P.n)from zjf (st:=s.st1 Q) (n:=Q.P.n) rfl (by omega) 0]
 have hpl:(selI (fun i=>decide (s.st1 Q i=1)) Q.P.n).length=(selN (fun i=>decide (s.st1 Q i=1)) Q.P.n).length:=xbz ..
 have hpl7:(selN (fun i=>decide (s.st1 Q i=1)) Q.P.n).length≤7:=by rw[zfk];have:=zdc (fun i=>decide (s.st1 Q i=1)) Q.P.n;omega
 have hss:=sum_sel (fun i=>decide (s.st1 Q i=1)) (fun i=>s.v Q i-s.quo Q) Q.P.n
 have hss2:sumN (fun i=>if decide (s.st1 Q i=1)=true then s.v Q i-s.quo Q else 0) Q.P.n=s.sur Q:=zbs fun i _=>by
  by_cases h:s.st1 Q i=1<;>simp[h]
 rw[hss2]at hss
 refine while_prp (X:=RndM Q c gs s rs) (fun j=>((c,gs,Q.P.lots,(Q.one:Int),lst (fun i=>((s.st1 Q i:Nat):Int)) Q.P.n,lst (fun i=>(s.kp i:Int)) Q.P.n,((s.f1 Q:Nat):Int),(rs.map Rd.votes).map (List.map rr),(rs.length:Int)-(s.since:Int),(su:Int),2,(Q.P.seats:Int),c.2.2.2.2.2.1,(Q.P.n:Int),rs.map rdT,rs.flatMap Rd.el),lst (fun i=>((s.v Q i:Nat):Int)) Q.P.n,((s.quo Q:Nat):Int),(lst (fun i=>rr (frac (s.v Q i) Q.one)) Q.P.n,lst (fun i=>rr (frac (s.kp i) Q.one)) Q.P.n,rr (frac (s.quo Q) Q.one),rr (frac (s.rest Q) Q.one),(false,[],[]),selI (s.el Q) Q.P.n,[],[]),(((((selN (fun i=>decide (s.st1 Q i=1)) Q.P.n).take j).map fun i=>s.v Q i-s.quo Q).sum:Nat):Int),selI (fun i=>decide (s.st1 Q i=1)) Q.P.n,((selI (fun i=>decide (s.st1 Q i=1)) Q.P.n).length:Int),(j:Int))) (selN (fun i=>decide (s.st1 Q i=1)) Q.P.n).length (by rw[xdn];rfl) (fun j hj=>?_)
  (b:=((c,gs,Q.P.lots,(Q.one:Int),lst (fun i=>((s.st1 Q i:Nat):Int)) Q.P.n,lst (fun i=>(s.kp i:Int)) Q.P.n,((s.f1 Q:Nat):Int),(rs.map Rd.votes).map (List.map rr),(rs.length:Int)-(s.since:Int),(su:Int),2,(Q.P.seats:Int),c.2.2.2.2.2.1,(Q.P.n:Int),rs.map rdT,rs.flatMap Rd.el),lst (fun i=>((s.v Q i:Nat):Int)) Q.P.n,((s.quo Q:Nat):Int),(lst (fun i=>rr (frac (s.v Q i) Q.one)) Q.P.n,lst (fun i=>rr (frac (s.kp i) Q.one)) Q.P.n,rr (frac (s.quo Q) Q.one),rr (frac (s.rest Q) Q.one),(false,[],[]),selI (s.el Q) Q.P.n,[],[]),((s.sur Q:Nat):Int))) ?_ ?_
 ·have hg:=selN_getD_lt hj
  have hsg:=selI_getD hj
  have hvx:=hv _ hg.1
  have hpart:=sum_take_le ((selN (fun i=>decide (s.st1 Q i=1)) Q.P.n).map fun i=>s.v Q i-s.quo Q) (j+1)
  rw[←List.map_take,hss,sur_part _ _ _ hj]at hpart
  have hmax:(bif decide (0<w (((s.v Q ((selN (fun i=>decide (s.st1 Q i=1)) Q.P.n).getD j 0):Nat):Int)-((s.quo Q:Nat):Int)))then w (((s.v Q ((selN (fun i=>decide (s.st1 Q i=1)) Q.P.n).getD j 0):Nat):Int)-((s.quo Q:Nat):Int))else 0)=((s.v Q ((selN (fun i=>decide (s.st1 Q i=1)) Q.P.n).getD j 0)-s.quo Q:Nat):Int):=by
   generalize s.v Q ((selN (fun i=>decide (s.st1 Q i=1)) Q.P.n).getD j 0)=y at hvx ⊢
   rw[zaz (by omega) (by omega)]
   by_cases h:(0:Int)<(y:Int)-((s.quo Q:Nat):Int)
   ·rw[decide_eq_true h,xad];omega
   ·rw[decide_eq_false h,xae];omega
  simp only[hpl,dlt hj,d0le,xah,xad,tn,hsg,zam,dlt hg.1,zbd (fun i=>((s.v Q i:Nat):Int)) hg.1,hmax,wadd (show(((selN (fun i=>decide (s.st1 Q i=1)) Q.P.n).take j).map fun i=>s.v Q i-s.quo Q).sum+(s.v Q ((selN (fun i=>decide (s.st1 Q i=1)) Q.P.n).getD j 0)-s.quo Q)≤9223372036854775807 by omega),zbc (show j<9223372036854775807 by omega),sur_part _ _ _ hj]
 ·simp only[hpl,nlt (Nat.le_refl _),xae,xbo,hss]
 have hd158:=zov (show s.sur Q≤9223372036854775807 by omega) (show Q.one≤9223372036854775807 by omega) ho1
 have hrounds:w (((rs.map rdT).length:Int)+1)=((rs.length+1:Nat):Int):=by rw[xbz,zbc (by omega)]
 simp only[hd158,xab]
 refine letJ_of (X:=RndM Q c gs s rs) (fun J=>∀(st kp:Nat→Nat) (fl:Nat) (ev su':Int) (el ex ti:List Int) (last:Bool),el.length≤7→ex.length≤1→J ((c,gs,Q.P.lots,(Q.one:Int),lst (fun i=>((st i:Nat):Int)) Q.P.n,lst (fun i=>(kp i:Int)) Q.P.n,((fl:Nat):Int),(rs.map Rd.votes).map (List.map rr),ev,su',2,(Q.P.seats:Int),c.2.2.2.2.2.1,(Q.P.n:Int),rs.map rdT,rs.flatMap Rd.el),(lst (fun i=>rr (frac (s.v Q i) Q.one)) Q.P.n,lst (fun i=>rr (frac (s.kp i) Q.one)) Q.P.n,rr (frac (s.quo Q) Q.one),rr (frac (s.rest Q) Q.one),rr (frac (s.sur Q) Q.one),el,ex,ti),((s.sur Q:Nat):Int),((rs.length+1:Nat):Int),last)=some (!last,KM Q c gs st kp fl (rs++[{s.rd0 Q with el:=el,ex:=ex,ti:=ti}]) (if el=[]∧ex=[]then ev else((rs.length+1:Nat):Int)) ((s.sur Q:Nat):Int))) ?_ ?_
 ·intro st kp fl ev su' el ex ti last hel hex
  have l1:=lim_one (α:=List Rt) (l:=rs.length) (by omega)
  have l2:=lim_one (α:=RD) (l:=rs.length) (by omega)
  have l3:decide (((rs.flatMap Rd.el).length:Int)+(el.length:Int)≤LIM)=true:=lim_two (by omega)
  have hKM:KM Q c gs st kp fl (rs++[{s.rd0 Q with el:=el,ex:=ex,ti:=ti}]) (if el=[]∧ex=[]then ev else((rs.length+1:Nat):Int)) ((s.sur Q:Nat):Int)=(c,gs,Q.P.lots,(Q.one:Int),lst (fun i=>((st i:Nat):Int)) Q.P.n,lst (fun i=>(kp i:Int)) Q.P.n,((fl:Nat):Int),(rs.map Rd.votes).map (List.map rr)++[lst (fun i=>rr (frac (s.v Q i) Q.one)) Q.P.n],(if el=[]∧ex=[]then ev else((rs.length+1:Nat):Int)),((s.sur Q:Nat):Int),2,(Q.P.seats:Int),c.2.2.2.2.2.1,(Q.P.n:Int),rs.map rdT++[(lst (fun i=>rr (frac (s.v Q i) Q.one)) Q.P.n,lst (fun i=>rr (frac (s.kp i) Q.one)) Q.P.n,rr (frac (s.quo Q) Q.one),rr (frac (s.rest Q) Q.one),rr (frac (s.sur Q) Q.one),el,ex,ti)],rs.flatMap Rd.el++el):=by
   rw[rdM]
   unfold KM MS.rd0
   simp only[xdq,List.flatMap_append,xdl,List.map_nil,List.flatMap_cons,List.flatMap_nil,xcm,lst_map]
  rw[hKM]
  simp only[zah,xbz,xbx,l1,l2,l3,xad,wadd (show el.length+ex.length≤9223372036854775807 by omega)]
  by_cases h0:el=[]∧ex=[]
  ·rw[if_pos h0,h0.1,h0.2];rfl
  ·rw[if_neg h0,decide_eq_true,xad]
   have:0<el.length+ex.length:=by
    refine xeh fun h=>h0 ⟨xea.1 (by omega),xea.1 (by omega)⟩
   omega
 intro J hJ
 have h161:d161 (c,gs,Q.P.lots,(Q.one:Int),lst (fun i=>((s.st1 Q i:Nat):Int)) Q.P.n,lst (fun i=>(s.kp i:Int)) Q.P.n,((s.f1 Q:Nat):Int),(rs.map Rd.votes).map (List.map rr),(rs.length:Int)-(s.since:Int),(su:Int),2,(Q.P.seats:Int),c.2.2.2.2.2.1,(Q.P.n:Int),rs.map rdT,rs.flatMap Rd.el) 0=some (selI (fun i=>decide (s.st1 Q i=0)) Q.P.n):=zjf (st:=s.st1 Q) (n:=Q.P.n) rfl (by omega) 0
 rw[hQ.seats]
 simp only[zos,h161,xab]
 have hse7:=elM_len (s:=s) hok
 by_cases c1:s.f1 Q=Q.P.seats
 ·have hf:s.fin Q=true:=by unfold MS.fin;rw[decide_eq_true c1];rfl
  have hd:{s.rd0 Q with el:=selI (s.el Q) Q.P.n,ex:=[],ti:=[]}=s.done Q:=by
   unfold MS.done
   rw[if_pos c1];rfl
  have:=hJ (s.st1 Q) s.kp (s.f1 Q) ((rs.length:Int)-(s.since:Int)) (su:Int) (selI (s.el Q) Q.P.n) [] [] true hse7 (by simp)
  rw[hd]at this
  refine .inl ⟨hf,s.st1 Q,s.kp,s.f1 Q,_,_,Eq.trans ?_ this⟩
  rw[decide_eq_true c1,xad,hrounds]
 rw[decide_eq_false c1,xae]
 have hh7:=zdc (fun i=>decide (s.st1 Q i=0)) Q.P.n
 have hh1:(selI (fun i=>decide (s.st1 Q i=0)) Q.P.n).length=s.h1 Q:=zbp _ _
 have hh1':s.h1 Q≤7:=by
  have:s.h1 Q=cntN (fun i=>decide (s.st1 Q i=0)) Q.P.n:=rfl
  omega
 simp only[hh1,wadd (show s.f1 Q+s.h1 Q≤9223372036854775807 by omega)]
 by_cases c2:s.f1 Q+s.h1 Q≤Q.P.seats
 ·have hf:s.fin Q=true:=by unfold MS.fin;rw[decide_eq_true c2,Bool.or_true]
  rw[decide_eq_true (show((s.f1 Q+s.h1 Q:Nat):Int)≤(Q.P.seats:Int) by omega),xad]
  have h159':=d159_eq (c:=c) (gs:=gs) (lots:=Q.P.lots) (one:=(Q.one:Int)) (st:=s.st1 Q) (n:=Q.P.n) (kp:=lst (fun i=>(s.kp i:Int)) Q.P.n) (filled:=s.f1 Q) (rest:=((rs.map Rd.votes).map (List.map rr),(rs.length:Int)-(s.since:Int),(su:Int),2,(Q.P.seats:Int),c.2.2.2.2.2.1,(Q.P.n:Int),rs.map rdT,rs.flatMap Rd.el)) (v:=lst (fun i=>rr (frac (s.v Q i) Q.one)) Q.P.n) (kk:=lst (fun i=>rr (frac (s.kp i) Q.one)) Q.P.n) (qu:=rr (frac (s.quo Q) Q.one)) (ex:=rr (frac (s.rest Q) Q.one)) (su:=rr (frac (s.sur Q) Q.one)) (el:=selI (s.el Q) Q.P.n) (ex2:=[]) (ti:=[]) (L:=selN (fun i=>decide (s.st1 Q i=0)) Q.P.n) (by omega) (fun i hi=>(zen.1 hi).1) (by rw[zfk];omega) (by omega) (by omega)
  have hsel2:zdh (selI (s.el Q) Q.P.n++(selN (fun i=>decide (s.st1 Q i=0)) Q.P.n).map Int.ofNat)=selI (fun i=>s.el Q i||decide (s.st1 Q i=0)) Q.P.n:=sortI_two (q:=fun i=>decide (s.st1 Q i=0)) (fun i h=>by
   rcases zda (Q:=Q) (s:=s) i with⟨h0,h1,h2,_⟩|⟨h0,h2⟩
   ·rw[h2];rfl
   ·rw[h]at h0;cases h0) Q.P.n
  rw[hsel2]at h159'
  have hsl:(selI (fun i=>s.el Q i||decide (s.st1 Q i=0)) Q.P.n).length≤7:=by
   rw[zbp];have:=zdc (fun i=>s.el Q i||decide (s.st1 Q i=0)) Q.P.n;omega
  have hd:{s.rd0 Q with el:=selI (fun i=>s.el Q i||decide (s.st1 Q i=0)) Q.P.n,ex:=[],ti:=[]}=s.done Q:=by
   unfold MS.done
   rw[if_neg c1];rfl
  have:=hJ (zeu (s.st1 Q) (selN (fun i=>decide (s.st1 Q i=0)) Q.P.n) 1) s.kp (s.f1 Q+(selN (fun i=>decide (s.st1 Q i=0)) Q.P.n).length) ((rs.length:Int)-(s.since:Int)) (su:Int) (selI (fun i=>s.el Q i||decide (s.st1 Q i=0)) Q.P.n) [] [] true hsl (by simp)
  rw[hd]at this
  refine .inl ⟨hf,_,_,_,_,_,Eq.trans ?_ this⟩
  have hsI:selI (fun i=>decide (s.st1 Q i=0)) Q.P.n=(selN (fun i=>decide (s.st1 Q i=0)) Q.P.n).map Int.ofNat:=rfl
  rw[hsI,h159',xab]
  simp only[hrounds]
 have hf:s.fin Q=false:=by unfold MS.fin;rw[decide_eq_false c1,decide_eq_false c2];rfl
 rw[decide_eq_false (show ¬((s.f1 Q+s.h1 Q:Nat):Int)≤(Q.P.seats:Int) by omega),xae]
 have hlen1:((rs++[s.exR Q (rs.map Rd.votes)]).length:Int)=((rs.length+1:Nat):Int):=by simp
 have hlen2:((rs++[s.rd0 Q]).length:Int)=((rs.length+1:Nat):Int):=by simp
 have hredu:s.cut Q=false→RndM Q c gs s rs (J ((c,gs,Q.P.lots,(Q.one:Int),lst (fun i=>((s.st1 Q i:Nat):Int)) Q.P.n,lst (fun i=>((s.kp1 Q i:Nat):Int)) Q.P.n,((s.f1 Q:Nat):Int),(rs.map Rd.votes).map (List.map rr),(rs.length:Int)-(s.since:Int),(su:Int),2,(Q.P.seats:Int),c.2.2.2.2.2.1,(Q.P.n:Int),rs.map rdT,rs.flatMap Rd.el),(lst (fun i=>rr (frac (s.v Q i) Q.one)) Q.P.n,lst (fun i=>rr (frac (s.kp i) Q.one)) Q.P.n,rr (frac (s.quo Q) Q.one),rr (frac (s.rest Q) Q.one),rr (frac (s.sur Q) Q.one),selI (s.el Q) Q.P.n,[],[]),((s.sur Q:Nat):Int),((rs.length+1:Nat):Int),false)):=fun hc=>by
  have:=hJ (s.st1 Q) (s.kp1 Q) (s.f1 Q) ((rs.length:Int)-(s.since:Int)) (su:Int) (selI (s.el Q) Q.P.n) [] [] false hse7 (by simp)
  refine .inr (.inr ⟨hf,hc,?_⟩)
  rw[this,hlen2]
  show some (true,KM Q c gs (s.st1 Q) (s.kp1 Q) (s.f1 Q) (rs++[s.rd0 Q]) _ _)=some (true,KM Q c gs (s.st1 Q) (s.kp1 Q) (s.f1 Q) (rs++[s.rd0 Q]) (((rs.length+1:Nat):Int)-((if s.some1 Q then 0 else s.since+1:Nat):Int)) _)
  congr 3
  cases h1:s.some1 Q
  ·have hnil:selI (s.el Q) Q.P.n=[]:=by
    rw[←xea,zbp]
    refine xgm fun h=>?_
    unfold MS.some1 at h1
    exact absurd h (xdg h1)
   rw[if_pos ⟨hnil,rfl⟩]
   simp only[xba,xch]
   omega
  ·have hnn:¬(selI (s.el Q) Q.P.n=[]∧([]:List Int)=[]):=fun h=>by
    have:=xbe List.length h.1
    rw[zbp]at this
    unfold MS.some1 at h1
    have:=of_decide_eq_true h1
    simp at *
    omega
   rw[if_neg hnn]
   simp
 have h164:=d164_eq (Q:=Q) (s:=s) hok hI (c:=c) (gs:=gs) (lots:=Q.P.lots) (filled:=((s.f1 Q:Nat):Int)) (rest:=((rs.map Rd.votes).map (List.map rr),(rs.length:Int)-(s.since:Int),(su:Int),2,(Q.P.seats:Int),c.2.2.2.2.2.1,(Q.P.n:Int),rs.map rdT,rs.flatMap Rd.el))
 simp only[hrounds,zah]
 cases h1:s.some1 Q
 ·have hnil:selI (s.el Q) Q.P.n=[]:=by
   rw[←xea,zbp]
   refine xgm fun h=>?_
   unfold MS.some1 at h1
   exact absurd h (xdg h1)
  have hcut:s.cut Q=s.stall Q:=by unfold MS.cut;rw[h1];rfl
  have hsteq:lst (fun i=>((s.st1 Q i:Nat):Int)) Q.P.n=lst (fun i=>(s.st i:Int)) Q.P.n:=zbu fun i hi=>by rw[(el_out h1 hi).2]
  have hf1fl:s.f1 Q=s.fl Q:=by
   have:cntN (s.el Q) Q.P.n=0:=by rw[←zbp,hnil];rfl
   omega
  have h162:=d162_eq (Q:=Q) (s:=s) (k:=(c,gs,Q.P.lots,(Q.one:Int),lst (fun i=>((s.st1 Q i:Nat):Int)) Q.P.n,lst (fun i=>(s.kp i:Int)) Q.P.n,((s.f1 Q:Nat):Int),(rs.map Rd.votes).map (List.map rr),(rs.length:Int)-(s.since:Int),(su:Int),2,(Q.P.seats:Int),c.2.2.2.2.2.1,(Q.P.n:Int),rs.map rdT,rs.flatMap Rd.el)) (rs:=rs) hQ.d1 hQ.d6 hQ.dig rfl (by omega) hsi rfl rfl hb hQ.om
  have hz:decide (((selI (s.el Q) Q.P.n).length:Int)=0)=true:=by rw[hnil];rfl
  simp only[hz,xad,h162,xab]
  cases hs:s.stall Q
  ·rw[xae]
   simp only[h164,xab]
   exact hredu (hcut.trans hs)
  ·rw[xad]
   obtain⟨x,x1,x2,h163⟩:=d163_eq (Q:=Q) (s:=s) hok hI hQ.ties (gs:=gs) (one:=(Q.one:Int)) (filled:=((s.f1 Q:Nat):Int)) (E:=rs.map Rd.votes) (rest:=((rs.length:Int)-(s.since:Int),(su:Int),2,(Q.P.seats:Int),c.2.2.2.2.2.1,(Q.P.n:Int),rs.map rdT,rs.flatMap Rd.el)) hE (by rw[xbz];omega) (lst (fun i=>rr (frac (s.v Q i) Q.one)) Q.P.n) (lst (fun i=>rr (frac (s.kp i) Q.one)) Q.P.n) (rr (frac (s.quo Q) Q.one)) (rr (frac (s.rest Q) Q.one)) (rr (frac (s.sur Q) Q.one)) (selI (s.el Q) Q.P.n) [] []
   rw[hsteq,h163,xab]
   have:=hJ (upd s.st x 2) (upd s.kp x 0) (s.f1 Q) ((rs.length:Int)-(s.since:Int)) (su:Int) (selI (s.el Q) Q.P.n) [(x:Int)] (if(s.tied Q).length=1 then []else s.tied Q) false hse7 (by simp)
   refine .inr (.inl ⟨hf,hcut.trans hs,?_⟩)
   rw[hlen1]
   have hex:(s.excl Q (rs.map Rd.votes)).fl Q=s.f1 Q:=by
    rw[hf1fl]
    obtain⟨x',y1,y2,y3⟩:=zoa hI (rs.map Rd.votes)
    unfold MS.excl
    rw[y1,xan]
    exact fl_excl y2 y3
   have hex2:(s.excl Q (rs.map Rd.votes)).st=upd s.st x 2:=by
    unfold MS.excl
    rw[x2];rfl
   have hex3:(s.excl Q (rs.map Rd.votes)).kp=upd s.kp x 0:=by
    unfold MS.excl
    rw[x2];rfl
   have hexr:{s.rd0 Q with el:=selI (s.el Q) Q.P.n,ex:=[(x:Int)],ti:=if(s.tied Q).length=1 then []else s.tied Q}=s.exR Q (rs.map Rd.votes):=by
    unfold MS.exR
    rw[x2];rfl
   rw[hex,hex2,hex3]
   rw[hexr,if_neg (show ¬(selI (s.el Q) Q.P.n=[]∧[(x:Int)]=[]) by simp)]at this
   refine this.trans ?_
   show some (true,KM Q c gs (upd s.st x 2) (upd s.kp x 0) (s.f1 Q) (rs++[s.exR Q (rs.map Rd.votes)]) ((rs.length+1:Nat):Int) _)=some (true,KM Q c gs (upd s.st x 2) (upd s.kp x 0) (s.f1 Q) (rs++[s.exR Q (rs.map Rd.votes)]) (((rs.length+1:Nat):Int)-((0:Nat):Int)) _)
   rw[show((rs.length+1:Nat):Int)-((0:Nat):Int)=((rs.length+1:Nat):Int) by omega]
 ·have hz:decide (((selI (s.el Q) Q.P.n).length:Int)=0)=false:=by
   refine decide_eq_false ?_
   rw[zbp]
   unfold MS.some1 at h1
   have:=of_decide_eq_true h1
   omega
  simp only[hz,xae,h164,xab]
  exact hredu (by unfold MS.cut;rw[h1];rfl)
def mqOf(c:CT)(gs:List Grp)(lots:List Int):MP:=⟨gpOf c gs lots,10^c.2.2.2.2.2.1.toNat,10^(c.2.2.2.2.2.1.toNat/2)⟩
def trM(c:CT)(Q:MP):Int×(Int×(Int×(Int×(List RD×List Int)))):=(2,(Q.P.seats:Int),c.2.2.2.2.2.1,(Q.P.n:Int),(mcount Q).map rdT,(mcount Q).flatMap Rd.el)
theorem mqOf_ok{c:CT}{gs:List Grp}{lots:List Int}(h:fitE 2 c gs lots=0):MQ (mqOf c gs lots) c gs c.2.2.2.2.2.1.toNat:=by
 obtain⟨hP,_⟩:=gpOf_okM h
 obtain⟨_,_,_,n1,n7,s1,s5,_,hd,_,t1,t3,hp,ll,hB⟩:=zlm h
 obtain⟨hd1,hd6⟩:=hd rfl
 refine⟨⟨hP,zkn _,znn (by omega),zkn _⟩,⟨lots,rfl⟩,rfl,⟨_,hp⟩,?_,by omega,by omega,by omega,rfl,rfl,rfl⟩
 show c.2.2.2.1=(c.2.2.2.1.toNat:Int)
 omega
theorem Bef.excl'{rs:List Rd}{r:Rd}{sur:Nat}(h:r.ex≠ []):Bef (rs++[r]) none sur:=.excl rs r rfl h rfl
theorem Bef.kept'{rs:List Rd}{r:Rd}{sur:Nat}(h:r.ex=[]):Bef (rs++[r]) (some sur) sur:=.kept rs r rfl h rfl
set_option maxHeartbeats 1000000 in
theorem d56_eq{c:CT}{gs:List Grp}{lots:List Int}(hg:GsOK gs)(hl:lots.length≤281474976710656):d56 c gs lots=some (if fitE 2 c gs lots=0 then(trM c (mqOf c gs lots),0)else((0,0,0,0,[],[]),fitE 2 c gs lots)):=by
 unfold d56
 rw[d66_eq 2 c hg hl,xab]
 by_cases hfit:¬fitE 2 c gs lots=0
 ·rw[if_neg hfit,decide_eq_false hfit];rfl
 have hfit:=Decidable.not_not.1 hfit
 rw[if_pos hfit,decide_eq_true hfit,xap,xae]
 have hQ:=mqOf_ok hfit
 have hlo:(mqOf c gs lots).P.lots=lots:=rfl
 have hdig:=hQ.dig
 have hone:=hQ.one
 generalize hd:c.2.2.2.2.2.1.toNat=d at hQ hdig hone
 generalize mqOf c gs lots=Q at hQ hlo hone ⊢
 have hn:=hQ.n
 have hok:=hQ.ok
 have hn7:=hok.P.n7
 have hd6:=hQ.d6
 have h112:d112 [((Q.one:Nat):Int)] (Q.P.n:Int)=some (lst (fun _=>((Q.one:Nat):Int)) Q.P.n):=by
  unfold d112
  rw[decide_eq_true (show([((Q.one:Nat):Int)]:List Int).length=1 from rfl),decide_eq_true (show(0:Int)≤(Q.P.n:Int) by omega),decide_eq_true (show(Q.P.n:Int)≤1000 by omega),xah,xah,xad,tn,zoe]
  rfl
 rw[hdig,zoy (by omega),xab,←hone,hn]
 simp only[xaw,d0le,zbo (n:=Q.P.n) (by omega),xah,xad,tn,h112,xab,hQ.seats]
 have hK0:(c,gs,lots,((Q.one:Nat):Int),List.replicate Q.P.n (0:Int),lst (fun _=>((Q.one:Nat):Int)) Q.P.n,(0:Int),([]:List (List Rt)),(0:Int),(0:Int),(2:Int),(Q.P.seats:Int),(d:Int),(Q.P.n:Int),([]:List RD),([]:List Int))=KM Q c gs Q.s0.st Q.s0.kp (Q.s0.fl Q) [] ((([]:List Rd).length:Int)-(Q.s0.since:Int)) ((0:Nat):Int):=by
  have:Q.s0.fl Q=0:=by unfold MS.fl cntN;exact zhm _
  unfold KM
  rw[this,hlo,zoe,hdig]
  rfl
 rw[hK0]
 refine zgn (Q:=fun r=>r=some (trM c Q,0)) (fun(M:Nat) (a:(Int×(Int×(Int×(Int×(List RD×List Int)))))×MT)=>∃(s:MS) (rs:List Rd) (su:Nat),a=((0,0,0,0,[],[]),KM Q c gs s.st s.kp (s.fl Q) rs ((rs.length:Int)-(s.since:Int)) (su:Int))∧MRun Q s rs∧s.since≤rs.length∧Bef rs s.bef su∧M=s.meas Q) (Q.s0.meas Q) ⟨Q.s0,[],0,rfl,MRun.start hok,Nat.le_refl _,.start rfl rfl,rfl⟩ ?_
 rintro M a ⟨s,rs,su,rfl,hR,hsi,hb,rfl⟩
 rcases d113_eq hQ hR hsi hb with⟨hf,st',kp',fl',ev',su',he⟩|⟨hf,hc,he⟩|⟨hf,hc,he⟩
 ·refine .inr ⟨((0,0,0,0,[],[]),KM Q c gs st' kp' fl' (rs++[s.done Q]) ev' su'),by simp only[he,xab,xae],?_⟩
  show some ((2,(Q.P.seats:Int),c.2.2.2.2.2.1,(Q.P.n:Int),(rs++[s.done Q]).map rdT,(rs++[s.done Q]).flatMap Rd.el),0)=some (trM c Q,0)
  rw[hR.fin hf];rfl
 ·have hme:=(exclM_inv hok hR.inv hf hc (rs.map Rd.votes)).2
  exact .inl ⟨_,(s.excl Q (rs.map Rd.votes)).meas Q,by simp only[he,xab,xad],hme,_,_,s.sur Q,rfl,hR.excl hok hf hc,xbn _,Bef.excl' (by simp[MS.exR]),rfl⟩
 ·have hme:=(reduM_inv hok hR.inv hf hc).2
  refine .inl ⟨_,(s.redu Q).meas Q,by simp only[he,xab,xad],hme,_,_,s.sur Q,rfl,hR.redu hok hf hc,?_,Bef.kept' rfl,rfl⟩
  show(if s.some1 Q then 0 else s.since+1)≤(rs++[s.rd0 Q]).length
  rw[List.length_append]
  split
  ·omega
  ·simp;omega
end Go.Proofs.YtmipjomnjkmdbaaGreat
namespace Go.Proofs.YtmipjomnjkmdbaaGreat
open Go Go.X
theorem zot{n:Nat}(hn:n≤1000){seats digits ties:Int}(hs:WT (.int .i64) seats)(hd:WT (.int .i64) digits)(ht:WT (.int .i64) ties):∃c:CT,d25 1 (n:Int) seats digits ties=some c∧ConOK c n 2∧c.2.2.2.1=1+seats%5∧c.2.2.2.2.2.1=1+digits%6∧c.2.2.2.2.2.2.1=1+ties%3:=by
 obtain⟨l,l1,l2⟩:=d72_eq (n:=n) hn
 have hm:WT (.int .i64) 1:=zaz (by omega) (by omega)
 unfold d25
 rw[l1,zjq hm (by omega) (by omega),zjq hs (by omega) (by omega),zjq ht (by omega) (by omega),zjq hd (by omega) (by omega)]
 simp only[xab,zah]
 have w2:w (1+seats%5)=1+seats%5:=zaz (by omega) (by omega)
 have w3:w (1+ties%3)=1+ties%3:=zaz (by omega) (by omega)
 have w4:w (1+digits%6)=1+digits%6:=zaz (by omega) (by omega)
 have w1:w (1+1%3)=2:=zaz (n:=2) (by omega) (by omega)
 simp only[w1,w2,w3,w4]
 exact⟨_,rfl,⟨l2,rfl,by show 1≤1+seats%5;omega,by show 1+seats%5≤5;omega,fun h=>absurd h (by omega),fun _=>by show 1≤1+digits%6∧1+digits%6≤6;omega,fun h=>absurd rfl h,by show 1≤1+ties%3;omega,by show 1+ties%3≤3;omega⟩,rfl,rfl,rfl⟩
theorem d54_eq(l:List (List Int))(hl:l.length≤281474976710656):d54 l=some (decide (∀x∈l,x.length≤12)&&decide (l.length≤24)):=by
 unfold d54
 by_cases h:∀x∈l,x.length≤12
 ·refine zae (b:=.inl l) (fun i=>(l,(i:Int))) l.length rfl (fun i hi=>?_) ?_ ?_
  ·have:=h _ (zch (d:=[]) hi)
   simp only[dlt hi,d0le,xah,xad,tn,decide_eq_false (show ¬(12:Int)<((l.getD i []).length:Int) by omega),xae,zbc (show i<9223372036854775807 by omega)]
  ·simp only[nlt (Nat.le_refl l.length),xae]
  ·rw[decide_eq_true h,xbd]
   exact xbe some (xdi.2 (by omega))
 ·rw[decide_eq_false h,xbl]
  refine zgn (Q:=fun r=>r=some false) (fun(M:Nat) (st:(List (List Int))×Int)=>∃i:Nat,st=(l,(i:Int))∧i+M=l.length∧∀j,j<i→(l.getD j []).length≤12) l.length ⟨0,rfl,by omega,fun j hj=>by omega⟩ ?_
  rintro M st ⟨i,rfl,h1,h2⟩
  rcases xbw M with h0|h0
  ·exfalso
   refine h fun x hx=>?_
   obtain⟨k,hk,rfl⟩:=xbq hx
   have:=h2 k (by omega)
   rw[xac,xag hk]at this
   exact this
  ·have hi:i<l.length:=by omega
   simp only[dlt hi,d0le,xah,xad,tn]
   by_cases hc:12<(l.getD i []).length
   ·refine .inr ⟨.inr false,by rw[decide_eq_true (show(12:Int)<((l.getD i []).length:Int) by omega),xad],rfl⟩
   ·refine .inl ⟨_,M-1,by rw[decide_eq_false (show ¬(12:Int)<((l.getD i []).length:Int) by omega),xae],by omega,i+1,by rw[zbc (by omega)],by omega,fun j hj=>?_⟩
    by_cases hji:j=i
    ·rw[hji];omega
    ·exact h2 j (by omega)
def awM:MP:={P:={gs:=[([0],1),([0,1],3),([2],2)],n:=3,seats:=2,q:=3,tot:=6,ties:=3,lots:=[0,1,2]},one:=1000,om:=10}
theorem awM_pile:zem [[0,1],[0,1],[0,1],[0],[2],[2]]=[([0],1),([0,1],3),([2],2)]:=by decide +kernel
theorem awM_count:(mcount awM).flatMap Rd.el=[0,2]:=by decide +kernel
theorem awM_mq{c:CT}(h1:c.2.1.length=3)(h2:c.2.2.2.1=2)(h3:c.2.2.2.2.2.2.1=3)(h4:c.2.2.2.2.2.1=3):mqOf c [([0],1),([0,1],3),([2],2)] [0,1,2]=awM:=by
 unfold mqOf gpOf awM
 rw[h1,h2,h3,h4]
 have e1:(wsum zau [([0],1),([0,1],3),([2],2)]/(2+1)+1).toNat=3:=by decide +kernel
 have e2:(wsum (fun _=>1) [([0],1),([0,1],3),([2],2)]).toNat=6:=by decide +kernel
 rw[e1,e2]
 rfl
theorem d55_eq:d55=some true:=by
 have k:∀x:Int,-9223372036854775808≤x→x≤9223372036854775807→WT (.int .i64) x:=fun x h0 h1=>zaz h0 h1
 obtain⟨c,c1,c2,c3,c4,c5⟩:=zot (n:=3) (by omega) (k 1 (by omega) (by omega)) (k 2 (by omega) (by omega)) (k 2 (by omega) (by omega))
 have c3':c.2.2.2.1=2:=by rw[c3];rfl
 have c4':c.2.2.2.2.2.1=3:=by rw[c4];rfl
 have c5':c.2.2.2.2.2.2.1=3:=by rw[c5];rfl
 have hb:∀b∈[[0,1],[0,1],[0,1],[0],[2],[2]],isB 3 b:=by decide +kernel
 have h48:=d48_eq (n:=3) (by omega) (by omega) hb (by simp)
 have hp:=(zlf (n:=3) _ hb (by simp)).1
 rw[awM_pile]at h48 hp
 have hfit:fitE 2 c [([0],1),([0,1],3),([2],2)] [0,1,2]=0:=zln (n:=3) (m:=2) c2 (by omega) (by omega) (by omega) (by omega) hp rfl (by decide +kernel)
 have h56:=d56_eq (c:=c) (lots:=[0,1,2]) (hp.gs (by omega)) (by simp)
 rw[if_pos hfit,awM_mq c2.names c3' c5' c4']at h56
 have hp2:PileOK ((2:Nat):Int) [([0,1],3)] 3:=⟨by decide +kernel,by simp[zit],by decide +kernel,by omega⟩
 have h58:=d58_ok (n:=2) (d:=2) (by omega) (by omega) (by omega) (by omega) hp2 c [] (kp:=fun i=>if i=0 then 33 else 100) (fun i=>by show(if i=0 then 33 else 100)≤100;split<;>omega)
 have hk:lst (fun i=>((if i=0 then 33 else 100:Nat):Int)) 2=[33,100]:=by decide +kernel
 have hv:lst (fun x=>((mvo (gpOf c [([0,1],3)] []) (10^2) (fun i=>if i=0 then 33 else 100) x:Nat):Int)) 2=[99,201]:=by
  have e:∀x,mvo (gpOf c [([0,1],3)] []) (10^2) (fun i=>if i=0 then 33 else 100) x=3*zod 100 (fun i=>if i=0 then 33 else 100) [0,1] x:=fun x=>by
   show 0+3*zod (10^2) (fun i=>if i=0 then 33 else 100) [0,1] x=_
   rw[Nat.zero_add]
  rw[zbu fun x _=>by rw[e x]]
  decide +kernel
 have hr:mro (gpOf c [([0,1],3)] []) (10^2) (fun i=>if i=0 then 33 else 100)=0:=by
  show 0+3*mw (10^2) (fun i=>if i=0 then 33 else 100) [0,1] 2=0
  decide +kernel
 rw[hk,hv,hr]at h58
 have h60:d60 5=some 100:=d60_eq (d:=5) (by omega) (by omega)
 unfold d55
 have c1':d25 1 3 1 2 2=some c:=c1
 have h58':d58 2 [33,100] [([0,1],3)]=some ([99,201],0,true):=h58
 rw[h48,xab,c1',xab,h56,xab,h58',xab]
 have hT:(trM c awM).2.2.2.2.2=[0,2]:=awM_count
 have h44:d44 [0,2]=some [0,2]:=by rw[d44_eq (by simp)];decide +kernel
 have f38:d38 [0,2] [0,2]=some true:=by rw[d38_eq (by simp) (by simp)];rfl
 have f38':d38 [99,201] [99,201]=some true:=by rw[d38_eq (by simp) (by simp)];rfl
 simp only[hT,h44,f38,f38',h60,xab]
 rfl
structure CntM(n:Nat)(c:CT)(gs:List Grp)(lots:List Int)(N:Int):Prop where
 con:ConOK c n 2
 n1:1≤n
 n7:n≤7
 pile:PileOK (n:Int) gs N
 len:lots.length=n
 perm:isB (n:Int) lots
 fit:fitE 2 c gs lots=0
 mq:MQ (mqOf c gs lots) c gs c.2.2.2.2.2.1.toNat
 cands:(mqOf c gs lots).P.n=n
 tot:((mqOf c gs lots).P.tot:Int)=N
theorem CntM.mk'{n:Nat}{c:CT}{gs:List Grp}{lots:List Int}{N:Int}(hc:ConOK c n 2)(h1:1≤n)(h7:n≤7)(hp:PileOK (n:Int) gs N)(hl:lots.length=n)(hb:isB (n:Int) lots):CntM n c gs lots N:=by
 have hf:=zln hc (by omega) (by omega) h1 h7 hp hl hb
 refine⟨hc,h1,h7,hp,hl,hb,hf,mqOf_ok hf,hc.names,?_⟩
 have:=hp.total
 have h0:=(zgm (n:=(n:Int)) hp.ballots (f:=fun _=>1) (fun _=>by omega)).1
 show((wsum (fun _=>1) gs).toNat:Int)=N
 omega
end Go.Proofs.YtmipjomnjkmdbaaGreat
namespace Go.Proofs.YtmipjomnjkmdbaaGreat
open Go Go.X
variable {Q:MP} {s:MS}
theorem bals_len24{n:Int}{l:List (List Int)}(h:l.length≤24):((bals n l 24).length:Int)=(l.length:Int):=by simp[bals];omega
end Go.Proofs.YtmipjomnjkmdbaaGreat
namespace Go.Proofs.YtmipjomnjkmdbaaGreat
open Go Go.X
abbrev TT:=Int×(Int×(Int×(Int×(List RD×List Int))))
variable {P:GP} {s:GS}
end Go.Proofs.YtmipjomnjkmdbaaGreat
namespace Go.Proofs.YtmipjomnjkmdbaaGreat
open Go Go.X
variable {P:GP} {s:GS}
theorem d19_ex{gs:List Grp}(h:GsOK gs):∃b:Bool,d19 gs=some b:=by
 have hl:=h.1
 unfold d19
 by_cases hb:∀i,i<gs.length→decide (12<((gs.getD i ([],0)).1.length:Int))=false
 ·refine⟨decide ((gs.length:Int)≤60),?_⟩
  refine zae (b:=.inl gs) (fun i=>(gs,(i:Int))) gs.length rfl (fun i hi=>?_) ?_ rfl
  ·simp only[dlt hi,d0le,zbc (show i<9223372036854775807 by omega),xad,xah,tn,hb i hi,xae]
  ·simp only[nlt (Nat.le_refl gs.length),xae]
 ·refine⟨false,?_⟩
  refine zcq (fun i=>(gs,(i:Int))) (fun i=>decide (12<((gs.getD i ([],0)).1.length:Int))) gs.length (fun _=>.inr false) (.inl gs) rfl (fun i hi=>?_) ?_ (fun i hi hp hj=>rfl) (fun hall=>absurd hall hb)
  ·simp only[dlt hi,d0le,zbc (show i<9223372036854775807 by omega),xad,xah,tn]
   cases decide (12<((gs.getD i ([],0)).1.length:Int))<;>rfl
  ·simp only[nlt (Nat.le_refl gs.length),xae]
end Go.Proofs.YtmipjomnjkmdbaaGreat
namespace Go.Proofs.YtmipjomnjkmdbaaGreat
open Go Go.X
def outK(d:Nat)(k:Int):Bool:=decide (k<0)||decide (((10^d:Nat):Int)<k)
theorem d120_eq{n:Int}{gs:List Grp}(h:GsOK gs):d120 n gs=some (zfz n gs):=by
 unfold d120 zfz goodP
 by_cases h1:1≤n
 ·by_cases h2:n≤7
  ·rw[decide_eq_true h1,decide_eq_true h2,xad,xad,d124_eq h2 h.1 h.2,decide_eq_true (show 1≤n∧n≤7 from⟨h1,h2⟩)]
   rfl
  ·rw[decide_eq_true h1,decide_eq_false h2,xad,xae,decide_eq_false (show ¬(1≤n∧n≤7) by omega)]
   rfl
 ·rw[decide_eq_false h1,xae,decide_eq_false (show ¬(1≤n∧n≤7) by omega)]
  rfl
theorem d58_bad{d:Nat}(h1:1≤d)(h6:d≤6){l:List Int}{gs:List Grp}(hl:l.length≤7)(hg:GsOK gs)(hp:zfz (l.length:Int) gs=true)(hb:¬∀i,i<l.length→outK d (l.getD i 0)=false):d58 (d:Int) l gs=some ([],0,false):=by
 unfold d58
 simp only[zah,decide_eq_false (show ¬(d:Int)<1 by omega),decide_eq_false (show ¬(6:Int)<(d:Int) by omega),xal,xad,d120_eq hg,hp,xab,xap,xae,zoy (d:=d) (by omega)]
 refine zcq (fun i=>(l,gs,(0:Int),((10^d:Nat):Int),l,(l.length:Int),(i:Int))) (fun i=>outK d (l.getD i 0)) l.length (fun _=>.inr ([],0,false)) (.inl (l,gs,(0:Int),((10^d:Nat):Int))) rfl (fun i hi=>?_) ?_ (fun i hi hp hj=>rfl) (fun hall=>absurd hall hb)
 ·simp only[dlt hi,d0le,xah,xad,tn,zbc (show i<9223372036854775807 by omega)]
  unfold outK
  cases decide (l.getD i 0<0)<;>cases decide (((10^d:Nat):Int)<l.getD i 0)<;>rfl
 ·simp only[nlt (Nat.le_refl l.length),xae]
theorem d59_bad{d:Nat}(h1:1≤d)(h6:d≤6){l:List Int}{gs:List Grp}(hl:l.length≤7)(hg:GsOK gs)(hp:zfz (l.length:Int) gs=true)(hb:¬∀i,i<l.length→outK d (l.getD i 0)=false):d59 (d:Int) l gs=some ([],0,false):=by
 unfold d59
 simp only[zah,decide_eq_false (show ¬(d:Int)<1 by omega),decide_eq_false (show ¬(6:Int)<(d:Int) by omega),xal,xad,d70_eq hg,hp,xab,xap,xae,d114_eq (d:=d) (by omega)]
 refine zcq (fun i=>(l,gs,((10^d:Nat):Int),(i:Int))) (fun i=>outK d (l.getD i 0)) l.length (fun _=>.inr ([],0,false)) (.inl (l,gs,((10^d:Nat):Int))) rfl (fun i hi=>?_) ?_ (fun i hi hp hj=>rfl) (fun hall=>absurd hall hb)
 ·simp only[dlt hi,d0le,xah,xad,tn,zbc (show i<9223372036854775807 by omega)]
  unfold outK
  cases decide (l.getD i 0<0)<;>cases decide (((10^d:Nat):Int)<l.getD i 0)<;>rfl
 ·simp only[nlt (Nat.le_refl l.length),xae]
theorem dist_same{p:Int}{l:List Int}{gs:List Grp}(hg:GsOK gs):∃V R b,d58 p l gs=some (V,R,b)∧d59 p l gs=some (V,R,b)∧V.length≤7:=by
 by_cases hp:1≤p∧p≤6
 ·obtain⟨d,rfl⟩:∃d:Nat,p=(d:Int):=⟨p.toNat,by omega⟩
  cases hB:zfz (l.length:Int) gs with
  |false=>
   refine⟨[],0,false,?_,?_,by simp⟩
   ·unfold d58
    simp only[zah,decide_eq_false (show ¬(d:Int)<1 by omega),decide_eq_false (show ¬(6:Int)<(d:Int) by omega),xal,xad,d120_eq hg,hB,xab]
   ·unfold d59
    simp only[zah,decide_eq_false (show ¬(d:Int)<1 by omega),decide_eq_false (show ¬(6:Int)<(d:Int) by omega),xal,xad,d70_eq hg,hB,xab]
  |true=>
   obtain⟨n1,n7,hP⟩:=pileB_ok hB
   by_cases hb:∀i,i<l.length→outK d (l.getD i 0)=false
   ·obtain⟨c,_⟩:=zot (n:=1) (by omega) (seats:=0) (digits:=0) (ties:=0) rfl rfl rfl
    have ho:∀i,i<l.length→0≤l.getD i 0∧l.getD i 0≤((10^d:Nat):Int):=fun i hi=>by
     have:=hb i hi
     unfold outK at this
     rw[xbt,xar,xar]at this
     omega
    have hk:∀i,(fun i=>if i<l.length then(l.getD i 0).toNat else 0) i≤10^d:=fun i=>by
     show(if i<l.length then(l.getD i 0).toNat else 0)≤10^d
     split
     ·rename_i h
      have:=ho i h
      omega
     ·exact xbn _
    have hl:lst (fun i=>(((fun i=>if i<l.length then(l.getD i 0).toNat else 0) i:Nat):Int)) l.length=l:=by
     refine(zbu fun i hi=>?_).trans (zof l 0)
     show((if i<l.length then(l.getD i 0).toNat else 0:Nat):Int)=_
     rw[if_pos hi]
     have:=ho i hi
     omega
    have e58:=d58_ok (n:=l.length) (d:=d) (by omega) (by omega) (by omega) (by omega) hP c [] hk
    have e59:=d59_ok (n:=l.length) (d:=d) (by omega) (by omega) (by omega) (by omega) hP c [] hk
    rw[hl]at e58 e59
    exact⟨_,_,_,e58,e59,by rw[zam];omega⟩
   ·exact⟨[],0,false,d58_bad (by omega) (by omega) (by omega) hg hB hb,d59_bad (by omega) (by omega) (by omega) hg hB hb,by simp⟩
 ·refine⟨[],0,false,?_,?_,by simp⟩
  ·unfold d58
   by_cases h1:p<1
   ·simp only[zah,decide_eq_true h1,xap,xae,xad]
   ·simp only[zah,decide_eq_false h1,decide_eq_true (show 6<p by omega),xap,xal,xae,xad]
  ·unfold d59
   by_cases h1:p<1
   ·simp only[zah,decide_eq_true h1,xap,xae,xad]
   ·simp only[zah,decide_eq_false h1,decide_eq_true (show 6<p by omega),xap,xal,xae,xad]
theorem zmf(p:Int):∃x,d60 p=some x∧d61 p=some x:=by
 by_cases hp:1≤p∧p≤6
 ·obtain⟨d,rfl⟩:∃d:Nat,p=(d:Int):=⟨p.toNat,by omega⟩
  exact⟨_,d60_eq (by omega) (by omega),d61_eq (by omega) (by omega)⟩
 ·refine⟨0,?_,?_⟩
  ·unfold d60
   by_cases h1:p<1
   ·simp only[zah,decide_eq_true h1,xap,xae,xad]
   ·simp only[zah,decide_eq_false h1,decide_eq_true (show 6<p by omega),xal,xae,xad]
  ·unfold d61
   by_cases h1:p<1
   ·simp only[zah,decide_eq_true h1,xap,xae,xad]
   ·simp only[zah,decide_eq_false h1,decide_eq_true (show 6<p by omega),xal,xae,xad]
def addUp(R:Int)(V:List Int):Nat→Int
 | 0=>R
 |i+1=>w (addUp R V i+V.getD i 0)
theorem lst_take{α:Type}(f:Nat→α){m n:Nat}(h:n≤m):(lst f m).take n=lst f n:=by
 unfold lst
 rw[←List.map_take,List.take_range,xdx h]
set_option maxHeartbeats 1000000 in
theorem d12_true{p0:Int}{p1:List Int}{p2:List Grp}{p3:Bool}{p4:List (List Int)}(h0:WT (.int .i64) p0)(hk:p1.length≤281474976710656)(hkw:∀x∈p1,WT (.int .i64) x)(hg:GsOK p2)(hl:p4.length≤281474976710656)(hw:∀x∈p4,WT (.slice (.int .i64)) x):d12 p0 p1 p2 p3 p4=some true:=by
 obtain⟨b1,hb1⟩:=d19_ex hg
 unfold d12
 rw[zah]
 simp only[hb1,xab,d54_eq p4 hl]
 cases b1 with
 |false=>simp only[xal,xap,xae,xad,d55_eq,xab]
 |true=>
 cases hfew:(decide (∀x∈p4,x.length≤12)&&decide (p4.length≤24))with
 |false=>simp only[xal,xap,xae,xad,d55_eq,xab]
 |true=>
 by_cases h10:10<(p1.length:Int)
 ·simp only[xal,xap,xae,xad,decide_eq_true h10,d55_eq,xab]
 simp only[xal,xap,xae,xad,decide_eq_false h10]
 rw[zah]
 obtain⟨x,hx1,hx2⟩:=zmf p0
 cases p3 with
 |true=>
  obtain⟨V,R,b,e1,e2,hV⟩:=dist_same (p:=p0) (l:=p1) hg
  simp only[xap,xae,e1,e2,xab,zah,beq_self_eq_true,xaw,xal,xad,d38_eq (show V.length≤281474976710656 by omega) (show V.length≤281474976710656 by omega)]
  refine zae (fun i=>(p0,true,p4,(1:Int),V,addUp R V i,(i:Int))) V.length rfl (fun i hi=>?_) (b:=(p0,true,p4,(1:Int),addUp R V V.length)) ?_ (by simp only[d55_eq,xab,xad,xap,xae,hx1,hx2,xaw])
  ·simp only[dlt hi,d0le,xah,xad,tn,zbc (show i<9223372036854775807 by omega)]
   rfl
  ·simp only[nlt (Nat.le_refl V.length),xae]
 |false=>
  have hl24:p4.length≤24:=by
   rw[xaf,xaj,xaj]at hfew
   exact hfew.2
  have b:=zgt p0 (n:=6) (by omega)
  obtain⟨d,hd⟩:∃d:Nat,1+p0%6=(d:Int):=⟨(1+p0%6).toNat,by omega⟩
  have hw1:w (1+p0%6)=(d:Int):=by rw[zaz (by omega) (by omega)];exact hd
  simp only[xal,xad,zjq h0 (show(0:Int)<6 by omega) (by omega),xab,hw1]
  have ho1:=zkn d
  have ho6:=znn (d:=d) (by omega)
  refine zae (fun i=>((d:Int),p1,false,p4,((10^i:Nat):Int),(i:Int))) d rfl (fun i hi=>?_) (b:=((d:Int),p1,false,p4,((10^d:Nat):Int))) ?_ ?_
  ·simp only[dlt hi,xad,wten (show i<18 by omega),zbc (show i<9223372036854775807 by omega)]
  ·simp only[nlt (Nat.le_refl d),xae]
  generalize hone:10^d=one at *
  obtain⟨m,hm⟩:∃m,m=min p1.length 7:=⟨_,rfl⟩
  obtain⟨n,hn⟩:∃n,n=min (m+1) 7:=⟨_,rfl⟩
  have hb:∀i,0≤p1.getD i 0%((one:Int)+1)∧p1.getD i 0%((one:Int)+1)<(one:Int)+1:=fun i=>zgt _ (by omega)
  have hwo:w ((one:Int)+1)=(one:Int)+1:=zaz (by omega) (by omega)
  refine zae (fun i=>((d:Int),p1,false,p4,(one:Int),lst (fun j=>p1.getD j 0%((one:Int)+1)) i,(i:Int))) m rfl (fun i hi=>?_) (b:=((d:Int),false,p4,(one:Int),lst (fun j=>p1.getD j 0%((one:Int)+1)) m)) ?_ ?_
  ·have hwt:WT (.int .i64) (p1.getD i 0):=hkw _ (zcb (by omega))
   simp only[zah,dlt (show i<p1.length by omega),d0le,xah,xad,tn,decide_eq_true (show(i:Int)<7 by omega),hwo,zjq hwt (show(0:Int)<(one:Int)+1 by omega) (by omega),xab,zli (lst (fun j=>p1.getD j 0%((one:Int)+1)) i) (p1.getD i 0%((one:Int)+1)) (by rw[zam];omega),xaw,zbc (show i<9223372036854775807 by omega),zia]
  ·by_cases h7:m<p1.length
   ·simp only[zah,dlt h7,xad,decide_eq_false (show ¬(m:Int)<7 by omega),xae]
   ·simp only[zah,nlt (show p1.length≤m by omega),xae]
  let kp:Nat→Nat:=fun i=>if i<m then(p1.getD i 0%((one:Int)+1)).toNat else one
  have hkp:∀i,kp i≤one:=fun i=>by
   show(if i<m then(p1.getD i 0%((one:Int)+1)).toNat else one)≤one
   split
   ·have:=hb i
    omega
   ·exact Nat.le_refl _
  have hall:lst (fun j=>p1.getD j 0%((one:Int)+1)) m++[(one:Int)]=lst (fun i=>(kp i:Int)) (m+1):=by
   rw[zia]
   congr 1
   ·refine zbu fun i hi=>?_
    show _=((if i<m then(p1.getD i 0%((one:Int)+1)).toNat else one:Nat):Int)
    rw[if_pos hi]
    have:=hb i
    omega
   ·show _=[((if m<m then(p1.getD m 0%((one:Int)+1)).toNat else one:Nat):Int)]
    rw[if_neg (Nat.lt_irrefl m)]
  have hlim:=zli (lst (fun j=>p1.getD j 0%((one:Int)+1)) m) (one:Int) (by rw[zam];omega)
  rw[zam]at hlim
  have hcut:(bif decide (7<((m+1:Nat):Int))then 7 else((m+1:Nat):Int))=(n:Int):=by
   by_cases h7:7<((m+1:Nat):Int)
   ·rw[decide_eq_true h7,xad];omega
   ·rw[decide_eq_false h7,xae];omega
  have hok:zbz 0 (n:Int) (m+1)=true:=zgz (by omega)
  have htk:=lst_take (fun i=>(kp i:Int)) (m:=m+1) (n:=n) (by omega)
  have h26:d26 (n:Int) p4 24=some (zem (bals (n:Int) p4 24)):=d26_eq (n:=(n:Int)) (by omega) (by omega) hl hw (most:=24) (by omega)
  have hpl:=(zlf (n:=(n:Int)) (bals (n:Int) p4 24) (bals_isB (n:=(n:Int)) (by omega) (l:=p4) (most:=24)) (by have:=@bals_len (n:Int) p4 24;omega)).1
  rw[bals_len24 hl24]at hpl
  simp only[hlim,xaw,xad,hall,zam,hcut,hok,tn,htk,h26,xab]
  generalize zem (bals (n:Int) p4 24)=gs at hpl ⊢
  obtain⟨c,c1,c2,c3,c4,c5⟩:=zot (n:=n) (by omega) (seats:=0) (digits:=0) (ties:=0) rfl rfl rfl
  obtain⟨lots,l1,l2,l3⟩:=d27_eq (n:=n) (by omega) (code:=0) rfl
  have hC:=CntM.mk' (c:=c) c2 (by omega) (by omega) hpl l2 l3
  have hP:=hC.mq.ok.P
  have hcn:=hC.cands
  have htot:=hC.tot
  subst hone
  have e58:=d58_ok (n:=n) (d:=d) (by omega) (by omega) (by omega) (by omega) hpl c lots hkp
  have e59:=d59_ok (n:=n) (d:=d) (by omega) (by omega) (by omega) (by omega) hpl c lots hkp
  have hsum:=mv_sum ho1 hkp hP
  have hPP:(mqOf c gs lots).P=gpOf c gs lots:=rfl
  rw[hPP]at hP hcn htot hsum
  rw[hcn]at hsum
  have htot5:=hP.tot5
  generalize gpOf c gs lots=P at *
  generalize 10^d=one at *
  have hbig:P.tot*one≤100000*1000000:=Nat.mul_le_mul htot5 ho6
  simp only[e58,e59,xab,zah,beq_self_eq_true,xaw,xap,xal,xad,xae,d38_eq (show(lst (fun x=>((mvo P one kp x:Nat):Int)) n).length≤281474976710656 by rw[zam];omega) (show(lst (fun x=>((mvo P one kp x:Nat):Int)) n).length≤281474976710656 by rw[zam];omega)]
  obtain⟨x',hx1',hx2'⟩:=zmf (d:Int)
  refine zae (fun i=>((d:Int),false,p4,(one:Int),lst (fun x=>((mvo P one kp x:Nat):Int)) n,((mro P one kp+sumN (mvo P one kp) i:Nat):Int),(i:Int))) n rfl (fun i hi=>?_) (b:=((d:Int),false,p4,(one:Int),((mro P one kp+sumN (mvo P one kp) n:Nat):Int))) ?_ ?_
  ·have hmono:sumN (mvo P one kp) (i+1)≤sumN (mvo P one kp) n:=by apply zho;omega
   have hsuc:sumN (mvo P one kp) (i+1)=sumN (mvo P one kp) i+mvo P one kp i:=rfl
   simp only[zam,dlt hi,d0le,xah,xad,tn,zbc (show i<9223372036854775807 by omega),zbd (fun x=>((mvo P one kp x:Nat):Int)) hi,wadd (show mro P one kp+sumN (mvo P one kp) i+mvo P one kp i≤9223372036854775807 by omega),hsuc,xcb]
  ·simp only[zam,nlt (Nat.le_refl n),xae]
  ·have ht4:P.tot=p4.length:=by omega
   have hmul:w ((one:Int)*(p4.length:Int))=((mro P one kp+sumN (mvo P one kp) n:Nat):Int):=by
    rw[wmul (show one*p4.length≤9223372036854775807 by rw[←ht4,xbc];omega),←ht4,xbc one]
    omega
   simp only[d55_eq,xab,xad,xal,hmul,xaw,hx1',hx2']
end Go.Proofs.YtmipjomnjkmdbaaGreat
