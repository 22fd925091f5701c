/- A part of the proof. -/
import Derived.Test.YtamgmpngdmnadaaGreatJ14
set_option linter.defProp false
set_option linter.unusedSimpArgs false
set_option linter.unusedVariables false
set_option linter.unnecessarySimpa false
namespace Go.Proofs.YtamgmpngdmnadaaGreat
open Tryz
open Go Go.X
section
def rdT(r:Rd):RD:=(r.votes.map rr,r.keep.map rr,rr r.quota,rr r.exh,rr r.sur,r.el,r.ex,r.ti)
def zea(P:GP)(c:CT)(s:GS)(st:Nat->Nat)(fl:Nat)(rs:List Rd):KT:=
 (c,P.lots,(P.tot:Int),(P.q:Int),lst (zkb P s) P.G,lst (λi=>(st i:Int)) P.n,lst (λi=>rr (s.keep i)) P.n,(fl:Int),(rs.map Rd.votes).map (List.map rr),3,(P.seats:Int),0,(P.n:Int),rs.map rdT,rs.flatMap Rd.el)
variable {P:GP} {s:GS}
def zem(p:Nat->Bool)(g:Int->Bool)(n:Nat):(zaq p n).filter g=zaq (λi=>p i&&g (i:Int)) n:=by unfold zaq;rw[List.filter_map,<-zsf];rfl
def zry(p:Nat->Bool)(f:Nat->Nat):∀n:Nat,((zcy p n).map f).sum=zaz (λi=>if p i then f i else 0) n
 | 0=>rfl
 |n+1=>by rw[zse,xcc,xim,zry p f n,zaz];congr 1;cases p n<;>simp
def zjd(l:List Nat)(j:Nat):(l.take j).sum<=l.sum:=by
 conv=>rhs;rw[<-xcp j l]
 rw[xim];omega
def cnt_split(hI:GI P s):zbu (λi=>decide (s.st i=1)) P.n+zbu (λi=>decide (s.st i=2)) P.n+zbu (s.el1 P) P.n=s.e1 P+s.e2 P:=by
 unfold zbu GS.e1 GS.e2 zbu;rw[<-zde,<-zde,<-zde];refine zay λi hi=>?_;rcases zct (P:=P) (s:=s) i with⟨h0,h1,h2,_⟩|⟨h0,h2⟩
 ·simp[h0,h1,h2]
 ·simp[h2,h0]
def tied_eq(hI:GI P s)(st:Nat->Nat)(c:Nat)(most:Bool):zjq (!most) (λx=>zaj (s.vt P x.toNat) s.D) (zaq (λi=>decide (st i=c)) P.n)=zaq (zkm P (s.vt P) st c most) P.n:=by
 unfold zjq;rw[zem];refine zfn λi hi=>?_;unfold zkm;congr 1;rw[xeb,xbl,xbl];constructor
 ·intro h k hk;by_cases hc:st k=c
  ·have:=h (k:Int) (zap.2 ⟨k,rfl,xcm.1 hk,xae hc⟩);cases most;·simpa[hc,zhi hI.D0]using this
   ·simpa[hc,zhi hI.D0]using this
  ·simp[hc]
 ·intro h x hx;obtain⟨k,rfl,hk,hc⟩:=zap.1 hx;have:=h k (xcm.2 hk);rw[hc]at this;cases most;·simpa[zhi hI.D0]using this
  ·simpa[zhi hI.D0]using this
def frac_div(hD:0<s.D){a b:Nat}(hb:0<b):zaj a s.D/zaj b s.D=zaj a b:=by
 unfold zaj;have h1:(s.D:Rat)≠0:=by
  have:(0:Rat)<(s.D:Rat):=by exact_mod_cast hD
  intro e;rw[e]at this;exact absurd this (by decide)
 have h2:(b:Rat)≠0:=by
  have:(0:Rat)<(b:Rat):=by exact_mod_cast hb
  intro e;rw[e]at this;exact absurd this (by decide)
 grind
def zyw{a b:Nat}(ha:0<a)(hb:0<b):0<zaj a b:=by
 have:=(zsx (a:=0) (b:=a) hb).2 ha;have e:zaj 0 b=0:=by unfold zaj;rw[xfv];simp
 rwa[e]at this
structure RsOK(P:GP)(s:GS)(rs:List Rd):Prop where
 rnd:∀r∈rs,RndOK P.n r.votes/\r.el.length<=7
 len:rs.length<=7
 keep:∀i,i<P.n->Bz eB (s.keep i)
def zhf(hP:P.OK):LotsOK P.n P.lots:=⟨hP.n1,hP.n7,hP.lotn,hP.lots,hP.lotd⟩
def zyx:∀{rs:List Rd},(∀r∈rs,r.el.length<=7)->(rs.flatMap Rd.el).length<=7*rs.length
 | [],_=>by simp
 |r::rs,h=>by rw[xdb,xbo,xbd];have:=zyx (rs:=rs) λx hx=>h x (xan _ hx);have:=h r (by simp);omega
def votes_rnd(hP:P.OK)(hI:GI P s):RndOK P.n (lst (λi=>zaj (s.vt P i) s.D) P.n):=⟨zad _ _,λq hq=>by obtain⟨i,hi,rfl⟩:=zih.1 hq;exact zbb hP hI (zkk hP hI hi)⟩
def bz_zero:Bz eB (0:Rat):=by have:=zhy (n:=0) (by decide);exact this
def zbh(P:GP)(s:GS)(el:List Int):RD:=(lst (λi=>rr (zaj (s.vt P i) s.D)) P.n,lst (λi=>rr (s.keep i)) P.n,rr (P.q:Rat),rr (zaj (P.tot*s.D-zaz (s.vt P) P.n) s.D),rr (zaj (zaz (λi=>if s.st1 P i=1 then s.vt P i-s.bar P else 0) P.n) s.D),el,[],[])
def sur_le(hP:P.OK)(hI:GI P s):zaz (λi=>if s.st1 P i=1 then s.vt P i-s.bar P else 0) P.n<=P.tot*s.D:=
 xay (zdp λi _=>by split<;>omega) (zlk hP hI)
def zqh(hI:GI P s):(P.q:Rat)=zaj (s.bar P) s.D:=(zhh hI.D0).symm
def bar_le(hP:P.OK)(hI:GI P s):Bz eB (zaj (s.bar P) s.D):=by rw[<-zqh hI];exact zin hP
def d173_eq(hP:P.OK)(hI:GI P s){c:Nat}(hc:c<P.n){r:RD}(h1:r.1=lst (λi=>rr (zaj (s.vt P i) s.D)) P.n)(h2:r.2.2.1=rr (P.q:Rat)):d173 (c:Int) r=some (decide (s.vt P c<s.bar P)):=by
 unfold d173;simp only[h1,h2,zad,zbp,dlt hc,xai,xab,tn,zaf (λi=>rr (zaj (s.vt P i) s.D)) hc];rw[zmu (zbb hP hI (zkk hP hI hc)).sz2 (zin hP).sz2,xaa,zqh hI];congr 1;refine xdd.2 ?_;rw[<-zsx hI.D0];unfold zrm;by_cases h:zaj (s.vt P c) s.D<zaj (s.bar P) s.D;·rw[if_pos h];exact⟨λ_=>h,λ_=>by omega⟩
 ·rw[if_neg h];exact⟨λhc=>by split at hc<;>omega,λhc=>absurd hc h⟩
set_option maxHeartbeats 1000000 in
def d176_eq(hP:P.OK)(hI:GI P s)(hG:P.G<=1000000){rs:List Rd}(hR:RsOK P s rs){c:CT}(hc:c.2.2.2.2.2.2.1=P.ties)(fl:Nat)(hf:s.fin P=false)(hm:s.most P=true)(el:List Int) :
  d176 (zea P c s (s.st1 P) fl rs) (zbh P s el)=some (zea P c (s.trans P (rs.map Rd.votes)) (s.trans P (rs.map Rd.votes)).st fl rs,(zbh P s el).1,(zbh P s el).2.1,(zbh P s el).2.2.1,(zbh P s el).2.2.2.1,(zbh P s el).2.2.2.2.1,el,[],s.tiedR P):=by
 have hq:=hP.n7;have hs:=hP.q5;obtain⟨x,x1,x2,x3⟩:=zew hP hI hf (rs.map Rd.votes);rw[hm,if_pos rfl]at x3;obtain⟨_,k2,k3⟩:=zko hI x2 x3;have hb:=bar_pos hP hI;have hg:=zkk hP hI x2;have hj:zjq false (λx=>zaj (s.vt P x.toNat) s.D) (zaq (λi=>decide (s.st1 P i=1)) P.n)=s.tied P:=by have:=tied_eq hI (s.st1 P) 1 true;unfold GS.tied;rw[hm];exact this
 have hl:zaq (λi=>decide (s.st1 P i=1)) P.n≠ []:=xfp (zap.2 ⟨x,rfl,x2,xae x3⟩);have hn:(zaq (λi=>decide (s.st1 P i=1)) P.n).length<=1000:=by rw[zav];have:=zax (λi=>decide (s.st1 P i=1)) P.n;omega
 unfold d176;rw[show d172 (zea P c s (s.st1 P) fl rs) 1=some (zaq (λi=>decide (s.st1 P i=1)) P.n)from zpq (k:=zea P c s (s.st1 P) fl rs) rfl (by omega) 1];have hd:=d232_eq (c:=c) (lots:=P.lots) (tot:=(P.tot:Int)) (q:=(P.q:Int)) (pc:=lst (zkb P s) P.G) (stl:=lst (λi=>(s.st1 P i:Int)) P.n) (kp:=lst (λi=>rr (s.keep i)) P.n) (filled:=(fl:Int)) (E:=rs.map Rd.votes) (rest:=(3,(P.seats:Int),0,(P.n:Int),rs.map rdT,rs.flatMap Rd.el)) (v:=λi=>zaj (s.vt P i) s.D) (kk:=(zbh P s el).2.1) (qu:=(zbh P s el).2.2.1) (ex:=(zbh P s el).2.2.2.1) (su:=(zbh P s el).2.2.2.2.1) (el:=el) (ex2:=[]) (ti:=[]) (least:=false) hc (by have:=hP.ties1;omega) hP.ties3 (zhf hP) (λr hr=>by
   obtain⟨r',h1,rfl⟩:=xdx.1 hr;exact(hR.rnd r' h1).1) (by rw[xao];have:=hR.len;omega) (λi hi=>zbb hP hI (zkk hP hI hi)) hl (zbv _ _) (λy hy=>by
   obtain⟨i,h1,h2,_⟩:=zap.1 hy;exact⟨i,h1,h2⟩) hn
 rw[hj]at hd;have ha:(if(s.tied P).length=1 then(s.tied P).headD 0 else zvc P.ties (rs.map Rd.votes) (s.tied P) P.lots false)=(x:Int):=by rw[<-x1];unfold GS.pick;rw[hm];rfl
 rw[ha]at hd;rw[xaa,show d232 (zea P c s (s.st1 P) fl rs) (zbh P s el) (zaq (λi=>decide (s.st1 P i=1)) P.n) false=_ from hd,xaa];have hp:Bz eB (zaj (s.vt P x-s.bar P) (s.vt P x)):=zhj (zfd hP hI (by omega)) (zfd hP hI hg) (by decide);have hk:=d234_eq (keep:=upd s.keep x (zaj (s.vt P x-s.bar P) (s.vt P x))) hP hI hG (c:=c) (lots:=P.lots) (tot:=(P.tot:Int)) (q:=(P.q:Int)) (kp:=lst (λi=>rr (s.keep i)) P.n) (filled:=(fl:Int)) (rest:=((rs.map Rd.votes).map (List.map rr),3,(P.seats:Int),0,(P.n:Int),rs.map rdT,rs.flatMap Rd.el)) (st:=s.st1 P) (st':=upd (s.st1 P) x 2) (x:=x) (a:=s.vt P x-s.bar P) (b:=s.vt P x) (λi=>by
  unfold upd;by_cases h:i=x;·subst h;rw[if_pos rfl,x3];omega
  ·rw[if_neg h]) (by omega) hp
 simp only[zbp,zad,dlt x2,xai,xab,tn,zaf (λi=>rr (zaj (s.vt P i) s.D)) x2,zcm (show P.q<=9223372036854775807 by omega),xaa,zle (zbb hP hI hg).sz2 (zin hP).sz2,zqh hI,zjn hI.D0 k3];have hh:d233 (rr (zaj (s.vt P x-s.bar P) s.D)) (rr (zaj (s.vt P x) s.D))=some (rr (zaj (s.vt P x-s.bar P) (s.vt P x)),true):=by rw[d233_rr (zbb hP hI (by omega)).sz2 (zbb hP hI hg).sz2 (zyw (by omega) hI.D0),frac_div hI.D0 (by omega)]
 have he:d169 (rr (zaj (s.vt P x) s.D)) (rr (zaj (s.bar P) s.D))=some (rr (zaj (s.vt P x-s.bar P) s.D)):=by rw[zle (zbb hP hI hg).sz2 (bar_le hP hI).sz2,zjn hI.D0 k3]
 rw[he,xaa,hh,xaa];simp only[hk,xaa,zad,dlt x2,xab,zcl];have ho:(s.pick P (rs.map Rd.votes)).toNat=x:=by rw[x1];rfl
 congr 1;unfold zea GS.trans GS.tiedR zbh;simp only[ho];have e1:lst (upd (λi=>(s.st1 P i:Int)) x 2) P.n=lst (λi=>((s.move P (upd (s.st1 P) x 2) (upd s.keep x (zaj (s.vt P x-s.bar P) (s.vt P x))) x (s.vt P x-s.bar P) (s.vt P x)).st i:Int)) P.n:=zai λi hi=>by show upd (λi=>(s.st1 P i:Int)) x 2 i=((upd (s.st1 P) x 2 i:Nat):Int);unfold upd;split<;>rfl
 have e2:lst (upd (λi=>rr (s.keep i)) x (rr (zaj (s.vt P x-s.bar P) (s.vt P x)))) P.n=lst (λi=>rr ((s.move P (upd (s.st1 P) x 2) (upd s.keep x (zaj (s.vt P x-s.bar P) (s.vt P x))) x (s.vt P x-s.bar P) (s.vt P x)).keep i)) P.n:=zai λi hi=>by show upd (λi=>rr (s.keep i)) x _ i=rr (upd s.keep x _ i);unfold upd;split<;>rfl
 rw[e1,e2,zqh hI];rfl
set_option maxHeartbeats 1000000 in
def d177_eq(hP:P.OK)(hI:GI P s)(hG:P.G<=1000000){rs:List Rd}(hR:RsOK P s rs){c:CT}(hc:c.2.2.2.2.2.2.1=P.ties)(fl:Nat)(hf:s.fin P=false)(hm:s.most P=false)(el:List Int) :
  d177 (zea P c s (s.st1 P) fl rs) (zbh P s el)=some (zea P c (s.excl P (rs.map Rd.votes)) (s.excl P (rs.map Rd.votes)).st fl rs,(zbh P s el).1,(zbh P s el).2.1,(zbh P s el).2.2.1,(zbh P s el).2.2.2.1,(zbh P s el).2.2.2.2.1,el,[s.pick P (rs.map Rd.votes)],s.tiedR P):=by
 have ho:=hP.n7;obtain⟨x,x1,x2,x3⟩:=zew hP hI hf (rs.map Rd.votes);rw[hm]at x3;have x3':s.st1 P x=0:=by simpa using x3
 have he:zjq true (λx=>zaj (s.vt P x.toNat) s.D) (zaq (λi=>decide (s.st1 P i=0)) P.n)=s.tied P:=by have:=tied_eq hI (s.st1 P) 0 false;unfold GS.tied;rw[hm];exact this
 have hh:zaq (λi=>decide (s.st1 P i=0)) P.n≠ []:=xfp (zap.2 ⟨x,rfl,x2,xae x3'⟩);have hk:(zaq (λi=>decide (s.st1 P i=0)) P.n).length<=1000:=by rw[zav];have:=zax (λi=>decide (s.st1 P i=0)) P.n;omega
 unfold d177;rw[show d172 (zea P c s (s.st1 P) fl rs) 0=some (zaq (λi=>decide (s.st1 P i=0)) P.n)from zpq (k:=zea P c s (s.st1 P) fl rs) rfl (by omega) 0];have hd:=d232_eq (c:=c) (lots:=P.lots) (tot:=(P.tot:Int)) (q:=(P.q:Int)) (pc:=lst (zkb P s) P.G) (stl:=lst (λi=>(s.st1 P i:Int)) P.n) (kp:=lst (λi=>rr (s.keep i)) P.n) (filled:=(fl:Int)) (E:=rs.map Rd.votes) (rest:=(3,(P.seats:Int),0,(P.n:Int),rs.map rdT,rs.flatMap Rd.el)) (v:=λi=>zaj (s.vt P i) s.D) (kk:=(zbh P s el).2.1) (qu:=(zbh P s el).2.2.1) (ex:=(zbh P s el).2.2.2.1) (su:=(zbh P s el).2.2.2.2.1) (el:=el) (ex2:=[]) (ti:=[]) (least:=true) hc (by have:=hP.ties1;omega) hP.ties3 (zhf hP) (λr hr=>by
   obtain⟨r',h1,rfl⟩:=xdx.1 hr;exact(hR.rnd r' h1).1) (by rw[xao];have:=hR.len;omega) (λi hi=>zbb hP hI (zkk hP hI hi)) hh (zbv _ _) (λy hy=>by
   obtain⟨i,h1,h2,_⟩:=zap.1 hy;exact⟨i,h1,h2⟩) hk
 rw[he]at hd;have ha:(if(s.tied P).length=1 then(s.tied P).headD 0 else zvc P.ties (rs.map Rd.votes) (s.tied P) P.lots true)=(x:Int):=by rw[<-x1];unfold GS.pick;rw[hm];rfl
 rw[ha]at hd;rw[xaa,show d232 (zea P c s (s.st1 P) fl rs) (zbh P s el) (zaq (λi=>decide (s.st1 P i=0)) P.n) true=_ from hd,xaa];have hb:=d234_eq (keep:=upd s.keep x 0) hP hI hG (c:=c) (lots:=P.lots) (tot:=(P.tot:Int)) (q:=(P.q:Int)) (kp:=lst (λi=>rr (upd s.keep x 0 i)) P.n) (filled:=(fl:Int)) (rest:=((rs.map Rd.votes).map (List.map rr),3,(P.seats:Int),0,(P.n:Int),rs.map rdT,rs.flatMap Rd.el)) (st:=upd (s.st1 P) x 3) (st':=upd (s.st1 P) x 3) (x:=x) (a:=1) (b:=1) (λi=>Iff.rfl) (by omega) (zhj (xit (by decide)) (xit (by decide)) (by decide));have hg:rr (zaj 1 1)=rr (1:Rat):=by rw[zfw];rfl
 have e1:lst (upd (λi=>(s.st1 P i:Int)) x 3) P.n=lst (λi=>((upd (s.st1 P) x 3 i:Nat):Int)) P.n:=zai λi hi=>by unfold upd;split<;>rfl
 have e2:lst (upd (λi=>rr (s.keep i)) x (rr 0)) P.n=lst (λi=>rr (upd s.keep x 0 i)) P.n:=zai λi hi=>by unfold upd;split<;>rfl
 have hn:d93 0=some (rr 0):=zwt (n:=0) (by omega) (by omega);have hj:d93 1=some (rr 1):=zwt (n:=1) (by omega) (by omega);rw[hg]at hb;simp only[zbp,zad,dlt x2,xai,xab,tn,hn,hj,xaa,zcl,e1,e2,hb];have hl:(s.pick P (rs.map Rd.votes)).toNat=x:=by rw[x1];rfl
 unfold zea GS.excl GS.tiedR zbh;simp only[hl,x1];rfl
end
section
variable {P:GP} {s:GS}
def zmq{α:Type}{l m:List α}(h:l.length+m.length<=4294967296):decide ((l.length:Int)+(m.length:Int)<=LIM)=true:=by rw[show(l.length:Int)+(m.length:Int)=((l.length+m.length:Nat):Int) by omega];exact zcg h
def zyc{c:CT}{s:GS}{st:Nat->Nat}{fl:Nat}{rs:List Rd}{r:Rd}{T:RD}{b:Bool}(hT:T=rdT r)(hr:∀x∈rs,x.el.length<=7)(hl:rs.length<=7)(he:r.el.length<=7) :
  (bif (decide (((zea P c s st fl rs).2.2.2.2.2.2.2.2.1.length:Int)+(([T.1]:List (List Rt)).length:Int)<=LIM))then bif (decide (((zea P c s st fl rs).2.2.2.2.2.2.2.2.2.2.2.2.2.1.length:Int)+(([T]:List RD).length:Int)<=LIM))then bif (decide (((zea P c s st fl rs).2.2.2.2.2.2.2.2.2.2.2.2.2.2.length:Int)+(T.2.2.2.2.2.1.length:Int)<=LIM))then some (!b,((zea P c s st fl rs).1,(zea P c s st fl rs).2.1,(zea P c s st fl rs).2.2.1,(zea P c s st fl rs).2.2.2.1,(zea P c s st fl rs).2.2.2.2.1,(zea P c s st fl rs).2.2.2.2.2.1,(zea P c s st fl rs).2.2.2.2.2.2.1,(zea P c s st fl rs).2.2.2.2.2.2.2.1,((zea P c s st fl rs).2.2.2.2.2.2.2.2.1++[T.1]),(zea P c s st fl rs).2.2.2.2.2.2.2.2.2.1,(zea P c s st fl rs).2.2.2.2.2.2.2.2.2.2.1,(zea P c s st fl rs).2.2.2.2.2.2.2.2.2.2.2.1,(zea P c s st fl rs).2.2.2.2.2.2.2.2.2.2.2.2.1,((zea P c s st fl rs).2.2.2.2.2.2.2.2.2.2.2.2.2.1++[T]),((zea P c s st fl rs).2.2.2.2.2.2.2.2.2.2.2.2.2.2++T.2.2.2.2.2.1)))else none else none else none:Option (Bool×KT))=some (!b,zea P c s st fl (rs++[r])):=by
 subst hT;have h1:=zyx hr;have e1:(zea P c s st fl rs).2.2.2.2.2.2.2.2.1.length=rs.length:=by simp[zea]
 have e2:(zea P c s st fl rs).2.2.2.2.2.2.2.2.2.2.2.2.2.1.length=rs.length:=by simp[zea]
 have e3:(zea P c s st fl rs).2.2.2.2.2.2.2.2.2.2.2.2.2.2.length=(rs.flatMap Rd.el).length:=rfl;rw[zmq (by rw[e1];simp;omega),zmq (by rw[e2];simp;omega),zmq (by rw[e3];show(rs.flatMap Rd.el).length+r.el.length<=_;omega)];simp only[xab,zea,xcc,xfj,xdo,xfa,xdb,xhj,xbn];rfl
def zhz(P:GP)(s:GS)(el ex ti:List Int):((zbh P s el).1,(zbh P s el).2.1,(zbh P s el).2.2.1,(zbh P s el).2.2.2.1,(zbh P s el).2.2.2.2.1,el,ex,ti)=rdT {s.rd0 P with el:=el,ex:=ex,ti:=ti}:=by unfold zbh rdT GS.rd0;simp only[zgj]
set_option maxHeartbeats 2000000 in
def d94_eq(hP:P.OK)(hI:GI P s)(hG:P.G<=1000000){rs:List Rd}(hR:RsOK P s rs){c:CT}(hc:c.2.2.2.2.2.2.1=P.ties)(hcs:c.2.2.2.1=(P.seats:Int)){fl:Nat}(hfl:fl=zbu (λi=>decide (s.st i=1)) P.n+zbu (λi=>decide (s.st i=2)) P.n) :
  (s.fin P=true/\∃st' fl',d94 (zea P c s s.st fl rs)=some (false,zea P c s st' fl' (rs++[s.done P]))) \/
  (s.fin P=false/\s.most P=true/\d94 (zea P c s s.st fl rs)=some (true,zea P c (s.trans P (rs.map Rd.votes)) (s.trans P (rs.map Rd.votes)).st (s.e1 P+s.e2 P) (rs++[{s.rd0 P with ti:=s.tiedR P}]))) \/
  (s.fin P=false/\s.most P=false/\d94 (zea P c s s.st fl rs)=some (true,zea P c (s.excl P (rs.map Rd.votes)) (s.excl P (rs.map Rd.votes)).st (s.e1 P+s.e2 P) (rs++[{s.rd0 P with ti:=s.tiedR P,ex:=[s.pick P (rs.map Rd.votes)]}]))):=by
 have hz:=hP.n7;have jl:=hP.q5;have jm:=hP.tot5;have jn:=hP.seats5;have je:=zlk hP hI;have ji:d93 0=some (rr 0):=zwt (n:=0) (by omega) (by omega);unfold d94;rw[d167_eq hP hI hG (k:=zea P c s s.st fl rs) rfl rfl rfl,xaa,show d168 (zea P c s s.st fl rs).2.2.2.2.2.2.1=some (lst (λi=>rr (s.keep i)) P.n)from d168_eq (by omega) hR.keep,xaa,
  show d93 (zea P c s s.st fl rs).2.2.2.1=some (rr (P.q:Rat))from zcm (by omega),xaa,show d93 (zea P c s s.st fl rs).2.2.1=some (rr (P.tot:Rat))from zcm (by omega),xaa,zad]
 obtain⟨K,hK⟩:∃K:KT,zea P c s s.st fl rs=K:=⟨_,rfl⟩;rw[hK];have partial_le:∀i,i<=P.n->zaz (s.vt P) i<=zaz (s.vt P) P.n:=λi hi=>by
  have key:∀(f:Nat->Nat) (m n:Nat),m<=n->zaz f m<=zaz f n:=by
   intro f m n;induction n with
   |zero=>intro h;rw[show m=0 by omega];exact xag _
   |succ n ih=>
    intro h;by_cases hm:m=n+1;·rw[hm];exact xag _
    ·rw[zaz];have:=ih (by omega);omega
  exact key _ _ _ hi
 have sumS:∀i,zaz (s.vt P) (i+1)=zaz (s.vt P) i+s.vt P i:=λi=>rfl;obtain⟨R0,he⟩:∃R0:Nat->RD,(λi=>((lst (λi=>rr (zaj (s.vt P i) s.D)) P.n,lst (λi=>rr (s.keep i)) P.n,rr (P.q:Rat),rr (zaj (P.tot*s.D-zaz (s.vt P) i) s.D),(false,[],[]),[],[],[]):RD))=R0:=⟨_,rfl⟩;have goalA:∀X:Option (Bool×KT)->Prop,∀Kf:KT×RD->Option (Bool×KT),X (Kf (K,R0 P.n))->X ((zac (β:=(KT×RD)) (λ((t0,t3,t29,t30,t31):KT×RD×(List Rt)×Int×Int)=>bif (decide (t31<t30))then bif (decide (0<=t31)&&decide (t31<(t29.length:Int)))then (d169 t3.2.2.2.1 (List.getD t29 (Int.toNat t31) (false,[],[]))).bind λr_4=>some (Sum.inl (t0,(t3.1,t3.2.1,t3.2.2.1,r_4,t3.2.2.2.2),t29,t30,(w (t31+1))))else none else some (Sum.inr (t0,t3))) (K,(lst (λi=>rr (zaj (s.vt P i) s.D)) P.n,lst (λi=>rr (s.keep i)) P.n,rr (P.q:Rat),rr (P.tot:Rat),(false,[],[]),[],[],[]),lst (λi=>rr (zaj (s.vt P i) s.D)) P.n,(P.n:Int),0)).bind Kf):=by
  intro X Kf hX;refine Eq.mpr (xbr X ?_) hX;refine zaa (λi=>(K,R0 i,lst (λi=>rr (zaj (s.vt P i) s.D)) P.n,(P.n:Int),(i:Int))) P.n (b:=(K,R0 P.n)) ?_ (λi hi=>?_) ?_ rfl;·rw[<-he];simp only[zaz,xir,zhh hI.D0];rfl
  ·have h1:=partial_le i (by omega);have h2:=partial_le (i+1) (by omega);rw[sumS]at h2;have hv:=zkk hP hI hi;have hd:d169 (rr (zaj (P.tot*s.D-zaz (s.vt P) i) s.D)) (rr (zaj (s.vt P i) s.D))=some (rr (zaj (P.tot*s.D-zaz (s.vt P) (i+1)) s.D)):=by rw[zle (zbb hP hI (by omega)).sz2 (zbb hP hI hv).sz2,zjn hI.D0 (by omega),sumS,Nat.sub_sub]
   rw[<-he];simp only[dlt hi,zbp,zad,xai,xab,tn,zaf (λi=>rr (zaj (s.vt P i) s.D)) hi,hd,xaa,wsx i]
  ·simp only[nlt (xag P.n),xaf]
 refine goalA (λz=>(s.fin P=true/\∃st' fl',z=some (false,zea P c s st' fl' (rs++[s.done P]))) \/
  (s.fin P=false/\s.most P=true/\z=some (true,zea P c (s.trans P (rs.map Rd.votes)) (s.trans P (rs.map Rd.votes)).st (s.e1 P+s.e2 P) (rs++[{s.rd0 P with ti:=s.tiedR P}]))) \/
  (s.fin P=false/\s.most P=false/\z=some (true,zea P c (s.excl P (rs.map Rd.votes)) (s.excl P (rs.map Rd.votes)).st (s.e1 P+s.e2 P) (rs++[{s.rd0 P with ti:=s.tiedR P,ex:=[s.pick P (rs.map Rd.votes)]}])))) _ ?_
 clear goalA;simp only;have h5:d172 K 0=some (zaq (λi=>decide (s.st i=0)) P.n):=zpq (k:=K) (by rw[<-hK];rfl) (by omega) 0;rw[h5,xaa];have h6:d171 (zaq (λi=>decide (s.st i=0)) P.n) (λa=>d173 a (R0 P.n))=some (zaq (s.el1 P) P.n):=by
  have hl:(zaq (λi=>decide (s.st i=0)) P.n).length<=1000000:=by rw[zav];have:=zax (λi=>decide (s.st i=0)) P.n;omega
  rw[zpr (g:=λc=>decide (s.vt P c.toNat<s.bar P)) (λx hx=>by obtain⟨i,rfl,hi,_⟩:=zap.1 hx;exact d173_eq hP hI hi (by rw[<-he]) (by rw[<-he])) hl,zem]
  congr 1;refine zfn λi hi=>?_;unfold GS.el1;simp only[xam];congr 1;by_cases h:s.vt P i<s.bar P;·rw[xae h,xah (by omega)];rfl
  ·rw[xah h,xae (by omega)];rfl
 rw[h6,xaa];have hr:fl<=1000:=by have h1:=zax (λi=>decide (s.st i=1)) P.n;have h2:=zax (λi=>decide (s.st i=2)) P.n;omega
 have hp:=cnt_split hI;have h7:d170 K (R0 P.n) (zaq (s.el1 P) P.n)=some (zea P c s (s.st1 P) (s.e1 P+s.e2 P) rs,lst (λi=>rr (zaj (s.vt P i) s.D)) P.n,lst (λi=>rr (s.keep i)) P.n,rr (P.q:Rat),rr (zaj (P.tot*s.D-zaz (s.vt P) P.n) s.D),(false,[],[]),zaq (s.el1 P) P.n,[],[]):=by rw[<-hK,<-he];unfold zea;simp only;rw[d170_eq hz hr (by simp),xdp,zox,hfl,hp];rfl
 rw[h7,xaa,ji,xaa];simp only;have h9:d172 (zea P c s (s.st1 P) (s.e1 P+s.e2 P) rs) 1=some (zaq (λi=>decide (s.st1 P i=1)) P.n):=zpq (k:=zea P c s (s.st1 P) (s.e1 P+s.e2 P) rs) rfl (by omega) 1;have h8:d172 (zea P c s (s.st1 P) (s.e1 P+s.e2 P) rs) 0=some (zaq (λi=>decide (s.st1 P i=0)) P.n):=zpq (k:=zea P c s (s.st1 P) (s.e1 P+s.e2 P) rs) rfl (by omega) 0;rw[h9,xaa];obtain⟨L,hL⟩:∃L,zcy (λi=>decide (s.st1 P i=1)) P.n=L:=⟨_,rfl⟩;have ht:(zaq (λi=>decide (s.st1 P i=1)) P.n).length=L.length:=by rw[<-hL,zaq,xao]
 have jo:L.length<=7:=by rw[<-hL,zcb];have:=zax (λi=>decide (s.st1 P i=1)) P.n;omega
 have h3:(L.map λi=>s.vt P i-s.bar P).sum=zaz (λi=>if s.st1 P i=1 then s.vt P i-s.bar P else 0) P.n:=by
  rw[<-hL,zry];refine zay λi hi=>?_;by_cases h:s.st1 P i=1;·simp[h]
  ·simp[h]
 have jg:(L.map λi=>s.vt P i-s.bar P).sum<=P.tot*s.D:=by rw[h3];exact sur_le hP hI
 rw[ht];obtain⟨K1,h4⟩:∃K1:KT,zea P c s (s.st1 P) (s.e1 P+s.e2 P) rs=K1:=⟨_,rfl⟩;rw[h4];obtain⟨T,hT⟩:∃T:Nat->RD,(λj=>((lst (λi=>rr (zaj (s.vt P i) s.D)) P.n,lst (λi=>rr (s.keep i)) P.n,rr (P.q:Rat),rr (zaj (P.tot*s.D-zaz (s.vt P) P.n) s.D),rr (zaj ((L.take j).map λi=>s.vt P i-s.bar P).sum s.D),zaq (s.el1 P) P.n,[],[]):RD))=T:=⟨_,rfl⟩;have hy:T L.length=zbh P s (zaq (s.el1 P) P.n):=by rw[<-hT];simp only[xaz,h3];rfl
 have goalB:∀X:Option (Bool×KT)->Prop,∀Kf:KT×RD->Option (Bool×KT),X (Kf (K1,zbh P s (zaq (s.el1 P) P.n)))->X ((zac (β:=(KT×RD)) (λ((t0_2,t3_2,t50,t51,t52):KT×RD×(List Int)×Int×Int)=>bif (decide (t52<t51))then bif (decide (0<=t52)&&decide (t52<(t50.length:Int)))then bif (decide (0<=(List.getD t50 (Int.toNat t52) 0))&&decide ((List.getD t50 (Int.toNat t52) 0)<(t3_2.1.length:Int)))then (d169 (List.getD t3_2.1 (Int.toNat (List.getD t50 (Int.toNat t52) 0)) (false,[],[])) t3_2.2.2.1).bind λr_10=>(d175 t3_2.2.2.2.2.1 r_10).bind λr_11=>some (Sum.inl (t0_2,(t3_2.1,t3_2.2.1,t3_2.2.2.1,t3_2.2.2.2.1,r_11,t3_2.2.2.2.2.2),t50,t51,(w (t52+1))))else none else none else some (Sum.inr (t0_2,t3_2))) (K1,(lst (λi=>rr (zaj (s.vt P i) s.D)) P.n,lst (λi=>rr (s.keep i)) P.n,rr (P.q:Rat),rr (zaj (P.tot*s.D-zaz (s.vt P) P.n) s.D),rr 0,zaq (s.el1 P) P.n,[],[]),zaq (λi=>decide (s.st1 P i=1)) P.n,(L.length:Int),0)).bind Kf):=by
  intro X Kf hX;refine Eq.mpr (xbr X ?_) hX;refine zaa (λj=>(K1,T j,zaq (λi=>decide (s.st1 P i=1)) P.n,(L.length:Int),(j:Int))) L.length (b:=(K1,zbh P s (zaq (s.el1 P) P.n))) ?_ (λj hj=>?_) ?_ rfl
  ·rw[<-hT];simp only[xcq,xfa,List.sum_nil];have:zaj 0 s.D=0:=by unfold zaj;rw[xfv];simp
   rw[this];rfl
  ·have hw:j<(zcy (λi=>decide (s.st1 P i=1)) P.n).length:=by rw[hL];exact hj
   have hg:=zdw hw;have hs:=zev hw;rw[hL]at hg hs;obtain⟨x,hx⟩:∃x,L.getD j 0=x:=⟨_,rfl⟩;rw[hx]at hg hs;obtain⟨_,_,k3⟩:=zko hI hg.1 (xbc hg.2);have hv:=zkk hP hI hg.1;have jd:d169 (rr (zaj (s.vt P x) s.D)) (rr (P.q:Rat))=some (rr (zaj (s.vt P x-s.bar P) s.D)):=by rw[zqh hI,zle (zbb hP hI hv).sz2 (bar_le hP hI).sz2,zjn hI.D0 k3]
   have jh:((L.take (j+1)).map λi=>s.vt P i-s.bar P).sum=((L.take j).map λi=>s.vt P i-s.bar P).sum+(s.vt P x-s.bar P):=by rw[zaw L 0 hj,hx,xcc,xim];simp
   have hn:((L.take j).map λi=>s.vt P i-s.bar P).sum<=P.tot*s.D:=by rw[xih];exact xay (zjd _ _) jg
   have jc:d175 (rr (zaj ((L.take j).map λi=>s.vt P i-s.bar P).sum s.D)) (rr (zaj (s.vt P x-s.bar P) s.D))=some (rr (zaj ((L.take (j+1)).map λi=>s.vt P i-s.bar P).sum s.D)):=by rw[zpp (zbb hP hI hn).sz2 (zbb hP hI (by omega)).sz2,zny hI.D0,jh]
   rw[<-hT];simp only[dlt hj,zbp,ht,xai,xab,tn,hs,zad,dlt hg.1,zaf (λi=>rr (zaj (s.vt P i) s.D)) hg.1,jd,jc,xaa,wsx j]
  ·simp only[nlt (xag L.length),xaf,hy]
 refine goalB (λz=>(s.fin P=true/\∃st' fl',z=some (false,zea P c s st' fl' (rs++[s.done P]))) \/
  (s.fin P=false/\s.most P=true/\z=some (true,zea P c (s.trans P (rs.map Rd.votes)) (s.trans P (rs.map Rd.votes)).st (s.e1 P+s.e2 P) (rs++[{s.rd0 P with ti:=s.tiedR P}]))) \/
  (s.fin P=false/\s.most P=false/\z=some (true,zea P c (s.excl P (rs.map Rd.votes)) (s.excl P (rs.map Rd.votes)).st (s.e1 P+s.e2 P) (rs++[{s.rd0 P with ti:=s.tiedR P,ex:=[s.pick P (rs.map Rd.votes)]}])))) _ ?_
 clear goalB hT hy;subst h4;clear hK h5 h6 h7;have ho:(zaq (s.el1 P) P.n).length<=7:=by rw[zav];have:=zax (s.el1 P) P.n;omega
 have jj:=hR.len;have hk:∀x∈rs,x.el.length<=7:=λx hx=>(hR.rnd x hx).2;simp only[zal];have jb:(zea P c s (s.st1 P) (s.e1 P+s.e2 P) rs).2.2.2.2.2.2.2.1=((s.e1 P+s.e2 P:Nat):Int):=rfl;have jf:(zea P c s (s.st1 P) (s.e1 P+s.e2 P) rs).1.2.2.2.1=(P.seats:Int):=hcs;have hu:=ziu hP hI;simp only[jb,jf,zfc];by_cases hq:s.e1 P+s.e2 P=P.seats
 ·have ha:s.fin P=true:=by unfold GS.fin;rw[xeg];exact .inl (xae hq)
  refine .inl ⟨ha,s.st1 P,s.e1 P+s.e2 P,?_⟩;simp only[xae hq,xab];have hb:s.done P={s.rd0 P with el:=zaq (s.el1 P) P.n,ex:=[],ti:=[]}:=by
   unfold GS.done;have h':¬(zbu (λi=>decide (s.st1 P i=1)) P.n+zbu (λi=>decide (s.st1 P i=2)) P.n<P.seats):=by show ¬(s.e1 P+s.e2 P<P.seats);omega
   simp only[if_neg h'];rfl
  rw[hb];exact zyc (b:=true) (zhz P s (zaq (s.el1 P) P.n) [] []) hk (by omega) ho
 ·simp only[xah hq,xaf,h8,xaa];have hf:(zaq (λi=>decide (s.st1 P i=0)) P.n).length=s.e0 P:=zav _ _;have jk:s.e0 P<=7:=by unfold GS.e0;have:=zax (λi=>decide (s.st1 P i=0)) P.n;omega
  rw[hf,zus (by omega)];by_cases hq2:s.e1 P+s.e2 P+s.e0 P<=P.seats
  ·have ha:s.fin P=true:=by unfold GS.fin;rw[xeg];exact .inr (xae hq2)
   rw[show decide (((s.e1 P+s.e2 P+s.e0 P:Nat):Int)<=(P.seats:Int))=true from xae (by omega),xab];have ja:d170 (zea P c s (s.st1 P) (s.e1 P+s.e2 P) rs) (zbh P s (zaq (s.el1 P) P.n)) (zaq (λi=>decide (s.st1 P i=0)) P.n)=some (zea P c s (λi=>if decide (s.st1 P i=0)then 1 else s.st1 P i) (s.e1 P+s.e2 P+s.e0 P) rs,zbh P s (zaq (λi=>s.el1 P i||decide (s.st1 P i=0)) P.n)):=by
    unfold zea zbh;rw[d170_eq (st:=s.st1 P) hz (by omega) (by omega),znf λi hi=>?_];·rfl
    ·rcases zct (P:=P) (s:=s) i with⟨_,_,h2,_⟩|⟨h0,_⟩
     ·rw[h2];rfl
     ·rw[h0]at hi;cases hi
   rw[ja,xaa];refine .inl ⟨ha,λi=>if decide (s.st1 P i=0)then 1 else s.st1 P i,s.e1 P+s.e2 P+s.e0 P,?_⟩;have hb:s.done P={s.rd0 P with el:=zaq (λi=>s.el1 P i||decide (s.st1 P i=0)) P.n,ex:=[],ti:=[]}:=by
    unfold GS.done;have h':zbu (λi=>decide (s.st1 P i=1)) P.n+zbu (λi=>decide (s.st1 P i=2)) P.n<P.seats:=by show s.e1 P+s.e2 P<P.seats;omega
    simp only[if_pos h'];rfl
   rw[hb];exact zyc (b:=true) (zhz P s (zaq (λi=>s.el1 P i||decide (s.st1 P i=0)) P.n) [] []) hk (by omega) (by show(zaq _ _).length<=7;rw[zav];have:=zax (λi=>s.el1 P i||decide (s.st1 P i=0)) P.n;omega)
  ·have ha:s.fin P=false:=by unfold GS.fin;rw[xct];exact⟨xah hq,xah hq2⟩
   rw[show decide (((s.e1 P+s.e2 P+s.e0 P:Nat):Int)<=(P.seats:Int))=false from xah (by omega),xaf,h9,xaa];have hh:(zaq (λi=>decide (s.st1 P i=1)) P.n).length=s.e1 P:=zav _ _;rw[hh];refine .inr ?_;cases hm:s.most P with
   |true=>refine .inl ⟨ha,rfl,?_⟩;have h0:0<s.e1 P:=xbc hm;rw[show decide ((0:Int)<(s.e1 P:Int))=true from xae (by omega),xab,d176_eq hP hI hG hR hc _ ha hm,xaa];exact zyc (b:=false) (zhz P s (zaq (s.el1 P) P.n) [] (s.tiedR P)) hk (by omega) ho
   |false=>refine .inr ⟨ha,rfl,?_⟩;have h0:¬0<s.e1 P:=xev hm;rw[show decide ((0:Int)<(s.e1 P:Int))=false from xah (by omega),xaf,d177_eq hP hI hG hR hc _ ha hm,xaa];exact zyc (b:=false) (zhz P s (zaq (s.el1 P) P.n) [s.pick P (rs.map Rd.votes)] (s.tiedR P)) hk (by omega) ho
end
section
def permB(n:Int)(lots:List Int):Bool:=decide ((lots.length:Int)=n)&&decide (isB n lots)
def zlc(m:Int)(c:CT)(gs:List Grp)(lots:List Int):Int:=bif decide (m<1)||(decide (3<m)|| !decide (c.2.2.1=m))then 5 else bif decide ((c.2.1.length:Int)<1)||(decide (7<(c.2.1.length:Int))||(decide (c.2.2.2.1<1)||(decide (5<c.2.2.2.1)||((decide (m=1)&& !decide (c.2.2.2.1=1))||(!(bif decide (m=2)then decide (1<=c.2.2.2.2.2.1)&&decide (c.2.2.2.2.2.1<=6)else decide (c.2.2.2.2.2.1=0))||(decide (c.2.2.2.2.2.2.1<1)||decide (3<c.2.2.2.2.2.2.1)))))))then 4 else bif !zyg (c.2.1.length:Int) gs then 8 else bif !permB (c.2.1.length:Int) lots then 13 else 0
set_option maxHeartbeats 2000000 in
def d66_eq(m:Int)(c:CT){gs:List Grp}{lots:List Int}(hg:GsOK gs)(hl:lots.length<=281474976710656):d66 m c gs lots=some (zlc m c gs lots):=by
 have hp:decide ((c.2.1.length:Int)<1)=false->decide (7<(c.2.1.length:Int))=false->d133 (c.2.1.length:Int) gs=some (zyg (c.2.1.length:Int) gs):=λh1 h2=>by have h1:=xev h1;have h2:=xev h2;rw[d133_eq (by omega) hg.1 hg.2];unfold zyg goodP;rw[zdt (1<=(c.2.1.length:Int)/\(c.2.1.length:Int)<=7)];rfl
 have hq:decide (7<(c.2.1.length:Int))=false->d134 lots (c.2.1.length:Int)=some (permB (c.2.1.length:Int) lots):=λh2=>by
  have h2:=xev h2;unfold d134 permB;by_cases h:(lots.length:Int)=(c.2.1.length:Int);·rw[xae h,xab,d77_eq (by omega) hl];rfl
  ·rw[xah h];rfl
 unfold d66 zlc;cases he2:decide (m=2)<;>cases hg1:decide (1<=c.2.2.2.2.2.1)<;>simp only[he2,hg1,xat,xap,xab,xaf,xdg,xbz,xcb,xby,xbu,xcn,xaa];all_goals
  rw[zal]
  cases ha1:decide (m<1)
  case true=>simp only[ha1,zal,xat,xap,xab,xaf,xdg,xbz,xcb,xby,xbu,xcn,xaa]
  try simp only[ha1,xat,xap,xab,xaf,xdg,xbz,xcb,xby,xbu,xcn,xaa]
  cases ha2:decide (3<m)
  case true=>simp only[ha2,zal,xat,xap,xab,xaf,xdg,xbz,xcb,xby,xbu,xcn,xaa]
  try simp only[ha2,xat,xap,xab,xaf,xdg,xbz,xcb,xby,xbu,xcn,xaa]
  cases ha3:decide (c.2.2.1=m)
  case false=>simp only[ha3,zal,xat,xap,xab,xaf,xdg,xbz,xcb,xby,xbu,xcn,xaa]
  try simp only[ha3,xat,xap,xab,xaf,xdg,xbz,xcb,xby,xbu,xcn,xaa]
  rw[zal]
  try simp only[xat,xap,xab,xaf,xdg,xbz,xcb,xby,xbu,xcn,xaa]
  cases hn1:decide ((c.2.1.length:Int)<1)
  case true=>simp only[hn1,zal,xat,xap,xab,xaf,xdg,xbz,xcb,xby,xbu,xcn,xaa]
  try simp only[hn1,xat,xap,xab,xaf,xdg,xbz,xcb,xby,xbu,xcn,xaa]
  cases hn2:decide (7<(c.2.1.length:Int))
  case true=>simp only[hn2,zal,xat,xap,xab,xaf,xdg,xbz,xcb,xby,xbu,xcn,xaa]
  try simp only[hn2,xat,xap,xab,xaf,xdg,xbz,xcb,xby,xbu,xcn,xaa]
  simp only[zal,hp hn1 hn2,hq hn2,xat,xap,xab,xaf,xdg,xbz,xcb,xby,xbu,xcn,xaa]
  cases hs1:decide (c.2.2.2.1<1)
  case true=>simp only[hs1,zal,xat,xap,xab,xaf,xdg,xbz,xcb,xby,xbu,xcn,xaa]
  try simp only[hs1,xat,xap,xab,xaf,xdg,xbz,xcb,xby,xbu,xcn,xaa]
  cases hs2:decide (5<c.2.2.2.1)
  case true=>simp only[hs2,zal,xat,xap,xab,xaf,xdg,xbz,xcb,xby,xbu,xcn,xaa]
  try simp only[hs2,xat,xap,xab,xaf,xdg,xbz,xcb,xby,xbu,xcn,xaa]
  cases hm1:decide (m=1)<;>cases hso:decide (c.2.2.2.1=1)<;>simp only[hm1,hso,xat,xap,xab,xaf,xdg,xbz,xcb,xby,xbu,xcn,xaa]
  all_goals (try (cases hg2:decide (c.2.2.2.2.2.1<=6)<;>simp only[hg2,xat,xap,xab,xaf,xdg,xbz,xcb,xby,xbu,xcn,xaa]))
  all_goals (try (cases hg0:decide (c.2.2.2.2.2.1=0)<;>simp only[hg0,xat,xap,xab,xaf,xdg,xbz,xcb,xby,xbu,xcn,xaa]))
  all_goals (try (cases ht1:decide (c.2.2.2.2.2.2.1<1)<;>simp only[ht1,xat,xap,xab,xaf,xdg,xbz,xcb,xby,xbu,xcn,xaa]))
  all_goals (try (cases ht2:decide (3<c.2.2.2.2.2.2.1)<;>simp only[ht2,xat,xap,xab,xaf,xdg,xbz,xcb,xby,xbu,xcn,xaa]))
  all_goals (try (cases zyg (c.2.1.length:Int) gs<;>simp only[xat,xap,xab,xaf,xdg,xbz,xcb,xby,xbu,xcn,xaa]))
  all_goals (try (cases permB (c.2.1.length:Int) lots<;>simp only[xat,xap,xab,xaf,xdg,xbz,xcb,xby,xbu,xcn,xaa]))
def zdy{m:Int}{c:CT}{gs:List Grp}{lots:List Int}(h:zlc m c gs lots=0):1<=m/\m<=3/\c.2.2.1=m/\1<=c.2.1.length/\c.2.1.length<=7/\1<=c.2.2.2.1/\c.2.2.2.1<=5/\(m=1->c.2.2.2.1=1)/\(m=2->1<=c.2.2.2.2.2.1/\c.2.2.2.2.2.1<=6)/\(m≠2->c.2.2.2.2.2.1=0)/\1<=c.2.2.2.2.2.2.1/\c.2.2.2.2.2.2.1<=3/\PileOK (c.2.1.length:Int) gs (zbi (λ_=>1) gs)/\lots.length=c.2.1.length/\isB (c.2.1.length:Int) lots:=by
 unfold zlc at h;by_cases h1:(decide (m<1)||(decide (3<m)|| !decide (c.2.2.1=m)))=true;·rw[h1]at h;exact absurd h (by show ¬(5:Int)=0;omega)
 have h1:(decide (m<1)||(decide (3<m)|| !decide (c.2.2.1=m)))=false:=by simpa using h1
 rw[h1,xaf]at h;cases h2:(decide ((c.2.1.length:Int)<1)||(decide (7<(c.2.1.length:Int))||(decide (c.2.2.2.1<1)||(decide (5<c.2.2.2.1)||((decide (m=1)&& !decide (c.2.2.2.1=1))||(!(bif decide (m=2)then decide (1<=c.2.2.2.2.2.1)&&decide (c.2.2.2.2.2.1<=6)else decide (c.2.2.2.2.2.1=0))||(decide (c.2.2.2.2.2.2.1<1)||decide (3<c.2.2.2.2.2.2.1))))))));case true=>rw[h2]at h;exact absurd h (by show ¬(4:Int)=0;omega)
 rw[h2,xaf]at h;cases h3:zyg (c.2.1.length:Int) gs;case false=>rw[h3]at h;exact absurd h (by show ¬(8:Int)=0;omega)
 rw[h3,xat,xaf]at h;cases h4:permB (c.2.1.length:Int) lots;case false=>rw[h4]at h;exact absurd h (by show ¬(13:Int)=0;omega)
 simp only[xct,xbj,xgw,xak]at h1 h2;obtain⟨a1,a2,a3⟩:=h1;obtain⟨b1,b2,b3,b4,b5,b6,b7,b8⟩:=h2;unfold permB at h4;simp only[xal,xak]at h4;refine⟨by omega,by omega,a3,by omega,by omega,by omega,by omega,λhm=>?_,λhm=>?_,λhm=>?_,by omega,by omega,(pileB_ok h3).2.2,by omega,h4.2⟩;·rw[xae hm,xbu,xgw,xak]at b5;exact b5
 ·rw[xae hm,xab,xal,xak,xak]at b6;exact b6
 ·rw[xah hm,xaf,xak]at b6;exact b6
def d91_eq{b s:Int}(h0:0<=b)(h1:b<=100000)(h2:1<=s)(h3:s<=5):d91 b s=some (b/(s+1)+1):=by have e:w (s+1)=s+1:=zbq (by omega) (by omega);have hd:Int.tdiv b (s+1)=b/(s+1):=xdt h0;have hb:b/(s+1)<=b:=Int.ediv_le_self _ h0;have ha:0<=b/(s+1):=Int.ediv_nonneg h0 (by omega);unfold d91;rw[zal];simp only[zdf (b<0),zdf (100000<b),zdf (s<1),zdf (5<s),xap,xab,xaf,e,zdf (s+1=0),hd];rw[zbq (n:=b/(s+1)) (by omega) (by omega),zbq (by omega) (by omega)]
def PileOK.d90{n:Int}{gs:List Grp}{N:Int}(h:PileOK n gs N)(hn:n<=7):d90 gs=some (zbi (λ_=>1) gs):=by
 obtain⟨hl,hg⟩:=h.sizes hn;have hf:∀p:List Int,0<=(1:Int)/\(1:Int)<=1:=λp=>by omega
 unfold Go.Proofs.YtamgmpngdmnadaaGreat.d90;rw[h.d146 hn];simp only[xaa,xat,xaf];have:d161 gs (λa=>d162 a)=some (zbi (λ_=>1) gs):=by
  unfold d161;refine zaa (b:=zbi (λ_=>1) gs) (λi=>((λa=>d162 a),zbi (λ_=>1) (gs.take i),gs,(gs.length:Int),(i:Int))) gs.length rfl (λi hi=>?_) ?_ rfl;·have h1:=h.part hf (i+1);rw[zdi _ gs hi]at h1;simp only[dlt hi,zbp,xai,xab,tn,d162,xaa,wsx i];rw[zbq (by omega) (by omega),zdi _ gs hi,xkb]
  ·simp only[nlt (xag gs.length),xaf,xaz]
 rw[this];rfl
def zbc(c:CT)(gs:List Grp)(lots:List Int):GP:=
 {gs:=gs,n:=c.2.1.length,seats:=c.2.2.2.1.toNat,q:=(zbi zat gs/(c.2.2.2.1+1)+1).toNat,tot:=(zbi (λ_=>1) gs).toNat,ties:=c.2.2.2.2.2.2.1,lots:=lots}
def zmy{n:Int}{gs:List Grp}{N:Int}(h:PileOK n gs N)(b:List Int->Bool)(c:CT)(lots:List Int):∀m,m<=gs.length->zbi (λp=>if b p then 1 else 0) (gs.take m)=((zaz (λg=>if b ((zbc c gs lots).p g)then(zbc c gs lots).k g else 0) m:Nat):Int)
 | 0,_=>rfl
 |m+1,hm=>by
  have hb:=(h.ballots _ (zba (l:=gs) (d:=([],0)) (i:=m) (by omega))).2;rw[zdi _ gs (by omega),zmy h b c lots m (by omega),zaz,Int.natCast_add];congr 1;show _*(if b (gs.getD m ([],0)).1 then 1 else 0)=((if b (gs.getD m ([],0)).1 then(gs.getD m ([],0)).2.toNat else 0:Nat):Int);split;·rw[xkb];omega
  ·rw[Int.mul_zero];rfl
def quo_lt{m s:Nat}(h1:1<=s)(h5:s<=5):m<(m/(s+1)+1)*(s+1):=by
 have:s=1\/s=2\/s=3\/s=4\/s=5:=by omega
 rcases this with rfl|rfl|rfl|rfl|rfl<;>omega
def zyu{c:CT}{gs:List Grp}{lots:List Int}(h:zlc 3 c gs lots=0):(zbc c gs lots).OK/\(zbc c gs lots).G<=1000000/\c.2.2.2.1=((zbc c gs lots).seats:Int)/\d90 gs=some ((zbc c gs lots).tot:Int)/\d92 gs=some (zbi zat gs)/\d91 (zbi zat gs) c.2.2.2.1=some ((zbc c gs lots).q:Int):=by
 obtain⟨_,_,_,n1,n7,s1,s5,_,_,_,t1,t3,hp,ll,hB⟩:=zdy h;obtain⟨hl,hg⟩:=hp.sizes (by omega);have ha:=hp.part (f:=zat) (λp=>by unfold zat;split<;>omega) gs.length;have he:=hp.part (f:=λ_=>1) (λp=>by omega) gs.length;rw[xaz]at ha he;have hS:c.2.2.2.1=(c.2.2.2.1.toNat:Int):=by omega
 have e1:zbi (λ_=>1) gs=((zaz (zbc c gs lots).k gs.length:Nat):Int):=by have:=zmy hp (λ_=>true) c lots gs.length (xag _);rw[xaz]at this;simpa using this
 have e2:zbi zat gs=(((zbc c gs lots).mkd:Nat):Int):=by
  have:=zmy hp (λp=>decide (p≠ [])) c lots gs.length (xag _);rw[xaz]at this;have hf:(λp:List Int=>if decide (p≠ [])=true then(1:Int)else 0)=zat:=by funext p;unfold zat;by_cases hp:p=[]<;>simp[hp]
  rw[hf]at this;rw[this];congr 1;unfold GP.mkd;refine zay λg hg=>?_;by_cases hp:(zbc c gs lots).p g=[]<;>simp[hp]
 obtain⟨S,hc⟩:∃S,c.2.2.2.1.toNat=S:=⟨_,rfl⟩;have hq:(zbc c gs lots).q=(zbc c gs lots).mkd/(S+1)+1:=by show(zbi zat gs/(c.2.2.2.1+1)+1).toNat=_;rw[e2,hS,hc];rfl
 have hh:(zbc c gs lots).mkd<=100000:=by omega
 have hb:=xed (zbc c gs lots).mkd (S+1);have hd:1<=(zbc c gs lots).q/\(zbc c gs lots).q<=100001:=by rw[hq];generalize(zbc c gs lots).mkd/(S+1)=Q at hb ⊢;omega
 refine⟨⟨n1,n7,by show 1<=c.2.2.2.1.toNat;omega,by show c.2.2.2.1.toNat<=5;omega,λg hgl x hx=>?_,λg hgl=>?_,?_,by show(zbi (λ_=>1) gs).toNat<=_;omega,hd.1,hd.2,?_,t1,t3,ll,λx hx=>?_,hB.1⟩,by show gs.length<=_;omega,?_,?_,hp.d92 (by omega),?_⟩;·have:=(hp.ballots _ (zba (l:=gs) (d:=([],0)) (i:=g) hgl)).1.2 x hx;exact⟨x.toNat,by omega,by show x.toNat<c.2.1.length;omega⟩
 ·exact(hg _ (zba (l:=gs) (d:=([],0)) (i:=g) hgl)).1
 ·show zaz (zbc c gs lots).k gs.length=(zbi (λ_=>1) gs).toNat;omega
 ·rw[hq];show _<_*(c.2.2.2.1.toNat+1);rw[hc];exact quo_lt (by omega) (by omega)
 ·have:=hB.2 x hx;exact⟨x.toNat,by omega,by show x.toNat<c.2.1.length;omega⟩
 ·exact hS
 ·rw[hp.d90 (by omega)];congr 1;show _=((zbi (λ_=>1) gs).toNat:Int);omega
 ·rw[d91_eq ha.1 ha.2 s1 s5];congr 1;show _=((zbi zat gs/(c.2.2.2.1+1)+1).toNat:Int);have:0<=zbi zat gs/(c.2.2.2.1+1):=Int.ediv_nonneg ha.1 (by omega);omega
variable {P:GP} {s:GS}
def RsOK.next(hP:P.OK)(hI:GI P s){rs:List Rd}(hR:RsOK P s rs)(hl:rs.length+1<=7){s':GS}(hk:∀i,i<P.n->Bz eB (s'.keep i)){r:Rd}(hv:r.votes=(s.rd0 P).votes)(he:r.el.length<=7):RsOK P s' (rs++[r]):=by
 refine⟨λx hx=>?_,by simp;omega,hk⟩;rcases xbp.1 hx with hx|hx
 ·exact hR.rnd x hx
 ·rw[xba]at hx;subst hx;rw[hv];exact⟨votes_rnd hP hI,he⟩
def zwq(hP:P.OK):(zaq (s.el1 P) P.n).length<=7:=by rw[zav];have:=zax (s.el1 P) P.n;have:=hP.n7;omega
def zyy{x y:Nat}(hx:x<P.n)(hy:(s.st1 P x=1/\y=2)\/(s.st1 P x=0/\y=3)){st:Nat->Nat}(hst:st=upd (s.st1 P) x y):s.e1 P+s.e2 P=zbu (λi=>decide (st i=1)) P.n+zbu (λi=>decide (st i=2)) P.n:=by
 subst hst;unfold GS.e1 GS.e2 zbu;rw[<-zde,<-zde];refine zay λi hi=>?_;by_cases h:i=x;·subst h;rcases hy with⟨h1,rfl⟩|⟨h1,rfl⟩<;>simp[h1,zce]
 ·simp[upd,h]
def trans_keep(hP:P.OK)(hI:GI P s)(hf:s.fin P=false)(hm:s.most P=true)(earlier:List (List Rat))(hk:∀i,i<P.n->Bz eB (s.keep i)):∀i,i<P.n->Bz eB ((s.trans P earlier).keep i):=by
 intro i hi;obtain⟨x,x1,x2,x3⟩:=zew hP hI hf earlier;have hv:=zkk hP hI x2;unfold GS.trans;simp only[x1,xam];show Bz eB (upd s.keep x _ i);unfold upd;split;·exact zhj (zfd hP hI (by omega)) (zfd hP hI hv) (by decide)
 ·exact hk i hi
def excl_keep(earlier:List (List Rat))(hk:∀i,i<P.n->Bz eB (s.keep i)):∀i,i<P.n->Bz eB ((s.excl P earlier).keep i):=by
 intro i hi;unfold GS.excl;show Bz eB (upd s.keep _ 0 i);unfold upd;split;·exact bz_zero
 ·exact hk i hi
def grun_fin{k:Nat}{rs:List Rd}(hf:s.fin P=true):grun P (k+1) rs s=rs++[s.done P]:=by unfold grun gstep;rw[if_pos hf]
def grun_trans{k:Nat}{rs:List Rd}(hf:s.fin P=false)(hm:s.most P=true):grun P (k+1) rs s=grun P k (rs++[{s.rd0 P with ti:=s.tiedR P}]) (s.trans P (rs.map Rd.votes)):=by rw[grun];unfold gstep;rw[if_neg (by rw[hf];simp),if_pos hm]
def grun_excl{k:Nat}{rs:List Rd}(hf:s.fin P=false)(hm:s.most P=false):grun P (k+1) rs s=grun P k (rs++[{s.rd0 P with ti:=s.tiedR P,ex:=[s.pick P (rs.map Rd.votes)]}]) (s.excl P (rs.map Rd.votes)):=by rw[grun];unfold gstep;rw[if_neg (by rw[hf];simp),if_neg (by rw[hm];simp)]
structure Run(P:GP)(s:GS)(rs:List Rd):Prop where
 inv:GI P s
 ok:RsOK P s rs
 len:rs.length+s.meas P<=P.n
 run:grun P (P.n+1-rs.length) rs s=zkz P
 one:∀i,i<P.n->s.st i=0\/s.st i=1->s.keep i=1
def keep_one{x y:Nat}(hy:y=2\/y=3){k:Rat}{a b:Nat}(h:∀i,i<P.n->s.st i=0\/s.st i=1->s.keep i=1):∀i,i<P.n->(s.move P (upd (s.st1 P) x y) (upd s.keep x k) x a b).st i=0\/(s.move P (upd (s.st1 P) x y) (upd s.keep x k) x a b).st i=1->(s.move P (upd (s.st1 P) x y) (upd s.keep x k) x a b).keep i=1:=by
 intro i hi hs;have ha:upd (s.st1 P) x y i=0\/upd (s.st1 P) x y i=1:=hs;show upd s.keep x k i=1;by_cases hix:i=x;·subst hix;rw[zce]at ha;omega
 ·rw[zfg _ _ hix]at ha ⊢;refine h i hi ?_;rcases zct (P:=P) (s:=s) i with⟨h0,h1,h2,_⟩|⟨h0,h2⟩<;>omega
def Run.start(hP:P.OK):Run P g0 []:=⟨g0_inv hP,⟨λr hr=>by simp at hr,by simp,λi _=>by have:=zhy (n:=1) (by decide);exact this⟩,by simp;exact meas_le _,rfl,λi _ _=>rfl⟩
def Run.trans(hP:P.OK){rs:List Rd}(h:Run P s rs)(hf:s.fin P=false)(hm:s.most P=true):Run P (s.trans P (rs.map Rd.votes)) (rs++[{s.rd0 P with ti:=s.tiedR P}]):=by have ha:=zll hP h.inv hf hm (rs.map Rd.votes);have hl:=h.len;have hn:=hP.n7;refine⟨trans_inv hP h.inv hf hm _,h.ok.next hP h.inv (by omega) (trans_keep hP h.inv hf hm _ h.ok.keep) rfl (zwq hP),by simp;omega,?_,keep_one (.inl rfl) h.one⟩;have hr:=h.run;rw[show P.n+1-rs.length=P.n-rs.length+1 by omega,grun_trans hf hm]at hr;rw[<-hr];congr 1;simp
def Run.excl(hP:P.OK){rs:List Rd}(h:Run P s rs)(hf:s.fin P=false)(hm:s.most P=false):Run P (s.excl P (rs.map Rd.votes)) (rs++[{s.rd0 P with ti:=s.tiedR P,ex:=[s.pick P (rs.map Rd.votes)]}]):=by have ha:=zoh hP h.inv hf hm (rs.map Rd.votes);have hl:=h.len;have hn:=hP.n7;refine⟨excl_inv hP h.inv hf hm _,h.ok.next hP h.inv (by omega) (excl_keep _ h.ok.keep) rfl (zwq hP),by simp;omega,?_,keep_one (.inr rfl) h.one⟩;have hr:=h.run;rw[show P.n+1-rs.length=P.n-rs.length+1 by omega,grun_excl hf hm]at hr;rw[<-hr];congr 1;simp
def Run.fin{rs:List Rd}(h:Run P s rs)(hf:s.fin P=true):rs++[s.done P]=zkz P:=by have hl:=h.len;have hr:=h.run;rw[show P.n+1-rs.length=P.n-rs.length+1 by omega,grun_fin hf]at hr;exact hr
def trT(P:GP):Int×(Int×(Int×(Int×(List RD×List Int)))):=(3,(P.seats:Int),0,(P.n:Int),(zkz P).map rdT,(zkz P).flatMap Rd.el)
set_option maxHeartbeats 1000000 in
def d50_eq{c:CT}{gs:List Grp}{lots:List Int}(hg:GsOK gs)(hl:lots.length<=281474976710656):d50 c gs lots=some (if zlc 3 c gs lots=0 then(trT (zbc c gs lots),0)else((0,0,0,0,[],[]),zlc 3 c gs lots)):=by
 unfold d50;rw[d66_eq 3 c hg hl,xaa];by_cases ha:¬zlc 3 c gs lots=0;·rw[if_neg ha,xah ha];rfl
 have ha:=xhe.1 ha;rw[if_pos ha,xae ha,xat,xaf];obtain⟨hP,hG,hs,hj,ho,hr⟩:=zyu ha;have hw:(zbc c gs lots).gs=gs:=rfl;have hn:c.2.1.length=(zbc c gs lots).n:=rfl;have hv:(zbc c gs lots).lots=lots:=rfl;have hu:c.2.2.2.2.2.2.1=(zbc c gs lots).ties:=rfl;have hk:gs.length=(zbc c gs lots).G:=rfl;have hd:∀i,zkb (zbc c gs lots) g0 i=((gs.getD i ([],0)).1,((gs.getD i ([],0)).2.toNat:Int),0,rr (zaj 1 1)):=λi=>rfl;have hb:∀i,i<gs.length->((gs.getD i ([],0)).2.toNat:Int)=(gs.getD i ([],0)).2:=λi hi=>by obtain⟨_,_,_,_,_,_,_,_,_,_,_,_,hp,_,_⟩:=zdy ha;have:=(hp.ballots _ (zba (l:=gs) (d:=([],0)) (i:=i) hi)).2;omega
 rw[hj,ho,xaa,xaa,hr,xaa];generalize hPP:zbc c gs lots=P at *;have hx:=hP.n7;have hh:d93 1=some (rr 1):=zwt (n:=1) (by omega) (by omega);have hc:rr (zaj 1 1)=rr (1:Rat):=by rw[zfw];rfl
 rw[hn];simp only[xbh,zbp,zcg (n:=P.n) (by omega),xai,xab,tn,hs];refine zaa (λi=>(gs,(0,0,0,0,[],[]),(c,lots,(P.tot:Int),(P.q:Int),[],List.replicate P.n 0,lst (λ_=>rr 1) i,0,[],3,(P.seats:Int),0,(P.n:Int),[],[]),(P.n:Int),(i:Int))) P.n rfl (λi hi=>?_) (b:=(gs,(0,0,0,0,[],[]),(c,lots,(P.tot:Int),(P.q:Int),[],List.replicate P.n 0,lst (λ_=>rr 1) P.n,0,[],3,(P.seats:Int),0,(P.n:Int),[],[]))) ?_ ?_;·have hl:=zch (l:=lst (λ_=>rr (1:Rat)) i) (d:=rr 1) (by rw[zad];omega);simp only[dlt hi,xab,hh,xaa,hl,wsx i,<-zcz]
 ·simp only[nlt (xag P.n),xaf]
 simp only;refine zaa (λi=>((0,0,0,0,[],[]),(c,lots,(P.tot:Int),(P.q:Int),lst (zkb P g0) i,List.replicate P.n 0,lst (λ_=>rr 1) P.n,0,[],3,(P.seats:Int),0,(P.n:Int),[],[]),gs,(gs.length:Int),(i:Int))) gs.length rfl (λi hi=>?_) (b:=((0,0,0,0,[],[]),(c,lots,(P.tot:Int),(P.q:Int),lst (zkb P g0) gs.length,List.replicate P.n 0,lst (λ_=>rr 1) P.n,0,[],3,(P.seats:Int),0,(P.n:Int),[],[]))) ?_ ?_;·have hl:=zch (l:=lst (zkb P g0) i) (d:=((gs.getD i ([],0)).1,(gs.getD i ([],0)).2,0,rr 1)) (by rw[zad];omega);simp only[dlt hi,zbp,xai,xab,tn,hh,xaa,hl,wsx i,zcz,hd,hb i hi,hc]
 ·simp only[nlt (xag gs.length),xaf]
 simp only;have hq:(c,lots,(P.tot:Int),(P.q:Int),lst (zkb P g0) gs.length,List.replicate P.n 0,lst (λ_=>rr 1) P.n,0,[],3,(P.seats:Int),0,(P.n:Int),[],[])=zea P c g0 g0.st 0 []:=by unfold zea;rw[hv,hk,zii];rfl
 rw[hq];refine zfs (Q:=λr=>r=some (trT P,0)) (λ(M:Nat) (st:(Int×(Int×(Int×(Int×(List RD×List Int)))))×KT)=>∃(s:GS) (rs:List Rd) (fl:Nat),st=((0,0,0,0,[],[]),zea P c s s.st fl rs)/\Run P s rs/\fl=zbu (λi=>decide (s.st i=1)) P.n+zbu (λi=>decide (s.st i=2)) P.n/\M=s.meas P) (g0.meas P) ⟨g0,[],0,rfl,Run.start hP,?_,rfl⟩ ?_
 ·have e1:zbu (λi=>decide (g0.st i=1)) P.n=0:=by unfold zbu;exact zet _
  have e2:zbu (λi=>decide (g0.st i=2)) P.n=0:=by unfold zbu;exact zet _
  rw[e1,e2]
 ·rintro M st ⟨s,rs,fl,rfl,hR,hfl,rfl⟩;rcases d94_eq hP hR.inv hG hR.ok hu hs hfl with⟨hf,st',fl',he⟩|⟨hf,hm,he⟩|⟨hf,hm,he⟩
  ·refine .inr ⟨((0,0,0,0,[],[]),zea P c s st' fl' (rs++[s.done P])),by simp only[he,xaa,xaf],?_⟩;show some ((3,(P.seats:Int),0,(P.n:Int),(rs++[s.done P]).map rdT,(rs++[s.done P]).flatMap Rd.el),0)=some (trT P,0);rw[hR.fin hf];rfl
  ·have ht:=zll hP hR.inv hf hm (rs.map Rd.votes);obtain⟨x,x1,x2,x3⟩:=zew hP hR.inv hf (rs.map Rd.votes);rw[hm,if_pos rfl]at x3;exact .inl ⟨_,(s.trans P (rs.map Rd.votes)).meas P,by simp only[he,xaa,xab],by omega,_,_,_,rfl,hR.trans hP hf hm,zyy x2 (.inl ⟨x3,rfl⟩) (by unfold GS.trans;simp only[x1,xam];rfl),rfl⟩
  ·have ht:=zoh hP hR.inv hf hm (rs.map Rd.votes);obtain⟨x,x1,x2,x3⟩:=zew hP hR.inv hf (rs.map Rd.votes);rw[hm]at x3;have x3':s.st1 P x=0:=by simpa using x3
   exact .inl ⟨_,(s.excl P (rs.map Rd.votes)).meas P,by simp only[he,xaa,xab],by omega,_,_,_,rfl,hR.excl hP hf hm,zyy x2 (.inr ⟨x3',rfl⟩) (by unfold GS.excl;simp only[x1,xam];rfl),rfl⟩
end
def d45_eq{n:Nat}(hn:n<=1000):∃l,d45 (n:Int)=some l/\l.length=n:=by
 unfold d45;refine⟨lst (λi=>[wu8 (w (97+(i:Int)))]) n,?_,zad _ _⟩;refine zaa (λi=>((n:Int),lst (λi=>[wu8 (w (97+(i:Int)))]) i,(i:Int))) n rfl (λi hi=>?_) ?_ rfl;·simp only[dlt hi,xab,zch (l:=lst (λi=>[wu8 (w (97+(i:Int)))]) i) (d:=[wu8 (w (97+(i:Int)))]) (by rw[zad];omega),wsx i,zcz]
 ·simp only[nlt (xag n),xaf]
structure ConOK(c:CT)(n:Nat)(m:Int):Prop where
 names:c.2.1.length=n
 method:c.2.2.1=m
 seats1:1<=c.2.2.2.1
 seats5:c.2.2.2.1<=5
 seat:m=1->c.2.2.2.1=1
 digits:m=2->1<=c.2.2.2.2.2.1/\c.2.2.2.2.2.1<=6
 nodigits:m≠2->c.2.2.2.2.2.1=0
 ties1:1<=c.2.2.2.2.2.2.1
 ties3:c.2.2.2.2.2.2.1<=3
def d17_eq{n:Nat}(hn:n<=1000){m seats digits ties:Int}(hm:WT (.int .i64) m)(hs:WT (.int .i64) seats)(hd:WT (.int .i64) digits)(ht:WT (.int .i64) ties):∃c:CT,d17 m (n:Int) seats digits ties=some c/\ConOK c n (1+m%3)/\c.2.2.2.1=(if 1+m%3=1 then 1 else 1+seats%5)/\c.2.2.2.2.2.2.1=1+ties%3:=by
 obtain⟨l,l1,l2⟩:=d45_eq (n:=n) hn;unfold d17;rw[l1,zqm hm (by omega) (by omega),zqm hs (by omega) (by omega),zqm ht (by omega) (by omega),zqm hd (by omega) (by omega)];simp only[xaa,zal];have w1:w (1+m%3)=1+m%3:=zbq (by omega) (by omega);have w2:w (1+seats%5)=1+seats%5:=zbq (by omega) (by omega);have w3:w (1+ties%3)=1+ties%3:=zbq (by omega) (by omega);have w4:w (1+digits%6)=1+digits%6:=zbq (by omega) (by omega);simp only[w1,w2,w3,w4];have ha:1+m%3=1\/1+m%3=2\/1+m%3=3:=by omega
 rcases ha with h|h|h
 ·rw[h];exact⟨_,rfl,⟨l2,rfl,by show(1:Int)<=1;omega,by show(1:Int)<=5;omega,λ_=>rfl,λh=>absurd h (by omega),λ_=>rfl,by show 1<=1+ties%3;omega,by show 1+ties%3<=3;omega⟩,rfl,rfl⟩
 ·rw[h];exact⟨_,rfl,⟨l2,rfl,by show 1<=1+seats%5;omega,by show 1+seats%5<=5;omega,λh=>absurd h (by omega),λ_=>by show 1<=1+digits%6/\1+digits%6<=6;omega,λh=>absurd rfl h,by show 1<=1+ties%3;omega,by show 1+ties%3<=3;omega⟩,rfl,rfl⟩
 ·rw[h];exact⟨_,rfl,⟨l2,rfl,by show 1<=1+seats%5;omega,by show 1+seats%5<=5;omega,λh=>absurd h (by omega),λh=>absurd h (by omega),λ_=>rfl,by show 1<=1+ties%3;omega,by show 1+ties%3<=3;omega⟩,rfl,rfl⟩
def d18_eq{n:Nat}(hn:n<=1000){code:Int}(hc:WT (.int .i64) code):∃l,d18 (n:Int) code=some l/\l.length=n/\isB (n:Int) l:=by
 have ha:∀x:Int,WT (.int .i64) x->-9223372036854775808<=x/\x<=9223372036854775807:=λx hx=>wt_int hx;unfold d18;refine zcs (Q:=λr=>∃l,r=some l/\l.length=n/\isB (n:Int) l) (λ(i:Nat) (st:Int×Int×(List Int)×Int)=>∃(cd:Int) (out:List Int),st=((n:Int),cd,out,(i:Int))/\WT (.int .i64) cd/\out.length=i/\isB (i:Int) out) n ?_ ?_ ?_;·exact⟨code,[],rfl,hc,rfl,xjc,λx hx=>by simp at hx⟩
 ·rintro i st hi ⟨cd,out,rfl,hcd,hlen,hb⟩;have he:=ha cd hcd;have b:=zip cd (n:=((i+1:Nat):Int)) (by omega);obtain⟨r,hr⟩:∃r:Nat,cd%((i+1:Nat):Int)=(r:Int):=⟨(cd%((i+1:Nat):Int)).toNat,by omega⟩;have hf:r<=i:=by omega
  have c1:zcr 0 (r:Int) out.length=true:=by unfold zcr;simp only[xal,xak];omega
  have c2:zcr (r:Int) (out.length:Int) out.length=true:=by unfold zcr;simp only[xal,xak];omega
  have hq:-9223372036854775808<=Int.tdiv cd ((i+1:Nat):Int)/\Int.tdiv cd ((i+1:Nat):Int)<=9223372036854775807:=by
   have h1:=Int.natAbs_tdiv_le_natAbs cd ((i+1:Nat):Int);by_cases h0:cd=-9223372036854775808
   ·subst h0;have h2:Int.tdiv (-9223372036854775808) ((i+1:Nat):Int)=-(Int.tdiv 9223372036854775808 ((i+1:Nat):Int)):=by rw[<-Int.neg_tdiv]
    have h3:0<=Int.tdiv 9223372036854775808 ((i+1:Nat):Int):=Int.tdiv_nonneg (by omega) (by omega);omega
   ·omega
  have hd:decide (((i+1:Nat):Int)=0)=false:=xah (by omega);have ht:(out.take r).length=r:=by rw[xax];omega
  have l1:decide ((([]:List Int).length:Int)+((out.take r).length:Int)<=LIM)=true:=zmq (by rw[ht];simp;omega);have l2:=zch (l:=out.take r) (d:=(i:Int)) (by omega);have l3:decide (((out.take r++[(i:Int)]).length:Int)+((out.drop r).length:Int)<=LIM)=true:=zmq (by simp;omega);simp only[dlt hi,xab,wsx i,zqm hcd (show(0:Int)<((i+1:Nat):Int) by omega) (by omega),hr,xaa,hd,xap,c1,c2,xhi,tn,xaz,l1,l2,l3];refine⟨_,rfl,_,_,rfl,?_,by simp;omega,?_,λx hx=>?_⟩;·rw[zbq hq.1 hq.2];exact zbq hq.1 hq.2
  ·have hp:(out.take r++[(i:Int)]++out.drop r).Perm ((i:Int)::out):=by
    have h1:(out.take r++[(i:Int)]++out.drop r).Perm ([(i:Int)]++out.take r++out.drop r):=xjp _ xib;have h2:[(i:Int)]++out.take r++out.drop r=(i:Int)::out:=by rw[xbv,xcp];rfl
    rwa[h2]at h1
   refine hp.nodup_iff.2 (xfb.2 ⟨λhm=>?_,hb.1⟩);have:=hb.2 _ hm;omega
  ·simp only[xbp,xba]at hx;rcases hx with(hx|hx)|hx
   ·have:=hb.2 x (xca hx);omega
   ·omega
   ·have:=hb.2 x (xeu hx);omega
 ·rintro st ⟨cd,out,rfl,hcd,hlen,hb⟩;exact⟨out,by simp only[nlt (xag n),xaf],out,rfl,hlen,hb⟩
def ztc{c:CT}{n:Nat}{m:Int}{gs:List Grp}{lots:List Int}{N:Int}(hc:ConOK c n m)(hm:1<=m)(hm3:m<=3)(h1:1<=n)(h7:n<=7)(hp:PileOK (n:Int) gs N)(hl:lots.length=n)(hb:isB (n:Int) lots):zlc m c gs lots=0:=by
 have hn:=hc.names;have hd:zyg (n:Int) gs=true:=by unfold zyg goodP;rw[xae hp.good,zdt (1<=(n:Int)/\(n:Int)<=7)];rfl
 have ha:permB (n:Int) lots=true:=by unfold permB;rw[xae hb,xae (by omega)];rfl
 have:=hc.seats1;have:=hc.seats5;have:=hc.ties1;have:=hc.ties3;unfold zlc;rw[hn,hd,ha];simp only[zdf (m<1),zdf (3<m),xae hc.method,zdf ((n:Int)<1),zdf (7<(n:Int)),zdf (c.2.2.2.1<1),zdf (5<c.2.2.2.1),zdf (c.2.2.2.2.2.2.1<1),zdf (3<c.2.2.2.2.2.2.1),xat,xby,xbz,xaf];have h1:(decide (m=1)&& !decide (c.2.2.2.1=1))=false:=by
  by_cases h:m=1;·rw[xae (hc.seat h)];simp
  ·rw[xah h];rfl
 have h2:(bif decide (m=2)then decide (1<=c.2.2.2.2.2.1)&&decide (c.2.2.2.2.2.1<=6)else decide (c.2.2.2.2.2.1=0))=true:=by
  by_cases h:m=2;·rw[xae h,xab,xae (hc.digits h).1,xae (hc.digits h).2];rfl
  ·rw[xah h,xaf,xae (hc.nodigits h)]
 rw[h1,h2];rfl
def gs_of{n:Nat}(h7:n<=7){gs:List Grp}{N:Int}(hp:PileOK (n:Int) gs N):GsOK gs:=hp.gs (by omega)
section
inductive Tr(P:GP):GS->List Rd->List Rd->Prop
 |fin {s:GS} {rs:List Rd}:Run P s rs->s.fin P=true->Tr P s rs [s.done P]
 |trans {s:GS} {rs rest:List Rd}:Run P s rs->s.fin P=false->s.most P=true->Tr P (s.trans P (rs.map Rd.votes)) (rs++[{s.rd0 P with ti:=s.tiedR P}]) rest->Tr P s rs ({s.rd0 P with ti:=s.tiedR P}::rest)
 |excl {s:GS} {rs rest:List Rd}:Run P s rs->s.fin P=false->s.most P=false->Tr P (s.excl P (rs.map Rd.votes)) (rs++[{s.rd0 P with ti:=s.tiedR P,ex:=[s.pick P (rs.map Rd.votes)]}]) rest->Tr P s rs ({s.rd0 P with ti:=s.tiedR P,ex:=[s.pick P (rs.map Rd.votes)]}::rest)
def tr_ex{P:GP}(hP:P.OK):∀(m:Nat) {s:GS} {rs:List Rd},s.meas P<m->Run P s rs->∃rest,Tr P s rs rest/\rs++rest=zkz P
 | 0,_,_,h,_=>by omega
 |m+1,s,rs,h,hR=>by
  cases hf:s.fin P with
  |true=>exact⟨_,.fin hR hf,hR.fin hf⟩
  |false=>
   cases hm:s.most P with
   |true=>have hme:=zll hP hR.inv hf hm (rs.map Rd.votes);obtain⟨rest,h1,h2⟩:=tr_ex hP m (by omega) (hR.trans hP hf hm);exact⟨_,.trans hR hf hm h1,by rw[<-h2,xbv];rfl⟩
   |false=>have hme:=zoh hP hR.inv hf hm (rs.map Rd.votes);obtain⟨rest,h1,h2⟩:=tr_ex hP m (by omega) (hR.excl hP hf hm);exact⟨_,.excl hR hf hm h1,by rw[<-h2,xbv];rfl⟩
def znx{P:GP}(hP:P.OK):Tr P g0 [] (zkz P):=by obtain⟨rest,h1,h2⟩:=tr_ex hP (g0.meas P+1) (by omega) (Run.start hP);rw[xdp]at h2;rwa[h2]at h1
variable {P:GP} {s:GS}
def Tr.ne{rs rest:List Rd}(h:Tr P s rs rest):rest≠ []:=by cases h<;>simp
def el1_hop{i:Nat}(h:s.el1 P i=true):s.st i=0:=by unfold GS.el1 at h;rw[xal,xak]at h;exact h.1
def trans_st(hP:P.OK)(hI:GI P s)(hf:s.fin P=false)(hm:s.most P=true)(E:List (List Rat)):∃x,x<P.n/\s.st1 P x=1/\s.pick P E=(x:Int)/\s.trans P E=s.move P (upd (s.st1 P) x 2) (upd s.keep x (zaj (s.vt P x-s.bar P) (s.vt P x))) x (s.vt P x-s.bar P) (s.vt P x):=by obtain⟨x,x1,x2,x3⟩:=zew hP hI hf E;rw[hm,if_pos rfl]at x3;exact⟨x,x2,x3,x1,by unfold GS.trans;simp only[x1,xam]⟩
def excl_st(hP:P.OK)(hI:GI P s)(hf:s.fin P=false)(hm:s.most P=false)(E:List (List Rat)):∃x,x<P.n/\s.st1 P x=0/\s.pick P E=(x:Int)/\s.excl P E=s.move P (upd (s.st1 P) x 3) (upd s.keep x 0) x 1 1:=by obtain⟨x,x1,x2,x3⟩:=zew hP hI hf E;rw[hm]at x3;exact⟨x,x2,by simpa using x3,x1,by unfold GS.excl;simp only[x1,xam]⟩
def next_hop{x y:Nat}(hy:y≠0){keep:Nat->Rat}{a b i:Nat}(h:(s.move P (upd (s.st1 P) x y) keep x a b).st i=0):s.st i=0/\s.el1 P i=false:=by
 have h':upd (s.st1 P) x y i=0:=h;unfold upd at h';split at h';·omega
 ·rcases zct (P:=P) (s:=s) i with⟨h0,h1,h2,_⟩|⟨h0,h2⟩
  ·omega
  ·exact⟨by omega,h0⟩
def zfm(p:Nat->Bool)(n:Nat):(zaq p n).Nodup:=(zbv p n).imp λh=>by omega
def gcount_ne(hP:P.OK):zkz P≠ []:=(znx hP).ne
end
section
def mup(a b:Nat):Nat:=(a+b-1)/b
structure MP where
 P:GP
 one:Nat
 om:Nat
def mw(one:Nat)(kp:Nat->Nat)(p:List Int):Nat->Nat
 | 0=>one
 |j+1=>mw one kp p j-mup (mw one kp p j*kp (p.getD j 0).toNat) one
def zge(one:Nat)(kp:Nat->Nat)(p:List Int)(j:Nat):Nat:=mup (mw one kp p j*kp (p.getD j 0).toNat) one
def mgive(one:Nat)(kp:Nat->Nat)(p:List Int)(c:Nat):Nat:=zaz (λj=>if p.getD j 0=(c:Int)then zge one kp p j else 0) p.length
def mvo(P:GP)(one:Nat)(kp:Nat->Nat)(c:Nat):Nat:=zaz (λg=>P.k g*mgive one kp (P.p g) c) P.G
def mro(P:GP)(one:Nat)(kp:Nat->Nat):Nat:=zaz (λg=>P.k g*mw one kp (P.p g) (P.p g).length) P.G
structure MS where
 st:Nat->Nat
 kp:Nat->Nat
 since:Nat
 bef:Option Nat
def MS.v(Q:MP)(s:MS)(c:Nat):Nat:=mvo Q.P Q.one s.kp c
def MS.rest(Q:MP)(s:MS):Nat:=mro Q.P Q.one s.kp
def MS.quo(Q:MP)(s:MS):Nat:=zaz (s.v Q) Q.P.n/(Q.P.seats+1)+1
def MS.reach(Q:MP)(s:MS)(i:Nat):Bool:=decide (s.st i=0)&&decide (s.quo Q<=s.v Q i)
def zef(v:Nat->Nat)(lots:List Int)(d i:Nat):Bool:=decide (v i<v d)||(decide (v d=v i)&&decide (zan lots (d:Int)<zan lots (i:Int)))
def MS.fl(Q:MP)(s:MS):Nat:=zbu (λi=>decide (s.st i=1)) Q.P.n
def MS.rank(Q:MP)(s:MS)(i:Nat):Nat:=zbu (λd=>s.reach Q d&&zef (s.v Q) Q.P.lots d i) Q.P.n
def MS.el(Q:MP)(s:MS)(i:Nat):Bool:=s.reach Q i&&decide (s.rank Q i<Q.P.seats-s.fl Q)
def MS.st1(Q:MP)(s:MS)(i:Nat):Nat:=if s.el Q i then 1 else s.st i
def MS.sur(Q:MP)(s:MS):Nat:=zaz (λi=>if s.st1 Q i=1 then s.v Q i-s.quo Q else 0) Q.P.n
def MS.f1(Q:MP)(s:MS):Nat:=zbu (λi=>decide (s.st1 Q i=1)) Q.P.n
def MS.h1(Q:MP)(s:MS):Nat:=zbu (λi=>decide (s.st1 Q i=0)) Q.P.n
def MS.some1(Q:MP)(s:MS):Bool:=decide (0<zbu (s.el Q) Q.P.n)
def MS.stall(Q:MP)(s:MS):Bool:=decide (s.sur Q<Q.om)||decide (60<=s.since+1)||(match s.bef with | some b=>decide (b<=s.sur Q) | none=>false)
def MS.near(Q:MP)(s:MS)(i:Nat):Bool:=decide (s.st i=0)&&(List.range Q.P.n).all λk=>!decide (s.st k=0)||decide (s.v Q i<=s.v Q k+s.sur Q)
def MS.tied(Q:MP)(s:MS):List Int:=zaq (s.near Q) Q.P.n
def MS.pick(Q:MP)(E:List (List Rat))(s:MS):Int:=if(s.tied Q).length=1 then(s.tied Q).headD 0 else zvc Q.P.ties E (s.tied Q) Q.P.lots true
def MS.rd0(Q:MP)(s:MS):Rd:=
 {votes:=lst (λi=>zaj (s.v Q i) Q.one) Q.P.n
  keep:=lst (λi=>zaj (s.kp i) Q.one) Q.P.n
  quota:=zaj (s.quo Q) Q.one
  exh:=zaj (s.rest Q) Q.one
  sur:=zaj (s.sur Q) Q.one
  el:=zaq (s.el Q) Q.P.n
  ex:=[]
  ti:=[]}
def MS.fin(Q:MP)(s:MS):Bool:=decide (s.f1 Q=Q.P.seats)||decide (s.f1 Q+s.h1 Q<=Q.P.seats)
def MS.done(Q:MP)(s:MS):Rd:={s.rd0 Q with el:=if s.f1 Q=Q.P.seats then zaq (s.el Q) Q.P.n else zaq (λi=>s.el Q i||decide (s.st1 Q i=0)) Q.P.n}
def MS.excl(Q:MP)(E:List (List Rat))(s:MS):MS:={st:=upd s.st (s.pick Q E).toNat 2,kp:=upd s.kp (s.pick Q E).toNat 0,since:=0,bef:=none}
def MS.kp1(Q:MP)(s:MS)(i:Nat):Nat:=if s.st1 Q i=1/\0<s.v Q i then min Q.one (mup (mup (s.kp i*s.quo Q) Q.one*Q.one) (s.v Q i))else s.kp i
def MS.redu(Q:MP)(s:MS):MS:={st:=s.st1 Q,kp:=s.kp1 Q,since:=if s.some1 Q then 0 else s.since+1,bef:=some (s.sur Q)}
def MS.exR(Q:MP)(E:List (List Rat))(s:MS):Rd:={s.rd0 Q with ex:=[s.pick Q E],ti:=if(s.tied Q).length=1 then []else s.tied Q}
def MS.cut(Q:MP)(s:MS):Bool:=!s.some1 Q&&s.stall Q
def mstep(Q:MP)(E:List (List Rat))(s:MS):Rd×Option MS:=
 if s.fin Q then(s.done Q,none)else if s.cut Q then(s.exR Q E,some (s.excl Q E))else(s.rd0 Q,some (s.redu Q))
def mrun(Q:MP):Nat->List Rd->MS->List Rd
 | 0,rs,_=>rs
 |k+1,rs,s=>match mstep Q (rs.map Rd.votes) s with
  |(r,none)=>rs++[r]
  |(r,some s')=>mrun Q k (rs++[r]) s'
def MP.s0(Q:MP):MS:={st:=λ_=>0,kp:=λ_=>Q.one,since:=0,bef:=none}
def zmg(Q:MP):List Rd:=mrun Q 500 [] Q.s0
def mup_le{a b c:Nat}(hb:0<b)(h:a<=c*b):mup a b<=c:=by
 unfold mup;have:(a+b-1)/b<c+1:=by rw[xga hb,xco];omega
 omega
def mup_pos{a b:Nat}(hb:0<b)(ha:0<a):0<mup a b:=by unfold mup;exact Nat.div_pos (by omega) hb
section
variable {one:Nat} {kp:Nat->Nat} (h1:0<one) (hk:∀c,kp c<=one)
include h1 hk
def zlq(p:List Int)(j:Nat):zge one kp p j<=mw one kp p j:=mup_le h1 (xcy _ (hk _))
def mw_step(p:List Int)(j:Nat):mw one kp p (j+1)+zge one kp p j=mw one kp p j:=by have:=zlq h1 hk p j;show mw one kp p j-zge one kp p j+_=_;omega
def mw_sum(p:List Int):∀j,zaz (zge one kp p) j+mw one kp p j=one
 | 0=>by show 0+one=one;omega
 |j+1=>by have h2:=mw_sum p j;have h3:=mw_step h1 hk p j;rw[zaz];omega
def mw_le(p:List Int)(j:Nat):mw one kp p j<=one:=by have:=mw_sum h1 hk p j;omega
def mgive_sum{n:Nat}{p:List Int}(hp:∀c∈p,∃i:Nat,c=(i:Int)/\i<n):zaz (mgive one kp p) n+mw one kp p p.length=one:=by
 have hm:=mw_sum h1 hk p p.length;refine Eq.trans ?_ hm;congr 1;unfold mgive;rw[znd (λc j=>if p.getD j 0=(c:Int)then zge one kp p j else 0)];refine zay λj hj=>?_;obtain⟨i,e,hi⟩:=hp _ (zbx hj);rw[e];have:zaz (λc:Nat=>if(i:Int)=(c:Int)then zge one kp p j else 0) n=zaz (λc=>if c=i then zge one kp p j else 0) n:=zay λc _=>by
  by_cases h:c=i;·subst h;rw[if_pos rfl,if_pos rfl]
  ·rw[if_neg h,if_neg (by omega)]
 rw[this,zxq,if_pos hi]
def mv_sum{P:GP}(hP:P.OK):zaz (mvo P one kp) P.n+mro P one kp=P.tot*one:=by
 unfold mvo mro;rw[znd (λc g=>P.k g*mgive one kp (P.p g) c),<-zde,<-hP.total,<-zhr];refine zay λg hg=>?_;have h2:=mgive_sum h1 hk (n:=P.n) (hP.prefs g hg);have h3:zaz (λc=>P.k g*mgive one kp (P.p g) c) P.n=P.k g*zaz (mgive one kp (P.p g)) P.n:=by rw[xce,<-zhr];exact zay λc _=>xce _ _
 rw[h3,<-xcv,h2]
def mv_le{P:GP}(hP:P.OK){c:Nat}(hc:c<P.n):mvo P one kp c<=P.tot*one:=by have h2:=mv_sum h1 hk hP;have h3:=zfi (f:=mvo P one kp) hc;omega
end
structure MP.OK(Q:MP):Prop where
 P:Q.P.OK
 one1:0<Q.one
 one6:Q.one<=1000000
 om:0<Q.om
structure MI(Q:MP)(s:MS):Prop where
 st2:∀c,s.st c<=2
 kp1:∀c,s.kp c<=Q.one
 hop:∀c,s.st c=0->s.kp c=Q.one
 elc:∀c,s.st c=1->0<s.kp c
 exc:∀c,s.st c=2->s.kp c=0
 since:s.since<=59
 fill:s.fl Q<Q.P.seats
 left:0<zbu (λi=>decide (s.st i=0)) Q.P.n
variable {Q:MP} {s:MS}
def MS.v_le(hQ:Q.OK)(hI:MI Q s){c:Nat}(hc:c<Q.P.n):s.v Q c<=Q.P.tot*Q.one:=mv_le hQ.one1 hI.kp1 hQ.P hc
def MS.sum_le(hQ:Q.OK)(hI:MI Q s):zaz (s.v Q) Q.P.n+s.rest Q=Q.P.tot*Q.one:=mv_sum hQ.one1 hI.kp1 hQ.P
def MS.tot_le(hQ:Q.OK):Q.P.tot*Q.one<=100000000000:=xay (xcu hQ.P.tot5 hQ.one6) (by decide)
def MS.quo_le(hQ:Q.OK)(hI:MI Q s):s.quo Q<=Q.P.tot*Q.one+1:=by have h1:=MS.sum_le hQ hI;have h2:=xed (zaz (s.v Q) Q.P.n) (Q.P.seats+1);unfold MS.quo;omega
def zdo(c:Nat):(s.el Q c=true/\s.st c=0/\s.st1 Q c=1/\s.quo Q<=s.v Q c)\/(s.el Q c=false/\s.st1 Q c=s.st c):=by
 unfold MS.st1;cases h:s.el Q c;·exact .inr ⟨rfl,rfl⟩
 ·unfold MS.el MS.reach at h;rw[xal,xal,xak,xak]at h;exact .inl ⟨rfl,h.1.1,rfl,h.1.2⟩
def f1_eq:s.f1 Q=s.fl Q+zbu (s.el Q) Q.P.n:=by
 unfold MS.f1 MS.fl zbu;rw[<-zde];refine zay λi hi=>?_;rcases zdo (Q:=Q) (s:=s) i with⟨h0,h1,h2,_⟩|⟨h0,h2⟩
 ·simp[h0,h1,h2]
 ·simp[h0,h2]
def h1_eq:s.h1 Q+zbu (s.el Q) Q.P.n=zbu (λi=>decide (s.st i=0)) Q.P.n:=by
 unfold MS.h1 zbu;rw[<-zde];refine zay λi hi=>?_;rcases zdo (Q:=Q) (s:=s) i with⟨h0,h1,h2,_⟩|⟨h0,h2⟩
 ·simp[h0,h1,h2]
 ·simp[h0,h2]
def MS.meas(Q:MP)(s:MS):Nat:=zbu (λi=>decide (s.st i=0)) Q.P.n*61+(60-s.since)
end
section
def countP_at{α:Type}{R:α->α->Bool}:∀{L:List α},L.Pairwise (λa b=>R a b=true)->(∀a∈L,R a a=false)->(∀a∈L,∀b∈L,R a b=true->R b a=false)->∀{j:Nat} (hj:j<L.length),L.countP (λd=>R d L[j])=j
 | [],_,_,_,j,hj=>by simp at hj
 |x::L,hp,hi,ha,0,_=>by
  rw[List.countP_eq_zero];intro d hd;rw[List.getElem_cons_zero];rcases xar.1 hd with rfl|hd
  ·rw[hi d (by simp)];simp
  ·rw[ha x (by simp) d (xan _ hd) ((xdn.1 hp).1 d hd)];simp
 |x::L,hp,hi,ha,j+1,hj=>by
  obtain⟨h1,h2⟩:=xdn.1 hp;have hb:j<L.length:=by simpa using hj
  have ih:=countP_at h2 (λa h=>hi a (xan _ h)) (λa h b h'=>ha a (xan _ h) b (xan _ h')) hb;rw[xjn,List.countP_cons,ih,if_pos (h1 _ (xbf hb))]
def ins_ex{α:Type}{R:α->α->Bool}(x:α):∀{L:List α},L.Pairwise (λa b=>R a b=true)->(∀a∈L,R x a=true\/R a x=true)->(∀a∈L,∀b∈L,R x a=true->R a b=true->R x b=true)->∃A B,L=A++B/\(A++x::B).Pairwise λa b=>R a b=true
 | [],_,_,_=>⟨[],[],rfl,by simp⟩
 |y::L,hp,ht,hr=>by
  obtain⟨h1,h2⟩:=xdn.1 hp;cases hxy:R x y with
  |true=>
   refine⟨[],y::L,rfl,?_⟩;rw[xdp];refine xdn.2 ⟨λb hb=>?_,hp⟩;rcases xar.1 hb with rfl|hb
   ·exact hxy
   ·exact hr y (by simp) b (xan _ hb) hxy (h1 b hb)
  |false=>
   have hc:R y x=true:=(ht y (by simp)).resolve_left (by rw[hxy];simp);obtain⟨A,B,e,hs⟩:=ins_ex x h2 (λa ha=>ht a (xan _ ha)) (λa ha b hb=>hr a (xan _ ha) b (xan _ hb));refine⟨y::A,B,by rw[e];rfl,?_⟩;rw[xcx];refine xdn.2 ⟨λb hb=>?_,hs⟩;rcases xbp.1 hb with hb|hb
   ·exact h1 b (by rw[e];exact xdq _ hb)
   ·rcases xar.1 hb with rfl|hb
    ·exact hc
    ·exact h1 b (by rw[e];exact xic _ hb)
def zof{α:Type}{R:α->α->Bool}:∀{l:List α},l.Nodup->(∀a∈l,∀b∈l,a≠b->R a b=true\/R b a=true)->(∀a∈l,∀b∈l,∀c∈l,R a b=true->R b c=true->R a c=true)->∃L:List α,L.Perm l/\L.Pairwise λa b=>R a b=true
 | [],_,_,_=>⟨[],xft _,by simp⟩
 |x::l,hn,ht,hr=>by obtain⟨h1,h2⟩:=xfb.1 hn;obtain⟨L,hL,hs⟩:=zof h2 (λa ha b hb=>ht a (xan _ ha) b (xan _ hb)) (λa ha b hb c hc=>hr a (xan _ ha) b (xan _ hb) c (xan _ hc));have hm:∀a∈L,a∈l:=λa ha=>hL.mem_iff.1 ha;obtain⟨A,B,e,hd⟩:=ins_ex x hs (λa ha=>ht x (by simp) a (xan _ (hm a ha)) λe=>h1 (by rw[e];exact hm a ha)) (λa ha b hb=>hr x (by simp) a (xan _ (hm a ha)) b (xan _ (hm b hb)));refine⟨A++x::B,?_,hd⟩;refine List.perm_middle.trans (List.Perm.cons x ?_);rw[<-e];exact hL
section
variable {v:Nat->Nat} {lots:List Int}
def better_irr(a:Nat):zef v lots a a=false:=by unfold zef;simp
def zui{a b:Nat}(h:zef v lots a b=true):zef v lots b a=false:=by unfold zef at h ⊢;simp only[xeg,xal,xak,xct,Bool.and_eq_false_iff,xbj]at h ⊢;omega
def zqo{a b c:Nat}(h:zef v lots a b=true)(h':zef v lots b c=true):zef v lots a c=true:=by unfold zef at h h' ⊢;simp only[xeg,xal,xak]at h h' ⊢;omega
def zqp{a b:Nat}(ha:(a:Int)∈lots)(hne:a≠b):zef v lots a b=true\/zef v lots b a=true:=by
 have hp:zan lots (a:Int)≠zan lots (b:Int):=λe=>by
  unfold zan at e;have h1:lots.idxOf (a:Int)<lots.length:=xgz ha;have e1:=xiw h1;have h2:lots.idxOf (b:Int)<lots.length:=by rw[<-e];exact h1
  have e2:=xiw h2;have:(a:Int)=(b:Int):=by rw[<-e1,<-e2];congr 1
  omega
 unfold zef;simp only[xeg,xal,xak];omega
end
def zjy(v:Nat->Nat)(lots:List Int)(a b:Int):Bool:=zef v lots a.toNat b.toNat
variable {Q:MP} {s:MS}
def zqg(hQ:Q.OK):∃L:List Int,L.Perm (zaq (s.reach Q) Q.P.n)/\L.Pairwise λa b=>zjy (s.v Q) Q.P.lots a b=true:=by refine zof (zfm _ _) (λa ha b hb hne=>?_) (λa _ b _ c _=>zqo);obtain⟨i,rfl,hi,_⟩:=zap.1 ha;obtain⟨k,rfl,hk,_⟩:=zap.1 hb;exact zqp ((zhf hQ.P).mem hi) λe=>hne (by rw[xam,xam]at e;rw[e])
def zub(p q:Nat->Bool):∀n:Nat,(zaq p n).countP (λd=>q d.toNat)=zbu (λd=>p d&&q d) n
 | 0=>rfl
 |n+1=>by
  rw[zeu,List.countP_append,zub p q n];show _=zbu (λd=>p d&&q d) n+(if(p n&&q n)=true then 1 else 0);congr 1;cases hp:p n;·simp
  ·rw[if_pos rfl,List.countP_singleton,xam];simp
def el_take(hQ:Q.OK){L:List Int}(hL:L.Perm (zaq (s.reach Q) Q.P.n))(hs:L.Pairwise λa b=>zjy (s.v Q) Q.P.lots a b=true){i:Nat}(hi:i<Q.P.n):(i:Int)∈L.take (Q.P.seats-s.fl Q)↔s.el Q i=true:=by
 have ha:∀{j:Nat} (hj:j<L.length),s.rank Q (L[j]).toNat=j:=λ{j} hj=>by have h1:=countP_at (R:=zjy (s.v Q) Q.P.lots) hs (λa _=>better_irr _) (λa _ b _ h=>zui h) hj;rw[hL.countP_eq]at h1;have h2:=zub (s.reach Q) (λd=>zef (s.v Q) Q.P.lots d (L[j]).toNat) Q.P.n;exact h2.symm.trans h1
 unfold MS.el;rw[xal,xak];constructor;·intro h;have hm:=xca h;obtain⟨j,hj,e⟩:=xdi h;rw[xgj]at e;rw[xax]at hj;have hr:=ha (j:=j) (by omega);rw[e,xam]at hr;obtain⟨k,e2,_,h2⟩:=zap.1 (hL.mem_iff.1 hm);have:=xda.1 e2;subst this;exact⟨h2,by omega⟩
 ·rintro⟨h1,h2⟩;have hm:(i:Int)∈L:=hL.mem_iff.2 (zap.2 ⟨i,rfl,hi,h1⟩);obtain⟨j,hj,e⟩:=xdi hm;have hr:=ha hj;rw[e,xam]at hr;rw[xjd];exact⟨j,by omega,e⟩
def el_perm(hQ:Q.OK){L:List Int}(hL:L.Perm (zaq (s.reach Q) Q.P.n))(hs:L.Pairwise λa b=>zjy (s.v Q) Q.P.lots a b=true):(L.take (Q.P.seats-s.fl Q)).Perm (zaq (s.el Q) Q.P.n):=by
 have ha:L.Nodup:=hL.nodup_iff.2 (zfm _ _);refine(List.perm_ext_iff_of_nodup (ha.sublist (xhc _ _)) (zfm _ _)).2 λc=>?_;constructor;·intro h;obtain⟨i,rfl,hi,_⟩:=zap.1 (hL.mem_iff.1 (xca h));exact zap.2 ⟨i,rfl,hi,(el_take hQ hL hs hi).1 h⟩
 ·intro h;obtain⟨i,rfl,hi,h2⟩:=zap.1 h;exact(el_take hQ hL hs hi).2 h2
def el_cnt(hQ:Q.OK):zbu (s.el Q) Q.P.n<=Q.P.seats-s.fl Q:=by obtain⟨L,hL,hs⟩:=zqg (s:=s) hQ;rw[<-zav,<-(el_perm hQ hL hs).length_eq,xax];exact xhu _ _
def f1_le(hQ:Q.OK)(hI:MI Q s):s.f1 Q<=Q.P.seats:=by have h1:=f1_eq (Q:=Q) (s:=s);have h2:=el_cnt (s:=s) hQ;have h3:=hI.fill;omega
def zwm(hQ:Q.OK)(hI:MI Q s)(h:s.fin Q=false):s.f1 Q<Q.P.seats/\Q.P.seats<s.f1 Q+s.h1 Q:=by unfold MS.fin at h;rw[xct,xbj,xbj]at h;have:=f1_le hQ hI;omega
def some1_iff:s.some1 Q=false↔∀i,i<Q.P.n->s.el Q i=false:=by
 unfold MS.some1;rw[xbj];constructor
 ·intro h i hi;cases he:s.el Q i;·rfl
  ·exact absurd (zjv.2 ⟨i,hi,he⟩) h
 ·intro h hc;obtain⟨i,hi,he⟩:=zjv.1 hc;rw[h i hi]at he;cases he
def el_out{i:Nat}(h:s.some1 Q=false)(hi:i<Q.P.n):s.el Q i=false/\s.st1 Q i=s.st i:=by have:=some1_iff.1 h i hi;refine⟨this,?_⟩;unfold MS.st1;rw[this];rfl
def near_ne(hI:MI Q s):s.tied Q≠ []:=by
 have ha:zcy (λi=>decide (s.st i=0)) Q.P.n≠ []:=by have:=hI.left;rw[<-zcb]at this;exact xcr.1 this
 obtain⟨i,k1,k2⟩:=zog (s.v Q) ha;obtain⟨k3,k4⟩:=zby.1 k1;refine xfp (a:=(i:Int)) (zap.2 ⟨i,rfl,k3,?_⟩);unfold MS.near;rw[k4,xbu,xbl];intro k hk;by_cases h5:s.st k=0;·have:=k2 k (zby.2 ⟨xcm.1 hk,xae h5⟩);rw[xeg,xak];exact .inr (by omega)
 ·simp[h5]
def pickM_mem(E:List (List Rat))(h:s.tied Q≠ []):s.pick Q E∈s.tied Q:=by
 unfold MS.pick;split;·exact zgi h
 ·exact zxo h
def zht(hI:MI Q s)(E:List (List Rat)):∃x:Nat,s.pick Q E=(x:Int)/\x<Q.P.n/\s.st x=0:=by obtain⟨i,h2,h3,h4⟩:=zap.1 (pickM_mem E (near_ne hI));refine⟨i,h2,h3,?_⟩;unfold MS.near at h4;rw[xal,xak]at h4;exact h4.1
def hop_excl{x:Nat}(hx:x<Q.P.n)(h0:s.st x=0):zbu (λi=>decide (s.st i=0)) Q.P.n=zbu (λi=>decide (upd s.st x 2 i=0)) Q.P.n+1:=
 zzh hx (λi hi hne=>by rw[zfg _ _ hne]) (by rw[zce];rfl) (xae h0)
def fl_excl{x:Nat}(hx:x<Q.P.n)(h0:s.st x=0):zbu (λi=>decide (upd s.st x 2 i=1)) Q.P.n=s.fl Q:=by
 refine zly λi hi=>?_;unfold upd;split;·rename_i e;subst e;rw[h0];rfl
 ·rfl
def zti(hQ:Q.OK)(hI:MI Q s)(hf:s.fin Q=false)(hc:s.cut Q=true)(E:List (List Rat)):MI Q (s.excl Q E)/\(s.excl Q E).meas Q<s.meas Q:=by
 obtain⟨x,h1,h2,h3⟩:=zht hI E;have hj:=zwm hQ hI hf;have hb:s.some1 Q=false:=by unfold MS.cut at hc;rw[xal,xhy]at hc;exact hc.1
 have he:zbu (s.el Q) Q.P.n=0:=by refine xff λh=>?_;unfold MS.some1 at hb;rw[xbj]at hb;exact hb h
 have hi:=f1_eq (Q:=Q) (s:=s);have hg:=h1_eq (Q:=Q) (s:=s);have hh:=hop_excl (Q:=Q) h2 h3;have hd:=fl_excl (Q:=Q) h2 h3;have hk:=hI.since;unfold MS.excl;rw[h1,xam];refine⟨⟨λc=>?_,λc=>?_,λc hc=>?_,λc hc=>?_,λc hc=>?_,xbx _,?_,?_⟩,?_⟩
 ·show upd s.st x 2 c<=2;unfold upd;split;·exact xag _
  ·exact hI.st2 c
 ·show upd s.kp x 0 c<=_;unfold upd;split;·exact xbx _
  ·exact hI.kp1 c
 ·have ha:upd s.st x 2 c=0:=hc;show upd s.kp x 0 c=_;unfold upd at ha ⊢;split at ha;·omega
  ·rename_i e;rw[if_neg e];exact hI.hop c ha
 ·have ha:upd s.st x 2 c=1:=hc;show 0<upd s.kp x 0 c;unfold upd at ha ⊢;split at ha;·omega
  ·rename_i e;rw[if_neg e];exact hI.elc c ha
 ·have ha:upd s.st x 2 c=2:=hc;show upd s.kp x 0 c=0;unfold upd at ha ⊢;split at ha;·rename_i e;rw[if_pos e]
  ·rename_i e;rw[if_neg e];exact hI.exc c ha
 ·show zbu (λi=>decide (upd s.st x 2 i=1)) Q.P.n<_;rw[hd];exact hI.fill
 ·show 0<zbu (λi=>decide (upd s.st x 2 i=0)) Q.P.n;omega
 ·show zbu (λi=>decide (upd s.st x 2 i=0)) Q.P.n*61+(60-0)<zbu (λi=>decide (s.st i=0)) Q.P.n*61+(60-s.since);omega
def quo_pos:0<s.quo Q:=Nat.succ_pos _
def zsl(hQ:Q.OK)(hI:MI Q s)(hf:s.fin Q=false)(hc:s.cut Q=false):MI Q (s.redu Q)/\(s.redu Q).meas Q<s.meas Q:=by
 have hj:=zwm hQ hI hf;have hi:=f1_eq (Q:=Q) (s:=s);have hh:=h1_eq (Q:=Q) (s:=s);have hk:=hI.since;have hg:∀c,s.st1 Q c=2->s.st c=2:=λc hc=>by rcases zdo (Q:=Q) (s:=s) c with⟨_,_,h2,_⟩|⟨_,h2⟩<;>omega
 have hd:∀c,s.st1 Q c=0->s.st c=0:=λc hc=>by rcases zdo (Q:=Q) (s:=s) c with⟨_,_,h2,_⟩|⟨_,h2⟩<;>omega
 have ha:s.some1 Q=false->s.since+1<60:=λh=>by unfold MS.cut at hc;rw[h,xap,xbu]at hc;unfold MS.stall at hc;rw[xct,xct,xbj,xbj]at hc;omega
 refine⟨⟨λc=>?_,λc=>?_,λc hc=>?_,λc hc=>?_,λc hc=>?_,?_,?_,?_⟩,?_⟩;·show s.st1 Q c<=2;have:=hI.st2 c;rcases zdo (Q:=Q) (s:=s) c with⟨_,_,h2,_⟩|⟨_,h2⟩<;>omega
 ·show s.kp1 Q c<=_;unfold MS.kp1;split;·exact xhu _ _
  ·exact hI.kp1 c
 ·have hb:s.st1 Q c=0:=hc;show s.kp1 Q c=_;unfold MS.kp1;rw[if_neg (by omega)];exact hI.hop c (hd c hb)
 ·have hb:s.st1 Q c=1:=hc;have he:0<s.kp c:=by
   rcases zdo (Q:=Q) (s:=s) c with⟨_,h1,h2,_⟩|⟨_,h2⟩
   ·rw[hI.hop c h1];exact hQ.one1
   ·exact hI.elc c (by omega)
  show 0<s.kp1 Q c;unfold MS.kp1;split;·rename_i h;refine Nat.lt_min.2 ⟨hQ.one1,mup_pos h.2 (Nat.mul_pos (mup_pos hQ.one1 (Nat.mul_pos he quo_pos)) hQ.one1)⟩
  ·exact he
 ·have hb:s.st1 Q c=2:=hc;show s.kp1 Q c=0;unfold MS.kp1;rw[if_neg (by omega)];exact hI.exc c (hg c hb)
 ·show(if s.some1 Q then 0 else s.since+1)<=59;cases h:s.some1 Q;·have:=ha h;simp only[xbb,xcg];omega
  ·simp
 ·show s.f1 Q<_;omega
 ·show 0<s.h1 Q;omega
 ·show s.h1 Q*61+(60-(if s.some1 Q then 0 else s.since+1))<zbu (λi=>decide (s.st i=0)) Q.P.n*61+(60-s.since);cases h:s.some1 Q;·simp only[xbb,xcg];omega
  ·have:0<zbu (s.el Q) Q.P.n:=by unfold MS.some1 at h;exact xbc h
   simp only[if_true];omega
def s0_inv(hQ:Q.OK):MI Q Q.s0:=by
 have h1:=hQ.P.seats1;have h2:=hQ.P.n1;refine⟨λ_=>xbx _,λ_=>xag _,λ_ _=>rfl,λ_ h=>(by cases h),λ_ h=>(by cases h),xbx _,?_,zjv.2 ⟨0,by omega,rfl⟩⟩;have:Q.s0.fl Q=0:=by unfold MS.fl zbu;exact zet _
 omega
def s0_meas(hQ:Q.OK):Q.s0.meas Q<=487:=by have h:=zax (λi=>decide (Q.s0.st i=0)) Q.P.n;have:=hQ.P.n7;unfold MS.meas;show _*61+(60-0)<=_;omega
def bzM(hQ:Q.OK){a:Nat}(h:a<=1000000000000000000):Bz eB (zaj a Q.one):=by have:=hQ.one6;refine zhj (xdu h (Nat.lt_trans (show(1000000000000000000:Nat)<2^64 by decide) (xel (by decide) (by decide)))) (xdu this (Nat.lt_trans (show(1000000:Nat)<2^64 by decide) (xel (by decide) (by decide)))) (by decide)
def votes_rndM(hQ:Q.OK)(hI:MI Q s):RndOK Q.P.n (s.rd0 Q).votes:=⟨zad _ _,λq hq=>by obtain⟨i,hi,rfl⟩:=zih.1 hq;have h1:=MS.v_le hQ hI hi;have h2:=MS.tot_le hQ;exact bzM hQ (by omega)⟩
structure MRun(Q:MP)(s:MS)(rs:List Rd):Prop where
 inv:MI Q s
 rnd:∀r∈rs,RndOK Q.P.n r.votes/\r.el.length<=7
 len:rs.length+s.meas Q<=487
 run:mrun Q (500-rs.length) rs s=zmg Q
def MRun.start(hQ:Q.OK):MRun Q Q.s0 []:=⟨s0_inv hQ,λr hr=>by simp at hr,by have:=s0_meas hQ;simp;omega,rfl⟩
def zpn(hQ:Q.OK):(zaq (s.el Q) Q.P.n).length<=7:=by rw[zav];have:=zax (s.el Q) Q.P.n;have:=hQ.P.n7;omega
def MRun.next(hQ:Q.OK){rs:List Rd}(h:MRun Q s rs){r:Rd}{s':MS}(hs:mstep Q (rs.map Rd.votes) s=(r,some s'))(hi:MI Q s')(hm:s'.meas Q<s.meas Q)(hv:r.votes=(s.rd0 Q).votes)(he:r.el=(s.rd0 Q).el):MRun Q s' (rs++[r]):=by
 have hl:=h.len;refine⟨hi,λx hx=>?_,by simp;omega,?_⟩
 ·rcases xbp.1 hx with hx|hx
  ·exact h.rnd x hx
  ·rw[xba]at hx;subst hx;rw[hv,he];exact⟨votes_rndM hQ h.inv,zpn hQ⟩
 ·have hr:=h.run;rw[show 500-rs.length=(499-rs.length)+1 by omega,mrun,hs]at hr;rw[<-hr];simp only[xbo,xbd,xee];rw[show 500-(rs.length+(0+1))=499-rs.length by omega]
def mstep_fin{E:List (List Rat)}(hf:s.fin Q=true):mstep Q E s=(s.done Q,none):=by unfold mstep;rw[if_pos hf]
def mstep_cut{E:List (List Rat)}(hf:s.fin Q=false)(hc:s.cut Q=true):mstep Q E s=(s.exR Q E,some (s.excl Q E)):=by unfold mstep;rw[if_neg (by rw[hf];simp),if_pos hc]
def mstep_redu{E:List (List Rat)}(hf:s.fin Q=false)(hc:s.cut Q=false):mstep Q E s=(s.rd0 Q,some (s.redu Q)):=by unfold mstep;rw[if_neg (by rw[hf];simp),if_neg (by rw[hc];simp)]
def MRun.fin{rs:List Rd}(h:MRun Q s rs)(hf:s.fin Q=true):rs++[s.done Q]=zmg Q:=by have hl:=h.len;have hr:=h.run;rw[show 500-rs.length=(499-rs.length)+1 by omega,mrun,mstep_fin hf]at hr;exact hr
def MRun.excl(hQ:Q.OK){rs:List Rd}(h:MRun Q s rs)(hf:s.fin Q=false)(hc:s.cut Q=true):MRun Q (s.excl Q (rs.map Rd.votes)) (rs++[s.exR Q (rs.map Rd.votes)]):=by obtain⟨h1,h2⟩:=zti hQ h.inv hf hc (rs.map Rd.votes);exact h.next hQ (mstep_cut hf hc) h1 h2 rfl rfl
def MRun.redu(hQ:Q.OK){rs:List Rd}(h:MRun Q s rs)(hf:s.fin Q=false)(hc:s.cut Q=false):MRun Q (s.redu Q) (rs++[s.rd0 Q]):=by obtain⟨h1,h2⟩:=zsl hQ h.inv hf hc;exact h.next hQ (mstep_redu hf hc) h1 h2 rfl rfl
inductive MTr(Q:MP):MS->List Rd->List Rd->Prop
 |fin {s:MS} {rs:List Rd}:MRun Q s rs->s.fin Q=true->MTr Q s rs [s.done Q]
 |excl {s:MS} {rs rest:List Rd}:MRun Q s rs->s.fin Q=false->s.cut Q=true->MTr Q (s.excl Q (rs.map Rd.votes)) (rs++[s.exR Q (rs.map Rd.votes)]) rest->MTr Q s rs (s.exR Q (rs.map Rd.votes)::rest)
 |redu {s:MS} {rs rest:List Rd}:MRun Q s rs->s.fin Q=false->s.cut Q=false->MTr Q (s.redu Q) (rs++[s.rd0 Q]) rest->MTr Q s rs (s.rd0 Q::rest)
def mtr_ex(hQ:Q.OK):∀(m:Nat) {s:MS} {rs:List Rd},s.meas Q<m->MRun Q s rs->∃rest,MTr Q s rs rest/\rs++rest=zmg Q
 | 0,_,_,h,_=>by omega
 |m+1,s,rs,h,hR=>by
  cases hf:s.fin Q with
  |true=>exact⟨_,.fin hR hf,hR.fin hf⟩
  |false=>
   cases hc:s.cut Q with
   |true=>have hme:=(zti hQ hR.inv hf hc (rs.map Rd.votes)).2;obtain⟨rest,h1,h2⟩:=mtr_ex hQ m (by omega) (hR.excl hQ hf hc);exact⟨_,.excl hR hf hc h1,by rw[<-h2,xbv];rfl⟩
   |false=>have hme:=(zsl hQ hR.inv hf hc).2;obtain⟨rest,h1,h2⟩:=mtr_ex hQ m (by omega) (hR.redu hQ hf hc);exact⟨_,.redu hR hf hc h1,by rw[<-h2,xbv];rfl⟩
def zku(hQ:Q.OK):MTr Q Q.s0 [] (zmg Q):=by obtain⟨rest,h1,h2⟩:=mtr_ex hQ (Q.s0.meas Q+1) (by omega) (MRun.start hQ);rw[xdp]at h2;rwa[h2]at h1
end
section
variable {P:GP} {s:GS}
def rd0:Rd:=⟨[],[],0,0,0,[],[],[]⟩
def drop_getD{α:Type}{l:List α}{i:Nat}(d:α)(h:i<l.length):l.drop i=l.getD i d::l.drop (i+1):=by rw[xad,xaj h];exact xey h
def gcount_len(hP:P.OK):(zkz P).length<=1000:=by
 have key:∀(k:Nat) (rs:List Rd) (s:GS),(grun P k rs s).length<=rs.length+k:=by
  intro k;induction k with
  |zero=>intro rs s;exact xag _
  |succ k ih=>
   intro rs s;rw[grun];split;·rename_i r _;simp
   ·rename_i r s' _;have:=ih (rs++[r]) s';rw[xbo]at this;simp at this;omega
 have hk:=key (P.n+1) [] g0;have ha:=hP.n7;have e:zkz P=grun P (P.n+1) [] g0:=rfl;rw[e];simp only[xee]at hk;omega
end
def wsum_sumG{n:Int}{gs:List Grp}{N:Int}(h:PileOK n gs N)(b:List Int->Bool)(f:List Int->Int)(hf:∀p,f p=if b p then 1 else 0)(c:CT)(lots:List Int):zbi f gs=((zaz (λg=>if b ((zbc c gs lots).p g)then(zbc c gs lots).k g else 0) gs.length:Nat):Int):=by have:=zmy h b c lots gs.length (xag _);rw[xaz]at this;rw[<-this];congr 1;funext p;exact hf p
structure Ren(n:Nat)(ρ:Nat->Nat)(l l':List Int):Prop where
 mem:∀i,i<n->((i:Int)∈l↔((ρ i:Nat):Int)∈l')
 len:l.length=l'.length
 ins:∀c∈l,∃i:Nat,c=(i:Int)/\i<n
 ins':∀c∈l',∃i:Nat,c=(i:Int)/\i<n
def byLot_ext(lots:List Int)(least:Bool){l:List Int}(h:l≠ []):∀k∈l,if least then zan lots k<=zan lots (zpw lots least l)else zan lots (zpw lots least l)<=zan lots k:=by
 cases l with
 |nil=>exact absurd rfl h
 |cons x l=>
  unfold zpw;simp only[xjb,xgi];clear h;have key:∀(l:List Int) (x:Int),let m:=l.foldl (λm c=>if least then(if zan lots m<zan lots c then c else m)else(if zan lots c<zan lots m then c else m)) x
    ∀k,(k=x\/k∈l)->if least then zan lots k<=zan lots m else zan lots m<=zan lots k:=by
   intro l;induction l with
   |nil=>
    intro x m k hk;rcases hk with rfl|hk
    ·cases least<;>exact xag _
    ·cases hk
   |cons y l ih=>
    intro x m k hk;have ih':=ih (if least then(if zan lots x<zan lots y then y else x)else(if zan lots y<zan lots x then y else x));have h0:=ih' _ (.inl rfl);have hm:m=l.foldl (λm c=>if least then(if zan lots m<zan lots c then c else m)else(if zan lots c<zan lots m then c else m)) (if least then(if zan lots x<zan lots y then y else x)else(if zan lots y<zan lots x then y else x)):=rfl;rw[<-hm]at h0 ih';have ha:(k=x\/k=y)->if least then zan lots k<=zan lots m else zan lots m<=zan lots k:=by
     intro hk;cases least;·simp only[xbb,xcg]at h0 ⊢;split at h0<;>rcases hk with rfl|rfl<;>omega
     ·simp only[if_true]at h0 ⊢;split at h0<;>rcases hk with rfl|rfl<;>omega
    rcases hk with rfl|hk
    ·exact ha (.inl rfl)
    ·rcases xar.1 hk with rfl|hk
     ·exact ha (.inr rfl)
     ·exact ih' k (.inr hk)
  intro k hk;exact key l x k (xar.1 hk)
def place_inj{lots:List Int}{a b:Int}(ha:a∈lots)(h:zan lots a=zan lots b):a=b:=by
 unfold zan at h;have h1:lots.idxOf a<lots.length:=xgz ha;have e1:=xiw h1;have h2:lots.idxOf b<lots.length:=by rw[<-h];exact h1
 have e2:=xiw h2;rw[<-e1,<-e2];congr 1
def zdu{α β γ:Type}{f:α->Option (α⊕β)}{k:β->Option γ}{a0:α}{b:β}{X:Option γ->Prop}(st:Nat->α)(n:Nat)(h0:st 0=a0)(hs:∀i,i<n->f (st i)=some (.inl (st (i+1))))(he:f (st n)=some (.inr b))(hk:X (k b)):X ((zac f a0).bind k):=by rw[zaa st n h0 hs he rfl];exact hk
def mem_le{gs:List Grp}(h:∀g∈gs,1<=g.2):0<=zbi (λ_=>1) gs/\∀g∈gs,g.2<=zbi (λ_=>1) gs:=by
 induction gs with
 |nil=>exact⟨by simp[zbi],λg hg=>by cases hg⟩
 |cons a r ih=>
  obtain⟨h1,h2⟩:=ih λg hg=>h g (xan _ hg);have ha:=h a (by simp);have e:zbi (λ_=>1) (a::r)=a.2*1+zbi (λ_=>1) r:=rfl;rw[e];refine⟨by omega,λg hg=>?_⟩;rcases xar.1 hg with rfl|hg
  ·omega
  ·have:=h2 g hg;omega
def wsum_gen{n:Int}{gs:List Grp}{N:Int}(h:PileOK n gs N)(f:List Int->Nat)(c:CT)(lots:List Int):∀m,m<=gs.length->zbi (λp=>(f p:Int)) (gs.take m)=((zaz (λg=>(zbc c gs lots).k g*f ((zbc c gs lots).p g)) m:Nat):Int)
 | 0,_=>by simp[zbi,zaz]
 |m+1,hm=>by
  have hg:=(h.ballots _ (zba (l:=gs) (d:=([],0)) (i:=m) (by omega))).2;rw[zdi _ gs (by omega),wsum_gen h f c lots m (by omega),zaz];have e1:(zbc c gs lots).p m=(gs.getD m ([],0)).1:=rfl;have e2:(((zbc c gs lots).k m:Nat):Int)=(gs.getD m ([],0)).2:=by show((gs.getD m ([],0)).2.toNat:Int)=_;omega
  rw[e1,Int.natCast_add,xha,e2]
def zkn(f:Nat->Nat){m n:Nat}(h:m<=n):zaz f m<=zaz f n:=by
 induction n with
 |zero=>rw[show m=0 by omega];exact xag _
 |succ n ih=>
  by_cases hm:m=n+1;·rw[hm];exact xag _
  ·rw[zaz];have:=ih (by omega);omega
def wmul{a b:Nat}(h:a*b<=9223372036854775807):w ((a:Int)*(b:Int))=((a*b:Nat):Int):=by rw[<-xha,zbq (by omega) (by omega)]
def wsubN{a b:Nat}(h:b<=a)(ha:a<=9223372036854775807):w ((a:Int)-(b:Int))=((a-b:Nat):Int):=by rw[zbq (by omega) (by omega)];omega
def ten_le{d e:Nat}(h:d<=e):10^d<=10^e:=xdy (by decide) h
def ten_six{d:Nat}(h:d<=6):10^d<=1000000:=xay (ten_le h) (by decide)
def ten_pos(d:Nat):0<10^d:=xhn (by decide)
def wten{i:Nat}(h:i<18):w (((10^i:Nat):Int)*10)=((10^(i+1):Nat):Int):=by
 have h2:10^(i+1)<=10^18:=ten_le (by omega);have h3:(10:Nat)^18=1000000000000000000:=by decide
 rw[h3,xcl]at h2;rw[xcl];generalize 10^i=x at h2 ⊢;rw[zbq (by omega) (by omega)];omega
def d87_eq{d:Nat}(h:d<=18):d87 (d:Int)=some ((10^d:Nat):Int):=by
 unfold d87;refine zaa (λi=>(((10^i:Nat):Int),(d:Int),(i:Int))) d rfl (λi hi=>?_) ?_ rfl;·simp only[dlt hi,xab,wten (show i<18 by omega),wsx i]
 ·simp only[nlt (xag d),xaf]
def d216_eq{a b:Nat}(hb:0<b)(h:a+b<=4611686018427387904):d216 (a:Int) (b:Int)=some ((mup a b:Nat):Int):=by
 unfold d216 mup;have h1:=xed (a+b-1) b;have h2:Int.tdiv ((a+b-1:Nat):Int) (b:Int)=(((a+b-1)/b:Nat):Int):=by rw[xdt (by omega)];rfl
 have h3:w ((a+b-1:Nat):Int)=((a+b-1:Nat):Int):=zbq (by omega) (by omega);have h4:w (((a+b-1)/b:Nat):Int)=(((a+b-1)/b:Nat):Int):=by generalize(a+b-1)/b=q at h1 ⊢;exact zbq (by omega) (by omega)
 rw[zdf ((b:Int)=0),xap,xab,zus (by omega),show((a+b:Nat):Int)-1=((a+b-1:Nat):Int) by omega,h3,h2,h4]
def zgf(one:Nat)(kp:Nat->Nat)(p:List Int)(m c:Nat):Nat:=zaz (λj=>if p.getD j 0=(c:Int)then zge one kp p j else 0) m
def zwf(P:GP)(one:Nat)(kp:Nat->Nat)(m c:Nat):Nat:=zaz (λg=>P.k g*mgive one kp (P.p g) c) m
def mroU(P:GP)(one:Nat)(kp:Nat->Nat)(m:Nat):Nat:=zaz (λg=>P.k g*mw one kp (P.p g) (P.p g).length) m
def give_step{one:Nat}{kp:Nat->Nat}{p:List Int}{n j k x:Nat}(V:Nat->Nat)(hx:p.getD j 0=(x:Int)) :
  (lst (λc=>((V c+k*zgf one kp p j c:Nat):Int)) n).set x (((V x+k*zgf one kp p j x+zge one kp p j*k:Nat)):Int)=lst (λc=>((V c+k*zgf one kp p (j+1) c:Nat):Int)) n:=by
 rw[zcl];refine zai λc _=>?_;unfold upd zgf;rw[zaz,hx];by_cases h:c=x;·subst h;rw[if_pos rfl,if_pos rfl,xcv,xce (zge one kp p j) k,xdk]
 ·rw[if_neg h,if_neg (by omega),xdl]
section
variable {gs:List Grp} (c:CT) (lots:List Int) {one:Nat} {kp:Nat->Nat} (h1:0<one) (h6:one<=1000000) (hk:∀i,kp i<=one)
include h1 h6 hk
def zwr(hP:zaz (zbc c gs lots).k gs.length<=100000){g j x:Nat}(hg:g<gs.length)(hj:j<((zbc c gs lots).p g).length):zwf (zbc c gs lots) one kp g x+(zbc c gs lots).k g*zgf one kp ((zbc c gs lots).p g) j x<=100000000000/\zge one kp ((zbc c gs lots).p g) j*(zbc c gs lots).k g<=100000000000:=by
 have hb:(zbc c gs lots).k g<=100000:=xay (zfi hg) hP;have ha:∀g m x,m<=((zbc c gs lots).p g).length->zgf one kp ((zbc c gs lots).p g) m x<=one:=λg m x hm=>by
  have e:=mw_sum h1 hk ((zbc c gs lots).p g) m;have:zgf one kp ((zbc c gs lots).p g) m x<=zaz (zge one kp ((zbc c gs lots).p g)) m:=zdp λi _=>by split<;>omega
  omega
 have hc:zge one kp ((zbc c gs lots).p g) j<=one:=xay (zlq h1 hk _ _) (mw_le h1 hk _ _);refine⟨?_,xay (xcu hc hb) (xay (xau _ h6) (by decide))⟩;have e1:zwf (zbc c gs lots) one kp g x+(zbc c gs lots).k g*zgf one kp ((zbc c gs lots).p g) j x<=zaz (λg=>(zbc c gs lots).k g*one) (g+1):=by rw[zaz];refine Nat.add_le_add (zdp λi _=>xcy _ (ha i _ x (xag _))) (xcy _ (ha g j x (by omega)))
 have e2:=zkn (λg=>(zbc c gs lots).k g*one) (show g+1<=gs.length by omega);rw[zhr (zbc c gs lots).k one gs.length]at e2;have e3:zaz (zbc c gs lots).k gs.length*one<=100000*1000000:=xcu hP h6;omega
def zsk(hP:zaz (zbc c gs lots).k gs.length<=100000){g:Nat}(hg:g<gs.length):mroU (zbc c gs lots) one kp (g+1)<=100000000000/\mw one kp ((zbc c gs lots).p g) ((zbc c gs lots).p g).length*(zbc c gs lots).k g<=100000000000:=by have ha:(zbc c gs lots).k g<=100000:=xay (zfi hg) hP;refine⟨?_,xay (xcu (mw_le h1 hk _ _) ha) (xay (xau _ h6) (by decide))⟩;have e1:mroU (zbc c gs lots) one kp (g+1)<=zaz (λg=>(zbc c gs lots).k g*one) (g+1):=zdp λi _=>xcy _ (mw_le h1 hk _ _);have e2:=zkn (λg=>(zbc c gs lots).k g*one) (show g+1<=gs.length by omega);rw[zhr (zbc c gs lots).k one gs.length]at e2;have e3:zaz (zbc c gs lots).k gs.length*one<=100000*1000000:=xcu hP h6;omega
end
def pile_k{n:Nat}{gs:List Grp}{N:Int}(hp:PileOK (n:Int) gs N)(c:CT)(lots:List Int):zaz (zbc c gs lots).k gs.length<=100000/\∀g,g<gs.length->(gs.getD g ([],0)).2=(((zbc c gs lots).k g:Nat):Int):=by
  have h:=wsum_gen hp (λ_=>1) c lots _ (xag _);rw[xaz]at h;have ht:=hp.total;have hm:=hp.most;have e:zbi (λ_=>((1:Nat):Int)) gs=zbi (λ_=>1) gs:=rfl;rw[e,ht]at h;simp only[xea]at h;have e2:zaz (zbc c gs lots).k gs.length=zaz (λg=>(zbc c gs lots).k g) gs.length:=rfl;refine ⟨by omega,λg hg=>?_⟩
  have:=(hp.ballots _ (zba (l:=gs) (d:=([],0)) (i:=g) hg)).2;show _=((gs.getD g ([],0)).2.toNat:Int);omega
def d152_ok{n d:Nat}{gs:List Grp}{N:Int}(h1n:1<=n)(hn:n<=7)(hd1:1<=d)(hd6:d<=6)(hp:PileOK (n:Int) gs N)(c:CT)(lots:List Int){kp:Nat->Nat}(hk:∀i,kp i<=10^d) :
  d152 (d:Int) (lst (λi=>(kp i:Int)) n) gs=some (lst (λx=>((mvo (zbc c gs lots) (10^d) kp x:Nat):Int)) n,((mro (zbc c gs lots) (10^d) kp:Nat):Int),true):=by
 have ha:=ten_pos d;have hz:=ten_six hd6;obtain⟨ja,jc⟩:=pile_k hp c lots;have je:=(hp.gs (by omega)).1;have hs:=d87_eq (d:=d) (by omega);have hf:d215 (n:Int) gs=some true:=by unfold d215;rw[zdt ((1:Int)<=(n:Int)),xab,zdt ((n:Int)<=7),xab,hp.d133 (by omega)];rfl
 have hc:∀g,g<gs.length->isB (n:Int) ((zbc c gs lots).p g):=λg hg=>(hp.ballots _ (zba (l:=gs) (d:=([],0)) (i:=g) hg)).1;have hr:=λg j x hg hj=>zwr c lots ha hz hk ja (g:=g) (j:=j) (x:=x) hg hj;have hd:=λg hg=>zsk c lots ha hz hk ja (g:=g) hg;have jd:∀p j,zge (10^d) kp p j<=10^d:=λp j=>xay (zlq ha hk _ _) (mw_le ha hk _ _);have hy:∀p j,mw (10^d) kp p j<=10^d:=λp j=>mw_le ha hk _ _;have ho:∀p j,mw (10^d) kp p j-zge (10^d) kp p j=mw (10^d) kp p (j+1):=λp j=>rfl;have hl:∀p j,zge (10^d) kp p j=mup (mw (10^d) kp p j*kp (p.getD j 0).toNat) (10^d):=λp j=>rfl;have hm:=λp j=>zlq ha hk p j;unfold d152;simp only[zad,zal,zdf ((d:Int)<1),zdf ((6:Int)<(d:Int)),xap,xab,hf,xaa,xat,xaf,hs];generalize hone:10^d=one at *;refine zaa (λi=>(lst (λi=>(kp i:Int)) n,gs,(0:Int),(one:Int),lst (λi=>(kp i:Int)) n,(n:Int),(i:Int))) n rfl (λi hi=>?_) (b:=.inl (lst (λi=>(kp i:Int)) n,gs,(0:Int),(one:Int))) ?_ ?_;·have:=hk i;simp only[dlt hi,zbp,zad,xai,xab,tn,zaf (λi=>(kp i:Int)) hi,zdf ((kp i:Int)<0),xap,nlt this,xaf,wsx i]
 ·simp only[nlt (xag n),xaf]
 simp only[zad,xbh,zbp,zcg (n:=n) (by omega),xai,xab,tn];have hv:List.replicate n (0:Int)=lst (λx=>((zwf (zbc c gs lots) one kp 0 x:Nat):Int)) n:=by rw[zii];rfl
 rw[hv];refine zaa (λg=>(lst (λi=>(kp i:Int)) n,lst (λx=>((zwf (zbc c gs lots) one kp g x:Nat):Int)) n,((mroU (zbc c gs lots) one kp g:Nat):Int),(one:Int),gs,(gs.length:Int),(g:Int))) gs.length rfl (λg hg=>?_) (b:=(lst (λx=>((mvo (zbc c gs lots) one kp x:Nat):Int)) n,((mro (zbc c gs lots) one kp:Nat):Int))) ?_ rfl
 ·have hw:=hc g hg;have jf:=zjk hw (by omega);have ht:(gs.getD g ([],0)).1=(zbc c gs lots).p g:=rfl;have hh:=jc g hg;have hd:=hd g hg;have hr:=λj x hj=>hr g j x hg hj;have he:∀x,zwf (zbc c gs lots) one kp g x+(zbc c gs lots).k g*zgf one kp ((zbc c gs lots).p g) ((zbc c gs lots).p g).length x=zwf (zbc c gs lots) one kp (g+1) x:=λx=>rfl;have hq:mroU (zbc c gs lots) one kp (g+1)=mroU (zbc c gs lots) one kp g+(zbc c gs lots).k g*mw one kp ((zbc c gs lots).p g) ((zbc c gs lots).p g).length:=rfl;obtain⟨pr,h0⟩:∃pr,gs.getD g ([],0)=pr:=⟨_,rfl⟩;rw[h0]at ht hh;obtain⟨p',k'⟩:=pr;simp only at ht hh;subst hh;generalize(zbc c gs lots).p g=p at *;subst ht;generalize(zbc c gs lots).k g=k at *;simp only[dlt hg,zbp,xai,xab,tn,h0];refine zaa (λj=>(lst (λi=>(kp i:Int)) n,lst (λx=>((zwf (zbc c gs lots) one kp g x+k*zgf one kp p' j x:Nat):Int)) n,((mroU (zbc c gs lots) one kp g:Nat):Int),(one:Int),((p',(k:Int)):List Int×Int),((mw one kp p' j:Nat):Int),gs,(gs.length:Int),(g:Int),p',(p'.length:Int),(j:Int))) p'.length rfl (λj hj=>?_) (b:=(lst (λi=>(kp i:Int)) n,lst (λx=>((zwf (zbc c gs lots) one kp (g+1) x:Nat):Int)) n,((mroU (zbc c gs lots) one kp g:Nat):Int),(one:Int),((p',(k:Int)):List Int×Int),((mw one kp p' p'.length:Nat):Int),gs,(gs.length:Int),(g:Int))) ?_ ?_
  ·have hb:=hw.2 _ (zbx hj);obtain⟨x,hx⟩:∃x:Nat,p'.getD j 0=(x:Int):=⟨(p'.getD j 0).toNat,by omega⟩;have hu:x<n:=by omega
   have h1:=hy p' j;have h2:=hk x;have h3:mw one kp p' j*kp x<=1000000*1000000:=xcu (by omega) (by omega);have h4:=hl p' j;rw[hx,xam]at h4;have h5:=hr j x hj;have h6:=jd p' j;have h7:=ho p' j;have h8:=hm p' j;have jb:=give_step (n:=n) (k:=k) (one:=one) (kp:=kp) (λx=>zwf (zbc c gs lots) one kp g x) hx;simp only[dlt hj,zbp,xai,xab,tn,hx,zad,dlt hu,zaf (λi=>(kp i:Int)) hu,wmul (show mw one kp p' j*kp x<=9223372036854775807 by omega),d216_eq ha (show mw one kp p' j*kp x+one<=4611686018427387904 by omega),xaa,<-h4,zaf (λx=>((zwf (zbc c gs lots) one kp g x+k*zgf one kp p' j x:Nat):Int)) hu,wmul (show zge one kp p' j*k<=9223372036854775807 by omega),zus (show zwf (zbc c gs lots) one kp g x+k*zgf one kp p' j x+zge one kp p' j*k<=9223372036854775807 by omega),jb,wsubN h8 (by omega),h7,wsx j]
  ·simp only[nlt (xag p'.length),xaf,he]
  ·have h9:=hy p' p'.length;rw[xce]at hd;simp only[wmul (show mw one kp p' p'.length*k<=9223372036854775807 by have:=hd.2;rw[xce];omega),zus (show mroU (zbc c gs lots) one kp g+mw one kp p' p'.length*k<=9223372036854775807 by rw[xce (mw one kp p' p'.length)];omega),wsx g,hq,xce k]
 ·simp only[nlt (xag gs.length),xaf];rfl
def swap_eq(A:List Int)(y x:Int)(T:List Int):((A++y::x::T).set (A.length+1) y).set A.length x=A++x::y::T:=by rw[xfn _ _ (by omega),show A.length+1-A.length=1 by omega];rw[xfn _ _ (by omega),xen];rfl
def getD_mid(A:List Int)(y:Int)(T:List Int):(A++y::T).getD A.length 0=y:=by rw[xad,xde (xag _),xen];rfl
def getD_mid1(A:List Int)(y x:Int)(T:List Int):(A++y::x::T).getD (A.length+1) 0=x:=by rw[xad,xde (by omega),show A.length+1-A.length=1 by omega];rfl
noncomputable def insF:(List Int) × Int × Int × (Int->Int->Option Int) × Int × Int->Option (((List Int) × Int × Int × (Int->Int->Option Int) × Int × Int) ⊕ ((List Int) × Int × Int × (Int->Int->Option Int) × Int)):=λ((data_2,a_2,b_2,cmp_2,i_1,j_):(List Int) × Int × Int × (Int->Int->Option Int) × Int × Int) =>
            zbl (λ((data_3,a_3,b_3,cmp_3,i_2,j__1,t34):(List Int) × Int × Int × (Int->Int->Option Int) × Int × Int × Bool) =>bif t34 then bif (decide (0<=(w (j__1-1)))&&decide ((w (j__1-1))<(data_3.length:Int)))then bif (decide (0<=j__1)&&decide (j__1<(data_3.length:Int)))then bif (decide (0<=j__1)&&decide (j__1<(data_3.length:Int)))then bif (decide (0<=(w (j__1-1)))&&decide ((w (j__1-1))<((List.set data_3 (Int.toNat j__1) (List.getD data_3 (Int.toNat (w (j__1-1))) 0)).length:Int)))then some (Sum.inl ((List.set (List.set data_3 (Int.toNat j__1) (List.getD data_3 (Int.toNat (w (j__1-1))) 0)) (Int.toNat (w (j__1-1))) (List.getD data_3 (Int.toNat j__1) 0)),a_3,b_3,cmp_3,i_2,(w (j__1-1))))else none else none else none else none else some (Sum.inr (data_3,a_3,b_3,cmp_3,i_2))) λj__2=>bif (decide (a_2<j_))then bif (decide (0<=j_)&&decide (j_<(data_2.length:Int)))then bif (decide (0<=(w (j_-1)))&&decide ((w (j_-1))<(data_2.length:Int)))then
                  (cmp_2 (List.getD data_2 (Int.toNat j_) 0) (List.getD data_2 (Int.toNat (w (j_-1))) 0)).bind λr=>
                  j__2 (data_2,a_2,b_2,cmp_2,i_1,j_,(decide (r<0)))else none else none else
              j__2 (data_2,a_2,b_2,cmp_2,i_1,j_,false)
def d288_ex{l:List Int}{cmp:Int->Int->Option Int}{g:Int->Int->Int}(hl:l.length<=1000)(hn:l.Nodup)(hc:∀a∈l,∀b∈l,cmp a b=some (g a b))(ht:∀a∈l,∀b∈l,a≠b->g a b<0\/g b a<0)(htr:∀a∈l,∀b∈l,∀c∈l,g a b<0->g b c<0->g a c<0) :
  ∃L,d288 l 0 (l.length:Int) cmp=some L/\L.Perm l/\L.Pairwise λa b=>g a b<0:=by
 cases l with
 |nil=>refine⟨[],?_,xft _,by simp⟩;unfold d288;refine zaa (λi=>([],0,(([]:List Int).length:Int),cmp,w (0+1))) 0 rfl (λi hi=>by omega) (b:=([]:List Int)) ?_ rfl;rfl
 |cons x0 l0=>
 generalize hll:x0::l0=l at *;have h8:1<=l.length:=by rw[<-hll];simp
 unfold d288;refine zcs (Q:=λ(r:Option (List Int))=>∃L:List Int,r=some L/\L.Perm l/\L.Pairwise λa b=>g a b<0) (λ(i:Nat) (st:(List Int)×Int×Int×(Int->Int->Option Int)×Int)=>∃S:List Int,st=(S++l.drop (i+1),0,(l.length:Int),cmp,((i+1:Nat):Int))/\S.Perm (l.take (i+1))/\(S.Pairwise λa b=>g a b<0)) (l.length-1) ?_ ?_ ?_;·refine⟨l.take 1,by rw[xcp];rfl,xft _,?_⟩;rw[<-hll];simp
 ·rintro i st hi ⟨S,rfl,hS,hs⟩;have hh:i+1<l.length:=by omega
  obtain⟨x,hx⟩:∃x,l.getD (i+1) 0=x:=⟨_,rfl⟩;have hd:l.drop (i+1)=x::l.drop (i+2):=by rw[<-hx];exact drop_getD 0 hh
  have h0:S.length=i+1:=by rw[hS.length_eq,xax];omega
  have h6:∀a∈S,a∈l:=λa ha=>xca (hS.mem_iff.1 ha);have hk:x∈l:=by rw[<-hx];exact zbx hh
  have jc:x∉S:=λh=>by
   have h1:=hS.mem_iff.1 h;have h2:l.take (i+1)++l.drop (i+1)=l:=xcp _ _;have h3:(l.take (i+1)++l.drop (i+1)).Nodup:=by rw[h2];exact hn
   exact(xdh.1 h3).2.2 x h1 x (by rw[hd];simp) rfl
  have ja:l.take (i+2)=l.take (i+1)++[x]:=by rw[<-hx];exact zaw l 0 hh
  rw[hd];generalize l.drop (i+2)=T at *;have hg:∀A B:List Int,S=A++B->(A++x::(B++T)).length=(S++x::T).length:=λA B e=>by rw[e];simp;omega
  have jb:(S++x::T).length<=1000:=by rw[<-hd,xbo,h0,xeq];omega
  have jd:∃S':List Int,zac insF (S++x::T,0,(l.length:Int),cmp,((i+1:Nat):Int),((i+1:Nat):Int))=some (S'++T,0,(l.length:Int),cmp,((i+1:Nat):Int))/\S'.Perm (l.take (i+2))/\(S'.Pairwise λa b=>g a b<0):=by
   have key:=zfs (γ:=(List Int)×Int×Int×(Int->Int->Option Int)×Int) (k:=some) (Q:=λr=>∃S':List Int,r=some (S'++T,0,(l.length:Int),cmp,((i+1:Nat):Int))/\S'.Perm (l.take (i+2))/\(S'.Pairwise λa b=>g a b<0))
    (f:=insF) (a0:=(S++x::T,0,(l.length:Int),cmp,((i+1:Nat):Int),((i+1:Nat):Int)))
    (λ(m:Nat) (st:(List Int)×Int×Int×(Int->Int->Option Int)×Int×Int)=>∃A B:List Int,st=(A++x::(B++T),0,(l.length:Int),cmp,((i+1:Nat):Int),(m:Int))/\S=A++B/\A.length=m/\∀b∈B,g x b<0) (i+1) ⟨S,[],rfl,by simp,h0,by simp⟩ (λm st hm=>?_)
   ·obtain⟨S',h1,h2,h3⟩:=key;refine⟨S',?_,h2,h3⟩;rw[xbk]at h1;obtain⟨b,h4,h5⟩:=h1;exact h4.trans h5
   ·obtain⟨A,B,rfl,hf,hq,hB⟩:=hm;have he:(∀a∈A,g a x<0)->∃S':List Int,some (A++x::(B++T),(0:Int),(l.length:Int),cmp,((i+1:Nat):Int))=some (S'++T,0,(l.length:Int),cmp,((i+1:Nat):Int))/\S'.Perm (l.take (i+2))/\(S'.Pairwise λa b=>g a b<0):=λhA=>by
     refine⟨A++x::B,by rw[xbv,xcx],?_,?_⟩;·rw[ja];refine List.perm_middle.trans ?_;rw[<-hf];exact(xib (l₁:=[x]) (l₂:=S)).trans (xjp _ hS)
     ·rw[hf,xdr]at hs;rw[xdr,xdn];refine⟨hs.1,⟨hB,hs.2.1⟩,λa ha b hb=>?_⟩;rcases xar.1 hb with rfl|hb
      ·exact hA a ha
      ·exact hs.2.2 a ha b hb
    cases m with
    |zero=>have h7:A=[]:=xec.1 hq;refine .inr ⟨(A++x::(B++T),0,(l.length:Int),cmp,((i+1:Nat):Int)),?_,he (by rw[h7];simp)⟩;unfold insF;simp only[zal,show decide ((0:Int)<((0:Nat):Int))=false from rfl,xaf]
    |succ m=>
     obtain⟨A',y,rfl⟩:∃A' y,A=A'++[y]:=by
      rcases xgc A with rfl|⟨A',y,h⟩
      ·simp at hq
      ·exact⟨A',y,by rw[h,xge]⟩
     have ho:A'.length=m:=by simpa using hq
     subst ho;have hz:y∈S:=by rw[hf];simp
     have hj:=h6 y hz;have hp:=hg _ B hf;have e0:A'++[y]++x::(B++T)=A'++y::x::(B++T):=by simp
     rw[e0]at hp ⊢;have je:(A'++y::x::(B++T)).length<=1000:=by omega
     have hy:A'.length+1<(A'++y::x::(B++T)).length:=by simp
     have hw:A'.length<(A'++y::x::(B++T)).length:=by simp
     have hr:=getD_mid1 A' y x (B++T);have hu:=getD_mid A' y (x::(B++T));have h9:=swap_eq A' y x (B++T);by_cases hlt:g x y<0
     ·refine .inl ⟨(A'++x::y::(B++T),0,(l.length:Int),cmp,((i+1:Nat):Int),(A'.length:Int)),A'.length,?_,by omega,A',y::B,rfl,by rw[hf];simp,rfl,λb hb=>?_⟩;·unfold insF;simp only[zal,zdt ((0:Int)<((A'.length+1:Nat):Int)),xab,zbp,dlt hy,dlt hw,xai,tn,zur (show A'.length<9223372036854775807 by omega),hr,hu,hc x hk y hj,xaa,xae hlt,xcd,h9]
      ·rcases xar.1 hb with rfl|hb
       ·exact hlt
       ·exact hB b hb
     ·have hv:g y x<0:=(ht y hj x hk (λe=>jc (by rw[<-e];exact hz))).resolve_right hlt;have hm:=he (λa ha=>by
       rcases xbp.1 ha with ha|ha
       ·refine htr a (h6 a (by rw[hf];simp[ha])) y hj x hk ?_ hv;rw[hf,xdr,xdr]at hs;exact hs.1.2.2 a ha y (by simp)
       ·rw[xba.1 ha];exact hv)
      rw[e0]at hm;refine .inr ⟨(A'++y::x::(B++T),0,(l.length:Int),cmp,((i+1:Nat):Int)),?_,hm⟩;unfold insF;simp only[zal,zdt ((0:Int)<((A'.length+1:Nat):Int)),xab,zbp,dlt hy,dlt hw,xai,tn,zur (show A'.length<9223372036854775807 by omega),hr,hu,hc x hk y hj,xaa,xah hlt,xaf]
  obtain⟨S',h1,h2,h3⟩:=jd;refine⟨(S'++T,0,(l.length:Int),cmp,((i+1+1:Nat):Int)),?_,S',rfl,h2,h3⟩;show(bif decide (((i+1:Nat):Int)<(l.length:Int))then(zac insF (S++x::T,(0:Int),(l.length:Int),cmp,((i+1:Nat):Int),((i+1:Nat):Int))).bind (λp=>some (Sum.inl (p.1,p.2.1,p.2.2.1,p.2.2.2.1,w (p.2.2.2.2+1))))else some (Sum.inr (S++x::T)))=_;rw[dlt hh,xab,h1,xaa,wsx (i+1)]
 ·rintro st ⟨S,rfl,hS,hs⟩;rw[show l.length-1+1=l.length by omega,xaz]at hS;refine⟨S++l.drop (l.length-1+1),?_,S,?_,hS,hs⟩;·simp only[show l.length-1+1=l.length by omega,nlt (xag l.length),xaf]
  ·rw[List.drop_of_length_le (by omega),xbn]
def d218_ex{l:List Int}{cmp:Int->Int->Option Int}{g:Int->Int->Int}(hl:l.length<=12)(hn:l.Nodup)(hc:∀a∈l,∀b∈l,cmp a b=some (g a b))(ht:∀a∈l,∀b∈l,a≠b->g a b<0\/g b a<0)(htr:∀a∈l,∀b∈l,∀c∈l,g a b<0->g b c<0->g a c<0) :
  ∃L,d218 l cmp=some L/\L.Perm l/\L.Pairwise λa b=>g a b<0:=by
 obtain⟨L,h1,h2,h3⟩:=d288_ex (by omega) hn hc ht htr;refine⟨L,?_,h2,h3⟩;unfold d218;have e208:∀x,d183 x=some (Lib.bitLen x.toNat:Int):=λx=>rfl;rw[e208,xaa];have hw:w ((l.length:Int)-0)=(l.length:Int):=zbq (by omega) (by omega);show((d263N 2 l 0 (l.length:Int) _ cmp).bind λr_1=>some r_1)=_;show((d263F (d263N 1) l 0 (l.length:Int) _ cmp).bind λr_1=>some r_1)=_;unfold d263F;generalize((Lib.bitLen (wu64 (l.length:Int)).toNat:Nat):Int)=t3;refine xbk.2 ⟨L,?_,rfl⟩;refine zaa (λ_=>(l,0,(l.length:Int),t3,cmp,true,true)) 0 rfl (λi hi=>by omega) (b:=L) ?_ rfl;simp only[hw,zdt ((l.length:Int)<=12),xab,h1,xaa]
def zua{a b:Nat}(ha:a<=9223372036854775807)(hb:b<=9223372036854775807)(hb0:0<b):d154 (a:Int) (b:Int)=some (rr (zaj a b)):=by unfold d154;have h1:=zji (n:=a) (by omega);have h2:=zji (n:=b) (by omega);rw[d165_eq (by omega) (by omega),d165_eq (by omega) (by omega),xaa,xaa,zdf ((a:Int)<0),zdf ((b:Int)<0),xiz,xiz,zps _ (zas _) (zas _) (by omega) (by omega),zbd,zbd];show some (rr (mkRat (a:Int) b))=_;rw[Rat.mkRat_eq_div];rfl
section
abbrev MT:=CT×(List Grp×(List Int×(Int×(List Int×(List Int×(Int×(List (List Rt)×(Int×(Int×(Int×(Int×(Int×(Int×(List RD×List Int))))))))))))))
def zpt{k:MT}{st:Nat->Nat}{n:Nat}(hk:k.2.2.2.2.1=lst (λi=>(st i:Int)) n)(hn:n<=1000)(x:Nat):d157 k (x:Int)=some (zaq (λi=>decide (st i=x)) n):=by
 unfold d157;rw[hk,zad];refine zaa (λi=>((x:Int),zaq (λi=>decide (st i=x)) i,lst (λi=>(st i:Int)) n,(n:Int),(i:Int))) n rfl (λi hi=>?_) ?_ rfl
 ·have hl:(zaq (λi=>decide (st i=x)) i).length+1<=4294967296:=by rw[zav];have:=zax (λi=>decide (st i=x)) i;omega
  rw[zeu];simp only[dlt hi,zbp,zad,xai,xab,tn,zaf _ hi,zal,zfc,wsx i];by_cases h:st i=x;·rw[xae h,xab,zch hl,xab];rfl
  ·rw[xah h,xaf];simp
 ·simp only[nlt (xag n),xaf]
def d153_eq{k:MT}{v:Nat->Nat}{n one:Nat}(hk:k.2.2.2.1=(one:Int))(hn:n<=1000)(h1:0<one)(h6:one<=1000000)(hv:∀i,i<n->v i<=9223372036854775807):d153 k (lst (λi=>(v i:Int)) n)=some (lst (λi=>rr (zaj (v i) one)) n):=by
 unfold d153;rw[zad];refine zaa (λi=>(k,lst (λi=>rr (zaj (v i) one)) i,lst (λi=>(v i:Int)) n,(n:Int),(i:Int))) n rfl (λi hi=>?_) ?_ rfl;·have hl:=zch (l:=lst (λi=>rr (zaj (v i) one)) i) (d:=rr (zaj (v i) one)) (by rw[zad];omega);rw[zad]at hl;simp only[dlt hi,zbp,zad,xai,xab,tn,zaf (λi=>(v i:Int)) hi,hk,zua (hv i hi) (show one<=9223372036854775807 by omega) h1,xaa,wsx i,hl,zcz]
 ·simp only[nlt (xag n),xaf]
def d155_eq{c:CT}{gs:List Grp}{lots:List Int}{one:Int}{st:Nat->Nat}{n:Nat}{kp:List Int}{filled:Nat}{rest:List (List Rt)×(Int×(Int×(Int×(Int×(Int×(Int×(List RD×List Int)))))))}
  {v kk:List Rt} {qu ex su:Rt} {el ex2 ti:List Int} {L:List Nat} (hn:n<=7) (hL:∀i∈L,i<n) (hLl:L.length<=7) (hf:filled<=1000) (hel:el.length<=1000) :
  d155 (c,gs,lots,one,lst (λi=>(st i:Int)) n,kp,(filled:Int),rest) (v,kk,qu,ex,su,el,ex2,ti) (L.map Int.ofNat)
   =some ((c,gs,lots,one,lst (λi=>((zbz st L 1 i:Nat):Int)) n,kp,((filled+L.length:Nat):Int),rest),(v,kk,qu,ex,su,zcf (el++L.map Int.ofNat),ex2,ti)):=by
 unfold d155;have ha:(L.map Int.ofNat).length=L.length:=xao ..;rw[ha];refine zaa (λj=>((c,gs,lots,one,lst (λi=>((zbz st (L.take j) 1 i:Nat):Int)) n,kp,((filled+j:Nat):Int),rest),(v,kk,qu,ex,su,el++(L.take j).map Int.ofNat,ex2,ti),L.map Int.ofNat,(L.length:Int),(j:Int))) L.length ?_ (λj hj=>?_) (b:=((c,gs,lots,one,lst (λi=>((zbz st L 1 i:Nat):Int)) n,kp,((filled+L.length:Nat):Int),rest),(v,kk,qu,ex,su,el++L.map Int.ofNat,ex2,ti))) ?_ ?_;·rw[xcq,zeq,xfa,xbn];rfl
 ·have hm:L.getD j 0∈L:=by rw[xad,xaj hj];exact xbf hj
  have hg:=hL _ hm;have hb:(L.map Int.ofNat).getD j 0=((L.getD j 0:Nat):Int):=by rw[xad,xci,xaj hj,xad,xaj hj];rfl
  have hc:(el++(L.take j).map Int.ofNat).length+1<=4294967296:=by rw[xbo,xao,xax];omega
  simp only[dlt hj,zbp,ha,xai,xab,tn,hb,zad,dlt hg,zch hc,wsx j,wsx (filled+j),zcl];have e:lst (upd (λi=>((zbz st (L.take j) 1 i:Nat):Int)) (L.getD j 0) 1) n=lst (λi=>((zbz st (L.take (j+1)) 1 i:Nat):Int)) n:=zai λi hi=>by rw[zaw L 0 hj,<-zel];unfold upd;split<;>rfl
  rw[e,zaw L 0 hj,xcc,xbv];rfl
 ·simp only[nlt (xag L.length),xaf,xaz]
 ·have hd:d98 (el++L.map Int.ofNat)=some (zcf (el++L.map Int.ofNat)):=by unfold d98;rw[zcg (by rw[xbo,ha];omega)];rfl
  simp only[hd,xaa]
def cmpM(v:Nat->Nat)(lots:List Int)(a b:Int):Int:=if v a.toNat=v b.toNat then(zan lots a:Int)-(zan lots b:Int)else(v b.toNat:Int)-(v a.toNat:Int)
def zpu(v:Nat->Nat)(lots:List Int)(a b:Nat):cmpM v lots (a:Int) (b:Int)<0↔zef v lots a b=true:=by unfold cmpM zef;rw[xam,xam];simp only[xeg,xal,xak];split<;>omega
def d219_eq{v:Nat->Nat}{n:Nat}{k:MT}{lots:List Int}(hk:k.2.2.1=lots)(hl:LotsOK n lots)(hv:∀i,i<n->v i<=1000000000000){a b:Nat}(ha:a<n)(hb:b<n):d219 (a:Int) (b:Int) (lst (λi=>(v i:Int)) n) k=some (cmpM v lots (a:Int) (b:Int)):=by
 have h1:=hv a ha;have h2:=hv b hb;have h7:=hl.n7;have hc:=hl.len;have h3:=zty (s:=lots) (a:Int) (by omega);have h4:=zty (s:=lots) (b:Int) (by omega);rw[zho]at h3 h4;have p1:lots.idxOf (a:Int)<lots.length:=xgz (hl.mem ha);have p2:lots.idxOf (b:Int)<lots.length:=xgz (hl.mem hb);rw[if_pos p1]at h3;rw[if_pos p2]at h4;unfold d219 cmpM zan;simp only[zbp,zad,dlt ha,dlt hb,xai,xab,tn,zaf (λi=>(v i:Int)) ha,zaf (λi=>(v i:Int)) hb,zfc,hk,h3,h4,xaa];by_cases h:v a=v b;·rw[if_pos h,xae h,xat,xaf,zbq (by omega) (by omega)]
 ·rw[if_neg h,xah h,xap,xab,zbq (by omega) (by omega)]
variable {Q:MP} {s:MS}
def d156_ex(hQ:Q.OK)(hI:MI Q s){k:MT}(hst:k.2.2.2.2.1=lst (λi=>(s.st i:Int)) Q.P.n)(hlo:k.2.2.1=Q.P.lots)(hse:k.1.2.2.2.1=(Q.P.seats:Int))(hfl:k.2.2.2.2.2.2.1=(s.fl Q:Int)) :
  ∃L:List Nat,d156 k (lst (λi=>((s.v Q i:Nat):Int)) Q.P.n) ((s.quo Q:Nat):Int)=some (L.map Int.ofNat)/\(L.map Int.ofNat).Perm (zaq (s.el Q) Q.P.n):=by
 have hp:=hQ.P.n7;have hq:=hQ.P.seats5;have hl:=hI.fill;have hv:∀i,i<Q.P.n->s.v Q i<=1000000000000:=λi hi=>by have h1:=MS.v_le hQ hI hi;have h2:=MS.tot_le hQ;omega
 have hh:=zpr (s:=zaq (λi=>decide (s.st i=0)) Q.P.n) (f:=λa=>d217 a (lst (λi=>((s.v Q i:Nat):Int)) Q.P.n) ((s.quo Q:Nat):Int)) (g:=λx=>decide (s.v Q x.toNat<s.quo Q)) (λx hx=>by obtain⟨i,rfl,hi,_⟩:=zap.1 hx;unfold d217;simp only[zbp,zad,dlt hi,xai,xab,tn,zaf (λi=>((s.v Q i:Nat):Int)) hi,xam];congr 1;exact xdd.2 (by omega)) (by rw[zav];have:=zax (λi=>decide (s.st i=0)) Q.P.n;omega)
 have ho:(zaq (λi=>decide (s.st i=0)) Q.P.n).filter (λc=>!decide (s.v Q c.toNat<s.quo Q))=zaq (s.reach Q) Q.P.n:=by
  rw[zem];refine zfn λi _=>?_;unfold MS.reach;congr 1;rw[xam];by_cases h:s.v Q i<s.quo Q;·rw[xae h,xah (by omega)];rfl
  ·rw[xah h,xae (by omega)];rfl
 rw[ho]at hh;have hn:(zaq (s.reach Q) Q.P.n).length<=7:=by rw[zav];have:=zax (s.reach Q) Q.P.n;omega
 have he:∀a∈zaq (s.reach Q) Q.P.n,∃i:Nat,a=(i:Int)/\i<Q.P.n:=λa ha=>by obtain⟨i,h,hi,_⟩:=zap.1 ha;exact⟨i,h,hi⟩
 obtain⟨L,h1,h2,h3⟩:=d218_ex (l:=zaq (s.reach Q) Q.P.n) (cmp:=λa_1 a_2=>d219 a_1 a_2 (lst (λi=>((s.v Q i:Nat):Int)) Q.P.n) k) (g:=cmpM (s.v Q) Q.P.lots) (by omega) (zfm _ _) (λa ha b hb=>by
  obtain⟨i,rfl,hi⟩:=he a ha;obtain⟨j,rfl,hj⟩:=he b hb;exact d219_eq hlo (zhf hQ.P) hv hi hj) (λa ha b hb hne=>by
  obtain⟨i,rfl,hi⟩:=he a ha;obtain⟨j,rfl,hj⟩:=he b hb;rw[zpu,zpu];exact zqp ((zhf hQ.P).mem hi) λe=>hne (by rw[e])) (λa ha b hb d hd=>by
  obtain⟨i,rfl,hi⟩:=he a ha;obtain⟨j,rfl,hj⟩:=he b hb;obtain⟨m,rfl,hm⟩:=he d hd;rw[zpu,zpu,zpu];exact zqo)
 have hf:∀a∈L,∃i:Nat,a=(i:Int)/\i<Q.P.n:=λa ha=>he a (h2.mem_iff.1 ha);have hs:L.Pairwise λa b=>zjy (s.v Q) Q.P.lots a b=true:=h3.imp_of_mem λ{a b} ha hb hab=>by obtain⟨i,rfl,hi⟩:=hf a ha;obtain⟨j,rfl,hj⟩:=hf b hb;exact(zpu _ _ _ _).1 hab
 have hr:L.length<=7:=by rw[h2.length_eq];exact hn
 have hk:((L.take (Q.P.seats-s.fl Q)).map Int.toNat).map Int.ofNat=L.take (Q.P.seats-s.fl Q):=by rw[List.map_map];refine(xfx λa ha=>?_).trans (List.map_id _);obtain⟨i,rfl,_⟩:=hf a (xca ha);rfl
 refine⟨(L.take (Q.P.seats-s.fl Q)).map Int.toNat,?_,by rw[hk];exact el_perm hQ h2 hs⟩;rw[hk];unfold d156;rw[show d157 k 0=_ from zpt hst (by omega) 0,xaa,hh,xaa,h1,xaa,hse,hfl,wsubN (by omega) (by omega)];by_cases hc:((Q.P.seats-s.fl Q:Nat):Int)<(L.length:Int)
 ·rw[xae hc,xab];have hg:zcr 0 ((Q.P.seats-s.fl Q:Nat):Int) L.length=true:=by unfold zcr;simp only[xal,xak];omega
  rw[hg,xab,tn]
 ·rw[xah hc,xaf];have hg:zcr 0 (L.length:Int) L.length=true:=by unfold zcr;simp only[xal,xak];omega
  rw[hg,xab,tn,xaz,xbg (by omega)]
def d220_eq{d:Nat}(h1:1<=d)(h6:d<=6):d220 (d:Int)=some ((10^(d/2):Nat):Int):=by
 have e:w (Int.tdiv (d:Int) 2)=((d/2:Nat):Int):=by
  have:Int.tdiv (d:Int) 2=((d/2:Nat):Int):=by rw[xdt (by omega)];rfl
  rw[this,zbq (by omega) (by omega)]
 unfold d220;simp only[zal,zdf ((d:Int)<1),zdf ((6:Int)<(d:Int)),xap,xab,xaf,e,d87_eq (show d/2<=18 by omega),xaa]
inductive Bef(rs:List Rd)(b:Option Nat)(sur:Nat):Prop
 |start:rs=[]->b=none->Bef rs b sur
 |kept (rs':List Rd) (r:Rd):rs=rs'++[r]->r.ex=[]->b=some sur->Bef rs b sur
 |excl (rs':List Rd) (r:Rd):rs=rs'++[r]->r.ex≠ []->b=none->Bef rs b sur
def d158_eq{k:MT}{rs:List Rd}{d sur:Nat}(h1:1<=d)(h6:d<=6)(hk:k.1.2.2.2.2.2.1=(d:Int))(hrs:k.2.2.2.2.2.2.2.2.2.2.2.2.2.2.1=rs.map rdT)(hl:rs.length<=1000)(hsi:s.since<=rs.length)(hev:k.2.2.2.2.2.2.2.2.1=(rs.length:Int)-(s.since:Int))(hsu:k.2.2.2.2.2.2.2.2.2.1=(sur:Int))(hb:Bef rs s.bef sur)(hom:Q.om=10^(d/2)) :
  d158 k ((s.sur Q:Nat):Int) ((rs.length+1:Nat):Int)=some (s.stall Q):=by
 unfold d158 MS.stall;have he:w (((rs.length+1:Nat):Int)-((rs.length:Int)-(s.since:Int)))=((s.since+1:Nat):Int):=by rw[zbq (by omega) (by omega)];omega
 simp only[zal,hk,d220_eq h1 h6,xaa,hev,he,hrs,xao,hsu,<-hom];by_cases c1:s.sur Q<Q.om;·rw[zdt (((s.sur Q:Nat):Int)<((Q.om:Nat):Int)),xae c1];rfl
 rw[zdf (((s.sur Q:Nat):Int)<((Q.om:Nat):Int)),xah c1,xap,xab,xbz];by_cases c2:60<=s.since+1;·rw[zdt ((60:Int)<=((s.since+1:Nat):Int)),xae c2];rfl
 rw[zdf ((60:Int)<=((s.since+1:Nat):Int)),xah c2,xaf,xbz];have hc:∀(rs':List Rd) (r:Rd) (d0:RD),rs=rs'++[r]->(rs.map rdT).getD rs'.length d0=rdT r:=λrs' r d0 e=>by rw[e,xcc,xad,xde (by simp),xao,xen];rfl
 cases hb with
 |start e1 e2=>
  rw[e2,e1];have:w (((([]:List Rd).length:Nat):Int)-1)=-1:=by show w (-1)=-1;exact zbq (by omega) (by omega)
  rw[this];rfl
 |kept rs' r e1 e2 e3=>
  have ha:rs.length=rs'.length+1:=by rw[e1];simp
  rw[e3,ha,zur (by omega)];have hx:(rdT r).2.2.2.2.2.2.1=[]:=e2;rw[zbp,xab,tn,dlt (show rs'.length<rs'.length+1 by omega),xai,xab,hc rs' r _ e1,hx];show some (decide ((sur:Int)<=((s.sur Q:Nat):Int)))=some (decide (sur<=s.sur Q));congr 1;exact xdd.2 (by omega)
 |excl rs' r e1 e2 e3=>
  have ha:rs.length=rs'.length+1:=by rw[e1];simp
  rw[e3,ha,zur (by omega)];have hx:(rdT r).2.2.2.2.2.2.1=r.ex:=rfl;have hd:=xcr.2 e2;rw[zbp,xab,tn,dlt (show rs'.length<rs'.length+1 by omega),xai,xab,hc rs' r _ e1,hx,zdf (((r.ex.length:Nat):Int)=0)];rfl
end
section
variable {Q:MP} {s:MS}
def getD_in{l:List Int}{P:Int->Prop}(h:∀x∈l,P x){j:Nat}(hj:j<l.length):P (l.getD j 0):=h _ (zbx hj)
set_option maxHeartbeats 1000000 in
def d159_eq(hQ:Q.OK)(hI:MI Q s){c:CT}(hc:c.2.2.2.2.2.2.1=Q.P.ties){gs:List Grp}{one filled:Int}{E:List (List Rat)}{rest:Int×(Int×(Int×(Int×(Int×(Int×(List RD×List Int))))))}(hE:∀r∈E,RndOK Q.P.n r)(hEl:E.length<=1000)(v kk:List Rt)(qu ex su:Rt)(el ex2 ti:List Int) :
  ∃x:Nat,x<Q.P.n/\s.pick Q E=(x:Int)/\d159 (c,gs,Q.P.lots,one,lst (λi=>(s.st i:Int)) Q.P.n,lst (λi=>(s.kp i:Int)) Q.P.n,filled,E.map (List.map rr),rest) (v,kk,qu,ex,su,el,ex2,ti) (lst (λi=>((s.v Q i:Nat):Int)) Q.P.n) ((s.sur Q:Nat):Int)
   =some ((c,gs,Q.P.lots,one,lst (λi=>((upd s.st x 2 i:Nat):Int)) Q.P.n,lst (λi=>((upd s.kp x 0 i:Nat):Int)) Q.P.n,filled,E.map (List.map rr),rest),(v,kk,qu,ex,su,el,[(x:Int)],if(s.tied Q).length=1 then ti else s.tied Q)):=by
 obtain⟨x,x1,x2,x3⟩:=zht hI E;refine⟨x,x2,x1,?_⟩;have h9:=hQ.P.n7;have h8:=MS.tot_le hQ;have hv:∀i,i<Q.P.n->s.v Q i<=100000000000:=λi hi=>by have h1:=MS.v_le hQ hI hi;omega
 have h7:s.sur Q<=100000000000:=by
  have h1:=MS.sum_le hQ hI;have h2:s.sur Q<=zaz (s.v Q) Q.P.n:=zdp λi _=>by split<;>omega
  omega
 have hr:∀y∈zaq (λi=>decide (s.st i=0)) Q.P.n,∃i:Nat,y=(i:Int)/\i<Q.P.n:=λy hy=>by obtain⟨i,h,hi,_⟩:=zap.1 hy;exact⟨i,h,hi⟩
 have hx:zaq (λi=>decide (s.st i=0)) Q.P.n≠ []:=xfp (zap.2 ⟨x,rfl,x2,xae x3⟩);have ja:(zaq (λi=>decide (s.st i=0)) Q.P.n).length<=7:=by rw[zav];have:=zax (λi=>decide (s.st i=0)) Q.P.n;omega
 have hh:∀i,i<Q.P.n->(s.st i=0↔(i:Int)∈zaq (λi=>decide (s.st i=0)) Q.P.n):=λi hi=>by
  rw[zap];constructor;·intro h;exact⟨i,rfl,hi,xae h⟩
  ·rintro⟨k,e,_,h⟩;rw[xda.1 e];exact xbc h
 have hn:∀m:Nat,(∃y,y<Q.P.n/\s.st y=0/\m=s.v Q y)->(∀k,k<Q.P.n->s.st k=0->m<=s.v Q k)->(zaq (λi=>decide (s.st i=0)) Q.P.n).filter (λc=>!decide (m+s.sur Q<s.v Q c.toNat))=s.tied Q:=λm ⟨y,y1,y2,y3⟩ hm=>by
  rw[zem];refine zfn λi hi=>?_;unfold MS.near;congr 1;rw[xam,xeb,xbl,xhy,xbj];constructor
  ·intro h k hk;by_cases h5:s.st k=0;·have:=hm k (xcm.1 hk) h5;rw[xeg,xak];exact .inr (by omega)
   ·simp[h5]
  ·intro h;have:=h y (xcm.2 y1);rw[xae y2,xat,xbz,xak]at this;omega
 have hb:∀m:Nat,m<=100000000000->d171 (zaq (λi=>decide (s.st i=0)) Q.P.n) (λa=>d221 a (lst (λi=>((s.v Q i:Nat):Int)) Q.P.n) (m:Int) ((s.sur Q:Nat):Int))=some ((zaq (λi=>decide (s.st i=0)) Q.P.n).filter λc=>!decide (m+s.sur Q<s.v Q c.toNat)):=λm hm=>zpr (g:=λc=>decide (m+s.sur Q<s.v Q c.toNat)) (λy hy=>by obtain⟨i,rfl,hi⟩:=hr y hy;unfold d221;simp only[zbp,zad,dlt hi,xai,xab,tn,zaf (λi=>((s.v Q i:Nat):Int)) hi,xam,zus (show m+s.sur Q<=9223372036854775807 by omega)];congr 1;exact xdd.2 (by omega)) (by omega)
 unfold d159;rw[show d157 (c,gs,Q.P.lots,one,lst (λi=>(s.st i:Int)) Q.P.n,lst (λi=>(s.kp i:Int)) Q.P.n,filled,E.map (List.map rr),rest) 0=_ from zpt (st:=s.st) (n:=Q.P.n) rfl (by omega) 0,xaa];simp only[show∀i,decide (s.st i=0)=decide (s.st i=0)from λ_=>rfl];generalize hLL:zaq (λi=>decide (s.st i=0)) Q.P.n=L at *;have hl:=xcr.2 hx;obtain⟨y0,hu,ha⟩:=getD_in hr hl;have hq:(y0:Int)∈L:=by rw[<-hu];exact zbx hl
 simp only[zdt ((0:Int)<(L.length:Int)),show decide ((0:Nat)<=0)=true from rfl,xai,xab,hu,zbp,zad,dlt ha,tn,zaf (λi=>((s.v Q i:Nat):Int)) ha];refine zcs (Q:=λz=>z=_) (λ(i:Nat) (st:MT×RD×(List Int)×Int×(List Int)×Int×Int×Int)=>∃m:Nat,st=((c,gs,Q.P.lots,one,lst (λi=>(s.st i:Int)) Q.P.n,lst (λi=>(s.kp i:Int)) Q.P.n,filled,E.map (List.map rr),rest),(v,kk,qu,ex,su,el,ex2,ti),lst (λi=>((s.v Q i:Nat):Int)) Q.P.n,((s.sur Q:Nat):Int),L,(m:Int),(L.length:Int),(i:Int))/\(∃y,y<Q.P.n/\s.st y=0/\m=s.v Q y)/\∀j,j<i->∀y:Nat,L.getD j 0=(y:Int)->m<=s.v Q y) L.length ⟨s.v Q y0,rfl,⟨y0,ha,(hh y0 ha).2 hq,rfl⟩,λj hj=>by omega⟩ ?_ ?_
 ·rintro i st hi ⟨m,rfl,⟨y,y1,y2,y3⟩,hm⟩;obtain⟨z,hz,ho⟩:=getD_in hr hi;have h4:(z:Int)∈L:=by rw[<-hz];exact zbx hi
  refine⟨_,by simp only[dlt hi,zbp,xai,xab,tn,hz,zad,dlt ho,zaf (λi=>((s.v Q i:Nat):Int)) ho,wsx i];rfl,?_⟩;by_cases hlt:s.v Q z<m
  ·refine⟨s.v Q z,by rw[dlt hlt];rfl,⟨z,ho,(hh z ho).2 h4,rfl⟩,λj hj y' hy'=>?_⟩;by_cases hji:j=i;·subst hji;rw[hz]at hy';rw[xda.1 hy'];exact xag _
   ·have:=hm j (by omega) y' hy';omega
  ·refine⟨m,by rw[nlt (by omega)];rfl,⟨y,y1,y2,y3⟩,λj hj y' hy'=>?_⟩;by_cases hji:j=i;·subst hji;rw[hz]at hy';rw[<-xda.1 hy'];omega
   ·exact hm j (by omega) y' hy'
 ·rintro st ⟨m,rfl,hy,hm⟩;refine⟨((c,gs,Q.P.lots,one,lst (λi=>(s.st i:Int)) Q.P.n,lst (λi=>(s.kp i:Int)) Q.P.n,filled,E.map (List.map rr),rest),(v,kk,qu,ex,su,el,ex2,ti),lst (λi=>((s.v Q i:Nat):Int)) Q.P.n,((s.sur Q:Nat):Int),L,(m:Int)),by simp only[nlt (xag L.length),xaf],?_⟩;have h3:∀k,k<Q.P.n->s.st k=0->m<=s.v Q k:=λk hk h0=>by obtain⟨j,hj,e⟩:=xdi ((hh k hk).1 h0);exact hm j hj k (by rw[xad,xaj hj,e];rfl)
  have hw:m<=100000000000:=by obtain⟨y,y1,_,y3⟩:=hy;rw[y3];exact hv y y1
  have ht:=hn m hy h3;have hb:=hb m hw;rw[ht]at hb;have hg:s.tied Q≠ []:=near_ne hI;have hp:∀y∈s.tied Q,∃i:Nat,y=(i:Int)/\i<Q.P.n:=λy hy=>by obtain⟨i,h,hi,_⟩:=zap.1 hy;exact⟨i,h,hi⟩
  have hs:(s.tied Q).length<=7:=by unfold MS.tied;rw[zav];have:=zax (s.near Q) Q.P.n;omega
  have he:(lst (λi=>(s.st i:Int)) Q.P.n).set x 2=lst (λi=>((upd s.st x 2 i:Nat):Int)) Q.P.n:=by rw[zcl];refine zai λk _=>?_;unfold upd;split<;>rfl
  have hd:(lst (λi=>(s.kp i:Int)) Q.P.n).set x 0=lst (λi=>((upd s.kp x 0 i:Nat):Int)) Q.P.n:=by rw[zcl];refine zai λk _=>?_;unfold upd;split<;>rfl
  obtain⟨b,hf⟩:=d150_eq (n:=Q.P.n) (ties:=Q.P.ties) (E:=E) (tied:=s.tied Q) (lots:=Q.P.lots) (least:=true) hQ.P.ties1 hQ.P.ties3 (zhf hQ.P) hE (by omega) hg (zbv _ _) hp (by omega);simp only[hb,xaa];unfold MS.pick at x1;generalize s.tied Q=T at hg hs x1 hf ⊢;obtain⟨z,T',h6⟩:=xip hg;subst h6;simp only[xbd,zdt ((0:Int)<((T'.length+1:Nat):Int)),show decide ((0:Nat)<=0)=true from rfl,xai,xab,zal,hc,hf,xaa,xfi];rw[xbd]at x1;by_cases hone:T'.length+1=1;·rw[if_pos hone,xgi]at x1;simp only[if_pos hone,zdf ((1:Int)<((T'.length+1:Nat):Int)),xaf,x1,zbp,zad,dlt x2,xai,xab,tn,he,hd]
  ·rw[if_neg hone]at x1;simp only[if_neg hone,zdt ((1:Int)<((T'.length+1:Nat):Int)),xab,x1,zbp,zad,dlt x2,xai,tn,he,hd]
def d160_eq(hQ:Q.OK)(hI:MI Q s){c:CT}{gs:List Grp}{lots:List Int}{filled:Int}{rest:List (List Rt)×(Int×(Int×(Int×(Int×(Int×(Int×(List RD×List Int)))))))} :
  d160 (c,gs,lots,(Q.one:Int),lst (λi=>((s.st1 Q i:Nat):Int)) Q.P.n,lst (λi=>(s.kp i:Int)) Q.P.n,filled,rest) (lst (λi=>((s.v Q i:Nat):Int)) Q.P.n) ((s.quo Q:Nat):Int)
   =some (c,gs,lots,(Q.one:Int),lst (λi=>((s.st1 Q i:Nat):Int)) Q.P.n,lst (λi=>((s.kp1 Q i:Nat):Int)) Q.P.n,filled,rest):=by
 have hy:=hQ.P.n7;have hw:=MS.tot_le hQ;have hh:=hQ.one1;have hn:=hQ.one6;have hv:∀i,i<Q.P.n->s.v Q i<=100000000000:=λi hi=>by have h1:=MS.v_le hQ hI hi;omega
 have hq:s.quo Q<=100000000001:=by have:=MS.quo_le hQ hI;omega
 unfold d160;rw[show d157 (c,gs,lots,(Q.one:Int),lst (λi=>((s.st1 Q i:Nat):Int)) Q.P.n,lst (λi=>(s.kp i:Int)) Q.P.n,filled,rest) 1=_ from zpt (st:=s.st1 Q) (n:=Q.P.n) rfl (by omega) 1,xaa];obtain⟨L,hL⟩:∃L,zcy (λi=>decide (s.st1 Q i=1)) Q.P.n=L:=⟨_,rfl⟩;have hl:zaq (λi=>decide (s.st1 Q i=1)) Q.P.n=L.map Int.ofNat:=by rw[<-hL];rfl
 have ht:∀i∈L,i<Q.P.n:=λi hi=>(zby.1 (by rw[hL];exact hi)).1;have h3:L.length<=7:=by rw[<-hL,zcb];have:=zax (λi=>decide (s.st1 Q i=1)) Q.P.n;omega
 have hr:L.Nodup:=by rw[<-hL];unfold zcy;exact xjk.filter _
 have hb:∀i,i<Q.P.n->(s.st1 Q i=1↔i∈L):=λi hi=>by rw[<-hL,zby,xak];exact⟨λh=>⟨hi,h⟩,λh=>h.2⟩
 obtain⟨nw,hs⟩:∃nw:Nat->Nat,(λi=>min Q.one (mup (mup (s.kp i*s.quo Q) Q.one*Q.one) (s.v Q i)))=nw:=⟨_,rfl⟩;have ha:∀i,min Q.one (mup (mup (s.kp i*s.quo Q) Q.one*Q.one) (s.v Q i))=nw i:=λi=>by rw[<-hs]
 rw[hl];have hg:(L.map Int.ofNat).length=L.length:=xao ..;simp only[show(L.map Int.ofNat).length=L.length from hg];refine zaa (λj=>((c,gs,lots,(Q.one:Int),lst (λi=>((s.st1 Q i:Nat):Int)) Q.P.n,lst (λi=>((if i∈L.take j/\0<s.v Q i then nw i else s.kp i:Nat):Int)) Q.P.n,filled,rest),lst (λi=>((s.v Q i:Nat):Int)) Q.P.n,((s.quo Q:Nat):Int),L.map Int.ofNat,(L.length:Int),(j:Int))) L.length ?_ (λj hj=>?_) (b:=(c,gs,lots,(Q.one:Int),lst (λi=>((s.st1 Q i:Nat):Int)) Q.P.n,lst (λi=>((s.kp1 Q i:Nat):Int)) Q.P.n,filled,rest)) ?_ rfl;·simp only[xcq,xdj,xkd,xcg];rfl
 ·obtain⟨x,hx⟩:∃x,L.getD j 0=x:=⟨_,rfl⟩;have ho:x∈L:=by rw[<-hx,xad,xaj hj];exact xbf hj
  have hc:=ht x ho;have hu:(L.map Int.ofNat).getD j 0=(x:Int):=by rw[xad,xci,xaj hj,<-hx,xad,xaj hj];rfl
  have hf:L.take (j+1)=L.take j++[x]:=by rw[zaw L 0 hj,hx]
  have hk:x∉L.take j:=λh=>by have h2:(L.take (j+1)).Nodup:=hr.sublist (xhc _ _);rw[hf]at h2;exact(xdh.1 h2).2.2 x h x (by simp) rfl
  have he:¬(x∈L.take j/\0<s.v Q x):=λh=>hk h.1;have hz:=hv x hc;have hp:=hI.kp1 x;have b1:s.kp x*s.quo Q<=1000000*100000000001:=xcu (by omega) hq;have b2:mup (s.kp x*s.quo Q) Q.one<=s.quo Q:=mup_le hh (by rw[xce];exact xcy _ hp);have b3:mup (s.kp x*s.quo Q) Q.one*Q.one<=100000000001*1000000:=xcu (by omega) hn;simp only[dlt hj,zbp,hg,xai,xab,tn,hu,zad,dlt hc,zaf (λi=>((s.v Q i:Nat):Int)) hc,zal,wsx j,hf];by_cases h0:0<s.v Q x
  ·simp only[zdt ((0:Int)<((s.v Q x:Nat):Int)),xab,zaf (λi=>((if i∈L.take j/\0<s.v Q i then nw i else s.kp i:Nat):Int)) hc,if_neg he,wmul (show s.kp x*s.quo Q<=9223372036854775807 by omega),d216_eq hh (show s.kp x*s.quo Q+Q.one<=4611686018427387904 by omega),xaa,wmul (show mup (s.kp x*s.quo Q) Q.one*Q.one<=9223372036854775807 by omega),d216_eq h0 (show mup (s.kp x*s.quo Q) Q.one*Q.one+s.v Q x<=4611686018427387904 by omega)];have hd:(bif decide (((mup (mup (s.kp x*s.quo Q) Q.one*Q.one) (s.v Q x):Nat):Int)<(Q.one:Int))then((mup (mup (s.kp x*s.quo Q) Q.one*Q.one) (s.v Q x):Nat):Int)else(Q.one:Int))=((nw x:Nat):Int):=by
    rw[<-ha];generalize mup (mup (s.kp x*s.quo Q) Q.one*Q.one) (s.v Q x)=y;by_cases h:y<Q.one;·rw[dlt h,xab];omega
    ·rw[nlt (by omega),xaf];omega
   have e:lst (upd (λi=>((if i∈L.take j/\0<s.v Q i then nw i else s.kp i:Nat):Int)) x ((nw x:Nat):Int)) Q.P.n=lst (λi=>((if i∈L.take j++[x]/\0<s.v Q i then nw i else s.kp i:Nat):Int)) Q.P.n:=zai λi hi=>by
    unfold upd;by_cases hix:i=x;·subst hix;rw[if_pos rfl,if_pos ⟨by simp,h0⟩]
    ·rw[if_neg hix];have:(i∈L.take j++[x])↔i∈L.take j:=by simp[hix]
     simp only[this]
   rw[hd,zcl,e]
  ·simp only[zdf ((0:Int)<((s.v Q x:Nat):Int)),xaf];have e:lst (λi=>((if i∈L.take j/\0<s.v Q i then nw i else s.kp i:Nat):Int)) Q.P.n=lst (λi=>((if i∈L.take j++[x]/\0<s.v Q i then nw i else s.kp i:Nat):Int)) Q.P.n:=zai λi hi=>by
    by_cases hix:i=x;·subst hix;rw[if_neg he,if_neg λh=>h0 h.2]
    ·have:(i∈L.take j++[x])↔i∈L.take j:=by simp[hix]
     simp only[this]
   rw[e]
 ·simp only[nlt (xag L.length),xaf,xaz];have e:lst (λi=>((if i∈L/\0<s.v Q i then nw i else s.kp i:Nat):Int)) Q.P.n=lst (λi=>((s.kp1 Q i:Nat):Int)) Q.P.n:=zai λi hi=>by
   unfold MS.kp1;rw[ha];by_cases h:s.st1 Q i=1;·have:=(hb i hi).1 h;simp only[h,this,xgl]
   ·have:¬i∈L:=λhm=>h ((hb i hi).2 hm);simp only[h,this,xkd]
  rw[e]
end
section
def pl(P:GP)(st:Nat->Nat):GS:={D:=1,num:=λ_=>1,at_:=λg=>nxt (P.p g) st 0,st:=st,keep:=λ_=>1}
def iv(P:GP)(st:Nat->Nat)(c:Nat):Nat:=(pl P st).lie P c
def zhg(P:GP)(st:Nat->Nat):Nat:=zaz (iv P st) P.n
def zlu(P:GP)(st:Nat->Nat):Nat:=zhg P st/2+1
def zcq(P:GP)(st:Nat->Nat):List Nat:=zcy (λi=>decide (st i=0)) P.n
def iwin(P:GP)(st:Nat->Nat):Option Nat:=if(zcq P st).length=1 then(zcq P st).head? else(zcq P st).find? λi=>decide (zlu P st<=iv P st i)
def zes(P:GP)(st:Nat->Nat):List Int:=zaq (zkm P (iv P st) st 0 false) P.n
def zmr(P:GP)(E:List (List Rat))(st:Nat->Nat):Int:=if(zes P st).length=1 then(zes P st).headD 0 else zvc P.ties E (zes P st) P.lots true
def zqs(P:GP)(st:Nat->Nat):Nat:=zaz (λg=>if nxt (P.p g) st 0<(P.p g).length then 0 else P.k g) P.G
def ird0(P:GP)(st:Nat->Nat):Rd:=
 {votes:=lst (λi=>(iv P st i:Rat)) P.n
  keep:=lst (λi=>if st i=0 then 1 else 0) P.n
  quota:=(zlu P st:Rat)
  exh:=(zqs P st:Rat)
  sur:=0
  el:=[]
  ex:=[]
  ti:=[]}
def irdW(P:GP)(st:Nat->Nat)(x:Nat):Rd:={ird0 P st with el:=[(x:Int)]}
def irdX(P:GP)(E:List (List Rat))(st:Nat->Nat):Rd:={ird0 P st with ex:=[zmr P E st],ti:=if(zes P st).length=1 then []else zes P st}
def zys(P:GP):Nat->List Rd->(Nat->Nat)->List Rd
 | 0,rs,_=>rs
 |k+1,rs,st=>match iwin P st with
  |some x=>rs++[irdW P st x]
  |none=>zys P k (rs++[irdX P (rs.map Rd.votes) st]) (upd st (zmr P (rs.map Rd.votes) st).toNat 3)
def zfb(P:GP):List Rd:=zys P P.n [] λ_=>0
def sum_two{f:Nat->Nat}{n x y:Nat}(hx:x<n)(hy:y<n)(hxy:x≠y):f x+f y<=zaz f n:=by
 have h1:=zfi (f:=λi=>if i=x then 0 else f i) hy;have h2:=sumN_upd (f:=f) (g:=λi=>if i=x then 0 else f i) hx λi hi hne=>by rw[if_neg hne]
 simp only[if_pos,if_neg (Ne.symm hxy)]at h1 h2;omega
variable {P:GP} {s:GS}
def zkx(hP:P.OK)(st:Nat->Nat):zhg P st<=P.mkd:=by refine xay (zpg (s:=pl P st) hP) (zdp λg _=>?_);show(if P.p g=[]then 0 else P.k g*1)<=_;rw[xea];exact xag _
def zyo{st:Nat->Nat}{x:Nat}(hx:x<P.n)(h:st x=0):(zcq P st).length=(zcq P (upd st x 3)).length+1:=by unfold zcq;rw[zcb,zcb];refine zzh hx (λi hi hne=>by rw[zfg _ _ hne]) (by rw[zce];rfl) (xae h)
end
abbrev IT:=CT×(List Grp×(List Int×(List Bool×List (List Rt))))
def fit_any{m:Int}{c:CT}{gs:List Grp}{lots:List Int}(h:zlc m c gs lots=0):zlc 3 (c.1,c.2.1,3,c.2.2.2.1,c.2.2.2.2.1,0,c.2.2.2.2.2.2) gs lots=0:=by obtain⟨_,_,_,n1,n7,s1,s5,_,_,_,t1,t3,hp,ll,hB⟩:=zdy h;exact ztc (n:=c.2.1.length) ⟨rfl,rfl,s1,s5,λh=>absurd h (by omega),λh=>absurd h (by omega),λ_=>rfl,t1,t3⟩ (by omega) (by omega) n1 n7 hp ll hB
def zjl{m:Int}{c:CT}{gs:List Grp}{lots:List Int}(h:zlc m c gs lots=0):(zbc c gs lots).OK/\(zbc c gs lots).G<=1000000:=by have:=zyu (fit_any h);exact⟨this.1,this.2.1⟩
def zsr{α:Type}{l:Nat}(h:l+1<=4294967296):decide ((l:Int)+((([]:List α).length+1:Nat):Int)<=LIM)=true:=zch (l:=List.replicate l ()) (d:=()) (by simpa using h) |> λh=>by simpa using h
def lim_inc{l:Nat}(h:l+1<=4294967296):decide ((l:Int)+1<=LIM)=true:=zch (l:=List.replicate l ()) (d:=()) (by simpa using h) |> λh=>by simpa using h
def d80_eq{c:CT}(gs:List Grp)(lots:List Int)(hn:c.2.1.length<=1000):d80 c gs lots=some (c,gs,lots,lst (λ_=>true) c.2.1.length,[]):=by
 unfold d80;generalize hm:c.2.1.length=n at hn;simp only[xbh,zbp,zcg (n:=n) (by omega),xai,xab,tn,xbq];refine zaa (λi=>(gs,lots,c,lst (λk=>decide (k<i)) n,(n:Int),(i:Int))) n ?_ (λi hi=>?_) (b:=(gs,lots,c,lst (λ_=>true) n)) ?_ rfl
 ·have:lst (λk=>decide (k<0)) n=List.replicate n false:=by rw[zii];exact zai λk _=>xah (by omega)
  rw[this];rfl
 ·have e:(lst (λk=>decide (k<i)) n).set i true=lst (λk=>decide (k<i+1)) n:=by
   rw[zcl];refine zai λk _=>?_;unfold upd;by_cases h:k=i;·rw[if_pos h];exact(xae (by omega)).symm
   ·rw[if_neg h];exact xdd.2 (by omega)
  simp only[dlt hi,zbp,zad,xai,xab,tn,e,wsx i]
 ·have e:lst (λk=>decide (k<n)) n=lst (λ_=>true) n:=zai λk hk=>xae hk;simp only[nlt (xag n),xaf,e]
def d83_eq{k:IT}{st:Nat->Nat}{n:Nat}(hk:k.2.2.2.1=lst (λi=>decide (st i=0)) n)(hn:n<=1000):d83 k=some (zaq (λi=>decide (st i=0)) n):=by
 unfold d83;rw[hk,zad];refine zaa (λi=>(zaq (λi=>decide (st i=0)) i,lst (λi=>decide (st i=0)) n,(n:Int),(i:Int))) n rfl (λi hi=>?_) ?_ rfl
 ·have hl:(zaq (λi=>decide (st i=0)) i).length+1<=4294967296:=by rw[zav];have:=zax (λi=>decide (st i=0)) i;omega
  rw[zeu];simp only[dlt hi,zbp,zad,xai,xab,tn,zaf _ hi,zal,wsx i];by_cases h:st i=0;·rw[xae h,xab,zch hl,xab];rfl
  ·rw[xah h,xaf];simp
 ·simp only[nlt (xag n),xaf]
def d149_eq{v:Nat->Nat}{n:Nat}(hn:n<=1000)(hv:∀i,i<n->v i<=9223372036854775807):d149 (lst (λi=>(v i:Int)) n)=some (lst (λi=>rr (v i:Rat)) n):=by
 unfold d149;rw[zad];refine zaa (λi=>(lst (λi=>rr (v i:Rat)) i,lst (λi=>(v i:Int)) n,(n:Int),(i:Int))) n rfl (λi hi=>?_) ?_ rfl;·have hl:=zch (l:=lst (λi=>rr (v i:Rat)) i) (d:=rr (v i:Rat)) (by rw[zad];omega);simp only[dlt hi,zbp,zad,xai,xab,tn,zaf (λi=>(v i:Int)) hi,zcm (hv i hi),xaa,wsx i];rw[zad]at hl;rw[hl,xab,zcz]
 ·simp only[nlt (xag n),xaf]
def d82_eq{k:IT}{st v:Nat->Nat}{n e:Nat}(hk:k.2.2.2.1=lst (λi=>decide (st i=0)) n)(hn:n<=1000)(hs:zaz v n<=4611686018427387904)(he:e<=9223372036854775807) :
  d82 k (lst (λi=>(v i:Int)) n) (e:Int)=some ((lst (λi=>rr (v i:Rat)) n,lst (λi=>rr (if st i=0 then 1 else 0)) n,rr ((zaz v n/2+1:Nat):Rat),rr (e:Rat),rr 0,[],[],[]),((zaz v n/2+1:Nat):Int)):=by
 have hv:∀i,i<n->v i<=4611686018427387904:=λi hi=>xay (zfi hi) hs;have ha:∀i,i<=n->zaz v i<=zaz v n:=by
  intro i;induction n with
  |zero=>intro h;rw[show i=0 by omega];exact xag _
  |succ n ih=>?_
  intro h;clear ih;have key:∀(f:Nat->Nat) (m n:Nat),m<=n->zaz f m<=zaz f n:=by
   intro f m n;induction n with
   |zero=>intro h;rw[show m=0 by omega];exact xag _
   |succ n ih=>
    intro h;by_cases hm:m=n+1;·rw[hm];exact xag _
    ·rw[zaz];have:=ih (by omega);omega
  exact key v i (n+1) h
 unfold d82;rw[zad];refine zaa (λi=>(k,lst (λi=>(v i:Int)) n,(e:Int),([],[],(false,[],[]),(false,[],[]),(false,[],[]),[],[],[]),((zaz v i:Nat):Int),lst (λi=>(v i:Int)) n,(n:Int),(i:Int))) n rfl (λi hi=>?_) (b:=(k,lst (λi=>(v i:Int)) n,(e:Int),([],[],(false,[],[]),(false,[],[]),(false,[],[]),[],[],[]),((zaz v n:Nat):Int))) ?_ ?_;·have hp:=ha (i+1) (by omega);rw[zaz]at hp;simp only[dlt hi,zbp,zad,xai,xab,tn,zaf (λi=>(v i:Int)) hi,zus (show zaz v i+v i<=9223372036854775807 by omega),wsx i];rfl
 ·simp only[nlt (xag n),xaf]
 have hq:w (w (Int.tdiv ((zaz v n:Nat):Int) 2)+1)=((zaz v n/2+1:Nat):Int):=by
  have h1:Int.tdiv ((zaz v n:Nat):Int) 2=((zaz v n/2:Nat):Int):=by rw[xdt (by omega)];rfl
  rw[h1,zbq (n:=((zaz v n/2:Nat):Int)) (by omega) (by omega),zmh (by omega)]
 have h0:d93 0=some (rr 0):=zcm (n:=0) (by omega);have h1:d93 1=some (rr 1):=zcm (n:=1) (by omega);simp only[d149_eq hn λi hi=>xay (hv i hi) (by omega),xaa,hq,zcm (show zaz v n/2+1<=9223372036854775807 by omega),zcm he,h0,hk,zad];generalize zaz v n/2+1=q;refine zaa (λi=>((lst (λi=>rr (v i:Rat)) n,lst (λi=>rr (if st i=0 then 1 else 0)) i,rr (q:Rat),rr (e:Rat),rr 0,[],[],[]),(q:Int),lst (λi=>decide (st i=0)) n,(n:Int),(i:Int))) n rfl (λi hi=>?_) (b:=((lst (λi=>rr (v i:Rat)) n,lst (λi=>rr (if st i=0 then 1 else 0)) n,rr (q:Rat),rr (e:Rat),rr 0,[],[],[]),(q:Int))) ?_ rfl
 ·have hl:=λd=>zch (l:=lst (λi=>rr (if st i=0 then 1 else 0)) i) (d:=d) (by rw[zad];omega);simp only[dlt hi,zbp,zad,xai,xab,tn,zaf (λi=>decide (st i=0)) hi,zal,wsx i,zcz];by_cases h:st i=0;·have:=hl (rr 1);rw[zad]at this;simp only[xae h,xab,h1,xaa,this,if_pos h]
  ·have:=hl (rr 0);rw[zad]at this;simp only[xah h,xaf,h0,xaa,this,if_neg h,xab]
 ·simp only[nlt (xag n),xaf]
def zpl(q:Int->Bool):∀p:List Int,zag q p=(p.takeWhile λc=>!q c).length
 | []=>rfl
 |x::p=>by rw[zag,xfg,zpl q p];cases q x<;>rfl
def zhb{α:Type}{p q:α->Bool}:∀{l:List α},(∀x∈l,p x=q x)->l.takeWhile p=l.takeWhile q
 | [],_=>rfl
 |x::l,h=>by rw[xfg,xfg,h x (by simp),zhb λy hy=>h y (xan _ hy)]
def ztd{st:Nat->Nat}{n:Nat}{p:List Int}(hb:isB (n:Int) p):zag (rem (lst (λi=>decide (st i=0)) n)) p=nxt p st 0:=by rw[zpl];unfold nxt;rw[xhi,xck];congr 1;refine zhb λx hx=>?_;have:=hb.2 x hx;unfold rem;rw[zad,if_pos this.2,zaf _ (show x.toNat<n by omega)];by_cases h:st x.toNat=0<;>simp[h]
def votes_iv{n:Nat}{gs:List Grp}{N:Int}(h:PileOK (n:Int) gs N)(c:CT)(lots:List Int)(st:Nat->Nat):zcv (lst (λi=>decide (st i=0)) n) gs=lst (λi=>((iv (zbc c gs lots) st i:Nat):Int)) n:=by
 unfold zcv;rw[zad];refine zai (f:=λ(c:Nat)=>zbi (zhq (lst (λi=>decide (st i=0)) n) (c:Int)) gs) λx hx=>?_;rw[wsum_sumG h (λp=>decide (zag (rem (lst (λi=>decide (st i=0)) n)) p<p.length)&&decide (p.getD (zag (rem (lst (λi=>decide (st i=0)) n)) p) 0=(x:Int))) (zhq (lst (λi=>decide (st i=0)) n) (x:Int)) (λp=>?_) c lots]
 ·congr 1;unfold iv GS.lie;refine zay λg hg=>?_;have hb:isB (n:Int) ((zbc c gs lots).p g):=(h.ballots _ (zba (l:=gs) (d:=([],0)) (i:=g) hg)).1;rw[ztd hb];show _=if(pl (zbc c gs lots) st).on (zbc c gs lots) g x=true then(zbc c gs lots).k g*1 else 0
  rw[xea];rfl
 ·unfold zhq;by_cases h1:zag (rem (lst (λi=>decide (st i=0)) n)) p<p.length/\p.getD (zag (rem (lst (λi=>decide (st i=0)) n)) p) 0=(x:Int);·rw[if_pos h1,xae h1.1,xae h1.2];rfl
  ·rw[if_neg h1];have:(decide (zag (rem (lst (λi=>decide (st i=0)) n)) p<p.length)&&decide (p.getD (zag (rem (lst (λi=>decide (st i=0)) n)) p) 0=(x:Int)))=false:=by
    cases h2:(decide (zag (rem (lst (λi=>decide (st i=0)) n)) p<p.length)&&decide (p.getD (zag (rem (lst (λi=>decide (st i=0)) n)) p) 0=(x:Int)));·rfl
    ·rw[xal,xak,xak]at h2;exact absurd h2 h1
   rw[this];rfl
def exh_iv{n:Nat}{gs:List Grp}{N:Int}(h:PileOK (n:Int) gs N)(c:CT)(lots:List Int)(st:Nat->Nat):zbi (zhp (lst (λi=>decide (st i=0)) n)) gs=((zqs (zbc c gs lots) st:Nat):Int):=by
 rw[wsum_sumG h (λp=>!decide (zag (rem (lst (λi=>decide (st i=0)) n)) p<p.length)) (zhp (lst (λi=>decide (st i=0)) n)) (λp=>?_) c lots];·congr 1;unfold zqs;refine zay λg hg=>?_;have hb:isB (n:Int) ((zbc c gs lots).p g):=(h.ballots _ (zba (l:=gs) (d:=([],0)) (i:=g) hg)).1;rw[ztd hb];by_cases hlt:nxt ((zbc c gs lots).p g) st 0<((zbc c gs lots).p g).length<;>simp[hlt]
 ·unfold zhp;by_cases h1:zag (rem (lst (λi=>decide (st i=0)) n)) p<p.length<;>simp[h1]
def ext0_tops(P:GP)(v st:Nat->Nat)(c:Nat):zkc (λx=>zaj (v x.toNat) 1) (zaq (λi=>decide (st i=c)) P.n)=zaq (zkm P v st c false) P.n:=by
 unfold zkc;rw[zem];refine zfn λi hi=>?_;unfold zkm;congr 1;rw[xeb,xbl,xbl];constructor
 ·intro h k hk;by_cases hc:st k=c;·have:=h (k:Int) (zap.2 ⟨k,rfl,xcm.1 hk,xae hc⟩);simpa[hc,zhi]using this
  ·simp[hc]
 ·intro h x hx;obtain⟨k,rfl,hk,hc⟩:=zap.1 hx;have:=h k (xcm.2 hk);rw[hc]at this;simpa[zhi]using this
def zoq{P:GP}(hP:P.OK)(st:Nat->Nat):RndOK P.n (lst (λi=>(iv P st i:Rat)) P.n):=⟨zad _ _,λq hq=>by obtain⟨i,hi,rfl⟩:=zih.1 hq;have h1:=zkx hP st;have h2:=mk_le hP;have h3:=hP.tot5;have h4:iv P st i<=zhg P st:=zfi hi;exact zhy (by omega)⟩
def zre{P:GP}{st:Nat->Nat}(h:0<(zcq P st).length):zes P st≠ []:=by unfold zes;rw[<-ext0_tops];refine zth λe=>?_;have:=xbr List.length e;rw[zav,<-zcb]at this;have e2:(zcq P st).length=0:=this;omega
def zrf{P:GP}{st:Nat->Nat}{x:Int}(h:x∈zes P st):∃i:Nat,x=(i:Int)/\i<P.n/\st i=0:=by obtain⟨i,h1,h2,h3⟩:=zap.1 h;unfold zkm at h3;rw[xal,xak]at h3;exact⟨i,h1,h2,h3.1⟩
def zyt{P:GP}{st:Nat->Nat}(E:List (List Rat))(h:0<(zcq P st).length):∃i:Nat,zmr P E st=(i:Int)/\i<P.n/\st i=0:=by
 refine zrf ?_;unfold zmr;have ha:=zre h;split;·exact zgi ha
 ·exact zxo ha
set_option maxHeartbeats 1000000 in
def d86_eq{P:GP}(hP:P.OK){st:Nat->Nat}{c:CT}{gs:List Grp}(hc:c.2.2.2.2.2.2.1=P.ties){E:List (List Rat)}(hE:∀r∈E,RndOK P.n r)(hEl:E.length<=1000)(hl:0<(zcq P st).length) :
  ∃x:Nat,x<P.n/\st x=0/\zmr P E st=(x:Int)/\d86 (c,gs,P.lots,lst (λi=>decide (st i=0)) P.n,E.map (List.map rr)) (lst (λi=>((iv P st i:Nat):Int)) P.n) = some ((x:Int),(if(zes P st).length=1 then []else zes P st),(c,gs,P.lots,lst (λi=>decide (upd st x 3 i=0)) P.n,(E++[lst (λi=>(iv P st i:Rat)) P.n]).map (List.map rr))):=by
 obtain⟨x,x1,x2,x3⟩:=zyt E hl;refine⟨x,x2,x3,x1,?_⟩;have hw:=hP.n7;have hb:∀i,i<P.n->iv P st i<=100000:=λi hi=>by have h1:=zkx hP st;have h2:=mk_le hP;have h3:=hP.tot5;have h4:iv P st i<=zhg P st:=zfi hi;omega
 unfold d86;rw[d83_eq (st:=st) (n:=P.n) rfl (by omega),xaa];have hL:∀y∈zaq (λi=>decide (st i=0)) P.n,∃i:Nat,y=(i:Int)/\i<P.n:=λy hy=>by obtain⟨i,h1,h2,h3⟩:=zap.1 hy;exact⟨i,h1,h2⟩
 have hT:zkc (λx=>zaj (iv P st x.toNat) 1) (zaq (λi=>decide (st i=0)) P.n)=zes P st:=ext0_tops P (iv P st) st 0;have hv:(zaq (λi=>decide (st i=0)) P.n).length<=7:=by rw[zav];have:=zax (λi=>decide (st i=0)) P.n;omega
 generalize zaq (λi=>decide (st i=0)) P.n=L at hL hT hv ⊢;refine zaa (λi=>((c,gs,P.lots,lst (λi=>decide (st i=0)) P.n,E.map (List.map rr)),lst (λi=>((iv P st i:Nat):Int)) P.n,zkc (λx=>zaj (iv P st x.toNat) 1) (L.take i),L,(L.length:Int),(i:Int))) L.length rfl (λi hi=>?_) (b:=((c,gs,P.lots,lst (λi=>decide (st i=0)) P.n,E.map (List.map rr)),lst (λi=>((iv P st i:Nat):Int)) P.n,zes P st)) ?_ ?_
 ·obtain⟨y,hy,ho⟩:=hL _ (zbx hi);have hs:L.take (i+1)=L.take i++[(y:Int)]:=by rw[zaw L 0 hi,hy]
  simp only[dlt hi,zbp,xai,xab,tn,zal,hy,wsx i,hs];by_cases hi0:i=0
  ·subst hi0;rw[xcq,zyz];have:zkc (λx=>zaj (iv P st x.toNat) 1) ([]++[(y:Int)])=[(y:Int)]:=by unfold zkc;have:zaj (iv P st y) 1<=zaj (iv P st y) 1:=xhl;simp[this]
   rw[this];rfl
  ·have he:L.take i≠ []:=by intro e;have:=xbr List.length e;rw[xax,xee]at this;omega
   have hj:=zth (ρ:=λx=>zaj (iv P st x.toNat) 1) he;have hf:∀z∈zkc (λx=>zaj (iv P st x.toNat) 1) (L.take i),z∈L:=λz hz=>xca (zoe.1 hz).1;have hk:(zkc (λx=>zaj (iv P st x.toNat) 1) (L.take i)).length<=7:=by have:=zrk (λx=>zaj (iv P st x.toNat) 1) (L.take i);rw[xax]at this;omega
   rw[ztg _ _ he];generalize zkc (λx=>zaj (iv P st x.toNat) 1) (L.take i)=T at hj hf hk ⊢;obtain⟨z,T',hm⟩:=xip hj;subst hm;obtain⟨zn,hz,hq⟩:=hL _ (hf z (by simp));subst hz;simp only[xgi,xbd,xfi,zad,dlt ho,dlt hq,zbp,xai,xab,tn,zaf (λi=>((iv P st i:Nat):Int)) ho,zaf (λi=>((iv P st i:Nat):Int)) hq,zdf (((T'.length+1:Nat):Int)=0),xap,zdt ((0:Int)<((T'.length+1:Nat):Int)),show decide ((0:Nat)<=0)=true from rfl,xam,zsx (show 0<1 by omega),frac_inj (show 0<1 by omega)];have hr:=zsr (α:=Int) (l:=T'.length+1) (by rw[xbd]at hk;omega);by_cases c1:iv P st y<iv P st zn;·simp only[dlt c1,xab,if_pos c1]
   ·rw[if_neg c1,zdf (((iv P st y:Nat):Int)<((iv P st zn:Nat):Int)),xaf];by_cases c2:iv P st y=iv P st zn;·simp only[zfc,xae c2,xab,hr,if_pos c2]
    ·simp only[zfc,xah c2,xaf,if_neg c2]
 ·simp only[nlt (xag L.length),xaf,xaz,hT]
 have he:=zre hl;have hu:=λy hy=>zrf (P:=P) (st:=st) (x:=y) hy;have ht:(zes P st).length<=7:=by rw[<-hT];have:=zrk (λx=>zaj (iv P st x.toNat) 1) L;omega
 have hg:=d149_eq (v:=iv P st) (n:=P.n) (by omega) λi hi=>by have:=hb i hi;omega
 have hh:(lst (λi=>decide (st i=0)) P.n).set x false=lst (λi=>decide (upd st x 3 i=0)) P.n:=by
  rw[zcl];refine zai λk _=>?_;unfold upd;by_cases h:k=x;·rw[if_pos h,if_pos h];rfl
  ·rw[if_neg h,if_neg h]
 have hp:=zsr (α:=List Rt) (l:=(E.map (List.map rr)).length) (by rw[xao];omega);have hn:(E++[lst (λi=>(iv P st i:Rat)) P.n]).map (List.map rr)=E.map (List.map rr)++[lst (λi=>rr (iv P st i:Rat)) P.n]:=by rw[xcc,xdo,xfa,zgj]
 have ha:(zes P st).Pairwise (·< ·):=zbv _ _;obtain⟨b,hd⟩:=d150_eq (n:=P.n) (ties:=P.ties) (E:=E) (tied:=zes P st) (lots:=P.lots) (least:=true) hP.ties1 hP.ties3 (zhf hP) hE (by omega) he ha (λy hy=>by obtain⟨i,h1,h2,_⟩:=hu y hy;exact⟨i,h1,h2⟩) (by omega);rw[hn];unfold zmr at x1;generalize zes P st=T at he ht x1 hd ⊢;obtain⟨z,T',hm⟩:=xip he;subst hm;simp only[xbd,zdt ((0:Int)<((T'.length+1:Nat):Int)),show decide ((0:Nat)<=0)=true from rfl,xai,xab,zal,hc,hd,xaa,xfi];rw[xbd]at x1;by_cases hone:T'.length+1=1;·rw[if_pos hone,xgi]at x1;simp only[if_pos hone,zdf ((1:Int)<((T'.length+1:Nat):Int)),xaf,x1,zbp,zad,dlt x2,xai,xab,hg,xaa,hp,tn,hh]
 ·rw[if_neg hone]at x1;simp only[if_neg hone,zdt ((1:Int)<((T'.length+1:Nat):Int)),xab,x1,zbp,zad,dlt x2,xai,hg,xaa,hp,tn,hh]
def zqk(g:Nat->Bool)(q:Int->Bool)(hq:∀i:Nat,q (i:Int)=g i):∀L:List Nat,(zag q (L.map Int.ofNat)<L.length/\L.find? g=some ((L.map Int.ofNat).getD (zag q (L.map Int.ofNat)) 0).toNat)\/(zag q (L.map Int.ofNat)=L.length/\L.find? g=none)
 | []=>.inr ⟨rfl,rfl⟩
 |x::L=>by
  rw[xdo,zag,List.find?_cons];have e:q (Int.ofNat x)=g x:=hq x;rw[e];cases h:g x
  ·rcases zqk g q hq L with⟨h1,h2⟩|⟨h1,h2⟩
   ·refine .inl ⟨by simp only[xbb,xcg,xbd];omega,?_⟩;simp only[xbb,xcg,h2,xin]
   ·refine .inr ⟨by simp only[xbb,xcg,xbd];omega,h2⟩
  ·refine .inl ⟨by simp,by simp⟩
def trI(P:GP):Int×(Int×(Int×(Int×(List RD×List Int)))):=(1,1,0,(P.n:Int),(zfb P).map rdT,(zfb P).flatMap Rd.el)
set_option maxHeartbeats 2000000 in
def d48_eq{c:CT}{gs:List Grp}{lots:List Int}(hg:GsOK gs)(hl:lots.length<=281474976710656):d48 c gs lots=some (if zlc 1 c gs lots=0 then(trI (zbc c gs lots),0)else((0,0,0,0,[],[]),zlc 1 c gs lots)):=by
 unfold d48;rw[d66_eq 1 c hg hl,xaa];by_cases ha:¬zlc 1 c gs lots=0;·rw[if_neg ha,xah ha];rfl
 have ha:=xhe.1 ha;rw[if_pos ha,xae ha,xat,xaf];obtain⟨hP,hG⟩:=zjl ha;obtain⟨_,_,_,n1,n7,_,_,_,_,_,_,_,hp,_,_⟩:=zdy ha;have h4:(zbc c gs lots).lots=lots:=rfl;have h2:c.2.2.2.2.2.2.1=(zbc c gs lots).ties:=rfl;have h0:c.2.1.length=(zbc c gs lots).n:=rfl;rw[d80_eq gs lots (by omega),xaa];have hh:=λst=>votes_iv hp c lots st;have hu:=λst=>exh_iv hp c lots st;have ht:=λ(st:Nat->Nat)=>hp.d81 (by omega) (r:=lst (λi=>decide (st i=0)) c.2.1.length) (by rw[zad];exact n7);have hn:∀st,zqs (zbc c gs lots) st<=100000:=λst=>by refine xay (xay (zdp (g:=(zbc c gs lots).k) λg _=>?_) (Nat.le_of_eq hP.total)) hP.tot5;split<;>omega
 simp only[hh,hu]at ht;generalize hPP:zbc c gs lots=P at *;rw[h0]at n1 n7 ht ⊢;rw[<-h4];have hj:lst (λ_=>true) P.n=lst (λi=>decide ((λ_=>0:Nat->Nat) i=0)) P.n:=rfl;rw[hj];refine zfs (Q:=λr=>r=some (trI P,0)) (λ(M:Nat) (a:List Grp×(Int×(Int×(Int×(Int×(List RD×List Int)))))×IT×(Int×(Int×(Int×(Int×(List RD×List Int))))))=>∃(st:Nat->Nat) (rs:List Rd),a=(gs,(0,0,0,0,[],[]),(c,gs,P.lots,lst (λi=>decide (st i=0)) P.n,(rs.map Rd.votes).map (List.map rr)),(1,1,0,(P.n:Int),rs.map rdT,[]))/\zys P M rs st=zfb P/\0<(zcq P st).length/\(zcq P st).length<=M/\rs.length+M=P.n/\(∀r∈rs.map Rd.votes,RndOK P.n r)/\rs.flatMap Rd.el=[]) P.n ⟨λ_=>0,[],rfl,rfl,?_,?_,by simp,by simp,rfl⟩ ?_;·have:0<zbu (λi=>decide ((λ_=>0:Nat->Nat) i=0)) P.n:=zjv.2 ⟨0,by omega,rfl⟩;unfold zcq;rw[zcb];exact this
 ·unfold zcq;rw[zcb];exact zax _ _
 ·rintro M a ⟨st,rs,rfl,hrun,hl0,hlM,hrs,hR,hel⟩;have h3:=zkx hP st;have h5:=mk_le hP;have h8:=hP.tot5;have h6:=hn st;have hd:=d82_eq (k:=(c,gs,P.lots,lst (λi=>decide (st i=0)) P.n,(rs.map Rd.votes).map (List.map rr))) (st:=st) (v:=iv P st) (n:=P.n) (e:=zqs P st) rfl (by omega) (by show zhg P st<=_;omega) (by omega);have hk:zaz (iv P st) P.n/2+1=zlu P st:=rfl;rw[hk]at hd;have hy:(lst (λi=>rr (iv P st i:Rat)) P.n,lst (λi=>rr (if st i=0 then 1 else 0)) P.n,rr (zlu P st:Rat),rr (zqs P st:Rat),rr 0,[],[],[])=rdT (ird0 P st):=by unfold rdT ird0;simp only[zgj]
  have he:zaq (λi=>decide (st i=0)) P.n=(zcq P st).map Int.ofNat:=rfl;have h9:(zcq P st).length<=7:=by unfold zcq;rw[zcb];have:=zax (λi=>decide (st i=0)) P.n;omega
  have hm:∀i∈zcq P st,i<P.n:=λi hi=>(zby.1 hi).1;have ho:=d84_on (s:=(zcq P st).map Int.ofNat) (f:=λa=>d85 a (lst (λi=>((iv P st i:Nat):Int)) P.n) ((zlu P st:Nat):Int)) (g:=λx=>decide (zlu P st<=iv P st x.toNat)) (λx hx=>by obtain⟨i,hi,rfl⟩:=xdx.1 hx;have hz:=hm i hi;have e:Int.ofNat i=(i:Int):=rfl;unfold d85;rw[e];simp only[zbp,zad,dlt hz,xai,xab,tn,zaf (λi=>((iv P st i:Nat):Int)) hz];congr 1;exact xdd.2 (by omega)) (by rw[xao];omega)
  simp only[ht st,xaa,hd,d83_eq (k:=(c,gs,P.lots,lst (λi=>decide (st i=0)) P.n,(rs.map Rd.votes).map (List.map rr))) (st:=st) (n:=P.n) rfl (by omega),he,ho,zal,xao,zfc];obtain⟨M,rfl⟩:∃M',M=M'+1:=⟨M-1,by omega⟩;rw[zys]at hrun;have hs:=lim_inc (l:=rs.length) (by omega);have hc:=zsr (α:=RD) (l:=rs.length) (by omega);have hW:∀x:Nat,(lst (λi=>rr (iv P st i:Rat)) P.n,lst (λi=>rr (if st i=0 then 1 else 0)) P.n,rr (zlu P st:Rat),rr (zqs P st:Rat),rr 0,[(x:Int)],[],[])=rdT (irdW P st x):=λx=>by have:=xbr (λr:RD=>(r.1,r.2.1,r.2.2.1,r.2.2.2.1,r.2.2.2.2.1,[(x:Int)],r.2.2.2.2.2.2.1,r.2.2.2.2.2.2.2)) hy;exact this
  have hb:∀x:Nat,iwin P st=some x->some (((1,1,0,(P.n:Int),rs.map rdT++[rdT (irdW P st x)],[(x:Int)]):Int×(Int×(Int×(Int×(List RD×List Int))))),(0:Int))=some (trI P,0):=λx hx=>by rw[hx]at hrun;unfold trI;rw[<-hrun,xcc,xfj,hel];rfl
  by_cases h1:(zcq P st).length=1
  ·obtain⟨x,hx⟩:=xcw.1 h1;have hw:iwin P st=some x:=by unfold iwin;rw[if_pos h1,hx];rfl
   refine .inr ⟨((1,1,0,(P.n:Int),rs.map rdT++[rdT (irdW P st x)],[(x:Int)]),0),?_,hb x hw⟩;have e0:((zcq P st).map Int.ofNat).getD 0 0=(x:Int):=by rw[hx];rfl
   simp only[h1,show decide (((1:Nat):Int)=1)=true from rfl,xbh,xab,show decide ((0:Int)<=0)=true from rfl,show decide ((0:Int)<((1:Nat):Int))=true from rfl,xai,Int.toNat_zero,e0,hW,hs,hc,xao,xbd]
  ·have hv:decide (((zcq P st).length:Int)=1)=false:=xah (by omega);have hq:∀i:Nat,(λx:Int=>decide (zlu P st<=iv P st x.toNat)) (i:Int)=decide (zlu P st<=iv P st i):=λi=>rfl;rcases zqk (λi=>decide (zlu P st<=iv P st i)) (λx=>decide (zlu P st<=iv P st x.toNat)) hq (zcq P st)with⟨f1,f2⟩|⟨f1,f2⟩
   ·generalize zag (λx=>decide (zlu P st<=iv P st x.toNat)) ((zcq P st).map Int.ofNat)=j at f1 f2 ⊢;obtain⟨x,hx⟩:∃x:Nat,((zcq P st).map Int.ofNat).getD j 0=(x:Int):=⟨_,zev (p:=λi=>decide (st i=0)) (n:=P.n) f1⟩;rw[hx,xam]at f2;have hw:iwin P st=some x:=by unfold iwin;rw[if_neg h1,f2]
    refine .inr ⟨((1,1,0,(P.n:Int),rs.map rdT++[rdT (irdW P st x)],[(x:Int)]),0),?_,hb x hw⟩;simp only[hv,xaf,if_pos f1,zbp,dlt f1,xab,xai,tn,hx,hW,hs,hc,xao,xbd]
   ·rw[f1];have hw:iwin P st=none:=by unfold iwin;rw[if_neg h1,f2]
    rw[hw]at hrun;obtain⟨x,x1,x2,x3,x4⟩:=d86_eq (st:=st) (c:=c) (gs:=gs) hP h2 hR (by rw[xao];omega) hl0;have h7:=zyo (P:=P) x1 x2;have hf:(rs++[irdX P (rs.map Rd.votes) st]).map Rd.votes=rs.map Rd.votes++[lst (λi=>(iv P st i:Rat)) P.n]:=by rw[xcc];rfl
    have hX:(lst (λi=>rr (iv P st i:Rat)) P.n,lst (λi=>rr (if st i=0 then 1 else 0)) P.n,rr (zlu P st:Rat),rr (zqs P st:Rat),rr 0,[],[(x:Int)],(if(zes P st).length=1 then []else zes P st))=rdT (irdX P (rs.map Rd.votes) st):=by have:=xbr (λr:RD=>(r.1,r.2.1,r.2.2.1,r.2.2.2.1,r.2.2.2.2.1,([]:List Int),[(x:Int)],(if(zes P st).length=1 then []else zes P st))) hy;rw[<-x3]at this ⊢;exact this
    refine .inl ⟨(gs,(0,0,0,0,[],[]),(c,gs,P.lots,lst (λi=>decide (upd st x 3 i=0)) P.n,((rs++[irdX P (rs.map Rd.votes) st]).map Rd.votes).map (List.map rr)),(1,1,0,(P.n:Int),(rs++[irdX P (rs.map Rd.votes) st]).map rdT,[])),M,?_,by omega,upd st x 3,rs++[irdX P (rs.map Rd.votes) st],rfl,?_,?_,by omega,by simp;omega,?_,?_⟩;·simp only[hv,xaf,if_neg (Nat.lt_irrefl _),show decide ((0:Int)<=-1)=false from rfl,x4,xaa,hX,hs,hc,xab,xao,xbd,hf];simp only[xcc];rfl
    ·rw[<-hrun];simp only;rw[x3,xam]
    ·omega
    ·rw[hf];intro r hr;rcases xbp.1 hr with hr|hr
     ·exact hR r hr
     ·rw[xba.1 hr];exact zoq hP st
    ·rw[xfj,hel];rfl
section
def KM(Q:MP)(c:CT)(gs:List Grp)(st kp:Nat->Nat)(fl:Nat)(rs:List Rd)(ev sur:Int):MT:=
 (c,gs,Q.P.lots,(Q.one:Int),lst (λi=>(st i:Int)) Q.P.n,lst (λi=>(kp i:Int)) Q.P.n,(fl:Int),(rs.map Rd.votes).map (List.map rr),ev,sur,2,(Q.P.seats:Int),c.2.2.2.2.2.1,(Q.P.n:Int),rs.map rdT,rs.flatMap Rd.el)
variable {Q:MP} {s:MS}
structure MQ(Q:MP)(c:CT)(gs:List Grp)(d:Nat):Prop where
 ok:Q.OK
 P:∃lots,zbc c gs lots=Q.P
 n:c.2.1.length=Q.P.n
 pile:∃N,PileOK (Q.P.n:Int) gs N
 seats:c.2.2.2.1=(Q.P.seats:Int)
 dig:c.2.2.2.2.2.1=(d:Int)
 d1:1<=d
 d6:d<=6
 ties:c.2.2.2.2.2.2.1=Q.P.ties
 one:Q.one=10^d
 om:Q.om=10^(d/2)
def MQ.d152{c:CT}{gs:List Grp}{d:Nat}(h:MQ Q c gs d)(hI:MI Q s):d152 (d:Int) (lst (λi=>(s.kp i:Int)) Q.P.n) gs=some (lst (λi=>((s.v Q i:Nat):Int)) Q.P.n,((s.rest Q:Nat):Int),true):=by obtain⟨lots,hl⟩:=h.P;obtain⟨N,hp⟩:=h.pile;have:=d152_ok h.ok.P.n1 h.ok.P.n7 h.d1 h.d6 hp c lots (kp:=s.kp) (by rw[<-h.one];exact hI.kp1);rw[hl,<-h.one]at this;exact this
def rdM(s:MS)(el ex ti:List Int):(lst (λi=>rr (zaj (s.v Q i) Q.one)) Q.P.n,lst (λi=>rr (zaj (s.kp i) Q.one)) Q.P.n,rr (zaj (s.quo Q) Q.one),rr (zaj (s.rest Q) Q.one),rr (zaj (s.sur Q) Q.one),el,ex,ti)=rdT {s.rd0 Q with el:=el,ex:=ex,ti:=ti}:=by unfold rdT MS.rd0;simp only[zgj]
def zqv(p:Nat->Bool)(f:Nat->Nat)(n:Nat){j:Nat}(hj:j<(zcy p n).length):(((zcy p n).take (j+1)).map f).sum=(((zcy p n).take j).map f).sum+f ((zcy p n).getD j 0):=by rw[zaw (zcy p n) 0 hj,xcc,xim];simp
def flat_lim{rs:List Rd}(h:∀r∈rs,RndOK Q.P.n r.votes/\r.el.length<=7):(rs.flatMap Rd.el).length<=7*rs.length:=zyx λr hr=>(h r hr).2
def zsu{α β:Type}{f:α->Option β}{g:(α->Option β)->Option β}{X:Option β->Prop}(Jp:(α->Option β)->Prop)(hf:Jp f)(h:∀J,Jp J->X (g J)):X (zbl f g):=by rw[zal];exact h f hf
def RndM(Q:MP)(c:CT)(gs:List Grp)(s:MS)(rs:List Rd)(z:Option (Bool×MT)):Prop:=
  (s.fin Q=true/\∃st' kp' fl' ev' su',z=some (false,KM Q c gs st' kp' fl' (rs++[s.done Q]) ev' su')) \/
  (s.fin Q=false/\s.cut Q=true/\z=some (true,KM Q c gs (s.excl Q (rs.map Rd.votes)).st (s.excl Q (rs.map Rd.votes)).kp ((s.excl Q (rs.map Rd.votes)).fl Q) (rs++[s.exR Q (rs.map Rd.votes)]) (((rs++[s.exR Q (rs.map Rd.votes)]).length:Int)-((s.excl Q (rs.map Rd.votes)).since:Int)) ((s.sur Q:Nat):Int))) \/
  (s.fin Q=false/\s.cut Q=false/\z=some (true,KM Q c gs (s.redu Q).st (s.redu Q).kp ((s.redu Q).fl Q) (rs++[s.rd0 Q]) (((rs++[s.rd0 Q]).length:Int)-((s.redu Q).since:Int)) ((s.sur Q:Nat):Int)))
set_option maxHeartbeats 4000000 in
def d89_eq{c:CT}{gs:List Grp}{d:Nat}(hQ:MQ Q c gs d){rs:List Rd}(hR:MRun Q s rs)(hsi:s.since<=rs.length){su:Nat}(hb:Bef rs s.bef su) :
  RndM Q c gs s rs (d89 (KM Q c gs s.st s.kp (s.fl Q) rs ((rs.length:Int)-(s.since:Int)) (su:Int))):=by
 have hI:=hR.inv;have he:=hQ.ok;have gd:=he.P.n7;have gh:=he.P.seats5;have hw:=he.one1;have jq:=he.one6;have gf:=MS.tot_le he;have j6:=MS.sum_le he hI;have hv:∀i,i<Q.P.n->s.v Q i<=100000000000:=λi hi=>by have h1:=MS.v_le he hI hi;omega
 have hq:s.quo Q<=100000000001:=by have:=MS.quo_le he hI;omega
 have js:s.sur Q<=zaz (s.v Q) Q.P.n:=zdp λi _=>by split<;>omega
 have gb:=hR.len;have jt:=hI.fill;have gc:=f1_le he hI;have jv:=f1_eq (Q:=Q) (s:=s);have hE:∀r∈rs.map Rd.votes,RndOK Q.P.n r:=λr hr=>by obtain⟨r',h1,rfl⟩:=xdx.1 hr;exact(hR.rnd r' h1).1
 have ge:=flat_lim hR.rnd;obtain⟨L,j4,h5⟩:=d156_ex he hI (k:=KM Q c gs s.st s.kp (s.fl Q) rs ((rs.length:Int)-(s.since:Int)) (su:Int)) rfl rfl hQ.seats rfl;have hu:L.length=zbu (s.el Q) Q.P.n:=by have:=h5.length_eq;rw[xao,zav]at this;exact this
 have jx:∀i∈L,i<Q.P.n:=λi hi=>by obtain⟨k,e,hk,_⟩:=zap.1 (h5.mem_iff.1 (xep hi));have:Int.ofNat i=(k:Int):=e;have:=xda.1 this;omega
 have jz:L.length<=7:=by rw[hu];have:=zax (s.el Q) Q.P.n;omega
 have jl:lst (λi=>((zbz s.st L 1 i:Nat):Int)) Q.P.n=lst (λi=>((s.st1 Q i:Nat):Int)) Q.P.n:=zai λi hi=>by
  unfold zbz MS.st1;have:i∈L↔s.el Q i=true:=by
   constructor;·intro h;obtain⟨k,e,hk,h2⟩:=zap.1 (h5.mem_iff.1 (xep h));have e:Int.ofNat i=(k:Int):=e;rw[xda.1 e];exact h2
   ·intro h;obtain⟨k,hk,e⟩:=xdx.1 (h5.mem_iff.2 (zap.2 ⟨i,rfl,hi,h⟩));have e:Int.ofNat k=(i:Int):=e;rw[<-xda.1 e];exact hk
  by_cases h:i∈L;·rw[if_pos h,if_pos (this.1 h)]
  ·rw[if_neg h,if_neg λh'=>h (this.2 h')]
 have je:zcf ([]++L.map Int.ofNat)=zaq (s.el Q) Q.P.n:=zhs h5 ((zbv _ _).imp λh=>xja h);have jf:s.fl Q+L.length=s.f1 Q:=by omega
 have ht:=λ(v kk:List Rt) (qu ex su':Rt)=>d155_eq (c:=c) (gs:=gs) (lots:=Q.P.lots) (one:=(Q.one:Int)) (st:=s.st) (n:=Q.P.n) (kp:=lst (λi=>(s.kp i:Int)) Q.P.n) (filled:=s.fl Q) (rest:=((rs.map Rd.votes).map (List.map rr),(rs.length:Int)-(s.since:Int),(su:Int),2,(Q.P.seats:Int),c.2.2.2.2.2.1,(Q.P.n:Int),rs.map rdT,rs.flatMap Rd.el)) (v:=v) (kk:=kk) (qu:=qu) (ex:=ex) (su:=su') (el:=[]) (ex2:=[]) (ti:=[]) (L:=L) (by omega) jx jz (by omega) (by simp);simp only[jl,je,jf]at ht;have hK:KM Q c gs s.st s.kp (s.fl Q) rs ((rs.length:Int)-(s.since:Int)) (su:Int)=(c,gs,Q.P.lots,(Q.one:Int),lst (λi=>(s.st i:Int)) Q.P.n,lst (λi=>(s.kp i:Int)) Q.P.n,((s.fl Q:Nat):Int),(rs.map Rd.votes).map (List.map rr),(rs.length:Int)-(s.since:Int),(su:Int),2,(Q.P.seats:Int),c.2.2.2.2.2.1,(Q.P.n:Int),rs.map rdT,rs.flatMap Rd.el):=rfl;have j0:=hQ.d152 hI;have jb:=d153_eq (k:=KM Q c gs s.st s.kp (s.fl Q) rs ((rs.length:Int)-(s.since:Int)) (su:Int)) (v:=s.v Q) (n:=Q.P.n) (one:=Q.one) rfl (by omega) hw jq λi hi=>by have:=hv i hi;omega
 have hp:=d153_eq (k:=KM Q c gs s.st s.kp (s.fl Q) rs ((rs.length:Int)-(s.since:Int)) (su:Int)) (v:=s.kp) (n:=Q.P.n) (one:=Q.one) rfl (by omega) hw jq λi hi=>by have:=hI.kp1 i;omega
 have j9:w (c.2.2.2.1+1)=((Q.P.seats+1:Nat):Int):=by rw[hQ.seats,zmh (by omega)]
 have jk:w (w (Int.tdiv ((zaz (s.v Q) Q.P.n:Nat):Int) ((Q.P.seats+1:Nat):Int))+1)=((s.quo Q:Nat):Int):=by
  have h1:Int.tdiv ((zaz (s.v Q) Q.P.n:Nat):Int) ((Q.P.seats+1:Nat):Int)=((zaz (s.v Q) Q.P.n/(Q.P.seats+1):Nat):Int):=by rw[xdt (by omega)];rfl
  have h2:=xed (zaz (s.v Q) Q.P.n) (Q.P.seats+1);have h3:s.quo Q=zaz (s.v Q) Q.P.n/(Q.P.seats+1)+1:=rfl;rw[h1,h3];generalize zaz (s.v Q) Q.P.n/(Q.P.seats+1)=z at h2 ⊢;rw[zbq (n:=(z:Int)) (by omega) (by omega),zmh (by omega)]
 unfold d89;generalize hKK:KM Q c gs s.st s.kp (s.fl Q) rs ((rs.length:Int)-(s.since:Int)) (su:Int)=K at *;have k1:K.1=c:=by rw[hK]
 have k2:K.2.1=gs:=by rw[hK]
 have k4:K.2.2.2.1=(Q.one:Int):=by rw[hK]
 have k6:K.2.2.2.2.2.1=lst (λi=>(s.kp i:Int)) Q.P.n:=by rw[hK]
 simp only[k1,k2,k6,hQ.dig,j0,xaa,zad];have goalS:∀(X:Option (Bool×MT)->Prop) (kf:MT×(List Int)×Int×Int->Option (Bool×MT)),X (kf (K,lst (λi=>((s.v Q i:Nat):Int)) Q.P.n,((s.rest Q:Nat):Int),((zaz (s.v Q) Q.P.n:Nat):Int)))->X ((zac (β:=(MT×(List Int)×Int×Int)) (λ((t0,t3,t4,t6,t34,t35,t36):MT×(List Int)×Int×Int×(List Int)×Int×Int)=>bif (decide (t36<t35))then bif (decide (0<=t36)&&decide (t36<(t34.length:Int)))then some (Sum.inl (t0,t3,t4,(w (t6+(List.getD t34 (Int.toNat t36) 0))),t34,t35,(w (t36+1))))else none else some (Sum.inr (t0,t3,t4,t6))) (K,lst (λi=>((s.v Q i:Nat):Int)) Q.P.n,((s.rest Q:Nat):Int),0,lst (λi=>((s.v Q i:Nat):Int)) Q.P.n,(Q.P.n:Int),0)).bind kf):=λX kf hX=>by
  refine zdu (λi=>(K,lst (λi=>((s.v Q i:Nat):Int)) Q.P.n,((s.rest Q:Nat):Int),((zaz (s.v Q) i:Nat):Int),lst (λi=>((s.v Q i:Nat):Int)) Q.P.n,(Q.P.n:Int),(i:Int))) Q.P.n rfl (λi hi=>?_) ?_ hX;·have hm:=zkn (s.v Q) (show i+1<=Q.P.n by omega);rw[zaz]at hm;simp only[dlt hi,zbp,zad,xai,xab,tn,zaf (λi=>((s.v Q i:Nat):Int)) hi,zus (show zaz (s.v Q) i+s.v Q i<=9223372036854775807 by omega),wsx i];rfl
  ·simp only[nlt (xag Q.P.n),xaf]
 refine goalS (RndM Q c gs s rs) _ ?_;simp only[k1,k4,k6,j9,zdf (((Q.P.seats+1:Nat):Int)=0),xap,xab,jk,jb,hp,xaa,zua (show s.quo Q<=9223372036854775807 by omega) (show Q.one<=9223372036854775807 by omega) hw,zua (show s.rest Q<=9223372036854775807 by omega) (show Q.one<=9223372036854775807 by omega) hw,j4];rw[hK];simp only[ht,xaa,show d157 (c,gs,Q.P.lots,(Q.one:Int),lst (λi=>((s.st1 Q i:Nat):Int)) Q.P.n,lst (λi=>(s.kp i:Int)) Q.P.n,((s.f1 Q:Nat):Int),(rs.map Rd.votes).map (List.map rr),(rs.length:Int)-(s.since:Int),(su:Int),2,(Q.P.seats:Int),c.2.2.2.2.2.1,(Q.P.n:Int),rs.map rdT,rs.flatMap Rd.el) 1=some (zaq (λi=>decide (s.st1 Q i=1)) Q.P.n)from zpt (st:=s.st1 Q) (n:=Q.P.n) rfl (by omega) 1,show d157 (c,gs,Q.P.lots,(Q.one:Int),lst (λi=>((s.st1 Q i:Nat):Int)) Q.P.n,lst (λi=>(s.kp i:Int)) Q.P.n,((s.f1 Q:Nat):Int),(rs.map Rd.votes).map (List.map rr),(rs.length:Int)-(s.since:Int),(su:Int),2,(Q.P.seats:Int),c.2.2.2.2.2.1,(Q.P.n:Int),rs.map rdT,rs.flatMap Rd.el) 0=some (zaq (λi=>decide (s.st1 Q i=0)) Q.P.n)from zpt (st:=s.st1 Q) (n:=Q.P.n) rfl (by omega) 0];have ju:(zaq (λi=>decide (s.st1 Q i=1)) Q.P.n).length=(zcy (λi=>decide (s.st1 Q i=1)) Q.P.n).length:=xao ..;have ga:(zcy (λi=>decide (s.st1 Q i=1)) Q.P.n).length<=7:=by rw[zcb];have:=zax (λi=>decide (s.st1 Q i=1)) Q.P.n;omega
 have jj:=zry (λi=>decide (s.st1 Q i=1)) (λi=>s.v Q i-s.quo Q) Q.P.n;have jo:zaz (λi=>if decide (s.st1 Q i=1)=true then s.v Q i-s.quo Q else 0) Q.P.n=s.sur Q:=zay λi _=>by by_cases h:s.st1 Q i=1<;>simp[h]
 rw[jo]at jj;refine zdu (X:=RndM Q c gs s rs) (λj=>((c,gs,Q.P.lots,(Q.one:Int),lst (λi=>((s.st1 Q i:Nat):Int)) Q.P.n,lst (λi=>(s.kp i:Int)) Q.P.n,((s.f1 Q:Nat):Int),(rs.map Rd.votes).map (List.map rr),(rs.length:Int)-(s.since:Int),(su:Int),2,(Q.P.seats:Int),c.2.2.2.2.2.1,(Q.P.n:Int),rs.map rdT,rs.flatMap Rd.el),lst (λi=>((s.v Q i:Nat):Int)) Q.P.n,((s.quo Q:Nat):Int),(lst (λi=>rr (zaj (s.v Q i) Q.one)) Q.P.n,lst (λi=>rr (zaj (s.kp i) Q.one)) Q.P.n,rr (zaj (s.quo Q) Q.one),rr (zaj (s.rest Q) Q.one),(false,[],[]),zaq (s.el Q) Q.P.n,[],[]),(((((zcy (λi=>decide (s.st1 Q i=1)) Q.P.n).take j).map λi=>s.v Q i-s.quo Q).sum:Nat):Int),zaq (λi=>decide (s.st1 Q i=1)) Q.P.n,((zaq (λi=>decide (s.st1 Q i=1)) Q.P.n).length:Int),(j:Int))) (zcy (λi=>decide (s.st1 Q i=1)) Q.P.n).length (by rw[xcq];rfl) (λj hj=>?_)
  (b:=((c,gs,Q.P.lots,(Q.one:Int),lst (λi=>((s.st1 Q i:Nat):Int)) Q.P.n,lst (λi=>(s.kp i:Int)) Q.P.n,((s.f1 Q:Nat):Int),(rs.map Rd.votes).map (List.map rr),(rs.length:Int)-(s.since:Int),(su:Int),2,(Q.P.seats:Int),c.2.2.2.2.2.1,(Q.P.n:Int),rs.map rdT,rs.flatMap Rd.el),lst (λi=>((s.v Q i:Nat):Int)) Q.P.n,((s.quo Q:Nat):Int),(lst (λi=>rr (zaj (s.v Q i) Q.one)) Q.P.n,lst (λi=>rr (zaj (s.kp i) Q.one)) Q.P.n,rr (zaj (s.quo Q) Q.one),rr (zaj (s.rest Q) Q.one),(false,[],[]),zaq (s.el Q) Q.P.n,[],[]),((s.sur Q:Nat):Int))) ?_ ?_
 ·have hg:=zdw hj;have jy:=zev hj;have j7:=hv _ hg.1;have h9:=zjd ((zcy (λi=>decide (s.st1 Q i=1)) Q.P.n).map λi=>s.v Q i-s.quo Q) (j+1);rw[<-xih,jj,zqv _ _ _ hj]at h9;have jg:(bif decide (0<w (((s.v Q ((zcy (λi=>decide (s.st1 Q i=1)) Q.P.n).getD j 0):Nat):Int)-((s.quo Q:Nat):Int)))then w (((s.v Q ((zcy (λi=>decide (s.st1 Q i=1)) Q.P.n).getD j 0):Nat):Int)-((s.quo Q:Nat):Int))else 0)=((s.v Q ((zcy (λi=>decide (s.st1 Q i=1)) Q.P.n).getD j 0)-s.quo Q:Nat):Int):=by
   generalize s.v Q ((zcy (λi=>decide (s.st1 Q i=1)) Q.P.n).getD j 0)=y at j7 ⊢;rw[zbq (by omega) (by omega)];by_cases h:(0:Int)<(y:Int)-((s.quo Q:Nat):Int);·rw[xae h,xab];omega
   ·rw[xah h,xaf];omega
  simp only[ju,dlt hj,zbp,xai,xab,tn,jy,zad,dlt hg.1,zaf (λi=>((s.v Q i:Nat):Int)) hg.1,jg,zus (show(((zcy (λi=>decide (s.st1 Q i=1)) Q.P.n).take j).map λi=>s.v Q i-s.quo Q).sum+(s.v Q ((zcy (λi=>decide (s.st1 Q i=1)) Q.P.n).getD j 0)-s.quo Q)<=9223372036854775807 by omega),wsx j,zqv _ _ _ hj]
 ·simp only[ju,nlt (xag _),xaf,xaz,jj]
 have ja:=zua (show s.sur Q<=9223372036854775807 by omega) (show Q.one<=9223372036854775807 by omega) hw;have ha:w (((rs.map rdT).length:Int)+1)=((rs.length+1:Nat):Int):=by rw[xao,zmh (by omega)]
 simp only[ja,xaa];refine zsu (X:=RndM Q c gs s rs) (λJ=>∀(st kp:Nat->Nat) (fl:Nat) (ev su':Int) (el ex ti:List Int) (last:Bool),el.length<=7->ex.length<=1->J ((c,gs,Q.P.lots,(Q.one:Int),lst (λi=>((st i:Nat):Int)) Q.P.n,lst (λi=>(kp i:Int)) Q.P.n,((fl:Nat):Int),(rs.map Rd.votes).map (List.map rr),ev,su',2,(Q.P.seats:Int),c.2.2.2.2.2.1,(Q.P.n:Int),rs.map rdT,rs.flatMap Rd.el),(lst (λi=>rr (zaj (s.v Q i) Q.one)) Q.P.n,lst (λi=>rr (zaj (s.kp i) Q.one)) Q.P.n,rr (zaj (s.quo Q) Q.one),rr (zaj (s.rest Q) Q.one),rr (zaj (s.sur Q) Q.one),el,ex,ti),((s.sur Q:Nat):Int),((rs.length+1:Nat):Int),last)=some (!last,KM Q c gs st kp fl (rs++[{s.rd0 Q with el:=el,ex:=ex,ti:=ti}]) (if el=[]/\ex=[]then ev else((rs.length+1:Nat):Int)) ((s.sur Q:Nat):Int))) ?_ ?_
 ·intro st kp fl ev su' el ex ti last gi jr;have l1:=zsr (α:=List Rt) (l:=rs.length) (by omega);have l2:=zsr (α:=RD) (l:=rs.length) (by omega);have l3:decide (((rs.flatMap Rd.el).length:Int)+(el.length:Int)<=LIM)=true:=zmq (by omega);have j8:KM Q c gs st kp fl (rs++[{s.rd0 Q with el:=el,ex:=ex,ti:=ti}]) (if el=[]/\ex=[]then ev else((rs.length+1:Nat):Int)) ((s.sur Q:Nat):Int)=(c,gs,Q.P.lots,(Q.one:Int),lst (λi=>((st i:Nat):Int)) Q.P.n,lst (λi=>(kp i:Int)) Q.P.n,((fl:Nat):Int),(rs.map Rd.votes).map (List.map rr)++[lst (λi=>rr (zaj (s.v Q i) Q.one)) Q.P.n],(if el=[]/\ex=[]then ev else((rs.length+1:Nat):Int)),((s.sur Q:Nat):Int),2,(Q.P.seats:Int),c.2.2.2.2.2.1,(Q.P.n:Int),rs.map rdT++[(lst (λi=>rr (zaj (s.v Q i) Q.one)) Q.P.n,lst (λi=>rr (zaj (s.kp i) Q.one)) Q.P.n,rr (zaj (s.quo Q) Q.one),rr (zaj (s.rest Q) Q.one),rr (zaj (s.sur Q) Q.one),el,ex,ti)],rs.flatMap Rd.el++el):=by rw[rdM];unfold KM MS.rd0;simp only[xcc,xfj,xdo,xfa,xdb,xhj,xbn,zgj]
  rw[j8];simp only[zal,xao,xbd,l1,l2,l3,xab,zus (show el.length+ex.length<=9223372036854775807 by omega)];by_cases h0:el=[]/\ex=[];·rw[if_pos h0,h0.1,h0.2];rfl
  ·rw[if_neg h0,xae,xab];have:0<el.length+ex.length:=by refine xgv λh=>h0 ⟨xec.1 (by omega),xec.1 (by omega)⟩
   omega
 intro J hJ;have jd:d157 (c,gs,Q.P.lots,(Q.one:Int),lst (λi=>((s.st1 Q i:Nat):Int)) Q.P.n,lst (λi=>(s.kp i:Int)) Q.P.n,((s.f1 Q:Nat):Int),(rs.map Rd.votes).map (List.map rr),(rs.length:Int)-(s.since:Int),(su:Int),2,(Q.P.seats:Int),c.2.2.2.2.2.1,(Q.P.n:Int),rs.map rdT,rs.flatMap Rd.el) 0=some (zaq (λi=>decide (s.st1 Q i=0)) Q.P.n):=zpt (st:=s.st1 Q) (n:=Q.P.n) rfl (by omega) 0;rw[hQ.seats];simp only[zfc,jd,xaa];have ho:=zpn (s:=s) he;by_cases c1:s.f1 Q=Q.P.seats
 ·have hf:s.fin Q=true:=by unfold MS.fin;rw[xae c1];rfl
  have hd:{s.rd0 Q with el:=zaq (s.el Q) Q.P.n,ex:=[],ti:=[]}=s.done Q:=by unfold MS.done;rw[if_pos c1];rfl
  have:=hJ (s.st1 Q) s.kp (s.f1 Q) ((rs.length:Int)-(s.since:Int)) (su:Int) (zaq (s.el Q) Q.P.n) [] [] true ho (by simp);rw[hd]at this;refine .inl ⟨hf,s.st1 Q,s.kp,s.f1 Q,_,_,Eq.trans ?_ this⟩;rw[xae c1,xab,ha]
 rw[xah c1,xaf];have gg:=zax (λi=>decide (s.st1 Q i=0)) Q.P.n;have j1:(zaq (λi=>decide (s.st1 Q i=0)) Q.P.n).length=s.h1 Q:=zav _ _;have j3:s.h1 Q<=7:=by have:s.h1 Q=zbu (λi=>decide (s.st1 Q i=0)) Q.P.n:=rfl;omega
 simp only[j1,zus (show s.f1 Q+s.h1 Q<=9223372036854775807 by omega)];by_cases c2:s.f1 Q+s.h1 Q<=Q.P.seats
 ·have hf:s.fin Q=true:=by unfold MS.fin;rw[xae c2,xcb]
  rw[zdt (((s.f1 Q+s.h1 Q:Nat):Int)<=(Q.P.seats:Int)),xab];have hn:=d155_eq (c:=c) (gs:=gs) (lots:=Q.P.lots) (one:=(Q.one:Int)) (st:=s.st1 Q) (n:=Q.P.n) (kp:=lst (λi=>(s.kp i:Int)) Q.P.n) (filled:=s.f1 Q) (rest:=((rs.map Rd.votes).map (List.map rr),(rs.length:Int)-(s.since:Int),(su:Int),2,(Q.P.seats:Int),c.2.2.2.2.2.1,(Q.P.n:Int),rs.map rdT,rs.flatMap Rd.el)) (v:=lst (λi=>rr (zaj (s.v Q i) Q.one)) Q.P.n) (kk:=lst (λi=>rr (zaj (s.kp i) Q.one)) Q.P.n) (qu:=rr (zaj (s.quo Q) Q.one)) (ex:=rr (zaj (s.rest Q) Q.one)) (su:=rr (zaj (s.sur Q) Q.one)) (el:=zaq (s.el Q) Q.P.n) (ex2:=[]) (ti:=[]) (L:=zcy (λi=>decide (s.st1 Q i=0)) Q.P.n) (by omega) (λi hi=>(zby.1 hi).1) (by rw[zcb];omega) (by omega) (by omega);have h4:zcf (zaq (s.el Q) Q.P.n++(zcy (λi=>decide (s.st1 Q i=0)) Q.P.n).map Int.ofNat)=zaq (λi=>s.el Q i||decide (s.st1 Q i=0)) Q.P.n:=znf (q:=λi=>decide (s.st1 Q i=0)) (λi h=>by
   rcases zdo (Q:=Q) (s:=s) i with⟨h0,h1,h2,_⟩|⟨h0,h2⟩
   ·rw[h2];rfl
   ·rw[h]at h0;cases h0) Q.P.n
  rw[h4]at hn;have jw:(zaq (λi=>s.el Q i||decide (s.st1 Q i=0)) Q.P.n).length<=7:=by rw[zav];have:=zax (λi=>s.el Q i||decide (s.st1 Q i=0)) Q.P.n;omega
  have hd:{s.rd0 Q with el:=zaq (λi=>s.el Q i||decide (s.st1 Q i=0)) Q.P.n,ex:=[],ti:=[]}=s.done Q:=by unfold MS.done;rw[if_neg c1];rfl
  have:=hJ (zbz (s.st1 Q) (zcy (λi=>decide (s.st1 Q i=0)) Q.P.n) 1) s.kp (s.f1 Q+(zcy (λi=>decide (s.st1 Q i=0)) Q.P.n).length) ((rs.length:Int)-(s.since:Int)) (su:Int) (zaq (λi=>s.el Q i||decide (s.st1 Q i=0)) Q.P.n) [] [] true jw (by simp);rw[hd]at this;refine .inl ⟨hf,_,_,_,_,_,Eq.trans ?_ this⟩;have j5:zaq (λi=>decide (s.st1 Q i=0)) Q.P.n=(zcy (λi=>decide (s.st1 Q i=0)) Q.P.n).map Int.ofNat:=rfl;rw[j5,hn,xaa];simp only[ha]
 have hf:s.fin Q=false:=by unfold MS.fin;rw[xah c1,xah c2];rfl
 rw[zdf (((s.f1 Q+s.h1 Q:Nat):Int)<=(Q.P.seats:Int)),xaf];have h8:((rs++[s.exR Q (rs.map Rd.votes)]).length:Int)=((rs.length+1:Nat):Int):=by simp
 have hx:((rs++[s.rd0 Q]).length:Int)=((rs.length+1:Nat):Int):=by simp
 have hl:s.cut Q=false->RndM Q c gs s rs (J ((c,gs,Q.P.lots,(Q.one:Int),lst (λi=>((s.st1 Q i:Nat):Int)) Q.P.n,lst (λi=>((s.kp1 Q i:Nat):Int)) Q.P.n,((s.f1 Q:Nat):Int),(rs.map Rd.votes).map (List.map rr),(rs.length:Int)-(s.since:Int),(su:Int),2,(Q.P.seats:Int),c.2.2.2.2.2.1,(Q.P.n:Int),rs.map rdT,rs.flatMap Rd.el),(lst (λi=>rr (zaj (s.v Q i) Q.one)) Q.P.n,lst (λi=>rr (zaj (s.kp i) Q.one)) Q.P.n,rr (zaj (s.quo Q) Q.one),rr (zaj (s.rest Q) Q.one),rr (zaj (s.sur Q) Q.one),zaq (s.el Q) Q.P.n,[],[]),((s.sur Q:Nat):Int),((rs.length+1:Nat):Int),false)):=λhc=>by
  have:=hJ (s.st1 Q) (s.kp1 Q) (s.f1 Q) ((rs.length:Int)-(s.since:Int)) (su:Int) (zaq (s.el Q) Q.P.n) [] [] false ho (by simp);refine .inr (.inr ⟨hf,hc,?_⟩);rw[this,hx];show some (true,KM Q c gs (s.st1 Q) (s.kp1 Q) (s.f1 Q) (rs++[s.rd0 Q]) _ _)=some (true,KM Q c gs (s.st1 Q) (s.kp1 Q) (s.f1 Q) (rs++[s.rd0 Q]) (((rs.length+1:Nat):Int)-((if s.some1 Q then 0 else s.since+1:Nat):Int)) _);congr 3;cases h1:s.some1 Q
  ·have hh:zaq (s.el Q) Q.P.n=[]:=by rw[<-xec,zav];refine xff λh=>?_;unfold MS.some1 at h1;exact absurd h (xev h1)
   rw[if_pos ⟨hh,rfl⟩];simp only[xbb,xcg];omega
  ·have j2:¬(zaq (s.el Q) Q.P.n=[]/\([]:List Int)=[]):=λh=>by have:=xbr List.length h.1;rw[zav]at this;unfold MS.some1 at h1;have:=xbc h1;simp at *;omega
   rw[if_neg j2];simp
 have jc:=d160_eq (Q:=Q) (s:=s) he hI (c:=c) (gs:=gs) (lots:=Q.P.lots) (filled:=((s.f1 Q:Nat):Int)) (rest:=((rs.map Rd.votes).map (List.map rr),(rs.length:Int)-(s.since:Int),(su:Int),2,(Q.P.seats:Int),c.2.2.2.2.2.1,(Q.P.n:Int),rs.map rdT,rs.flatMap Rd.el));simp only[ha,zal];cases h1:s.some1 Q
 ·have hh:zaq (s.el Q) Q.P.n=[]:=by rw[<-xec,zav];refine xff λh=>?_;unfold MS.some1 at h1;exact absurd h (xev h1)
  have hy:s.cut Q=s.stall Q:=by unfold MS.cut;rw[h1];rfl
  have h6:lst (λi=>((s.st1 Q i:Nat):Int)) Q.P.n=lst (λi=>(s.st i:Int)) Q.P.n:=zai λi hi=>by rw[(el_out h1 hi).2]
  have h7:s.f1 Q=s.fl Q:=by
   have:zbu (s.el Q) Q.P.n=0:=by rw[<-zav,hh];rfl
   omega
  have jp:=d158_eq (Q:=Q) (s:=s) (k:=(c,gs,Q.P.lots,(Q.one:Int),lst (λi=>((s.st1 Q i:Nat):Int)) Q.P.n,lst (λi=>(s.kp i:Int)) Q.P.n,((s.f1 Q:Nat):Int),(rs.map Rd.votes).map (List.map rr),(rs.length:Int)-(s.since:Int),(su:Int),2,(Q.P.seats:Int),c.2.2.2.2.2.1,(Q.P.n:Int),rs.map rdT,rs.flatMap Rd.el)) (rs:=rs) hQ.d1 hQ.d6 hQ.dig rfl (by omega) hsi rfl rfl hb hQ.om;have hz:decide (((zaq (s.el Q) Q.P.n).length:Int)=0)=true:=by rw[hh];rfl
  simp only[hz,xab,jp,xaa];cases hs:s.stall Q;·rw[xaf];simp only[jc,xaa];exact hl (hy.trans hs)
  ·rw[xab];obtain⟨x,x1,x2,jn⟩:=d159_eq (Q:=Q) (s:=s) he hI hQ.ties (gs:=gs) (one:=(Q.one:Int)) (filled:=((s.f1 Q:Nat):Int)) (E:=rs.map Rd.votes) (rest:=((rs.length:Int)-(s.since:Int),(su:Int),2,(Q.P.seats:Int),c.2.2.2.2.2.1,(Q.P.n:Int),rs.map rdT,rs.flatMap Rd.el)) hE (by rw[xao];omega) (lst (λi=>rr (zaj (s.v Q i) Q.one)) Q.P.n) (lst (λi=>rr (zaj (s.kp i) Q.one)) Q.P.n) (rr (zaj (s.quo Q) Q.one)) (rr (zaj (s.rest Q) Q.one)) (rr (zaj (s.sur Q) Q.one)) (zaq (s.el Q) Q.P.n) [] [];rw[h6,jn,xaa];have:=hJ (upd s.st x 2) (upd s.kp x 0) (s.f1 Q) ((rs.length:Int)-(s.since:Int)) (su:Int) (zaq (s.el Q) Q.P.n) [(x:Int)] (if(s.tied Q).length=1 then []else s.tied Q) false ho (by simp);refine .inr (.inl ⟨hf,hy.trans hs,?_⟩);rw[h8];have jr:(s.excl Q (rs.map Rd.votes)).fl Q=s.f1 Q:=by rw[h7];obtain⟨x',y1,y2,y3⟩:=zht hI (rs.map Rd.votes);unfold MS.excl;rw[y1,xam];exact fl_excl y2 y3
   have jm:(s.excl Q (rs.map Rd.votes)).st=upd s.st x 2:=by unfold MS.excl;rw[x2];rfl
   have jh:(s.excl Q (rs.map Rd.votes)).kp=upd s.kp x 0:=by unfold MS.excl;rw[x2];rfl
   have ji:{s.rd0 Q with el:=zaq (s.el Q) Q.P.n,ex:=[(x:Int)],ti:=if(s.tied Q).length=1 then []else s.tied Q}=s.exR Q (rs.map Rd.votes):=by unfold MS.exR;rw[x2];rfl
   rw[jr,jm,jh];rw[ji,if_neg (show ¬(zaq (s.el Q) Q.P.n=[]/\[(x:Int)]=[]) by simp)]at this;refine this.trans ?_;show some (true,KM Q c gs (upd s.st x 2) (upd s.kp x 0) (s.f1 Q) (rs++[s.exR Q (rs.map Rd.votes)]) ((rs.length+1:Nat):Int) _)=some (true,KM Q c gs (upd s.st x 2) (upd s.kp x 0) (s.f1 Q) (rs++[s.exR Q (rs.map Rd.votes)]) (((rs.length+1:Nat):Int)-((0:Nat):Int)) _);rw[show((rs.length+1:Nat):Int)-((0:Nat):Int)=((rs.length+1:Nat):Int) by omega]
 ·have hz:decide (((zaq (s.el Q) Q.P.n).length:Int)=0)=false:=by refine xah ?_;rw[zav];unfold MS.some1 at h1;have:=xbc h1;omega
  simp only[hz,xaf,jc,xaa];exact hl (by unfold MS.cut;rw[h1];rfl)
def mqOf(c:CT)(gs:List Grp)(lots:List Int):MP:=⟨zbc c gs lots,10^c.2.2.2.2.2.1.toNat,10^(c.2.2.2.2.2.1.toNat/2)⟩
def trM(c:CT)(Q:MP):Int×(Int×(Int×(Int×(List RD×List Int)))):=(2,(Q.P.seats:Int),c.2.2.2.2.2.1,(Q.P.n:Int),(zmg Q).map rdT,(zmg Q).flatMap Rd.el)
def zyj{c:CT}{gs:List Grp}{lots:List Int}(h:zlc 2 c gs lots=0):MQ (mqOf c gs lots) c gs c.2.2.2.2.2.1.toNat:=by obtain⟨hP,_⟩:=zjl h;obtain⟨_,_,_,n1,n7,s1,s5,_,hd,_,t1,t3,hp,ll,hB⟩:=zdy h;obtain⟨ha,hb⟩:=hd rfl;refine⟨⟨hP,ten_pos _,ten_six (by omega),ten_pos _⟩,⟨lots,rfl⟩,rfl,⟨_,hp⟩,?_,by omega,by omega,by omega,rfl,rfl,rfl⟩;show c.2.2.2.1=(c.2.2.2.1.toNat:Int);omega
def Bef.excl'{rs:List Rd}{r:Rd}{sur:Nat}(h:r.ex≠ []):Bef (rs++[r]) none sur:=.excl rs r rfl h rfl
def Bef.kept'{rs:List Rd}{r:Rd}{sur:Nat}(h:r.ex=[]):Bef (rs++[r]) (some sur) sur:=.kept rs r rfl h rfl
set_option maxHeartbeats 1000000 in
def d49_eq{c:CT}{gs:List Grp}{lots:List Int}(hg:GsOK gs)(hl:lots.length<=281474976710656):d49 c gs lots=some (if zlc 2 c gs lots=0 then(trM c (mqOf c gs lots),0)else((0,0,0,0,[],[]),zlc 2 c gs lots)):=by
 unfold d49;rw[d66_eq 2 c hg hl,xaa];by_cases ha:¬zlc 2 c gs lots=0;·rw[if_neg ha,xah ha];rfl
 have ha:=xhe.1 ha;rw[if_pos ha,xae ha,xat,xaf];have hQ:=zyj ha;have ho:(mqOf c gs lots).P.lots=lots:=rfl;have hi:=hQ.dig;have hh:=hQ.one;generalize hd:c.2.2.2.2.2.1.toNat=d at hQ hi hh;generalize mqOf c gs lots=Q at hQ ho hh ⊢;have hn:=hQ.n;have hj:=hQ.ok;have hq:=hj.P.n7;have hr:=hQ.d6;have hk:d88 [((Q.one:Nat):Int)] (Q.P.n:Int)=some (lst (λ_=>((Q.one:Nat):Int)) Q.P.n):=by unfold d88;rw[xae (show([((Q.one:Nat):Int)]:List Int).length=1 from rfl),zdt ((0:Int)<=(Q.P.n:Int)),zdt ((Q.P.n:Int)<=1000),xai,xai,xab,tn,zii];rfl
 rw[hi,d87_eq (by omega),xaa,<-hh,hn];simp only[xbh,zbp,zcg (n:=Q.P.n) (by omega),xai,xab,tn,hk,xaa,hQ.seats];have hp:(c,gs,lots,((Q.one:Nat):Int),List.replicate Q.P.n (0:Int),lst (λ_=>((Q.one:Nat):Int)) Q.P.n,(0:Int),([]:List (List Rt)),(0:Int),(0:Int),(2:Int),(Q.P.seats:Int),(d:Int),(Q.P.n:Int),([]:List RD),([]:List Int))=KM Q c gs Q.s0.st Q.s0.kp (Q.s0.fl Q) [] ((([]:List Rd).length:Int)-(Q.s0.since:Int)) ((0:Nat):Int):=by
  have:Q.s0.fl Q=0:=by unfold MS.fl zbu;exact zet _
  unfold KM;rw[this,ho,zii,hi];rfl
 rw[hp];refine zfs (Q:=λr=>r=some (trM c Q,0)) (λ(M:Nat) (a:(Int×(Int×(Int×(Int×(List RD×List Int)))))×MT)=>∃(s:MS) (rs:List Rd) (su:Nat),a=((0,0,0,0,[],[]),KM Q c gs s.st s.kp (s.fl Q) rs ((rs.length:Int)-(s.since:Int)) (su:Int))/\MRun Q s rs/\s.since<=rs.length/\Bef rs s.bef su/\M=s.meas Q) (Q.s0.meas Q) ⟨Q.s0,[],0,rfl,MRun.start hj,xag _,.start rfl rfl,rfl⟩ ?_;rintro M a ⟨s,rs,su,rfl,hR,hsi,hb,rfl⟩;rcases d89_eq hQ hR hsi hb with⟨hf,st',kp',fl',ev',su',he⟩|⟨hf,hc,he⟩|⟨hf,hc,he⟩
 ·refine .inr ⟨((0,0,0,0,[],[]),KM Q c gs st' kp' fl' (rs++[s.done Q]) ev' su'),by simp only[he,xaa,xaf],?_⟩;show some ((2,(Q.P.seats:Int),c.2.2.2.2.2.1,(Q.P.n:Int),(rs++[s.done Q]).map rdT,(rs++[s.done Q]).flatMap Rd.el),0)=some (trM c Q,0);rw[hR.fin hf];rfl
 ·have hm:=(zti hj hR.inv hf hc (rs.map Rd.votes)).2;exact .inl ⟨_,(s.excl Q (rs.map Rd.votes)).meas Q,by simp only[he,xaa,xab],hm,_,_,s.sur Q,rfl,hR.excl hj hf hc,xbx _,Bef.excl' (by simp[MS.exR]),rfl⟩
 ·have hm:=(zsl hj hR.inv hf hc).2;refine .inl ⟨_,(s.redu Q).meas Q,by simp only[he,xaa,xab],hm,_,_,s.sur Q,rfl,hR.redu hj hf hc,?_,Bef.kept' rfl,rfl⟩;show(if s.some1 Q then 0 else s.since+1)<=(rs++[s.rd0 Q]).length;rw[xbo];split;·omega
  ·simp;omega
end
section
variable {α:Type} (z:α)
def swapA(A:List α)(y x:α)(T:List α):((A++y::x::T).set (A.length+1) y).set A.length x=A++x::y::T:=by rw[xfn _ _ (by omega),show A.length+1-A.length=1 by omega];rw[xfn _ _ (by omega),xen];rfl
def getA_mid(A:List α)(y:α)(T:List α):(A++y::T).getD A.length z=y:=by rw[xad,xde (xag _),xen];rfl
def getA_mid1(A:List α)(y x:α)(T:List α):(A++y::x::T).getD (A.length+1) z=x:=by rw[xad,xde (by omega),show A.length+1-A.length=1 by omega];rfl
noncomputable def insA:(List α) × Int × Int × (α->α->Option Int) × Int × Int->Option (((List α) × Int × Int × (α->α->Option Int) × Int × Int) ⊕ ((List α) × Int × Int × (α->α->Option Int) × Int)):=λ((data_2,a_2,b_2,cmp_2,i_1,j_):(List α) × Int × Int × (α->α->Option Int) × Int × Int) =>
            zbl (λ((data_3,a_3,b_3,cmp_3,i_2,j__1,t34):(List α) × Int × Int × (α->α->Option Int) × Int × Int × Bool) =>bif t34 then bif (decide (0<=(w (j__1-1)))&&decide ((w (j__1-1))<(data_3.length:Int)))then bif (decide (0<=j__1)&&decide (j__1<(data_3.length:Int)))then bif (decide (0<=j__1)&&decide (j__1<(data_3.length:Int)))then bif (decide (0<=(w (j__1-1)))&&decide ((w (j__1-1))<((List.set data_3 (Int.toNat j__1) (List.getD data_3 (Int.toNat (w (j__1-1))) z)).length:Int)))then some (Sum.inl ((List.set (List.set data_3 (Int.toNat j__1) (List.getD data_3 (Int.toNat (w (j__1-1))) z)) (Int.toNat (w (j__1-1))) (List.getD data_3 (Int.toNat j__1) z)),a_3,b_3,cmp_3,i_2,(w (j__1-1))))else none else none else none else none else some (Sum.inr (data_3,a_3,b_3,cmp_3,i_2))) λj__2=>bif (decide (a_2<j_))then bif (decide (0<=j_)&&decide (j_<(data_2.length:Int)))then bif (decide (0<=(w (j_-1)))&&decide ((w (j_-1))<(data_2.length:Int)))then
                  (cmp_2 (List.getD data_2 (Int.toNat j_) z) (List.getD data_2 (Int.toNat (w (j_-1))) z)).bind λr=>
                  j__2 (data_2,a_2,b_2,cmp_2,i_1,j_,(decide (r<0)))else none else none else
              j__2 (data_2,a_2,b_2,cmp_2,i_1,j_,false)
noncomputable def insO:(List α) × Int × Int × (α->α->Option Int) × Int->Option (((List α) × Int × Int × (α->α->Option Int) × Int) ⊕ (List α)):=λ((data_1,a_1,b_1,cmp_1,i):(List α) × Int × Int × (α->α->Option Int) × Int) =>bif (decide (i<b_1))then (zac (insA z) (data_1,a_1,b_1,cmp_1,i,i)).bind λ((data_4,a_4,b_4,cmp_4,i_3):(List α)×Int×Int×(α->α->Option Int)×Int)=>some (Sum.inl (data_4,a_4,b_4,cmp_4,(w (i_3+1))))else some (Sum.inr data_1)
def insS_ex{l:List α}{cmp:α->α->Option Int}{g:α->α->Int}(hl:l.length<=1000)(hc:∀a∈l,∀b∈l,cmp a b=some (g a b))(has:∀a∈l,∀b∈l,g a b<0->¬g b a<0)(htr:∀a∈l,∀b∈l,∀c∈l,¬g b a<0->¬g c b<0->¬g c a<0) :
  ∃L,(zac (insO z) (l,0,(l.length:Int),cmp,w (0+1))).bind some=some L/\L.Perm l/\L.Pairwise λa b=>¬g b a<0:=by
 cases l with
 |nil=>refine⟨[],?_,xft _,by simp⟩;refine zaa (λi=>([],0,(([]:List α).length:Int),cmp,w (0+1))) 0 rfl (λi hi=>by omega) (b:=([]:List α)) ?_ rfl;rfl
 |cons x0 l0=>
 generalize hll:x0::l0=l at *;have hz:1<=l.length:=by rw[<-hll];simp
 refine zcs (Q:=λ(r:Option (List α))=>∃L:List α,r=some L/\L.Perm l/\L.Pairwise λa b=>¬g b a<0) (λ(i:Nat) (st:(List α)×Int×Int×(α->α->Option Int)×Int)=>∃S:List α,st=(S++l.drop (i+1),0,(l.length:Int),cmp,((i+1:Nat):Int))/\S.Perm (l.take (i+1))/\(S.Pairwise λa b=>¬g b a<0)) (l.length-1) ?_ ?_ ?_;·refine⟨l.take 1,by rw[xcp];rfl,xft _,?_⟩;rw[<-hll];simp
 ·rintro i st hi ⟨S,rfl,hS,hs⟩;have hh:i+1<l.length:=by omega
  obtain⟨x,hx⟩:∃x,l.getD (i+1) z=x:=⟨_,rfl⟩;have he:l.drop (i+1)=x::l.drop (i+2):=by rw[<-hx];exact drop_getD z hh
  have hw:S.length=i+1:=by rw[hS.length_eq,xax];omega
  have hp:∀a∈S,a∈l:=λa ha=>xca (hS.mem_iff.1 ha);have hj:x∈l:=by rw[<-hx,xad,xaj hh];exact xbf hh
  have h6:l.take (i+2)=l.take (i+1)++[x]:=by rw[<-hx];exact zaw l z hh
  rw[he];generalize l.drop (i+2)=T at *;have hg:∀A B:List α,S=A++B->(A++x::(B++T)).length=(S++x::T).length:=λA B e=>by rw[e];simp;omega
  have h7:(S++x::T).length<=1000:=by rw[<-he,xbo,hw,xeq];omega
  have h9:∃S':List α,zac (insA z) (S++x::T,0,(l.length:Int),cmp,((i+1:Nat):Int),((i+1:Nat):Int))=some (S'++T,0,(l.length:Int),cmp,((i+1:Nat):Int))/\S'.Perm (l.take (i+2))/\(S'.Pairwise λa b=>¬g b a<0):=by
   have key:=zfs (γ:=(List α)×Int×Int×(α->α->Option Int)×Int) (k:=some) (Q:=λr=>∃S':List α,r=some (S'++T,0,(l.length:Int),cmp,((i+1:Nat):Int))/\S'.Perm (l.take (i+2))/\(S'.Pairwise λa b=>¬g b a<0))
    (f:=insA z) (a0:=(S++x::T,0,(l.length:Int),cmp,((i+1:Nat):Int),((i+1:Nat):Int)))
    (λ(m:Nat) (st:(List α)×Int×Int×(α->α->Option Int)×Int×Int)=>∃A B:List α,st=(A++x::(B++T),0,(l.length:Int),cmp,((i+1:Nat):Int),(m:Int))/\S=A++B/\A.length=m/\∀b∈B,g x b<0) (i+1) ⟨S,[],rfl,by simp,hw,by simp⟩ (λm st hk=>?_)
   ·obtain⟨S',h1,h2,h3⟩:=key;refine⟨S',?_,h2,h3⟩;rw[xbk]at h1;obtain⟨b,h4,h5⟩:=h1;exact h4.trans h5
   ·obtain⟨A,B,rfl,hd,hq,hB⟩:=hk;have hf:(∀a∈A,¬g x a<0)->∃S':List α,some (A++x::(B++T),(0:Int),(l.length:Int),cmp,((i+1:Nat):Int))=some (S'++T,0,(l.length:Int),cmp,((i+1:Nat):Int))/\S'.Perm (l.take (i+2))/\(S'.Pairwise λa b=>¬g b a<0):=λhA=>by
     refine⟨A++x::B,by rw[xbv,xcx],?_,?_⟩;·rw[h6];refine List.perm_middle.trans ?_;rw[<-hd];exact(xib (l₁:=[x]) (l₂:=S)).trans (xjp _ hS)
     ·rw[hd,xdr]at hs;rw[xdr,xdn];refine⟨hs.1,⟨λb hb=>has x hj b (hp b (by rw[hd];simp[hb])) (hB b hb),hs.2.1⟩,λa ha b hb=>?_⟩;rcases xar.1 hb with rfl|hb
      ·exact hA a ha
      ·exact hs.2.2 a ha b hb
    cases m with
    |zero=>have hy:A=[]:=xec.1 hq;refine .inr ⟨(A++x::(B++T),0,(l.length:Int),cmp,((i+1:Nat):Int)),?_,hf (by rw[hy];simp)⟩;unfold insA;simp only[zal,show decide ((0:Int)<((0:Nat):Int))=false from rfl,xaf]
    |succ m=>
     obtain⟨A',y,rfl⟩:∃A' y,A=A'++[y]:=by
      rcases xgc A with rfl|⟨A',y,h⟩
      ·simp at hq
      ·exact⟨A',y,by rw[h,xge]⟩
     have hn:A'.length=m:=by simpa using hq
     subst hn;have h8:y∈S:=by rw[hd];simp
     have hm:=hp y h8;have ho:=hg _ B hd;have e0:A'++[y]++x::(B++T)=A'++y::x::(B++T):=by simp
     rw[e0]at ho ⊢;have ja:(A'++y::x::(B++T)).length<=1000:=by omega
     have hv:A'.length+1<(A'++y::x::(B++T)).length:=by simp
     have hu:A'.length<(A'++y::x::(B++T)).length:=by simp
     have hr:=getA_mid1 z A' y x (B++T);have ht:=getA_mid z A' y (x::(B++T));have h0:=swapA A' y x (B++T);by_cases hlt:g x y<0
     ·refine .inl ⟨(A'++x::y::(B++T),0,(l.length:Int),cmp,((i+1:Nat):Int),(A'.length:Int)),A'.length,?_,by omega,A',y::B,rfl,by rw[hd];simp,rfl,λb hb=>?_⟩;·unfold insA;simp only[zal,zdt ((0:Int)<((A'.length+1:Nat):Int)),xab,zbp,dlt hv,dlt hu,xai,tn,zur (show A'.length<9223372036854775807 by omega),hr,ht,hc x hj y hm,xaa,xae hlt,xcd,h0]
      ·rcases xar.1 hb with rfl|hb
       ·exact hlt
       ·exact hB b hb
     ·have hk:=hf (λa ha=>by
       rcases xbp.1 ha with ha|ha
       ·refine htr a (hp a (by rw[hd];simp[ha])) y hm x hj ?_ hlt;rw[hd,xdr,xdr]at hs;exact hs.1.2.2 a ha y (by simp)
       ·rw[xba.1 ha];exact hlt)
      rw[e0]at hk;refine .inr ⟨(A'++y::x::(B++T),0,(l.length:Int),cmp,((i+1:Nat):Int)),?_,hk⟩;unfold insA;simp only[zal,zdt ((0:Int)<((A'.length+1:Nat):Int)),xab,zbp,dlt hv,dlt hu,xai,tn,zur (show A'.length<9223372036854775807 by omega),hr,ht,hc x hj y hm,xaa,xah hlt,xaf]
  obtain⟨S',h1,h2,h3⟩:=h9;refine⟨(S'++T,0,(l.length:Int),cmp,((i+1+1:Nat):Int)),?_,S',rfl,h2,h3⟩;show(bif decide (((i+1:Nat):Int)<(l.length:Int))then(zac (insA z) (S++x::T,(0:Int),(l.length:Int),cmp,((i+1:Nat):Int),((i+1:Nat):Int))).bind (λp=>some (Sum.inl (p.1,p.2.1,p.2.2.1,p.2.2.2.1,w (p.2.2.2.2+1))))else some (Sum.inr (S++x::T)))=_;rw[dlt hh,xab,h1,xaa,wsx (i+1)]
 ·rintro st ⟨S,rfl,hS,hs⟩;rw[show l.length-1+1=l.length by omega,xaz]at hS;refine⟨S++l.drop (l.length-1+1),?_,S,?_,hS,hs⟩;·show(bif decide (((l.length-1+1:Nat):Int)<(l.length:Int))then _ else some (Sum.inr (S++l.drop (l.length-1+1))))=_;rw[nlt (show l.length<=l.length-1+1 by omega),xaf]
  ·rw[List.drop_of_length_le (by omega),xbn]
end
def zra(out:List Grp)(g:Grp):List Grp:=
 if 0<out.length/\(out.getD (out.length-1) ([],0)).1=g.1 then out.set (out.length-1) ((out.getD (out.length-1) ([],0)).1,(out.getD (out.length-1) ([],0)).2+g.2)else out++[g]
def zqz(g:Grp):zra [] g=[g]:=rfl
def znr(A:List Grp)(l g:Grp):zra (A++[l]) g=if l.1=g.1 then A++[(l.1,l.2+g.2)]else A++[l,g]:=by
 have e:(A++[l]).length-1=A.length:=by simp
 have e2:(A++[l]).getD A.length ([],0)=l:=by rw[xad,xde (xag _),xen];rfl
 unfold zra;rw[e,e2];by_cases h:l.1=g.1;·rw[if_pos ⟨by simp,h⟩,if_pos h,xfn _ _ (xag _),xen];rfl
 ·rw[if_neg (λq=>h q.2),if_neg h];simp
def zxe(f:List Int->Int)(g:Grp):zbi f [g]=g.2*f g.1:=by show g.2*f g.1+0=_;omega
def wsum_mrg1(f:List Int->Int)(out:List Grp)(g:Grp):zbi f (zra out g)=zbi f out+g.2*f g.1:=by
 rcases xgc out with rfl|⟨A,l,h⟩
 ·rw[zqz,zxe];show _=0+_;omega
 ·rw[xge]at h;subst h;rw[znr,zgp,zxe];by_cases h:l.1=g.1;·rw[if_pos h,zgp,zxe,<-h];show _+(l.2+g.2)*f l.1=_;rw[Int.add_mul];omega
  ·rw[if_neg h,zgp];show _+(l.2*f l.1+(g.2*f g.1+0))=_;omega
def mrg1_mem{out:List Grp}{g x:Grp}(h:x∈zra out g):x∈out\/x=g\/∃l∈out,l.1=g.1/\x=(l.1,l.2+g.2):=by
 rcases xgc out with rfl|⟨A,l,e⟩
 ·rw[zqz]at h;exact .inr (.inl (xba.1 h))
 ·rw[xge]at e;subst e;rw[znr]at h;by_cases he:l.1=g.1
  ·rw[if_pos he]at h;rcases xbp.1 h with h|h
   ·exact .inl (xdq _ h)
   ·exact .inr (.inr ⟨l,by simp,he,xba.1 h⟩)
  ·rw[if_neg he]at h;rcases xbp.1 h with h|h
   ·exact .inl (xdq _ h)
   ·rcases xar.1 h with h|h
    ·exact .inl (by rw[h];simp)
    ·exact .inr (.inl (xba.1 h))
def mrg1_len(out:List Grp)(g:Grp):(zra out g).length<=out.length+1:=by
 unfold zra;split;·rw[xcd];omega
 ·simp
def mrg1_sorted{out:List Grp}{g:Grp}(h:zid out)(hg:∀x∈out,¬g.1<x.1):zid (zra out g):=by
 rcases xgc out with rfl|⟨A,l,e⟩
 ·rw[zqz];exact xgm _ _
 ·rw[xge]at e;subst e;rw[znr];have h':=xdr.1 h;by_cases he:l.1=g.1
  ·rw[if_pos he];exact xdr.2 ⟨h'.1,xgm _ _,λa ha b hb=>by rw[xba.1 hb];exact h'.2.2 a ha l (by simp)⟩
  ·rw[if_neg he];have hc:l.1<g.1:=by
    rcases zss l.1 g.1 with q|q|q
    ·exact q
    ·exact absurd q he
    ·exact absurd q (hg l (by simp))
   refine xdr.2 ⟨h'.1,xdn.2 ⟨λb hb=>by rw[xba.1 hb];exact hc,xgm _ _⟩,λa ha b hb=>?_⟩;have hd:=h'.2.2 a ha l (by simp);rcases xar.1 hb with rfl|hb
   ·exact hd
   ·rw[xba.1 hb];exact ziq hd hc
structure MrgOK(gs R:List Grp):Prop where
 sorted:zid R
 sum:∀f,zbi f R=zbi f gs
 mem:∀r∈R,∃g∈gs,r.1=g.1
 pos:(∀g∈gs,1<=g.2)->∀r∈R,1<=r.2
 len:R.length<=gs.length
def mrg_all:∀{gs out:List Grp},zid out->(∀x∈out,∀g∈gs,¬g.1<x.1)->(gs.Pairwise λa b=>¬b.1<a.1)->zid (gs.foldl zra out)/\(∀f,zbi f (gs.foldl zra out)=zbi f out+zbi f gs)/\(∀r∈gs.foldl zra out,∃g∈out++gs,r.1=g.1) /\
  ((∀g∈out++gs,1<=g.2)->∀r∈gs.foldl zra out,1<=r.2)/\(gs.foldl zra out).length<=out.length+gs.length
 | [],out,h1,_,_=>⟨h1,λf=>by show _=_+0;rw[xgr];omega,λr hr=>⟨r,by simpa using hr,rfl⟩,λh r hr=>h r (by simpa using hr),by simp⟩
 |g::gs,out,h1,h2,h3=>by
  rw[xfd];obtain⟨p1,p2⟩:=xdn.1 h3;have hm:∀{x:Grp},x∈zra out g->(∃y∈out++[g],x.1=y.1):=λ{x} hx=>by
   rcases mrg1_mem hx with h|h|⟨l,hl,_,h⟩
   ·exact⟨x,by simp[h],rfl⟩
   ·exact⟨g,by simp,by rw[h]⟩
   ·exact⟨l,by simp[hl],by rw[h]⟩
  obtain⟨q1,q2,q3,q4,q5⟩:=mrg_all (gs:=gs) (out:=zra out g) (mrg1_sorted h1 λx hx=>h2 x hx g (by simp)) (λx hx k hk=>by
   obtain⟨y,hy,e⟩:=hm hx;rw[e];rcases xbp.1 hy with hy|hy
   ·exact h2 y hy k (xan _ hk)
   ·rw[xba.1 hy];exact p1 k hk) p2
  refine⟨q1,λf=>?_,λr hr=>?_,λh r hr=>q4 (λx hx=>?_) r hr,?_⟩;·rw[q2,wsum_mrg1];show _=_+(g.2*f g.1+zbi f gs);omega
  ·obtain⟨x,hx,e⟩:=q3 r hr;rcases xbp.1 hx with hx|hx
   ·obtain⟨y,hy,e2⟩:=hm hx;refine⟨y,?_,e.trans e2⟩;rcases xbp.1 hy with hy|hy
    ·exact xdq _ hy
    ·rw[xba.1 hy];simp
   ·exact⟨x,by simp[hx],e⟩
  ·rcases xbp.1 hx with hx|hx
   ·rcases mrg1_mem hx with h5|h5|⟨l,hl,_,h5⟩
    ·exact h x (by simp[h5])
    ·rw[h5];exact h g (by simp)
    ·have a1:=h l (by simp[hl]);have a2:=h g (by simp);rw[h5];show 1<=l.2+g.2;omega
   ·exact h x (by simp[hx])
  ·have:=mrg1_len out g;simp only[xbd];omega
def mrg_ok{gs:List Grp}(h:gs.Pairwise λa b=>¬b.1<a.1):MrgOK gs (gs.foldl zra []):=by obtain⟨q1,q2,q3,q4,q5⟩:=mrg_all (out:=[]) List.Pairwise.nil (λx hx=>by simp at hx) h;exact⟨q1,λf=>by rw[q2];show 0+_=_;omega,by simpa using q3,by simpa using q4,by simpa using q5⟩
def wsum_perm(f:List Int->Int){a b:List Grp}(h:a.Perm b):zbi f a=zbi f b:=by
 induction h with
 |nil=>rfl
 |cons x h ih=>exact xbr (x.2*f x.1+·) ih
 |swap x y l=>show y.2*f y.1+(x.2*f x.1+zbi f l)=x.2*f x.1+(y.2*f y.1+zbi f l);omega
 |trans _ _ h1 h2=>exact h1.trans h2
def list_eqD{a b:List Int}(hl:a.length=b.length)(h:∀i,i<a.length->a.getD i 0=b.getD i 0):a=b:=by refine xhk hl λi h1 h2=>?_;have:=h i h1;rw[xad,xad,xaj h1,xaj h2]at this;exact this
def d56_eq{a b:List Int}(ha:a.length<=281474976710656):d56 a b=some (decide (a=b)):=by
 unfold d56;by_cases hl:a.length=b.length
 ·rw[zdt ((a.length:Int)=(b.length:Int)),xat,xaf];refine zeo (λi=>(a,b,(a.length:Int),(i:Int))) (λi=>!decide (a.getD i 0=b.getD i 0)) a.length (λ_=>Sum.inr false) (Sum.inl ()) rfl (λi hi _=>?_) (λ_=>?_) (λi hi hp _=>?_) (λh=>?_);·simp only[dlt hi,zbp,xai,xab,tn,dlt (show i<b.length by omega),wsx i];cases(!decide (a.getD i 0=b.getD i 0))<;>rfl
  ·simp only[nlt (xag a.length),xaf]
  ·have hb:a.getD i 0≠b.getD i 0:=by simpa using hp
   show some false=some (decide (a=b));rw[xah (λe=>hb (by rw[e]))]
  ·show some true=some (decide (a=b));rw[xae (list_eqD hl λi hi=>by simpa using h i hi)]
 ·rw[zdf ((a.length:Int)=(b.length:Int)),xap,xab,xah (λe=>hl (by rw[e]))]
def d144_eq{a b:Grp}(ha:a.1.length<=281474976710656)(hb:b.1.length<=281474976710656):d144 a b=some (cmpL a.1 b.1):=by unfold d144;rw[d145_eq ha hb];rfl
def zzj{a b:List Int}:cmpL a b<0↔a<b:=by
 unfold cmpL;by_cases h:a<b;·rw[if_pos h];exact⟨λ_=>h,λ_=>by omega⟩
 ·rw[if_neg h];constructor;·intro h2;split at h2<;>omega
  ·exact λh2=>absurd h2 h
def le_trans_lex{a b c:List Int}(h1:¬b<a)(h2:¬c<b):¬c<a:=λh3=>by
 rcases zss a b with h|h|h
 ·exact h2 (ziq h3 h)
 ·rw[h]at h3;exact h2 h3
 ·exact h1 h
def d143_eq{gs:List Grp}(hl:gs.length<=12)(hp:∀g∈gs,g.1.length<=281474976710656):∃L,d143 gs (λa a_1=>d144 a a_1)=some L/\L.Perm gs/\L.Pairwise λa b=>¬b.1<a.1:=by
 obtain⟨L,h1,h2,h3⟩:=insS_ex (([],0):Grp) (l:=gs) (cmp:=λa a_1=>d144 a a_1) (g:=λa b=>cmpL a.1 b.1) (by omega) (λa ha b hb=>d144_eq (hp a ha) (hp b hb)) (λa _ b _ h=>by
  rw[zzj]at h ⊢;exact zst h) (λa _ b _ c _ h1 h2=>by
  rw[zzj]at h1 h2 ⊢;exact le_trans_lex h1 h2)
 refine⟨L,?_,h2,h3.imp λ{a b} h=>by rw[zzj]at h;exact h⟩;have hc:d253 gs 0 (gs.length:Int) (λa a_1=>d144 a a_1)=some L:=h1;unfold d143;have e183:∀x,d183 x=some (Lib.bitLen x.toNat:Int):=λx=>rfl;rw[e183,xaa];have hw:w ((gs.length:Int)-0)=(gs.length:Int):=zbq (by omega) (by omega);show((d206N 2 gs 0 (gs.length:Int) _ (λa a_1=>d144 a a_1)).bind λr_1=>some r_1)=_;show((d206F (d206N 1) gs 0 (gs.length:Int) _ (λa a_1=>d144 a a_1)).bind λr_1=>some r_1)=_;unfold d206F;generalize((Lib.bitLen (wu64 (gs.length:Int)).toNat:Nat):Int)=t3;refine xbk.2 ⟨L,?_,rfl⟩;refine zaa (λ_=>(gs,0,(gs.length:Int),t3,(λa a_1=>d144 a a_1),true,true)) 0 rfl (λi hi=>by omega) (b:=L) ?_ rfl;simp only[hw,zdt ((gs.length:Int)<=12),xab,hc,xaa]
def mrg_take{L:List Grp}(hs:L.Pairwise λa b=>¬b.1<a.1)(hpos:∀g∈L,1<=g.2){N:Int}(hN:zbi (λ_=>1) L<=N)(i:Nat) :
  ((L.take i).foldl zra []).length<=i/\∀x∈(L.take i).foldl zra [],(1<=x.2/\∃g∈L,x.1=g.1)/\∀g∈L,x.2<=N/\(L.getD i ([],0)=g->i<L.length->x.2+g.2<=N):=by
 have m:=mrg_ok (hs.sublist (xhc i L));have hp:∀r∈(L.take i).foldl zra [],1<=r.2:=m.pos λg hg=>hpos g (xca hg);refine⟨xay m.len (by rw[xax];omega),λx hx=>⟨⟨hp x hx,by obtain⟨g,hg,e⟩:=m.mem x hx;exact⟨g,xca hg,e⟩⟩,λg hg=>?_⟩⟩
 have h1:=(mem_le hp).2 x hx;rw[m.sum]at h1;have h2:zbi (λ_=>1) L=zbi (λ_=>1) (L.take i)+zbi (λ_=>1) (L.drop i):=by rw[<-zgp,xcp]
 have hd:=mem_le (gs:=L.drop i) λg hg=>hpos g (xeu hg);refine⟨by omega,λe hi=>?_⟩;have h3:=hd.2 g (by rw[<-e,xad,xaj hi];exact List.mem_drop_iff_getElem.2 ⟨0,by simpa using hi,by simp⟩)
 omega
def d79_eq{gs:List Grp}(hl:gs.length<=12)(hp:∀g∈gs,g.1.length<=281474976710656/\1<=g.2)(hs:zbi (λ_=>1) gs<=100000) :
  ∃L:List Grp,L.Perm gs/\(L.Pairwise λa b=>¬b.1<a.1)/\d79 gs=some (L.foldl zra []):=by
 obtain⟨L,h1,h2,h3⟩:=d143_eq hl λg hg=>(hp g hg).1;refine⟨L,h2,h3,?_⟩;have hb:∀g∈L,g.1.length<=281474976710656/\1<=g.2:=λg hg=>hp g (h2.mem_iff.1 hg);have hh:zbi (λ_=>1) L<=100000:=by rw[wsum_perm _ h2];exact hs
 have hn:L.length<=12:=by rw[h2.length_eq];exact hl
 unfold d79;rw[h1,xaa];refine zaa (λi=>(L,(L.take i).foldl zra [],(L.length:Int),(i:Int))) L.length rfl (λi hi=>?_) (b:=L.foldl zra []) ?_ rfl
 ·obtain⟨m1,m2⟩:=mrg_take h3 (λg hg=>(hb g hg).2) hh i;have hg:L.getD i ([],0)∈L:=by rw[xad,xaj hi];exact xbf hi
  have hf:L.take (i+1)=L.take i++[L.getD i ([],0)]:=zgq L ([],0) hi;rw[hf,xej,xfd,xgr];generalize(L.take i).foldl zra []=out at m1 m2;generalize hge:L.getD i ([],0)=g at hg;simp only[dlt hi,zbp,xai,xab,tn,zal,hge,wsx i];rcases xgc out with rfl|⟨A,l,e⟩
  ·rw[zqz];have e1:decide (0<=w (((([]:List Grp).length:Nat):Int)-1))=false:=by decide
   simp only[e1,xaf];rw[lim_ok' (by simp)];rfl
  ·rw[xge]at e;subst e;rw[znr];have ha:(A++[l]).length=A.length+1:=by simp
   have e0:w (((A++[l]).length:Int)-1)=(A.length:Int):=by rw[ha];exact zur (by omega)
   have hd:(A++[l]).getD A.length ([],0)=l:=by rw[xad,xde (xag _),xen];rfl
   obtain⟨⟨l1,k,hk,ek⟩,l2⟩:=m2 l (by simp);have hj:l.1.length<=281474976710656:=by rw[ek];exact(hb k hk).1
   obtain⟨l3,l4⟩:=l2 g hg;have l5:=l4 hge hi;have g1:=(hb g hg).2;have hA:A.length+1<=12:=by rw[ha]at m1;omega
   have hm:A.length<(A++[l]).length:=by rw[ha];omega
   have hc:∀y:Grp,(A++[l]).set A.length y=A++[y]:=λy=>by rw[xfn _ _ (xag _),xen];rfl
   simp only[e0,zbp,dlt hm,xai,xab,tn,hd,d56_eq hj,xaa];by_cases he:l.1=g.1;·rw[xae he,xab,if_pos he,hc,show w (l.2+g.2)=l.2+g.2 from zbq (by omega) (by omega)]
   ·rw[xah he,xaf,if_neg he,zch (by rw[ha];omega),xab];simp
 ·simp only[nlt (xag L.length),xaf,xaz]
section
variable {Q:MP} {s:MS}
def elM_hop{i:Nat}(h:s.el Q i=true):s.st i=0:=by unfold MS.el MS.reach at h;rw[xal,xal,xak]at h;exact h.1.1
def el_nil(h:s.some1 Q=false):zaq (s.el Q) Q.P.n=[]:=by rw[<-xec,zav];refine xff λh0=>?_;unfold MS.some1 at h;exact absurd h0 (xev h)
def cut_some1(h:s.cut Q=true):s.some1 Q=false:=by unfold MS.cut at h;rw[xal,xhy]at h;exact h.1
def MTr.ne{rs rest:List Rd}(h:MTr Q s rs rest):rest≠ []:=by cases h<;>simp
def mcount_ne(hQ:Q.OK):zmg Q≠ []:=(zku hQ).ne
def MTr.len(hQ:Q.OK){rs rest:List Rd}(h:MTr Q s rs rest):rs.length+rest.length<=488:=by
 induction h with
 |fin hR hf=>have:=hR.len;simp;omega
 |excl hR hf hm h ih=>simp only[xbo,xbd,xee]at ih ⊢;omega
 |redu hR hf hm h ih=>simp only[xbo,xbd,xee]at ih ⊢;omega
def mcount_len(hQ:Q.OK):(zmg Q).length<=488:=by have:=(zku hQ).len hQ;simpa using this
end
structure Rd.Sm(r:Rd):Prop where
 v:r.votes.length<=1000/\∀q∈r.votes,Sz 268435456 (rr q)
 k:r.keep.length<=1000/\∀q∈r.keep,Sz 268435456 (rr q)
 q:Sz 268435456 (rr r.quota)
 e:Sz 268435456 (rr r.exh)
 s:Sz 268435456 (rr r.sur)
 l:r.el.length<=1000/\r.ex.length<=1000/\r.ti.length<=1000
section
variable {P:GP} {s:GS}
def tiedR_len(hP:P.OK):(s.tiedR P).length<=7:=by
 unfold GS.tiedR;split;·simp
 ·unfold GS.tied;rw[zav];exact xay (zax _ _) hP.n7
def rd_sm(hP:P.OK)(hI:GI P s)(hk:∀i,i<P.n->Bz eB (s.keep i)){el ex ti:List Int}(h1:el.length<=7)(h2:ex.length<=7)(h3:ti.length<=7):Rd.Sm {s.rd0 P with el:=el,ex:=ex,ti:=ti}:=by
 have ha:=hP.n7;refine⟨⟨by show(lst _ P.n).length<=_;rw[zad];omega,λq hq=>?_⟩,⟨by show(lst _ P.n).length<=_;rw[zad];omega,λq hq=>?_⟩,(zin hP).sz2,(zbb hP hI (Nat.sub_le _ _)).sz2,(zbb hP hI (sur_le hP hI)).sz2,⟨by show el.length<=_;omega,by show ex.length<=_;omega,by show ti.length<=_;omega⟩⟩;·obtain⟨i,hi,rfl⟩:=zih.1 hq;exact(zbb hP hI (zkk hP hI hi)).sz2
 ·obtain⟨i,hi,rfl⟩:=zih.1 hq;exact(hk i hi).sz2
def Tr.sm(hP:P.OK){rs rest:List Rd}(h:Tr P s rs rest):∀r∈rest,r.Sm:=by
 induction h with
 | @fin s rs hR hf=>
  intro r hr;rw[xba]at hr;subst hr;have:=rd_sm hP hR.inv hR.ok.keep (el:=(s.done P).el) (ex:=[]) (ti:=[]) (by
   show(if _ then _ else _:List Int).length<=7;split;·rw[zav];exact xay (zax _ _) hP.n7
   ·exact zwq hP) (by simp) (by simp)
  exact this
 | @trans s rs rest hR hf hm h ih=>
  intro r hr;rcases xar.1 hr with rfl|hr
  ·exact rd_sm hP hR.inv hR.ok.keep (zwq hP) (by simp[GS.rd0]) (tiedR_len hP)
  ·exact ih r hr
 | @excl s rs rest hR hf hm h ih=>
  intro r hr;rcases xar.1 hr with rfl|hr
  ·exact rd_sm hP hR.inv hR.ok.keep (zwq hP) (by simp) (tiedR_len hP)
  ·exact ih r hr
def gcount_sm(hP:P.OK):∀r∈zkz P,r.Sm:=(znx hP).sm hP
end
section
variable {Q:MP} {s:MS}
def tiedM_len(hQ:Q.OK):(s.tied Q).length<=7:=by unfold MS.tied;rw[zav];exact xay (zax _ _) hQ.P.n7
def rd_smM(hQ:Q.OK)(hI:MI Q s){el ex ti:List Int}(h1:el.length<=7)(h2:ex.length<=7)(h3:ti.length<=7):Rd.Sm {s.rd0 Q with el:=el,ex:=ex,ti:=ti}:=by
 have hc:=hQ.P.n7;have he:=MS.tot_le hQ;have hb:=MS.sum_le hQ hI;have hd:=hQ.one6;have hq:=MS.quo_le hQ hI;have ha:s.sur Q<=zaz (s.v Q) Q.P.n:=zdp λi _=>by split<;>omega
 refine⟨⟨by show(lst _ Q.P.n).length<=_;rw[zad];omega,λq hq=>?_⟩,⟨by show(lst _ Q.P.n).length<=_;rw[zad];omega,λq hq=>?_⟩,(bzM hQ (show s.quo Q<=1000000000000000000 by omega)).sz2,(bzM hQ (show s.rest Q<=1000000000000000000 by omega)).sz2,(bzM hQ (show s.sur Q<=1000000000000000000 by omega)).sz2,⟨by show el.length<=_;omega,by show ex.length<=_;omega,by show ti.length<=_;omega⟩⟩;·obtain⟨i,hi,rfl⟩:=zih.1 hq;have:=MS.v_le hQ hI hi;exact(bzM hQ (by omega)).sz2
 ·obtain⟨i,hi,rfl⟩:=zih.1 hq;have:=hI.kp1 i;exact(bzM hQ (by omega)).sz2
def MTr.sm(hQ:Q.OK){rs rest:List Rd}(h:MTr Q s rs rest):∀r∈rest,r.Sm:=by
 induction h with
 | @fin s rs hR hf=>
  intro r hr;rw[xba]at hr;subst hr;have:=rd_smM hQ hR.inv (el:=(s.done Q).el) (ex:=[]) (ti:=[]) (by
   show(if _ then _ else _:List Int).length<=7;split;·exact zpn hQ
   ·rw[zav];exact xay (zax _ _) hQ.P.n7) (by simp) (by simp)
  exact this
 | @excl s rs rest hR hf hc h ih=>
  intro r hr;rcases xar.1 hr with rfl|hr
  ·exact rd_smM hQ hR.inv (zpn hQ) (by simp) (by
    split;·simp
    ·exact tiedM_len hQ)
  ·exact ih r hr
 | @redu s rs rest hR hf hc h ih=>
  intro r hr;rcases xar.1 hr with rfl|hr
  ·exact rd_smM hQ hR.inv (zpn hQ) (by simp) (by simp)
  ·exact ih r hr
def mcount_sm(hQ:Q.OK):∀r∈zmg Q,r.Sm:=(zku hQ).sm hQ
end
section
variable {P:GP}
def iv_tot(hP:P.OK)(st:Nat->Nat){i:Nat}(hi:i<P.n):iv P st i<=100000:=by have h1:iv P st i<=zhg P st:=zfi hi;have h2:=zkx hP st;have h3:=mk_le hP;have h4:=hP.tot5;omega
def itied_len(hP:P.OK)(st:Nat->Nat):(zes P st).length<=7:=by unfold zes;rw[zav];exact xay (zax _ _) hP.n7
def ird_sm(hP:P.OK)(st:Nat->Nat){el ex ti:List Int}(h1:el.length<=7)(h2:ex.length<=7)(h3:ti.length<=7):Rd.Sm {ird0 P st with el:=el,ex:=ex,ti:=ti}:=by
 have ha:=hP.n7;have hq:zlu P st<=100001:=by have h2:=zkx hP st;have h3:=mk_le hP;have h4:=hP.tot5;unfold zlu;omega
 have he:zqs P st<=100000:=by
  have h5:zqs P st<=zaz P.k P.G:=zdp λg _=>by show(if _ then _ else _:Nat)<=_;split<;>omega
  have h4:=hP.tot5;have h6:=hP.total;omega
 refine⟨⟨by show(lst _ P.n).length<=_;rw[zad];omega,λq hq=>?_⟩,⟨by show(lst _ P.n).length<=_;rw[zad];omega,λq hq=>?_⟩,(zhy (show zlu P st<2^64 by omega)).sz2,(zhy (show zqs P st<2^64 by omega)).sz2,(zhy (show 0<2^64 by omega)).sz2,⟨by show el.length<=_;omega,by show ex.length<=_;omega,by show ti.length<=_;omega⟩⟩;·obtain⟨i,hi,rfl⟩:=zih.1 hq;have:=iv_tot hP st hi;exact(zhy (by omega)).sz2
 ·obtain⟨i,hi,rfl⟩:=zih.1 hq;show Sz _ (rr (if _ then _ else _));split;·exact(zhy (show 1<2^64 by omega)).sz2
  ·exact(zhy (show 0<2^64 by omega)).sz2
def irun_sm(hP:P.OK):∀(k:Nat) (rs:List Rd) (st:Nat->Nat),(∀r∈rs,r.Sm)->(∀r∈zys P k rs st,r.Sm)/\(zys P k rs st).length<=rs.length+k/\((zys P k rs st).flatMap Rd.el).length<=(rs.flatMap Rd.el).length+k
 | 0,rs,st,h=>⟨h,xag _,xag _⟩
 |k+1,rs,st,h=>by
  unfold zys;split
  ·rename_i x hx;refine⟨λr hr=>?_,by simp,by simp[irdW]⟩;rcases xbp.1 hr with hr|hr
   ·exact h r hr
   ·rw[xba.1 hr];exact ird_sm hP st (show([(x:Int)]:List Int).length<=7 by simp) (xbx 7) (xbx 7)
  ·have h1:(irdX P (rs.map Rd.votes) st).el=[]:=rfl;obtain⟨a,b,c⟩:=irun_sm hP k (rs++[irdX P (rs.map Rd.votes) st]) (upd st (zmr P (rs.map Rd.votes) st).toNat 3) (λr hr=>by
    rcases xbp.1 hr with hr|hr
    ·exact h r hr
    ·rw[xba.1 hr];refine ird_sm hP st (xbx 7) (show([zmr P (rs.map Rd.votes) st]:List Int).length<=7 by simp) ?_;split;·simp
     ·exact itied_len hP st)
   refine⟨a,?_,?_⟩;·rw[xbo]at b;simp only[xbd,xee]at b;omega
   ·rw[xfj,xbo]at c;simp only[xdb,xhj,xbn,h1,xee]at c;omega
def icount_sm(hP:P.OK):(∀r∈zfb P,r.Sm)/\(zfb P).length<=7/\((zfb P).flatMap Rd.el).length<=7:=by have h:=irun_sm hP P.n [] (λ_=>0) (by simp);have:=hP.n7;simp only[xee,xhj,xck]at h;exact⟨h.1,by have:=h.2.1;unfold zfb;omega,by have:=h.2.2;unfold zfb;omega⟩
def irun_ne:∀(k:Nat) (rs:List Rd) (st:Nat->Nat),rs≠ []\/k≠0->zys P k rs st≠ []
 | 0,rs,st,h=>by rcases h with h | h;exact h;exact absurd rfl h
 |k+1,rs,st,h=>by
  unfold zys;split;·simp
  ·exact irun_ne k _ _ (.inl (by simp))
def icount_ne(hP:P.OK):zfb P≠ []:=irun_ne _ _ _ (.inr (by have:=hP.n1;omega))
end
end Go.Proofs.YtamgmpngdmnadaaGreat
namespace Go.Proofs.YtamgmpngdmnadaaGreat
open Tryz
open Go Go.Proofs Go.RowKit Go.X
section
attribute [local go_sem] Oper.semAt_some
def rb_(m k:Nat)(v:Bool):List Value:=List.replicate k (.bool v)++List.replicate (m-k) (.bool false)
def rb_splice{m k d:Nat}(v:Bool)(h:k+d<=m):splice (rb_ m k v) k (List.replicate d (.bool v))=rb_ m (k+d) v:=by unfold splice rb_;rw[xbq,List.take_left' (by simp),List.drop_append,xfy (by simp),xdp,xbq,List.drop_replicate,<-xbv,List.replicate_append_replicate];congr 2;omega
def rb_zero(m:Nat)(v:Bool):rb_ m 0 v=List.replicate m (.bool false):=by unfold rb_;rw[xir];rfl
def rb_len{m k:Nat}(v:Bool)(h:k<=m):(rb_ m k v).length=m:=by unfold rb_;simp;omega
def info4:(prog.info? 4).map (λi=>(i.zero,i.size,i.bytes))=some (some (.bool false),1,1):=by kernel_rfl
def hsz4:(prog.info? 4).map (·.size)=some 1:=by
 have:=info4;cases hq:prog.info? 4 with
 |none=>rw[hq]at this;cases this
 |some i=>rw[hq]at this;simp only[xch,xaq,xaw]at this;rw[xch,this.2.1]
def make49(m:Nat)(hm:m<=1000)(w:World):(Instr.makeSlice 49 (.int .i64 (m:Int)) (.int .i64 (m:Int))).run prog w=.ok (.slice (some ⟨w.heap.size,0,none⟩) m m) (w.alloc (.cells (rb_ m 0 false).toArray 4)):=by rw[run_make_row' 49 4 (.bool false) 1 underlying49 info4 rfl .i64 .i64 m (by omega) (by omega) w,rb_zero,<-toList_madeCells_one,Array.toArray_toList]
set_option maxRecDepth 100000 in
set_option maxHeartbeats 4000000 in
def repeatB_ok(b off c m:Nat)(v:Bool)(w:World)(hm:m<=1000)(hc:w.cell? ⟨b,off,none⟩=some (.bool v)) :
  Calls prog 201 #[.slice (some ⟨b,off,none⟩) 1 c,.int .i64 (m:Int)] w λe w'=>∃v',e=.returned v'/\w'.ownsRow w.heap.size 4 1 v' m (List.replicate m (.bool v))/\Below w.heap.size w w':=by
 have ja:∀c:Int,0<=c->c<=4294967296->IntKind.i64.wrap c=c:=λc h0 h1=>IntWalk.i64_in c ⟨by omega,by omega⟩;have hp:∀w',Calls prog 151 #[.int .u64 1,.int .u64 (m:Int)] w' λe w''=>e=.returned (.tuple #[.int .u64 0,.int .u64 (m:Int)])/\w''=w':=λw'=>by
  have h:=Any.bits_Mul Tryz.mul 1 m (by omega) (by omega) w';have e1:1*m/18446744073709551616=0:=by omega
  have e2:1*m%18446744073709551616=m:=by omega
  rw[e1,e2]at h;exact h
 have h6:=make49 m hm;have h8:∀o,(w.alloc o).cell? ⟨b,off,none⟩=some (.bool v):=λo=>Lib.cell?_alloc_some _ hc;have jc:¬(m:Int)<0:=by omega
 have jd:¬(9223372036854775807:Int)<(m:Int):=by omega
 obtain⟨d0,hf⟩:∃d0,d0=Nat.min 1 m:=⟨_,rfl⟩;have hq:d0<=1/\d0<=m/\(0<m->0<d0):=by rw[hf];refine⟨xhu _ _,xjj _ _,λh=>?_⟩;show 0<min 1 m;omega
 obtain⟨X,hX⟩:∃X:List Value,X=List.replicate d0 (Value.bool v):=⟨_,rfl⟩;have hi:X.length=Nat.min 1 m:=by rw[hX,xbq,hf]
 have hl:∀u∈X,u=.bool v:=λu hu=>by rw[hX]at hu;exact xem hu
 have he:splice (rb_ m 0 false) 0 X=rb_ m d0 v:=by rw[rb_zero,<-rb_zero m v,hX,rb_splice v (by omega),xck]
 replace he:Hid (splice (rb_ m 0 false) 0 X=rb_ m d0 v):=he;replace hf:Hid (d0=Nat.min 1 m):=hf;clear hX;go_enter func201,ntmps201;go_upto_region 7 with(go_at_call 151;refine(hp _).mono ?_;rintro e w1 ⟨rfl,hw1⟩;rw[hw1])
 go_wp2_with (refine wpList_copy_splice rfl (.tmp 31) (.tmp 32) 49 49 rfl 4 underlying49 hsz4 _ _ m m 1 c rfl rfl w.heap.size 0 (rb_ m 0 false) 4 ?qc1 X hi ?qc2 ?qc3 ?qc4 w.heap.size w ?qc5 ?qc6 ?_);case qc1=>exact heap_alloc_new w _
 case qc2=>
  intro _ j u hj;have hs:j<X.length:=(xei.1 hj).1;rw[hi,<-hf.out]at hs;obtain rfl:j=0:=by omega
  rw[hl u (xgh hj)];exact h8 _
 case qc3=>
  rw[rb_len false (xbx m),hi,<-hf.out];omega
 case qc4=>
  intro u hu;rw[hl u hu];rfl
 case qc5=>exact(Below.refl _ w).alloc (xag _) _
 case qc6=>exact xag _
 intro w2 hw h3;replace hw:Hid (w2.heap[w.heap.size]?=some (Obj.cells (rb_ m d0 v).toArray 4)):=by have:=hw.out;rw[he.out]at this;exact this
 rw[<-hf.out];clear he h6 hi hl;clear hf;go_wp2;refine zkv (R:=λmm a w'=>∃k:Nat,k<=m/\mm=m-k/\(0<m->0<k)/\Hid (w'.heap[w.heap.size]?=some (Obj.cells (rb_ m k v).toArray 4))/\Below w.heap.size w w'/\FrR w.heap.size m k a) (m:=m-d0) ?zfj ?init1;case init1=>exact⟨d0,hq.2.1,rfl,hq.2.2,hw,h3,FrR.mk⟩
 case zfj=>
  rintro mm a w' ⟨k,hk,rfl,hpos,hg,hb,hfr⟩;refine hfr.elim ?_;intro x0 x1 x2 x3 x4 x5 x6 x9 x10 x11 x12 x13 x14 x15 x16 x17 x18 x19 x20 x21 x22 x23 x24 x25 x26 x27 x28 x29 x30 x31 x32 x33 x34 x35 x36 x37 x38 x39 x40 x41 x42 x43 x44 x45 x46 x47 h4;subst h4;rcases xeo k m with hlt|hge
  ·have hy:(k:Int)<(m:Int):=by omega
   obtain⟨d,hd⟩:∃d,d=Nat.min k (m-k):=⟨_,rfl⟩;have hq:d<=k/\d<=m-k/\0<d:=by rw[hd];refine⟨xhu _ _,xjj _ _,?_⟩;show 0<min k (m-k);have:=hpos (by omega);omega
   obtain⟨X,hX⟩:∃X:List Value,X=List.replicate d (Value.bool v):=⟨_,rfl⟩;have hi:X.length=Nat.min k (m-k):=by rw[hX,xbq,hd]
   have ha:X.length=d:=by rw[hX,xbq]
   have hl:∀u∈X,u=.bool v:=λu hu=>by rw[hX]at hu;exact xem hu
   have he:splice (rb_ m k v) k X=rb_ m (k+d) v:=by rw[hX,rb_splice v (by omega)]
   replace he:Hid (splice (rb_ m k v) k X=rb_ m (k+d) v):=he;replace hd:Hid (d=Nat.min k (m-k)):=hd;replace ha:Hid (X.length=d):=ha;clear hX;have hx:=rb_len v hk;have jb:IntKind.i64.wrap ((k:Int)+((Nat.min k (m-k):Nat):Int))=((k+d:Nat):Int):=by rw[<-hd.out,ja _ (by omega) (by omega)];omega
   have k0:(0:Int)<=(k:Int):=by omega
   have k1:(k:Int)<=(m:Int):=by omega
   have k2:¬m=k:=by omega
   have k3:((m:Int)-(k:Int)).toNat=m-k:=by omega
   have ho:w'.drew.heap[w.heap.size]?=some (Obj.cells (rb_ m k v).toArray 4):=hg.out;have hz:Below w.heap.size w w'.drew:=hb.trans ⟨rfl,rfl,rfl,xag _,λ_ _=>rfl⟩;have ht:k+X.length<=(rb_ m k v).length:=by rw[hx,ha.out];omega
   have hv:∀u∈X,u.oneCell'=true:=λu hu=>by rw[hl u hu];rfl
   have hh:∀j u,X[j]?=some u->w'.drew.cell? ((⟨w.heap.size,0,none⟩:Addr).add j)=some u:=λj u hj=>by
    have hs:j<X.length:=(xei.1 hj).1;rw[hl u (xgh hj),Addr.add_lit];rw[ha.out]at hs;have h2:j<k:=by omega
    unfold World.cell?;rw[ho];simp[rb_,List.getElem?_append,h2]
   replace ho:Aside (w'.drew.heap[w.heap.size]?=some (Obj.cells (rb_ m k v).toArray 4)):=ho;replace hh:Aside (∀j u,X[j]?=some u->w'.drew.cell? ((⟨w.heap.size,0,none⟩:Addr).add j)=some u):=hh;go_wp2;go_region_law (refine step_copy_splice rfl (.tmp 41) (.tmp 44) 49 49 rfl 4 underlying49 hsz4 (some ⟨w.heap.size,k,none⟩) (some ⟨w.heap.size,0,none⟩) (m-k) (m-k) k m (by simp[Act.eval,Act.put,k2]) (by simp[Act.eval,Act.put]) w.heap.size k (rb_ m k v) 4 ho.out X hi (λ_=>⟨rfl,_,rfl,hh.out⟩) ht hv w.heap.size w hz (xag _) ?_;intro w4 hr h7);replace hr:Hid (w4.heap[w.heap.size]?=some (Obj.cells (rb_ m (k+d) v).toArray 4)):=by have:=hr.out;rw[he.out]at this;exact this
   go_wp2;exact⟨m-(k+d),by omega,k+d,by omega,rfl,λ_=>by omega,hr,h7,FrR.mk⟩
  ·have h5:¬(k:Int)<(m:Int):=by omega
   have h9:k=m:=by omega
   subst h9;have hn:rb_ k k v=List.replicate k (Value.bool v):=by unfold rb_;rw[xen];simp
   go_wp2;go_ret;exact⟨_,rfl,⟨by simp,.inr ⟨w.heap.size,k,_,rfl,xag _,hg.out,xag _,by unfold maxLen;omega,by simp[hn],by simp[hn]⟩⟩,hb⟩
end
def enters201:zdn prog 201:=enters_of func201 (by kernel_rfl) rfl
noncomputable def d201 (xs:List Bool) (n:Int):Option (List Bool):=bif decide (xs.length=1)&&(decide (0<=n)&&decide (n<=1000))then some (List.replicate n.toNat (xs.getD 0 false))else none
def sg201:Sig:=⟨[(y49,.bw),(y3,.sh)],[(y49,.own 4 .sh)]⟩
def sim201:Sim prog 201 sg201 d201:=by
 refine⟨enters201,λxs y hy S hS vs hvs hargs=>?_⟩;have hd:d201 xs.1 xs.2.1=some y:=hy;obtain⟨xs,n,u⟩:=xs;simp only at hd;obtain⟨z,hz,h8,jg,hn⟩:∃z:Bool,(xs:List Bool)=[z]/\0<=n/\n<=1000/\List.replicate n.toNat z=y:=by
  unfold d201 at hd;cases hq:(decide ((xs:List Bool).length=1)&&(decide (0<=(n:Int))&&decide ((n:Int)<=1000)))with
  |false=>rw[hq]at hd;cases hd
  |true=>rw[hq]at hd;rw[xal,xal,xak,xak,xak]at hq;obtain⟨z,hz⟩:=xcw.1 hq.1;have h2:=xbi hd;rw[hz]at h2;exact⟨z,hz,hq.2.1,hq.2.2,h2⟩
 obtain⟨v,hv,hr⟩:=hargs 0 ⟨y49,.bw,xs⟩ rfl;obtain⟨v2,jf,hp⟩:=hargs 1 ⟨y3,.sh,n⟩ rfl;have hl:vs.length=2:=hvs;obtain⟨v',v2',rfl⟩:∃a b,vs=[a,b]:=by
  match vs,hl with
  | [a,b],_=>exact⟨a,b,rfl⟩
 have e1:v'=v:=by simpa using hv
 have e2:v2'=v2:=by simpa using jf
 subst e1 e2;dsimp only at hr hp;obtain⟨ji,_,A,len,cap,h0,rfl,hw,h3⟩:=hr.1;have je:v'=.slice A (xs:List Bool).length cap:=by simpa[zab,Ty.agg]using h0
 subst je;have h9:zab (.int .i64) v2' 0=some v2':=by simp[zab,Ty.agg]
 obtain⟨q1,q2⟩:=hp.1;rw[h9]at q1;have q1':v2'=.int .i64 n:=by injection q1
 subst q1';obtain⟨b,o,hA,ja⟩:∃b o,A=some ⟨b,o,none⟩/\S.w.cell? ⟨b,o,none⟩=some (.bool z):=by
  rcases h3 with⟨h3,_⟩|⟨b,o,hA,hx,h4⟩
  ·exfalso;rw[hz]at h3;cases h3
  ·refine⟨b,o,hA,?_⟩;have hq:blk S.w b (o+0*Ty.size .bool) 0=some (.bool ((xs:List Bool)[0]'(by rw[hz];simp))):=h4 0 (by rw[hz];simp);simpa[blk,Ty.size,hz]using hq
 subst hA;obtain⟨m,rfl⟩:∃m:Nat,n=(m:Int):=⟨Int.toNat n,(xho h8).symm⟩;rw[xam]at hn;have hg:(xs:List Bool).length=1:=by rw[hz];rfl
 have hc:m<=1000:=by have:(m:Int)<=1000:=jg;omega
 have he:=repeatB_ok b o cap m z S.w hc ja;rw[hg];refine Calls.mono he λe w' ⟨r,hr,ho,hb⟩=>?_;subst hr;obtain⟨ys,jb⟩:∃ys:List Bool,ys=y:=⟨y,rfl⟩;subst jb;have hj:ys.length=m:=by rw[<-hn,xbq]
 have hk:∀u∈ys,u=z:=by rw[<-hn];exact λu=>xem
 have jd:∀(i:Nat) (hi:i<ys.length),ys[i]=z:=λi hi=>hk _ (xbf hi);obtain⟨jh,hs⟩:=ho;let S':St:={S with w:=w',own:=λb=>if r.ownBlock=some b then some (0,[0])else S.own b,hv:=λz=>if z=(0,[0])then r else S.hv z};have ht:S'.hv (0,[0])=r:=by show(if((0,[0]):Go.X.Place)=(0,[0])then r else S.hv (0,[0]))=r;simp
 have ha:∀b,r.ownBlock=some b->S.w.heap.size<=b/\b<w'.heap.size:=λb hbb=>by
  rcases hs with⟨h1,_⟩|⟨g,c,cur,h1,h2,h3,_⟩
  ·rw[h1]at hbb;cases hbb
  ·rw[h1]at hbb;cases hbb;exact⟨h2,(xbm.1 h3).1⟩
 have hf:∀b,b<S.w.heap.size->S'.own b=S.own b:=λb hlt=>if_neg λhh=>absurd (ha b hh).1 (by omega);have jc:Frm S S':=by
  refine⟨λ_ h=>h,rfl,λb hb'=>?_,λb hb'=>?_,λb p hb'=>?_,hb.os,hb.tape,hb.output,hb.size,λb hlt _=>hb.block b hlt⟩;·exact⟨(hf b (hS.shared b hb').2).trans (hS.shared b hb').1,xav (hS.shared b hb').2 hb.size,.inl hb'⟩
  ·exact(hf b (hS.borrowed b hb').2).trans (hS.borrowed b hb').1
  ·have hm:(if r.ownBlock=some b then some (0,[0])else S.own b)=some p:=hb';split at hm;·rename_i hh;exact⟨(ha b hh).2,.inl (ha b hh).1⟩
   ·exact⟨xav (hS.owned b p hm) hb.size,.inr (by rw[hm];simp)⟩
 refine⟨r,S',rfl,rfl,jc,⟨⟨?_,by simp[Ty.size],?_,?_⟩,λh=>by cases h⟩,λq e hq=>by cases hq⟩
 ·show ys.length<=_;rw[hj];have:1000<=zpf:=by unfold zpf;omega
  omega
 ·rw[ht];simp[zab,Ty.agg]
 ·rw[ht];rcases hs with⟨h1,h2⟩|⟨g,c,cur,h1,h2,h3,h4,h5,h6,h7⟩
  ·exact .inl ⟨h1,by have:=hj;rw[h2]at this;exact xef this⟩
  ·rw[<-hj]at h1 h4;refine .inr ⟨g,c,cur,h1,if_pos (by rw[h1];rfl),h3,h4,h5,by simpa[Ty.size]using h6,λi hi=>?_⟩;have hu:i<m:=by rw[<-hj];exact hi
   have:=xbr (λl=>l[i]?) h7;simp only[xea,xdv,hu,if_true,xhv,xbe]at this;have e0:i*Ty.size .bool+0=i:=by simp[Ty.size]
   show cur[i*Ty.size .bool+0]?=some (.bool (ys[i]'hi));rw[e0,jd i hi];exact this
noncomputable def E201:FnE prog:=⟨201,sg201,d201,sim201⟩
end Go.Proofs.YtamgmpngdmnadaaGreat
