/- Part 17 of what stands below the statement. -/
import Derived.Test.YtfgjbkjddcjlfaaGreatS16
set_option linter.defProp false
set_option linter.unusedSimpArgs false
set_option linter.unusedVariables false
namespace Go.Proofs.YtfgjbkjddcjlfaaGreat
open Go Go.X
def ztl{α β γ:Type}{f:α→Option (α⊕β)}{k:β→Option γ}{a0:α}{Q:Option γ→Prop}(R:Nat→α→Prop)(n:Nat)(h0:R n a0)(hs:∀i a,i<n→R (i+1) a→∃a',f a=some (.inl a')∧R i a')(he:∀a,R 0 a→∃b,f a=some (.inr b)∧Q (k b)):Q ((zad f a0).bind k):=by
 refine zcq (Q:=Q) (fun i a=>i≤n∧R (n-i) a) n ⟨xbz _,h0⟩ ?_ ?_
 ·rintro i a hi ⟨h1,h2⟩
  rw[show n-i=n-(i+1)+1 by omega]at h2
  obtain⟨a',h3,h4⟩:=hs (n-(i+1)) a (by omega) h2
  exact⟨a',h3,hi,h4⟩
 ·rintro a ⟨_,h⟩
  rw[xho]at h
  exact he a h
def getD_set_ne(l:List Int){i j:Nat}(x:Int)(h:i≠j):(l.set i x).getD j 0=l.getD j 0:=by
 simp only[xae,xkl h]
def zuj(n i:Nat):(List.replicate n (0:Int)).getD i 0=0:=by
 rw[xae,xjo]
 split<;>rfl
def short_step{P V q r t x d X:Nat}(h:V=q*d+P*4294967296*r+(t+P*x))(hX:X=r*4294967296+x):V=(q+P*(X/d))*d+P*(X%d)+t:=by
 have e:=xgj X d
 have e1:P*X=P*(X/d)*d+P*(X%d):=by
  rw[xbr,xby (X/d),←xcz,e]
 have e2:P*X=P*4294967296*r+P*x:=by rw[hX,xcz,xbr,xby r]
 rw[xcl]
 omega
def d165_eq{a:List Int}(ha:IsL a)(la:a.length≤1073741824){d:Nat}(hd:0<d)(hd2:d<4294967296):∃q,d165 a (d:Int)=some (q,((nv a%d:Nat):Int))∧IsL q∧q.length=a.length∧nv q=nv a/d:=by
 unfold d165
 simp only[xah,d0le,zce (n:=a.length) (by omega),xai,xab,tn]
 have hd0:decide ((d:Int)=0)=false:=xaj (by omega)
 refine ztl (Q:=fun r=>∃q,r=some (q,((nv a%d:Nat):Int))∧IsL q∧q.length=a.length∧nv q=nv a/d) (fun(i:Nat) (st:(List Int)×Int×(List Int)×Int×Int)=>∃(q:List Int) (r:Nat),st=(a,(d:Int),q,(r:Int),(i:Int)-1)∧i≤a.length∧IsL q∧q.length=a.length∧r<d∧(∀k,k<i→q.getD k 0=0)∧nv a=nv q*d+4294967296^i*r+nv (a.take i)) a.length ?_ ?_ ?_
 ·refine⟨_,0,by rw[zbx (by omega) (by omega)];rfl,xak _,IsL.zeros _,by simp,hd,fun k _=>zuj _ k,by simp[zfi]⟩
 ·rintro i st hi ⟨q,r,rfl,hia,hL,hlen,hr,hz,hv⟩
  obtain⟨x,hx1,hx2,hx3⟩:=zfl ha i
  have hi1:(((i+1:Nat):Int))-1=(i:Int):=by omega
  obtain⟨X,hX⟩:∃X,r*4294967296+x=X:=⟨_,rfl⟩
  have hX1:X/d<4294967296:=by
   rw[xep hd]
   have:(r+1)*4294967296≤d*4294967296:=xav _ hr
   rw[xby 4294967296]
   omega
  have hX2:X%d<d:=xfi _ hd
  have t1:Int.tdiv (X:Int) (d:Int)=((X/d:Nat):Int):=rfl
  have t2:Int.tmod (X:Int) (d:Int)=((X%d:Nat):Int):=rfl
  have hw:w ((i:Int)-1)=(i:Int)-1:=zbx (by omega) (by omega)
  simp only[hi1,d0le,dlt (show i<a.length by omega),dlt (show i<q.length by omega),hd0,xao,xab,xai,tn,hx1,or64w (show r<4294967296 by omega) hx2,hX,t1,t2,zba (show X/d<18446744073709551616 by omega),zba (show X%d<18446744073709551616 by omega),zei,xeb hX1,hw]
  have e1:=zme q i (((X/d:Nat):Int)) (by omega)
  rw[hz i (by omega),xaf]at e1
  refine⟨_,rfl,_,_,rfl,by omega,hL.set i (xku _) (by rw[show(4294967296:Int)=((4294967296:Nat):Int)from rfl];exact Int.ofNat_lt.2 hX1),by simpa using hlen,hX2,fun k hk=>by rw[getD_set_ne _ _ (by omega)];exact hz k (by omega),?_⟩
  have e2:nv (q.set i (((X/d:Nat):Int)))=nv q+4294967296^i*(X/d):=by simpa using e1
  rw[e2]
  rw[xch,hx3]at hv
  exact short_step hv hX.symm
 ·rintro st ⟨q,r,rfl,hia,hL,hlen,hr,hz,hv⟩
  refine⟨(q,(r:Int)),rfl,q,?_,hL,hlen,?_⟩
  ·simp only[xei,nv,xka,xko,xdl]at hv
   rw[hv,xby,Nat.mul_add_mod,xeb hr]
  ·simp only[xei,nv,xka,xko,xdl]at hv
   rw[hv,xby,Nat.mul_add_div hd,xfp hr,xdl]
def shl_nat{x n:Nat}(hn:n≤31):(x:Int)*2^(min (Int.toNat (n:Int)) 64)=((x*2^n:Nat):Int):=by
 rw[tn,show min n 64=n by omega];simp
def shr_nat{x n:Nat}(hn:n≤31):Int.fdiv (x:Int) (2^(min (Int.toNat (n:Int)) 64))=((x/2^n:Nat):Int):=by
 rw[tn,show min n 64=n by omega]
 have:((2:Int)^n)=((2^n:Nat):Int):=by simp
 rw[this,xiv _ (xku _)]
 rfl
def zrp{n:Nat}(hn:n≤31):2^n*2^(32-n)=4294967296:=by
 rw[←xfb,show n+(32-n)=32 by omega]
def low_half{x n:Nat}(hn:n≤31):x*2^n%4294967296=x%2^(32-n)*2^n:=by
 rw[←zrp hn,xby x,Nat.mul_mod_mul_left,xby]
def low_top{x n o:Nat}(hn:n≤31)(ho:o<2^n):o+x*2^n%4294967296<4294967296:=by
 rw[low_half hn]
 have h1:x%2^(32-n)<2^(32-n):=xfi _ (xgf (by decide))
 have h2:=xav (2^n) h1
 rw[xby (2^(32-n)),zrp hn,xgn]at h2
 omega
def or32{o x n:Nat}(hn:n≤31)(ho:o<2^n):(BitVec.ofInt 32 (o:Int)|||BitVec.ofInt 32 ((x*2^n%4294967296:Nat):Int)).toNat=o+x*2^n%4294967296:=by
 have h2:o<4294967296:=by have:=low_top (x:=x) hn ho;omega
 rw[xkg,zjv 32 _ (by omega),zjv 32 _ (xfi _ (by decide)),low_half hn]
 exact or_add ho
def left_step{P v lo hi x t T:Nat}(hv:v=t*T)(hlo:x*T=lo+4294967296*hi):v+P*lo+P*4294967296*hi=(t+P*x)*T:=by
 rw[xcl,←hv,xbr P x T,hlo,xcz,←xbr];omega
def set_set_nv{out:List Int}(hL:IsL out){i o lo hi:Nat}(h:i+1<out.length)(ho:out.getD i 0=(o:Int))(hlt:nv out<4294967296^(i+1))(h1:o+lo<4294967296)(h2:hi<4294967296) :
  IsL ((out.set i ((o+lo:Nat):Int)).set (i+1) (hi:Int))∧nv ((out.set i ((o+lo:Nat):Int)).set (i+1) (hi:Int))=nv out+4294967296^i*lo+4294967296^i*4294967296*hi:=by
 have q1:=hL.set i (x:=((o+lo:Nat):Int)) (by omega) (by omega)
 refine⟨q1.set _ (by omega) (by omega),?_⟩
 have e1:=zme out i ((o+lo:Nat):Int) (by omega)
 rw[ho,xaf,xaf,xcz]at e1
 have e2:=zoa q1 (i:=i+1) (hi:Int) (by simpa using h) (zmd hL (by omega) (by omega) (by omega) hlt)
 rw[e2,xaf,xch]
 omega
def d167_eq{a:List Int}(ha:IsL a)(la:a.length≤1073741824){n:Nat}(hn:n≤31):∃out,d167 a (n:Int)=some out∧IsL out∧out.length=a.length+1∧nv out=nv a*2^n:=by
 unfold d167
 have hT:2^n<4294967296:=xfh (by decide) (show n<32 by omega)
 have hT0:0<2^n:=xgf (by decide)
 simp only[zbk (show a.length<9223372036854775807 by omega),xah,d0le,zce (n:=a.length+1) (by omega),xai,xab,tn]
 refine zcq (Q:=fun r=>∃out,r=some out∧IsL out∧out.length=a.length+1∧nv out=nv a*2^n) (fun(i:Nat) (st:Int×(List Int)×(List Int)×Int×Int)=>∃(out:List Int),st=((n:Int),out,a,(a.length:Int),(i:Int))∧IsL out∧out.length=a.length+1∧nv out=nv (a.take i)*2^n) a.length ?_ ?_ ?_
 ·exact⟨_,rfl,IsL.zeros _,by simp,by simp[zfi,nv]⟩
 ·rintro i st hi ⟨out,rfl,hL,hlen,hv⟩
  obtain⟨x,hx1,hx2,hx3⟩:=zfl ha i
  have htop:=top_lt ha i
  have hlt:nv out<4294967296^i*2^n:=by rw[hv];exact xgx htop hT0
  have ho1:out.getD i 0=((nv out/4294967296^i:Nat):Int):=by
   rw[zhh hL]
   have:nv out/4294967296^i<2^n:=xgh hlt
   rw[xeb (by omega)]
  have ho2:nv out/4294967296^i<2^n:=xgh hlt
  obtain⟨o,ho⟩:∃o,nv out/4294967296^i=o:=⟨_,rfl⟩
  rw[ho]at ho1 ho2
  have hlt1:nv out<4294967296^(i+1):=by
   rw[xch]
   exact xau hlt (xdk _ (by omega))
  obtain⟨v,hvx⟩:∃v,x*2^n=v:=⟨_,rfl⟩
  have hv64:v<4294967296*4294967296:=by rw[←hvx];exact Nat.mul_lt_mul'' hx2 hT
  have hor:=or32 (x:=x) hn ho2
  have hlo:=low_top (x:=x) hn ho2
  rw[hvx]at hor hlo
  have s1:wu32 ((o+v%4294967296:Nat):Int)=((o+v%4294967296:Nat):Int):=by rw[zei,xeb hlo]
  have hhi:v/4294967296<4294967296:=by omega
  have s2:wu32 ((v/4294967296:Nat):Int)=((v/4294967296:Nat):Int):=by rw[zei,xeb hhi]
  simp only[dlt hi,d0le,dlt (show i<out.length by omega),zbk (show i<9223372036854775807 by omega),xcd,dlt (show i+1<out.length by omega),xab,xai,tn,hx1,ho1,zba (show x<18446744073709551616 by omega)]
  rw[show(x:Int)*2^(min n 64)=(v:Int) by have:=shl_nat (x:=x) hn;rw[tn,hvx]at this;exact this]
  simp only[zba (show v<18446744073709551616 by omega),zei (n:=v),hor,s1,shr32,zba (show v/4294967296<18446744073709551616 by omega),s2]
  obtain⟨q1,q2⟩:=set_set_nv hL (i:=i) (lo:=v%4294967296) (hi:=v/4294967296) (by omega) ho1 hlt1 hlo hhi
  refine⟨_,rfl,_,rfl,q1,by simpa using hlen,?_⟩
  rw[q2,hx3]
  exact left_step hv (by rw[hvx];omega)
 ·rintro st ⟨out,rfl,hL,hlen,hv⟩
  rw[xbi (xak _)]at hv
  exact⟨out,by simp only[nlt (xak a.length),xac],out,rfl,hL,hlen,hv⟩
def right_digit{X n:Nat}(hn:n≤31):(X%4294967296+X/4294967296%4294967296*4294967296)/2^n%4294967296=X/2^n%4294967296:=by
 have hT0:0<2^n:=xgf (by decide)
 obtain⟨z,hz⟩:∃z,X%4294967296+X/4294967296%4294967296*4294967296=z:=⟨_,rfl⟩
 have e:X=z+2^n*(2^(32-n)*(X/4294967296/4294967296)*4294967296):=by
  rw[xbr,←xbr (2^n),zrp hn]
  omega
 rw[hz]
 conv=>rhs;rw[e]
 rw[xki _ _ hT0,Nat.add_mul_mod_self_right]
def or64r{a b:Nat}(ha:a<4294967296)(hb:b<4294967296):wu64 (((BitVec.ofInt 64 (b:Int)|||BitVec.ofInt 64 (wu64 ((a:Int)*2^(min (Int.toNat 32) 64)))).toNat:Nat):Int)=((b+a*4294967296:Nat):Int):=by
 rw[shl32,zba (n:=a*4294967296) (by omega),xkg,Nat.or_comm,←xkg,or64 ha hb,zba (by omega)]
 congr 1
 omega
def d169_eq{a:List Int}(ha:IsL a)(la:a.length≤1073741824){n:Nat}(hn:n≤31):∃out,d169 a (n:Int)=some out∧IsL out∧out.length=a.length∧nv out=nv a/2^n:=by
 unfold d169
 have hT0:0<2^n:=xgf (by decide)
 simp only[xah,d0le,zce (n:=a.length) (by omega),xai,xab,tn]
 refine zcq (Q:=fun r=>∃out,r=some out∧IsL out∧out.length=a.length∧nv out=nv a/2^n) (fun(i:Nat) (st:(List Int)×Int×(List Int)×Int×Int)=>∃(out:List Int),st=(a,(n:Int),out,(a.length:Int),(i:Int))∧IsL out∧out.length=a.length∧nv out=nv a/2^n%4294967296^i) a.length ?_ ?_ ?_
 ·exact⟨_,rfl,IsL.zeros _,by simp,by simp[zfi,nv,Nat.mod_one]⟩
 ·rintro i st hi ⟨out,rfl,hL,hlen,hv⟩
  have g0:=zhh ha i
  have g1:=zhh ha (i+1)
  rw[xch,←xeu]at g1
  have hlt:nv out<4294967296^i:=by rw[hv];exact xfi _ (zvb i)
  have hd:=right_digit (X:=nv a/4294967296^i) hn
  obtain⟨X,hX⟩:∃X,nv a/4294967296^i=X:=⟨_,rfl⟩
  rw[hX]at g0 g1 hd
  have b0:X%4294967296<4294967296:=xfi _ (by decide)
  have b1:X/4294967296%4294967296<4294967296:=xfi _ (by decide)
  obtain⟨z,hz⟩:∃z,X%4294967296+X/4294967296%4294967296*4294967296=z:=⟨_,rfl⟩
  rw[hz]at hd
  have hzb:z<18446744073709551616:=by omega
  have hzd:z/2^n<18446744073709551616:=xdq (xfc _ _) hzb
  have sh:Int.fdiv (z:Int) (2^(min n 64))=((z/2^n:Nat):Int):=by have:=shr_nat (x:=z) hn;rwa[tn]at this
  simp only[dlt hi,ziy ha,zbk (show i<9223372036854775807 by omega),d0le,dlt (show i<out.length by omega),xab,xai,xaa,g0,g1,or64r b1 b0,hz,tn,sh,zba hzd,zei,hd]
  have e1:=zoa hL (i:=i) (((X/2^n%4294967296:Nat):Int)) (by omega) hlt
  rw[xaf]at e1
  refine⟨_,rfl,_,rfl,hL.set i (by omega) (by omega),by simpa using hlen,?_⟩
  rw[e1,hv,←hX,xeu,xby (4294967296^i) (2^n),←xeu,Nat.mod_pow_succ]
 ·rintro st ⟨out,rfl,hL,hlen,hv⟩
  refine⟨out,by simp only[nlt (xak a.length),xac],out,rfl,hL,hlen,?_⟩
  rw[hv]
  exact xeb (xdq (xfc _ _) (zvz ha))
def zic{α β γ:Type}{f:α→Option (α⊕β)}{k:β→Option γ}{a0:α}{Q:Option γ→Prop}(R:Nat→α→Prop)(n:Nat)(h0:R n a0)(hs:∀m a,R m a→(∃a' m',f a=some (.inl a')∧m'<m∧R m' a')∨∃b,f a=some (.inr b)∧Q (k b)):Q ((zad f a0).bind k):=by
 have key:∀M m a,m<M→R m a→∃b,zad f a=some b∧Q (k b):=by
  intro M
  induction M with
  |zero=>intro m a h;omega
  |succ M ih=>
   intro m a hm hr
   rcases hs m a hr with⟨a',m',h1,h2,h3⟩|⟨b,h1,h2⟩
   ·obtain⟨b,h4,h5⟩:=ih m' a' (by omega) h3
    exact⟨b,zkl h1 h4,h5⟩
   ·exact⟨b,zgi h1,h2⟩
 obtain⟨b,h1,h2⟩:=key (n+1) n a0 (by omega) h0
 rw[h1]
 exact h2
def two_top{v:List Int}(hv:IsL v){m:Nat}(hm:v.length=m+2):∃h s t:Nat,v.getD (m+1) 0=(h:Int)∧v.getD m 0=(s:Int)∧h<4294967296∧s<4294967296∧t<4294967296^m∧nv v=(h*4294967296+s)*4294967296^m+t:=by
 have g0:=zhh hv m
 have g1:=zhh hv (m+1)
 rw[xch,←xeu]at g1
 have hlt:=zvz hv
 rw[hm,show m+2=m+1+1 by omega,xch,xch,xbr]at hlt
 have hY:=xgh hlt
 have hdm:=xgj (nv v) (4294967296^m)
 have hml:=xfi (nv v) (zvb m)
 generalize nv v/4294967296^m=Y at *
 refine⟨Y/4294967296,Y%4294967296,nv v%4294967296^m,?_,g0,by omega,by omega,hml,?_⟩
 ·rw[g1];omega
 ·rw[show Y/4294967296*4294967296+Y%4294967296=Y by omega,xby Y];omega
def three_top{u:List Int}(hu:IsL u){j m:Nat}(hlt:nv u<4294967296^(j+m+3)):∃a b c z:Nat,u.getD (j+m+2) 0=(a:Int)∧u.getD (j+m+1) 0=(b:Int)∧u.getD (j+m) 0=(c:Int)∧a<4294967296∧b<4294967296∧c<4294967296∧z<4294967296^m∧nv u/4294967296^j=((a*4294967296+b)*4294967296+c)*4294967296^m+z:=by
 have g0:=zhh hu (j+m)
 have g1:=zhh hu (j+m+1)
 have g2:=zhh hu (j+m+2)
 rw[show j+m+2=j+m+1+1 by omega,xch,←xeu]at g2
 rw[xch,←xeu]at g1 g2
 rw[xfb,←xeu]at g0 g1 g2
 have hl2:nv u/4294967296^j/4294967296^m<4294967296*4294967296*4294967296:=by
  rw[xeu,←xfb]
  refine xgh ?_
  rw[show j+m+3=j+m+1+1+1 by omega,xch,xch,xch]at hlt
  rw[←xbr,←xbr]
  exact hlt
 generalize nv u/4294967296^j=U at *
 have hdm:=xgj U (4294967296^m)
 have hml:=xfi U (zvb m)
 generalize U/4294967296^m=Y at *
 refine⟨Y/4294967296/4294967296,Y/4294967296%4294967296,Y%4294967296,U%4294967296^m,?_,g1,g0,by omega,by omega,by omega,hml,?_⟩
 ·rw[show j+m+2=j+m+1+1 by omega,g2];omega
 ·rw[show(Y/4294967296/4294967296*4294967296+Y/4294967296%4294967296)*4294967296+Y%4294967296=Y by omega,xby Y];omega
def guess_low{U V W top h s t u0 z q r:Nat}(hV:V=(h*4294967296+s)*W+t)(hU:U=(top*4294967296+u0)*W+z)(hz:z<W)(hu:u0<4294967296)(hq:q*h+r=top)(hr:r<h):U<(q+1)*V:=by
 have h1:top+1≤(q+1)*h:=by rw[xgn];omega
 have h2:top*4294967296+u0+1≤(q+1)*(h*4294967296+s):=by
  rw[xcz,←xbr]
  have:=xav 4294967296 h1
  omega
 have h3:=xav W h2
 rw[hV,xcz,←xbr,hU]
 rw[xgn]at h3
 omega
def top_bound{B U V W x c y t z:Nat}(hV:V=y*W+t)(hU:U=(x*B+c)*W+z)(ht:t<W)(hlt:U<B*V):x≤y:=by
 refine Nat.not_lt.1 fun h1=>?_
 have h2:(y+1)*B≤x*B:=xav B h1
 have h3:=xav W h2
 have h4:B*V≤B*((y+1)*W):=by
  refine xdk B ?_
  rw[hV,xgn];omega
 rw[xby (y+1) B,xbr]at h3
 rw[xcl]at hU
 omega
def q_small{q h r:Nat}(hq:q*h+r≤h*4294967296+4294967295)(hr:4294967296≤r):q<4294967296:=by
 refine Nat.not_le.1 fun h1=>?_
 have:=xav h h1
 rw[xby 4294967296]at this
 omega
def d198_eq{u v:List Int}(hu:IsL u)(hv:IsL v){j m:Nat}(hm:v.length=m+2)(hlen:j+m+2<u.length)(lu:u.length≤1073741825)(hlt:nv u<4294967296^(j+m+3))(hh:v.getD (m+1) 0≠0)(hUV:nv u/4294967296^j<4294967296*nv v) :
  ∃q:Nat,d198 u v (j:Int)=some (q:Int)∧q<4294967296∧nv u/4294967296^j<(q+1)*nv v∧q*nv v<nv u/4294967296^j+nv v:=by
 obtain⟨h,s,t,v1,v2,hh1,hs1,ht1,hV⟩:=two_top hv hm
 obtain⟨a,b,c,z,u1,u2,u3,ha1,hb1,hc1,hz1,hU⟩:=three_top hu hlt
 have hb0:=top_bound hV hU ht1 hUV
 generalize nv u/4294967296^j=U at *
 generalize nv v=V at *
 generalize 4294967296^m=W at *
 rw[v1]at hh
 have hh0:0<h:=by omega
 obtain⟨top,htop⟩:∃top,a*4294967296+b=top:=⟨_,rfl⟩
 rw[htop]at hU hb0
 have htl:top<18446744073709551616:=by omega
 unfold d198
 have i1:w ((j:Int)+((m+2:Nat):Int))=((j+m+2:Nat):Int):=by rw[zbx (by omega) (by omega)];omega
 have i2:w (((j+m+2:Nat):Int)-1)=((j+m+1:Nat):Int):=by rw[zbx (by omega) (by omega)];omega
 have i3:w (((m+2:Nat):Int)-1)=((m+1:Nat):Int):=by rw[zbx (by omega) (by omega)];omega
 have i4:w (((m+2:Nat):Int)-2)=((m:Nat):Int):=by rw[zbx (by omega) (by omega)];omega
 have i5:w (((j+m+2:Nat):Int)-2)=((j+m:Nat):Int):=by rw[zbx (by omega) (by omega)];omega
 have hne:decide ((h:Int)=0)=false:=xaj (by omega)
 have hd1:top/h<18446744073709551616:=xdq (xfc _ _) htl
 have hd2:top%h<h:=xfi _ hh0
 have t1:Int.tdiv (top:Int) (h:Int)=((top/h:Nat):Int):=rfl
 have t2:Int.tmod (top:Int) (h:Int)=((top%h:Nat):Int):=rfl
 simp only[hm,i1,i2,i3,d0le,dlt (show j+m+2<u.length by omega),dlt (show j+m+1<u.length by omega),dlt (show m+1<m+2 by omega),xab,xai,tn,v1,u1,u2,zba (show h<18446744073709551616 by omega),zba (show a<18446744073709551616 by omega),hne,xao,or64w ha1 hb1,htop,t1,t2,zba hd1,zba (show top%h<18446744073709551616 by omega)]
 refine zic (Q:=fun r=>∃q:Nat,r=some (q:Int)∧q<4294967296∧U<(q+1)*V∧q*V<U+V) (fun(M:Nat) (st:(List Int)×(List Int)×Int×Int×Int×Int×Int)=>∃(q r:Nat),M=q∧st=(u,v,(j:Int),((m+2:Nat):Int),(h:Int),(q:Int),(r:Int))∧q*h+r=top∧r<4294967296∧q<18446744073709551616∧U<(q+1)*V) (top/h) ?_ ?_
 ·exact⟨_,_,rfl,rfl,by rw[xby];exact xgj top h,by omega,hd1,guess_low hV hU hz1 hc1 (by rw[xby];exact xgj top h) hd2⟩
 ·rintro M st ⟨q,r,rfl,rfl,hq,hr,hq64,hlow⟩
  have e2:wu64 ((r:Int)+(h:Int))=((r+h:Nat):Int):=by rw[zbw (by omega) (by omega)];omega
  have e1:0<M→wu64 ((M:Int)-1)=((M-1:Nat):Int):=fun h0=>by rw[zbw (by omega) (by omega)];omega
  have down:0<M→U<M*V→(4294967296≤r+h∧M-1<4294967296∧U<(M-1+1)*V∧(M-1)*V<U+V)∨(r+h<4294967296∧(M-1)*h+(r+h)=top∧U<(M-1+1)*V):=by
   intro h0 hU1
   have e3:(M-1)*h+(r+h)=top:=by
    rw[←hq]
    obtain⟨M',rfl⟩:∃M',M=M'+1:=⟨M-1,by omega⟩
    rw[xkq,xgn];omega
   have e4:M-1+1=M:=by omega
   rw[e4]
   by_cases hb:4294967296≤r+h
   ·have hqs:=q_small (h:=h) (r:=r+h) (by rw[e3];omega) hb
    refine .inl ⟨hb,hqs,hU1,zun hV hU ht1 hh0 e3 hqs ?_⟩
    have:(M-1)*s≤4294967296*4294967296:=xdf (by omega) (by omega)
    omega
   ·exact .inr ⟨by omega,e3,hU1⟩
  by_cases hq1:4294967296≤M
  ·have d1:decide ((4294967296:Int)≤(M:Int))=true:=xag (by omega)
   have hM:0<M:=by omega
   rcases down hM (xau hUV (xav V hq1))with⟨k1,k2,k3,k4⟩|⟨k1,k2,k3⟩
   ·have d2:decide ((4294967296:Int)≤((r+h:Nat):Int))=true:=xag (by omega)
    exact .inr ⟨((M-1:Nat):Int),by simp only[zaq,d1,xaq,xac,xab,e1 hM,e2,d2],M-1,rfl,k2,k3,k4⟩
   ·have d2:decide ((4294967296:Int)≤((r+h:Nat):Int))=false:=xaj (by omega)
    exact .inl ⟨_,M-1,by simp only[zaq,d1,xaq,xac,xab,e1 hM,e2,d2],by omega,M-1,r+h,rfl,rfl,k2,k1,by omega,k3⟩
  ·have d1:decide ((4294967296:Int)≤(M:Int))=false:=xaj (by omega)
   obtain⟨p,hp⟩:∃p,M*s=p:=⟨_,rfl⟩
   have hpl:p≤4294967295*4294967295:=by rw[←hp];exact xdf (by omega) (by omega)
   have hpi:(M:Int)*(s:Int)=(p:Int):=by rw[←hp];simp
   simp only[zaq,d1,xao,xab,i1,i4,i5,d0le,dlt (show m<m+2 by omega),hm,dlt (show j+m<u.length by omega),xai,tn,v2,u3,or64w hr hc1,zba (show s<18446744073709551616 by omega),hpi,zba (show p<18446744073709551616 by omega)]
   by_cases hc:r*4294967296+c<p
   ·simp only[dlt hc]
    rw[←hp]at hc
    have hM:0<M:=by
     rcases xda M with h0|h0
     ·subst h0;rw[xfl]at hc;omega
     ·exact h0
    rcases down hM (digit_low hV hU hz1 hq hc)with⟨k1,k2,k3,k4⟩|⟨k1,k2,k3⟩
    ·have d2:decide ((4294967296:Int)≤((r+h:Nat):Int))=true:=xag (by omega)
     exact .inr ⟨((M-1:Nat):Int),by simp only[xac,xab,e1 hM,e2,d2],M-1,rfl,k2,k3,k4⟩
    ·have d2:decide ((4294967296:Int)≤((r+h:Nat):Int))=false:=xaj (by omega)
     exact .inl ⟨_,M-1,by simp only[xac,xab,e1 hM,e2,d2],by omega,M-1,r+h,rfl,rfl,k2,k1,by omega,k3⟩
   ·rw[nlt (a:=r*4294967296+c) (b:=p) (by omega)]
    refine .inr ⟨(M:Int),by simp only[xac],M,rfl,by omega,hlow,?_⟩
    exact zun hV hU ht1 hh0 hq (by omega) (by rw[hp];omega)
def and_low{p:Nat}(h:p<18446744073709551616):wu64 (((BitVec.ofInt 64 (p:Int)&&&BitVec.ofInt 64 4294967295).toNat:Nat):Int)=((p%4294967296:Nat):Int):=by
 have:BitVec.ofInt 64 4294967295=BitVec.ofNat 64 4294967295:=rfl
 rw[this,BitVec.toNat_and,zjv 64 _ (by omega),BitVec.toNat_ofNat]
 have e:=Nat.and_two_pow_sub_one_eq_mod p 32
 rw[show(2:Nat)^32-1=4294967295 from rfl,show(2:Nat)^32=4294967296 from rfl]at e
 rw[show 4294967295%2^64=4294967295 from rfl,e,zba (by omega)]
def sub_step{X N N' N2 T x y q dig lo h bo bo' ca ca' s p Y:Nat}(hN:N+X*(q*T)=N'+X*Y*(bo+ca))(h2:N2+X*Y*x=N+X*Y*dig)(hp:q*y+ca=p)(hlo:p=lo+4294967296*ca')(hs:s+lo+bo=4294967296+x)(hd:s=dig+4294967296*h)(hb:bo'+h=1):N2+X*(q*(T+Y*y))=N'+X*(Y*4294967296)*(bo'+ca'):=by
 have e:dig+q*y+ca+bo=x+4294967296*(bo'+ca'):=by omega
 have e1:=xbx ((X*Y) * ·) e
 simp only[xcz]at e1 hN ⊢
 have e2:X*(q*(Y*y))=X*Y*(q*y):=by rw[Nat.mul_left_comm q,←xbr]
 have e3:X*Y*(4294967296*bo')=X*(Y*4294967296)*bo':=by simp only[xbr]
 have e4:X*Y*(4294967296*ca')=X*(Y*4294967296)*ca':=by simp only[xbr]
 omega
def add_step{X N N' N2 T x y dig c c' s Y:Nat}(hN:N+X*Y*c=N'+X*T)(h2:N2+X*Y*x=N+X*Y*dig)(hs:x+y+c=s)(hd:s=dig+4294967296*c'):N2+X*(Y*4294967296)*c'=N'+X*(T+Y*y):=by
 have e:dig+4294967296*c'=x+y+c:=by omega
 have e1:=xbx ((X*Y) * ·) e
 simp only[xcz]at e1 hN ⊢
 have e2:X*(Y*y)=X*Y*y:=by rw[xbr]
 have e4:X*Y*(4294967296*c')=X*(Y*4294967296)*c':=by simp only[xbr]
 omega
def below_next{N X U q V:Nat}(hX:0<X)(hU:N/X=U)(h:U<(q+1)*V):N<X*(q*V)+X*V:=by
 have h1:N<X*(U+1):=by
  have:=xgj N X
  have:=xfi N hX
  rw[hU]at *
  rw[xcz,xdu]
  omega
 have h2:X*(U+1)≤X*((q+1)*V):=xdk _ h
 have e:X*((q+1)*V)=X*(q*V)+X*V:=by rw[xgn,xcz]
 omega
def floor_le{N X U Y:Nat}(hU:N/X=U)(h:Y≤U):X*Y≤N:=by
 have:=xgj N X
 rw[hU]at this
 have h2:X*Y≤X*U:=xdk _ h
 omega
set_option maxHeartbeats 1000000 in
def d168_eq{u v:List Int}(hu:IsL u)(hv:IsL v){m k:Nat}(hm:v.length=m+2)(hk:u.length=k+(m+2))(lu:u.length≤1073741825)(hh:v.getD (m+1) 0≠0)(hlt:nv u<nv v*4294967296^k) :
  ∃q r,d168 u v=some (q,r)∧IsL q∧IsL r∧q.length=k∧r.length=u.length∧nv q=nv u/nv v∧nv r=nv u%nv v:=by
 have hV0:0<nv v:=by
  rcases xda (nv v)with h0|h0
  ·rw[h0,xfl]at hlt;omega
  ·exact h0
 have hVB:=zvz hv
 unfold d168
 have i1:w ((u.length:Int)-(v.length:Int))=(k:Int):=by rw[zbx (by omega) (by omega)];omega
 have i2:w ((v.length:Int)+1)=((m+3:Nat):Int):=by rw[zbx (by omega) (by omega)];omega
 have i3:w ((k:Int)-1)=(k:Int)-1:=zbx (by omega) (by omega)
 simp only[i1,xah,d0le,zce (n:=k) (by omega),xai,xab,tn,i3]
 refine ztl (Q:=fun r=>∃q r',r=some (q,r')∧IsL q∧IsL r'∧q.length=k∧r'.length=u.length∧nv q=nv u/nv v∧nv r'=nv u%nv v) (fun(i:Nat) (st:(List Int)×(List Int)×Int×(List Int)×Int)=>∃(u' out:List Int),st=(u',v,(v.length:Int),out,(i:Int)-1)∧i≤k∧IsL u'∧u'.length=u.length∧IsL out∧out.length=k∧(∀t,t<i→out.getD t 0=0)∧nv u=nv u'+nv out*nv v∧nv u'<nv v*4294967296^i) k ?_ ?_ ?_
 ·exact⟨u,_,rfl,xak _,hu,rfl,IsL.zeros _,by simp,fun t _=>zuj _ t,by rw[zfi];omega,hlt⟩
 ·rintro i st hi ⟨u',out,rfl,hik,hu',hlu,hL,hlo,hz,hv1,hv2⟩
  obtain⟨X,hX⟩:∃X,4294967296^i=X:=⟨_,rfl⟩
  have hX0:0<X:=by rw[←hX];exact zvb i
  rw[xch,hX]at hv2
  have hB3:nv u'<4294967296^(i+m+3):=by
   refine xau hv2 ?_
   rw[show i+m+3=(m+2)+(i+1) by omega,xfb,xch _ i,hX,←hm]
   exact xav _ (xfm hVB)
  have hUV:nv u'/4294967296^i<4294967296*nv v:=by
   rw[hX]
   refine xgh ?_
   rw[←xbr,xby]
   exact hv2
  obtain⟨q,hq0,hq1,hq2,hq3⟩:=d198_eq hu' hv (j:=i) hm (by omega) (by omega) hB3 hh hUV
  have j1:((i+1:Nat):Int)-1=(i:Int):=by omega
  have wi1:w ((i:Int)-1)=(i:Int)-1:=zbx (by omega) (by omega)
  rw[hX]at hq2 hq3
  simp only[j1,d0le,xab,hq0,xaa,i2]
  refine zcq (Q:=fun(r:Option (((List Int)×(List Int)×Int×(List Int)×Int)⊕((List Int)×(List Int))))=>∃a',r=some (.inl a')∧∃(u' out:List Int),a'=(u',v,(v.length:Int),out,(i:Int)-1)∧i≤k∧IsL u'∧u'.length=u.length∧IsL out∧out.length=k∧(∀t,t<i→out.getD t 0=0)∧nv u=nv u'+nv out*nv v∧nv u'<nv v*4294967296^i)
   (fun(d:Nat) (st:(List Int)×(List Int)×Int×(List Int)×Int×Int×Int×Int×Int×Int)=>∃(z:List Int) (bo ca:Nat),st=(z,v,(v.length:Int),out,(i:Int),(q:Int),(bo:Int),(ca:Int),((m+3:Nat):Int),(d:Int))∧IsL z∧z.length=u.length∧bo≤1∧ca<4294967296∧(d≤m+2∨ca=0)∧nv z+X*(q*nv (v.take d))=nv u'+X*4294967296^d*(bo+ca)∧nv z<4294967296^(i+m+3)) (m+3) ?_ ?_ ?_
  ·exact⟨u',0,0,rfl,hu',hlu,by omega,by omega,.inl (by omega),by simp[nv],hB3⟩
  ·rintro d st hd ⟨z,bo,ca,rfl,hzL,hzl,hbo,hca,hor,heq,hzb⟩
   obtain⟨y,hy1,hy2,hy3⟩:=zfl hv d
   have hx:=hzL.getD (d+i)
   obtain⟨x,hx1⟩:∃x:Nat,z.getD (d+i) 0=(x:Int):=⟨_,(xir hx.1).symm⟩
   rw[hx1]at hx
   obtain⟨qy,hqy⟩:∃p,q*y=p:=⟨_,rfl⟩
   have hpl:qy≤4294967295*4294967295:=by rw[←hqy];exact xdf (by omega) (by omega)
   have hqi:(q:Int)*(y:Int)=(qy:Int):=by rw[←hqy];simp
   have s1:wu64 ((qy:Int)+(ca:Int))=((qy+ca:Nat):Int):=by rw[zbw (by omega) (by omega)];omega
   obtain⟨p,hp⟩:∃p,qy+ca=p:=⟨_,rfl⟩
   obtain⟨lo,hlo'⟩:∃lo,p%4294967296=lo:=⟨_,rfl⟩
   have s2:wu64 (4294967296+(x:Int))=4294967296+(x:Int):=zbw (by omega) (by omega)
   have s3:wu64 (4294967296+(x:Int)-(lo:Int))=4294967296+(x:Int)-lo:=zbw (by omega) (by omega)
   obtain⟨s,hs⟩:∃s,4294967296+x-lo-bo=s:=⟨_,rfl⟩
   have s4:wu64 (4294967296+(x:Int)-(lo:Int)-(bo:Int))=(s:Int):=by rw[zbw (by omega) (by omega)];omega
   have s5:wu64 (1-((s/4294967296:Nat):Int))=((1-s/4294967296:Nat):Int):=by rw[zbw (by omega) (by omega)];omega
   simp only[dlt hd,ziy hv,hy1,xaa,wadd (show d+i≤9223372036854775807 by omega),d0le,dlt (show d+i<z.length by omega),xab,xai,tn,hx1,hqi,zba (show qy<18446744073709551616 by omega),s1,hp,and_low (show p<18446744073709551616 by omega),hlo',zba (show x<18446744073709551616 by omega),s2,s3,s4,shr32,zba (show s/4294967296<18446744073709551616 by omega),s5,zba (show p/4294967296<18446744073709551616 by omega),zei,zbk (show d<9223372036854775807 by omega)]
   have e1:=zme z (d+i) (((s%4294967296:Nat):Int)) (by omega)
   rw[hx1,xaf,xaf,xgy d i,xfb,hX,xgy i d]at e1
   refine⟨_,rfl,_,_,_,rfl,hzL.set _ (by omega) (by omega),by simpa using hzl,by omega,by omega,?_,?_,zmd hzL (by omega) (by omega) (by omega) hzb⟩
   ·by_cases hdm:d+1≤m+2
    ·exact .inl hdm
    ·right
     have hy0:y=0:=by
      have:v.getD d 0=0:=by rw[xae,xdh (by omega)];rfl
      omega
     rw[hy0,xix]at hqy
     omega
   ·rw[hy3,xch]
    exact sub_step heq e1 (by rw[hqy];exact hp) (show p=lo+4294967296*(p/4294967296) by omega) (s:=s) (by omega) (h:=s/4294967296) (by omega) (by omega)
  ·rintro st ⟨z,bo,ca,rfl,hzL,hzl,hbo,hca,hor,heq,hzb⟩
   have hca0:ca=0:=by omega
   subst hca0
   rw[xbi (by omega),xdl]at heq
   have hX3:X*4294967296^(m+3)=4294967296^(i+m+3):=by rw[←hX,←xfb];rfl
   rw[hX3]at heq
   refine⟨_,by simp only[nlt (xak (m+3)),xac];rfl,?_⟩
   obtain⟨TT,hTT⟩:∃TT,4294967296^(i+m+3)=TT:=⟨_,rfl⟩
   rw[hTT]at heq hzb hX3
   rcases xda bo with hb0|hb0
   ·subst hb0
    simp only[show decide ((0:Int)<((0:Nat):Int))=false from rfl,xac,zaq,d0le,dlt (show i<out.length by omega),xai,xab,tn,zei,xeb hq1,wi1]
    have e1:=zme out i (q:Int) (by omega)
    rw[hz i (by omega),xaf,hX]at e1
    have e2:nv (out.set i (q:Int))=nv out+X*q:=by simpa using e1
    refine⟨_,rfl,_,_,rfl,by omega,hzL,hzl,hL.set _ (by omega) (by omega),by simpa using hlo,fun t ht=>by rw[getD_set_ne _ _ (by omega)];exact hz t (by omega),?_,?_⟩
    ·rw[e2,hv1,xcl,xbr];omega
    ·have:=below_next hX0 rfl hq2
     rw[hX,xby (nv v) X]
     omega
   ·have hb1:bo=1:=by omega
    subst hb1
    rw[xdu]at heq
    have hqV:nv u'<X*(q*nv v):=by omega
    have hq0':0<q:=by
     rcases xda q with h0|h0
     ·subst h0;rw[xfl,xix]at hqV;omega
     ·exact h0
    obtain⟨q',rfl⟩:∃q',q=q'+1:=⟨q-1,by omega⟩
    have hqm:wu64 (((q'+1:Nat):Int)-1)=(q':Int):=by rw[zbw (by omega) (by omega)];omega
    simp only[show decide ((0:Int)<((1:Nat):Int))=true from rfl,xab,hqm,i2]
    refine zcq (Q:=fun(r:Option (((List Int)×(List Int)×Int×(List Int)×Int)⊕((List Int)×(List Int))))=>∃a',r=some (.inl a')∧∃(u' out:List Int),a'=(u',v,(v.length:Int),out,(i:Int)-1)∧i≤k∧IsL u'∧u'.length=u.length∧IsL out∧out.length=k∧(∀t,t<i→out.getD t 0=0)∧nv u=nv u'+nv out*nv v∧nv u'<nv v*4294967296^i)
     (fun(d:Nat) (st:(List Int)×(List Int)×Int×(List Int)×Int×Int×Int×Int×Int)=>∃(z2:List Int) (c:Nat),st=(z2,v,(v.length:Int),out,(i:Int),(q':Int),(c:Int),((m+3:Nat):Int),(d:Int))∧IsL z2∧z2.length=u.length∧c≤1∧nv z2+X*4294967296^d*c=nv z+X*nv (v.take d)∧nv z2<4294967296^(i+m+3)) (m+3) ?_ ?_ ?_
    ·exact⟨z,0,rfl,hzL,hzl,by omega,by simp[nv],by rw[hTT];exact hzb⟩
    ·rintro d st hd ⟨z2,c,rfl,hzL2,hzl2,hc,heq2,hzb2⟩
     obtain⟨y,hy1,hy2,hy3⟩:=zfl hv d
     have hx:=hzL2.getD (d+i)
     obtain⟨x,hx1⟩:∃x:Nat,z2.getD (d+i) 0=(x:Int):=⟨_,(xir hx.1).symm⟩
     rw[hx1]at hx
     have s1:wu64 ((x:Int)+(y:Int))=((x+y:Nat):Int):=by rw[zbw (by omega) (by omega)];omega
     have s2:wu64 (((x+y:Nat):Int)+(c:Int))=((x+y+c:Nat):Int):=by rw[zbw (by omega) (by omega)];omega
     obtain⟨s,hs⟩:∃s,x+y+c=s:=⟨_,rfl⟩
     simp only[dlt hd,ziy hv,hy1,xaa,wadd (show d+i≤9223372036854775807 by omega),d0le,dlt (show d+i<z2.length by omega),xab,xai,tn,hx1,zba (show x<18446744073709551616 by omega),s1,s2,hs,shr32,zba (show s/4294967296<18446744073709551616 by omega),zei,zbk (show d<9223372036854775807 by omega)]
     have e1:=zme z2 (d+i) (((s%4294967296:Nat):Int)) (by omega)
     rw[hx1,xaf,xaf,xgy d i,xfb,hX,xgy i d]at e1
     refine⟨_,rfl,_,_,rfl,hzL2.set _ (by omega) (by omega),by simpa using hzl2,by omega,?_,zmd hzL2 (by omega) (by omega) (by omega) hzb2⟩
     rw[hy3,xch]
     exact add_step heq2 e1 hs (by omega)
    ·rintro st ⟨z2,c,rfl,hzL2,hzl2,hc,heq2,hzb2⟩
     rw[xbi (by omega),hX3]at heq2
     rw[hTT]at hzb2
     refine⟨_,by simp only[nlt (xak (m+3)),xac];rfl,?_⟩
     simp only[zaq,d0le,dlt (show i<out.length by omega),xai,xab,tn,zei,xeb (show q'<4294967296 by omega),wi1]
     have e1:=zme out i (q':Int) (by omega)
     rw[hz i (by omega),xaf,hX]at e1
     have e2:nv (out.set i (q':Int))=nv out+X*q':=by simpa using e1
     have hfl:X*(q'*nv v)≤nv u':=by
      refine floor_le rfl ?_
      rw[xgn]at hq3
      omega
     rw[xgn,xcz]at hqV heq
     have hc1:c=1:=by
      rcases xda c with h0|h0
      ·subst h0;rw[xix]at heq2;omega
      ·omega
     subst hc1
     rw[xdu]at heq2
     refine⟨_,rfl,_,_,rfl,by omega,hzL2,hzl2,hL.set _ (by omega) (by omega),by simpa using hlo,fun t ht=>by rw[getD_set_ne _ _ (by omega)];exact hz t (by omega),?_,?_⟩
     ·rw[e2,hv1,xcl,xbr];omega
     ·rw[hX,xby (nv v) X]
      omega
 ·rintro st ⟨u',out,rfl,hik,hu',hlu,hL,hlo,hz,hv1,hv2⟩
  rw[xka,xdu]at hv2
  refine⟨(u',out),rfl,out,u',rfl,hL,hu',hlo,hlu,?_,?_⟩
  ·rw[hv1,xby,xki _ _ hV0,xfp hv2,xdc]
  ·rw[hv1,xby,Nat.add_mul_mod_self_left,xeb hv2]
def bl_zero(f:Nat):Lib.bitLenAux f 0=0:=by cases f<;>simp[Lib.bitLenAux]
def bl_bounds:∀(f x:Nat),x<2^f→x≠0→1≤Lib.bitLenAux f x∧Lib.bitLenAux f x≤f∧x<2^Lib.bitLenAux f x
 | 0,x,h,h0=>by rw[xka]at h;omega
 |f+1,x,h,h0=>by
  have e:Lib.bitLenAux (f+1) x=1+Lib.bitLenAux f (x/2):=by simp[Lib.bitLenAux,h0]
  rw[e]
  by_cases h2:x/2=0
  ·rw[h2,bl_zero]
   exact⟨by omega,by omega,by rw[xdl,Nat.pow_one];omega⟩
  ·obtain⟨q1,q2,q3⟩:=bl_bounds f (x/2) (by rw[xch]at h;omega) h2
   refine⟨by omega,by omega,?_⟩
   rw[xgy,xch];omega
def bl_more:∀(f x:Nat),x<2^f→∀g,f≤g→Lib.bitLenAux g x=Lib.bitLenAux f x
 | 0,x,h,g,_=>by
  rw[xka]at h
  obtain rfl:x=0:=by omega
  rw[bl_zero,bl_zero]
 |f+1,x,h,g,hg=>by
  obtain⟨g',rfl⟩:∃g',g=g'+1:=⟨g-1,by omega⟩
  simp only[Lib.bitLenAux]
  by_cases h0:x=0
  ·rw[if_pos h0,if_pos h0]
  ·rw[if_neg h0,if_neg h0,bl_more f (x/2) (by rw[xch]at h;omega) g' (by omega)]
def d163_eq{x:Nat}(h0:0<x)(h1:x<4294967296):∃L:Nat,d163 (x:Int)=some (L:Int)∧1≤L∧L≤32∧x<2^L:=by
 have hx:x<2^32:=h1
 have e:Lib.bitLen x=Lib.bitLenAux 32 x:=bl_more 32 x hx 64 (by decide)
 refine⟨Lib.bitLen x,rfl,?_⟩
 rw[e]
 exact bl_bounds 32 x hx (by omega)
def zvd{v:List Int}(hv:NF v){m:Nat}(hm:v.length=m+1):∃h:Nat,v.getD m 0=(h:Int)∧0<h∧h<4294967296:=by
 have g:=hv.1.getD m
 refine⟨(v.getD m 0).toNat,by omega,?_,by omega⟩
 have:v.getD m 0≠0:=by
  intro e
  refine hv.2 ?_
  rw[List.getLast?_eq_getElem?,hm,xkq,xar (by omega)]
  rw[xae,xar (by omega)]at e
  simpa using e
 omega
set_option maxHeartbeats 1000000 in
def d134_eq{a b:List Int}(ha:IsL a)(hb:IsL b)(la:a.length≤1073741823)(lb:b.length≤1073741823)(h0:nv b≠0):d134 a b=some (zav (nv a/nv b),zav (nv a%nv b),true):=by
 unfold d134
 rw[zce (by omega),zce (by omega)]
 simp only[xab,xaa,zcr ha,zcr hb]
 have hla:=zbq ha
 have hlb:=zbq hb
 have hNA:=zng (nv a)
 have hNB:=zng (nv b)
 have hA:=zaj (nv a)
 have hB:=zaj (nv b)
 have eA:=zas (nv a)
 have eB:=zas (nv b)
 have hm:=@zfd (nv b) (nv a)
 have hBl:=zaz (nv b)
 have hAl:=zaz (nv a)
 have hBp:=@zio (nv b)
 have hxA:zav (nv a)=zav (nv a):=rfl
 have hxB:zav (nv b)=zav (nv b):=rfl
 generalize hyA:zav (nv a)=A at *
 generalize hyB:zav (nv b)=B at *
 have hB0:0<B.length:=hBp.2 (xgu h0)
 rw[show decide ((B.length:Int)=0)=false from xaj (by omega),d164_eq hA hB (by omega) (by omega),eA,eB]
 simp only[xac,xaa,cmpN_lt]
 by_cases hlt:nv a<nv b
 ·rw[xag hlt,xab,zwv (by omega),xfp hlt,xeb hlt,zes,hyA]
  rfl
 rw[xaj hlt,xac]
 have hBA:=hm (by omega)
 by_cases h1:B.length=1
 ·have q1:decide ((B.length:Int)=1)=true:=xag (by omega)
  have q2:decide ((0:Int)<(B.length:Int))=true:=xag (by omega)
  obtain⟨h,hh1,hh2,hh3⟩:=zvd hNB (m:=0) h1
  have hbv:nv b=h:=by
   rw[←eB]
   obtain⟨y,rfl⟩:=xem.1 h1
   simp only[xef]at hh1
   simp only[nv,hh1];omega
  obtain⟨q,r1,r2,r3,r4⟩:=d165_eq hA (by omega) hh2 hh3
  have hml:nv A%h<h:=xfi _ hh2
  rw[eA]at r1 r4 hml
  have q3:d95 ((nv a%h:Nat):Int)=some (zav (nv a%h)):=by rw[d95_eq (by omega) (by omega)];rfl
  simp only[q1,q2,q3,xah,xkp,xai,xab,hh1,zba (show h<18446744073709551616 by omega),r1,xaa,ziz r2 (show q.length≤4294967296 by omega),r4,hbv]
  rfl
 ·obtain⟨m,hmB⟩:∃m,B.length=m+2:=⟨B.length-2,by omega⟩
  have q1:decide (((m+2:Nat):Int)=1)=false:=xaj (by omega)
  have i1:w (((m+2:Nat):Int)-1)=((m+1:Nat):Int):=by rw[zbx (by omega) (by omega)];omega
  obtain⟨h,hh1,hh2,hh3⟩:=zvd hNB (m:=m+1) hmB
  obtain⟨L,hL0,hL1,hL2,hL3⟩:=d163_eq hh2 hh3
  have e203:d166 (h:Int)=some ((32-L:Nat):Int):=by
   unfold d166
   rw[hL0]
   simp only[xaa]
   rw[zbx (by omega) (by omega)]
   congr 1;omega
  have hn:32-L≤31:=by omega
  have hpow:2^L*2^(32-L)=4294967296:=by rw[←xfb,show L+(32-L)=32 by omega]
  obtain⟨n,hnn⟩:∃n,32-L=n:=⟨_,rfl⟩
  rw[hnn]at e203 hn hpow
  have hT0:0<2^n:=xgf (by decide)
  obtain⟨u,u1,u2,u3,u4⟩:=d167_eq hA (by omega) hn
  obtain⟨v0,v1,v2,v3,v4⟩:=d167_eq hB (by omega) hn
  rw[eA]at u4
  rw[eB]at v4
  simp only[hmB,q1,xac,i1,d0le,dlt (show m+1<m+2 by omega),xai,xab,tn,hh1,e203,xaa,u1,v1,zce (n:=v0.length) (by omega),zcr v2]
  have hbl:4294967296^(m+1)≤nv b:=by
   refine Nat.not_lt.1 fun hc=>?_
   have:=(hBl (m+1)).2 hc
   omega
  have hbu:nv b<2^L*4294967296^(m+1):=by
   have g:=zhh hB (m+1)
   rw[hh1,eB]at g
   have hlt2:=(hBl (m+2)).1 (by omega)
   have hd:nv b/4294967296^(m+1)<4294967296:=xgh (by rw[←xch];exact hlt2)
   rw[xeb hd]at g
   have:nv b/4294967296^(m+1)<2^L:=by omega
   exact(xep (zvb _)).1 this
  have hvu:nv v0<4294967296^(m+2):=by
   have e:4294967296^(m+2)=2^L*4294967296^(m+1)*2^n:=by
    rw[show m+2=(m+1)+1 by omega,xch,xhp,hpow,xby]
   rw[v4,e]
   exact xgx hbu hT0
  have hvl:4294967296^(m+1)≤nv v0:=by
   rw[v4]
   exact xbb hbl (Nat.le_mul_of_pos_right _ hT0)
  have hV:=zaj (nv v0)
  have eV:=zas (nv v0)
  have hVlen:(zav (nv v0)).length=m+2:=by
   have r1:=(zaz (nv v0) (m+2)).2 hvu
   have r2:¬(zav (nv v0)).length≤m+1:=fun hc=>by
    have:=(zaz (nv v0) (m+1)).1 hc
    omega
   omega
  obtain⟨hv,w1,w2,_⟩:=zvd (zng (nv v0)) (m:=m+1) hVlen
  obtain⟨k,hk⟩:∃k,A.length=k+(m+1):=⟨A.length-(m+1),by omega⟩
  have hal:nv a<4294967296^(k+(m+1)):=(hAl _).1 (by omega)
  have hkey:nv u<nv (zav (nv v0))*4294967296^k:=by
   rw[eV,u4,v4,xhp]
   refine xgx ?_ hT0
   rw[xfb,xby]at hal
   exact xau hal (xav _ hbl)
  obtain⟨q,r,z1,z2,z3,z4,z5,z6,z7⟩:=d168_eq u2 hV hVlen (k:=k) (by omega) (by omega) (by omega) hkey
  rw[eV,u4,v4,Nat.mul_div_mul_right _ _ hT0]at z6
  rw[eV,u4,v4,Nat.mul_mod_mul_right]at z7
  obtain⟨o,o1,o2,o3,o4⟩:=d169_eq z3 (by omega) hn
  rw[z7,Nat.mul_div_cancel _ hT0]at o4
  simp only[z1,xaa,ziz z2 (show q.length≤4294967296 by omega),z6,o1,ziz o2 (show o.length≤4294967296 by omega),o4]
def d133_eq{a b:List Int}(ha:IsL a)(hb:IsL b)(la:a.length≤1073741823)(lb:b.length≤1073741823):d133 a b=some (zav (Nat.gcd (nv a) (nv b))):=by
 unfold d133
 rw[ziz ha (by omega),ziz hb (by omega)]
 simp only[xaa]
 have hla:=zbq ha
 have hlb:=zbq hb
 refine zic (Q:=fun r=>r=some (zav (Nat.gcd (nv a) (nv b)))) (fun(M:Nat) (st:(List Int)×(List Int))=>∃x:Nat,st=(zav x,zav M)∧(zav x).length≤1073741823∧(zav M).length≤1073741823∧Nat.gcd x M=Nat.gcd (nv a) (nv b)) (nv b) ⟨nv a,rfl,by omega,by omega,rfl⟩ ?_
 rintro M st ⟨x,rfl,h1,h2,h3⟩
 rcases xda M with h0|h0
 ·subst h0
  refine .inr ⟨zav x,by simp[zes],?_⟩
  rw[Nat.gcd_zero_right]at h3
  rw[h3]
 ·have hp:=zio.2 h0
  have hd:=d134_eq (zaj x) (zaj M) h1 h2 (by rw[zas];omega)
  rw[zas,zas]at hd
  refine .inl ⟨(zav M,zav (x%M)),x%M,?_,xfi _ h0,M,rfl,h2,?_,?_⟩
  ·rw[show decide ((0:Int)<((zav M).length:Int))=true from xag (by omega),xab,hd];rfl
  ·have:=zfd (xfm (xfi x h0));omega
  ·rw[←h3,Nat.gcd_comm x M,Nat.gcd_rec M x,Nat.gcd_comm]
def d131_eq{a:List Int}(ha:IsL a)(la:a.length≤1073741824):∃k:Int,d131 a=some k∧decide (k=0)=decide (nv a=0):=by
 unfold d131
 rw[zce (by omega)]
 simp only[xab,xaa,zcr ha]
 have hla:=zbq ha
 have hNA:=zng (nv a)
 have hp:=@zio (nv a)
 generalize hyA:zav (nv a)=A at *
 rcases xda A.length with h0|h0
 ·refine⟨0,by rw[xag (show(A.length:Int)=0 by omega)];rfl,?_⟩
  rw[xag rfl,xag (show nv a=0 by omega)]
 ·obtain⟨m,hm⟩:∃m,A.length=m+1:=⟨A.length-1,by omega⟩
  obtain⟨h,hh1,hh2,hh3⟩:=zvd hNA hm
  obtain⟨L,hL0,hL1,hL2,hL3⟩:=d163_eq hh2 hh3
  have i1:w (((m+1:Nat):Int)-1)=(m:Int):=wpred (by omega)
  have i2:w (32*(m:Int))=32*(m:Int):=zbx (by omega) (by omega)
  have i3:w (32*(m:Int)+(L:Int))=32*(m:Int)+L:=zbx (by omega) (by omega)
  refine⟨32*(m:Int)+L,?_,?_⟩
  ·rw[hm,xaj (show ¬(((m+1:Nat):Int)=0) by omega)]
   simp only[xac,i1,d0le,dlt (show m<m+1 by omega),xai,xab,tn,hh1,hL0,xaa,i2,i3]
  ·rw[xaj (by omega),xaj (by omega)]
abbrev Rt:=Bool×(List Int×List Int)
def sgnN(neg:Bool)(n:Nat):Int:=if neg then -(n:Int)else n
def sgnN_abs(neg:Bool)(n:Nat):(sgnN neg n).natAbs=n:=by unfold sgnN;split<;>simp
def sgnN_zero(neg:Bool):sgnN neg 0=0:=by cases neg<;>rfl
def sgnN_not(neg:Bool)(n:Nat):sgnN (!neg) n=- sgnN neg n:=by cases neg<;>simp[sgnN]
def rv(r:Rt):Rat:=mkRat (sgnN r.1 (nv r.2.1)) (nv r.2.2)
def rr(q:Rat):Rt:=(decide (q.num<0),zav q.num.natAbs,zav q.den)
def RtOK(r:Rt):Prop:=IsL r.2.1∧IsL r.2.2
def rr_ok(q:Rat):RtOK (rr q):=⟨zaj _,zaj _⟩
def zvn(q:Rat):sgnN (decide (q.num<0)) q.num.natAbs=q.num:=by
 unfold sgnN
 by_cases h:q.num<0
 ·simp only[h,xah,if_true];omega
 ·simp only[h,xal];simp;omega
def rv_rr(q:Rat):rv (rr q)=q:=by
 unfold rv rr
 simp only[zas,zvn,xhe]
def rr_zero:rr 0=(false,[],[1]):=by
 unfold rr
 simp only[Rat.zero_num,Rat.zero_den]
 rw[zml (n:=1) (by omega)]
 simp[zes]
def rr_make(neg:Bool){a b:Nat}(ha:a≠0)(hb:b≠0):rr (mkRat (sgnN neg a) b)=(neg,zav (a/Nat.gcd a b),zav (b/Nat.gcd a b)):=by
 unfold rr
 rw[Rat.num_mkRat,Rat.den_mkRat,if_neg hb,if_neg hb,sgnN_abs,Nat.gcd_comm b a]
 obtain⟨g,hg⟩:∃g,Nat.gcd a b=g:=⟨_,rfl⟩
 have hd:g∣a:=by rw[←hg];exact Nat.gcd_dvd_left a b
 have hgp:0<g:=by rw[←hg];exact Nat.gcd_pos_of_pos_left b (xgu ha)
 rw[hg]
 obtain⟨c,rfl⟩:=hd
 have hc:0<c:=xgu fun e=>ha (by rw[e,xix])
 rw[Nat.mul_div_cancel_left c hgp]
 have h1:sgnN neg (g*c)/(g:Int)=sgnN neg c:=by
  unfold sgnN
  cases neg
  ·simp only[xaw,xbf,xgm]
   exact Int.mul_ediv_cancel_left _ (by omega)
  ·simp only[if_true,xgm]
   rw[←Int.mul_neg]
   exact Int.mul_ediv_cancel_left _ (by omega)
 rw[h1,sgnN_abs]
 have h2:decide (sgnN neg c<0)=neg:=by
  unfold sgnN
  cases neg
  ·simp
  ·simp;omega
 rw[h2]
def znu(q:Rat):(rr q).2.1=[]↔q=0:=by
 unfold rr
 rw[limbs_nil,Int.natAbs_eq_zero,Rat.num_eq_zero]
def rr_neg(q:Rat):(rr q).1=decide (q<0):=by
 unfold rr
 have:q.num<0↔q<0:=by
  have h:=Rat.num_nonneg (q:=q)
  rw[←Rat.not_le,←h];omega
 simp only[this]
def sgnN_mul(x y:Bool)(a b:Nat):sgnN (!(x == y)) (a*b)=sgnN x a*sgnN y b:=by
 unfold sgnN
 cases x<;>cases y<;>simp[xgm,Int.neg_mul,Int.mul_neg]
def Sz(k:Nat)(r:Rt):Prop:=r.2.1.length≤k∧r.2.2.length≤k
def d132_eq:d132=some (rr 0):=by
 unfold d132
 rw[d95_eq (by omega) (by omega),rr_zero,show(1:Int).toNat=1 from rfl,zml (n:=1) (by omega)]
 simp[zes]
def zuo(neg:Bool){a b:List Int}(ha:IsL a)(hb:IsL b)(la:a.length≤1073741823)(lb:b.length≤1073741823):d93 neg a b=some (rr (mkRat (sgnN neg (nv a)) (nv b))):=by
 unfold d93
 obtain⟨k,k1,k2⟩:=d131_eq ha (by omega)
 obtain⟨l,l1,l2⟩:=d131_eq hb (by omega)
 rw[zaq,k1,l1]
 simp only[xaa,k2,l2]
 by_cases ha0:nv a=0
 ·rw[ha0,xag rfl]
  simp only[xaq,xac,xab,d132_eq,sgnN_zero,Rat.zero_mkRat,xaa]
 ·rw[xaj ha0]
  by_cases hb0:nv b=0
  ·rw[hb0,xag rfl,Rat.mkRat_zero]
   simp only[xao,xab,d132_eq,xaa]
  ·rw[xaj hb0,rr_make neg ha0 hb0]
   have hg:Nat.gcd (nv a) (nv b)≠0:=fun e=>ha0 (Nat.eq_zero_of_gcd_eq_zero_left e)
   have hgl:(zav (Nat.gcd (nv a) (nv b))).length≤1073741823:=by
    have:=zfd (Nat.le_of_dvd (xgu ha0) (Nat.gcd_dvd_left (nv a) (nv b)))
    have:=zbq ha
    omega
   have e1:=d134_eq ha (zaj (Nat.gcd (nv a) (nv b))) la hgl (by rw[zas];exact hg)
   have e2:=d134_eq hb (zaj (Nat.gcd (nv a) (nv b))) lb hgl (by rw[zas];exact hg)
   rw[zas]at e1 e2
   simp only[xao,xab,xac,d133_eq ha hb la lb,e1,e2,xaa]
def rr_len(neg:Bool)(a b:Nat):(rr (mkRat (sgnN neg a) b)).2.1.length≤(zav a).length∧(rr (mkRat (sgnN neg a) b)).2.2.length≤max 1 (zav b).length:=by
 by_cases ha:a=0
 ·subst ha
  rw[sgnN_zero,Rat.zero_mkRat,rr_zero]
  exact⟨xbz _,xkc _ _⟩
 ·by_cases hb:b=0
  ·subst hb
   rw[Rat.mkRat_zero,rr_zero]
   exact⟨xbz _,xkc _ _⟩
  ·rw[rr_make neg ha hb]
   exact⟨zfd (xfc _ _),xbb (zfd (xfc _ _)) (Nat.le_max_right _ _)⟩
def rr_sz{r:Rt}(h:RtOK r){k:Nat}(hk:Sz k r)(h1:1≤k):Sz k (rr (rv r)):=by
 obtain⟨q1,q2⟩:=rr_len r.1 (nv r.2.1) (nv r.2.2)
 have:=zbq h.1
 have:=zbq h.2
 have:=hk.1
 have:=hk.2
 exact⟨by show(rr (mkRat _ _)).2.1.length≤_;omega,by show(rr (mkRat _ _)).2.2.length≤_;omega⟩
def zkf{r:Rt}(h:RtOK r)(hk:Sz 1073741823 r):d138 r=some (rr (rv r)):=by
 unfold d138
 rw[zuo r.1 h.1 h.2 hk.1 hk.2];rfl
def zda(a b:Nat):(zav (a*b)).length≤(zav a).length+(zav b).length:=by
 rw[zaz,xfb]
 exact Nat.mul_lt_mul'' ((zaz a _).1 (xak _)) ((zaz b _).1 (xak _))
def zwd(a b:Nat):(zav (a+b)).length≤max (zav a).length (zav b).length+1:=by
 rw[zaz,xch]
 have h1:=(zaz a (max (zav a).length (zav b).length)).1 (xkc _ _)
 have h2:=(zaz b (max (zav a).length (zav b).length)).1 (Nat.le_max_right _ _)
 omega
def sum_eq(s t:Bool){a b:Nat}(la:(zav a).length≤1073741823)(lb:(zav b).length≤1073741823):∃(u:Bool) (c:Nat),d139 s (zav a) t (zav b)=some (u,zav c)∧sgnN u c=sgnN s a+sgnN t b∧c≤a+b:=by
 unfold d139
 have hA:=zaj a
 have hB:=zaj b
 by_cases h:s=t
 ·subst h
  rw[d170_eq hA hB (by omega) (by omega),zas,zas]
  refine⟨s,a+b,by simp,?_,xak _⟩
  unfold sgnN;split<;>omega
 ·rw[beq_eq_false_iff_ne.2 h,d171_eq hA hB (by omega) (by omega),d171_eq hB hA (by omega) (by omega),zas,zas]
  simp only[xac,xaa]
  by_cases hlt:a<b
  ·rw[if_pos hlt,if_neg (by omega)]
   refine⟨t,b-a,rfl,?_,by omega⟩
   unfold sgnN
   cases s<;>cases t<;>simp at h⊢ <;>omega
  ·rw[if_neg hlt]
   refine⟨s,a-b,rfl,?_,by omega⟩
   unfold sgnN
   cases s<;>cases t<;>simp at h⊢ <;>omega
def add_mk{x y:Rat}:mkRat (x.num*y.den+y.num*x.den) (x.den*y.den)=x+y:=by
 have:=Rat.mkRat_add_mkRat x.num y.num x.den_nz y.den_nz
 rw[xhe,xhe]at this
 exact this.symm
def zrc(x:Rat)(d:Nat):sgnN (decide (x.num<0)) (x.num.natAbs*d)=x.num*d:=by
 have h:=zvn x
 unfold sgnN at h ⊢
 split
 ·rename_i h1
  rw[if_pos h1]at h
  rw[←h]
  simp[Int.neg_mul]
 ·rename_i h1
  rw[if_neg h1]at h
  rw[←h]
  simp
def d104_rr{x y:Rat}(hx:Sz 268435456 (rr x))(hy:Sz 268435456 (rr y)):d104 (rr x) (rr y)=some (rr (x+y)):=by
 unfold d104
 rw[zkf (rr_ok x) ⟨by have:=hx.1;omega,by have:=hx.2;omega⟩,zkf (rr_ok y) ⟨by have:=hy.1;omega,by have:=hy.2;omega⟩,rv_rr,rv_rr]
 simp only[xaa]
 obtain⟨a1,a2⟩:=hx
 obtain⟨b1,b2⟩:=hy
 simp only[rr]at a1 a2 b1 b2 ⊢
 rw[zlp (zaj _) (zaj _) (by omega) (by omega),zlp (zaj _) (zaj _) (by omega) (by omega),zlp (zaj _) (zaj _) (by omega) (by omega)]
 simp only[xaa,zas]
 have m1:=zda x.num.natAbs y.den
 have m2:=zda y.num.natAbs x.den
 have m3:=zda x.den y.den
 obtain⟨u,c,e1,e2,e3⟩:=sum_eq (decide (x.num<0)) (decide (y.num<0)) (a:=x.num.natAbs*y.den) (b:=y.num.natAbs*x.den) (by omega) (by omega)
 have m4:=zwd (x.num.natAbs*y.den) (y.num.natAbs*x.den)
 have m5:=zfd e3
 rw[e1]
 simp only[xaa]
 rw[zuo u (zaj c) (zaj _) (by omega) (by omega),zas,zas,e2,zrc,zrc,add_mk]
 rfl
def rv_not(r:Rt):rv (!r.1,r.2)=- rv r:=by
 unfold rv
 rw[sgnN_not,Rat.neg_mkRat]
def d104_gen{a b:Rt}(ha:RtOK a)(hb:RtOK b)(ka:Sz 268435456 a)(kb:Sz 268435456 b):d104 a b=some (rr (rv a+rv b)):=by
 have ha':=rr_sz ha ka (by omega)
 have hb':=rr_sz hb kb (by omega)
 rw[←d104_rr ha' hb']
 unfold d104
 rw[zkf ha ⟨by have:=ka.1;omega,by have:=ka.2;omega⟩,zkf hb ⟨by have:=kb.1;omega,by have:=kb.2;omega⟩,zkf (rr_ok _) ⟨by have:=ha'.1;omega,by have:=ha'.2;omega⟩,zkf (rr_ok _) ⟨by have:=hb'.1;omega,by have:=hb'.2;omega⟩,rv_rr,rv_rr]
def d98_rr{x y:Rat}(hx:Sz 268435456 (rr x))(hy:Sz 268435456 (rr y)):d98 (rr x) (rr y)=some (rr (x-y)):=by
 unfold d98
 rw[d104_gen (rr_ok x) (b:=(!(rr y).1,(rr y).2)) (rr_ok y) hx hy,rv_not,rv_rr,rv_rr,Rat.sub_eq_add_neg]
 rfl
def cmpQ(x y:Rat):Int:=if x<y then -1 else if x=y then 0 else 1
def zou{x y:Rat}:x-y=0↔x=y:=by
 constructor
 ·intro h;grind
 ·intro h;grind
def zqw{x y:Rat}:x-y<0↔x<y:=by
 constructor
 ·intro h;grind
 ·intro h;grind
def d103_rr{x y:Rat}(hx:Sz 268435456 (rr x))(hy:Sz 268435456 (rr y)):d103 (rr x) (rr y)=some (cmpQ x y):=by
 unfold d103
 rw[d98_rr hx hy]
 simp only[xaa]
 rw[rr_neg]
 unfold cmpQ
 by_cases h:x<y
 ·rw[xag (zqw.2 h),if_pos h];rfl
 ·rw[xaj (fun hc=>h (zqw.1 hc)),if_neg h]
  by_cases h2:x=y
  ·rw[if_pos h2,(znu (x-y)).2 (zou.2 h2)];rfl
  ·have:(rr (x-y)).2.1≠ []:=fun hc=>h2 (zou.1 ((znu _).1 hc))
   have:=xcr.2 this
   rw[if_neg h2,xaj (by omega)];rfl
def mul_mk{x y:Rat}:mkRat (x.num*y.num) (x.den*y.den)=x*y:=by
 have:=Rat.mkRat_mul_mkRat x.num y.num x.den y.den
 rw[xhe,xhe]at this
 exact this.symm
def sgn_prod(x y:Rat):sgnN (!(decide (x.num<0) == decide (y.num<0))) (x.num.natAbs*y.num.natAbs)=x.num*y.num:=by
 rw[sgnN_mul,zvn,zvn]
def d136_rr{x y:Rat}(hx:Sz 268435456 (rr x))(hy:Sz 268435456 (rr y)):d136 (rr x) (rr y)=some (rr (x*y)):=by
 unfold d136
 obtain⟨a1,a2⟩:=hx
 obtain⟨b1,b2⟩:=hy
 simp only[rr]at a1 a2 b1 b2 ⊢
 rw[zlp (zaj _) (zaj _) (by omega) (by omega),zlp (zaj _) (zaj _) (by omega) (by omega)]
 simp only[xaa,zas]
 have m1:=zda x.num.natAbs y.num.natAbs
 have m3:=zda x.den y.den
 rw[zuo _ (zaj _) (zaj _) (by omega) (by omega),zas,zas,sgn_prod,mul_mk]
 rfl
def num_pos'{y:Rat}(h:0<y):0<y.num:=by
 have h1:=(Rat.num_nonneg (q:=y)).2 (Rat.le_of_lt h)
 have h2:y.num≠0:=fun e=>by
  rw[Rat.num_eq_zero]at e
  rw[e]at h
  exact absurd h (by decide)
 omega
def div_mk{x y:Rat}(hy:0<y):mkRat (x.num*y.den) (x.den*y.num.natAbs)=x/y:=by
 have hn:0<y.num:=num_pos' hy
 have e1:mkRat (x.num*y.den) (x.den*y.num.natAbs)*y=x:=by
  conv=>lhs;rhs;rw[←xhe y]
  rw[Rat.mkRat_mul_mkRat]
  conv=>rhs;rw[←xhe x]
  have h0:x.den*y.num.natAbs*y.den≠0:=xhq (xhq x.den_nz (by omega)) y.den_nz
  rw[Rat.mkRat_eq_iff h0 x.den_nz]
  have:((y.num.natAbs:Nat):Int)=y.num:=by omega
  simp only[xgm,this]
  grind
 have hy0:y≠0:=by intro h;rw[h]at hy;exact absurd hy (by decide)
 generalize mkRat (x.num*y.den) (x.den*y.num.natAbs)=z at e1 ⊢
 rw[←e1,Rat.mul_div_cancel hy0]
def d142_rr{x y:Rat}(hx:Sz 268435456 (rr x))(hy:Sz 268435456 (rr y))(hp:0<y):d142 (rr x) (rr y)=some (rr (x/y),true):=by
 unfold d142
 rw[zkf (rr_ok x) ⟨by have:=hx.1;omega,by have:=hx.2;omega⟩,zkf (rr_ok y) ⟨by have:=hy.1;omega,by have:=hy.2;omega⟩,rv_rr,rv_rr]
 simp only[xaa]
 have hy0:y≠0:=by intro h;rw[h]at hp;exact absurd hp (by decide)
 have hnn:(rr y).2.1≠ []:=fun hc=>hy0 ((znu _).1 hc)
 have:=xcr.2 hnn
 rw[xaj (by omega)]
 obtain⟨a1,a2⟩:=hx
 obtain⟨b1,b2⟩:=hy
 have hn:0<y.num:=num_pos' hp
 simp only[rr,xac]at a1 a2 b1 b2 ⊢
 rw[zlp (zaj _) (zaj _) (by omega) (by omega),zlp (zaj _) (zaj _) (by omega) (by omega)]
 simp only[xaa,zas]
 have m1:=zda x.num.natAbs y.den
 have m3:=zda x.den y.num.natAbs
 rw[zuo _ (zaj _) (zaj _) (by omega) (by omega),zas,zas]
 have hs:(!(decide (x.num<0) == decide (y.num<0)))=decide (x.num<0):=by
  rw[xaj (show ¬y.num<0 by omega)]
  cases decide (x.num<0)<;>rfl
 rw[hs,zrc,div_mk hp]
 rfl
def d94_eq{n:Int}(h0:-9223372036854775807≤n)(h1:n≤9223372036854775807):d94 n=some (zav n.natAbs):=by
 unfold d94
 by_cases h:n<0
 ·have e:wu64 (0-wu64 n)=-n:=by
   rw[wu64_mod,wu64_mod];omega
  rw[xag h,xab,e,d95_eq (by omega) (by omega),show(-n).toNat=n.natAbs by omega];rfl
 ·rw[xaj h,xac,zbw (by omega) (by omega),d95_eq (by omega) (by omega),show n.toNat=n.natAbs by omega];rfl
def mk_int(n:Int):mkRat (sgnN (decide (n<0)) n.natAbs) 1=(n:Rat):=by
 have:sgnN (decide (n<0)) n.natAbs=n:=by
  unfold sgnN
  by_cases h:n<0
  ·simp only[h,xah,if_true];omega
  ·simp only[h,xal];simp;omega
 rw[this,Rat.mkRat_one]
def zin{n:Nat}(h:n<18446744073709551616):(zav n).length≤2:=(zaz n 2).2 h
def zur{n:Int}(h0:-9223372036854775807≤n)(h1:n≤9223372036854775807):d49 n=some (rr (n:Rat)):=by
 unfold d49
 have:=zin (n:=n.natAbs) (by omega)
 have:=zin (n:=1) (by omega)
 rw[d94_eq h0 h1,d95_eq (by omega) (by omega)]
 simp only[xaa,show(1:Int).toNat=1 from rfl]
 rw[zuo _ (zaj _) (zaj _) (by omega) (by omega),zas,zas,mk_int]
 rfl
def B_pow(i:Nat):4294967296^i=2^(32*i):=by rw[Nat.pow_mul]
def Bz(k:Nat)(q:Rat):Prop:=q.num.natAbs<2^k∧q.den<2^k
def Bz.sz{k:Nat}{q:Rat}(h:Bz (32*k) q):Sz k (rr q):=by
 refine⟨(zaz _ _).2 ?_,(zaz _ _).2 ?_⟩
 ·rw[B_pow];exact h.1
 ·rw[B_pow];exact h.2
def lst{α:Type}(f:Nat→α)(n:Nat):List α:=(List.range n).map f
def zaf{α:Type}(f:Nat→α)(n:Nat):(lst f n).length=n:=by simp[lst]
def zam{α:Type}(f:Nat→α){n i:Nat}(h:i<n)(d:α):(lst f n).getD i d=f i:=by
 simp[lst,xae,xcv,List.getElem?_range h]
def lst_get? {α:Type}(f:Nat→α){n i:Nat}(h:i<n):(lst f n)[i]?=some (f i):=by
 simp[lst,xcv,List.getElem?_range h]
def zhc{α:Type}(f:Nat→α)(n:Nat):lst f (n+1)=lst f n++[f n]:=by simp[lst,xfx]
def zay{α:Type}{f g:Nat→α}{n:Nat}(h:∀i,i<n→f i=g i):lst f n=lst g n:=by
 unfold lst
 exact xfz fun i hi=>h i (xbu.1 hi)
def upd{α:Type}(f:Nat→α)(i:Nat)(x:α):Nat→α:=fun j=>if j=i then x else f j
def zbu{α:Type}(f:Nat→α)(i:Nat)(x:α):upd f i x i=x:=if_pos rfl
def zep{α:Type}(f:Nat→α){i j:Nat}(x:α)(h:j≠i):upd f i x j=f j:=if_neg h
def zen{α:Type}(f:Nat→α)(n i:Nat)(x:α):(lst f n).set i x=lst (upd f i x) n:=by
 refine xjl fun j=>?_
 by_cases hj:j<n
 ·rw[lst_get? _ hj]
  by_cases h:i=j
  ·subst h
   rw[xjx (by rw[zaf];exact hj),zbu]
  ·rw[xkl h,lst_get? _ hj,zep _ _ (fun e=>h e.symm)]
 ·rw[xdh (by rw[xcd,zaf];omega),xdh (by rw[zaf];omega)]
def zrz{α β:Type}(f:Nat→α)(g:α→β)(n:Nat):(lst f n).map g=lst (fun i=>g (f i)) n:=by simp[lst]
def zry{α:Type}(x:α)(n:Nat):List.replicate n x=lst (fun _=>x) n:=by
 induction n with
 |zero=>rfl
 |succ n ih=>rw[zhc,List.replicate_succ',ih]
def mem_lst{α:Type}{f:Nat→α}{n:Nat}{x:α}:x∈lst f n↔∃i,i<n∧f i=x:=by simp[lst]
def sumN(f:Nat→Nat):Nat→Nat
 | 0=>0
 |n+1=>sumN f n+f n
def zak{f g:Nat→Nat}:∀{n:Nat},(∀i,i<n→f i=g i)→sumN f n=sumN g n
 | 0,_=>rfl
 |n+1,h=>by rw[sumN,sumN,zak fun i hi=>h i (by omega),h n (by omega)]
def zdp{f g:Nat→Nat}:∀{n:Nat},(∀i,i<n→f i≤g i)→sumN f n≤sumN g n
 | 0,_=>xak _
 |n+1,h=>Nat.add_le_add (zdp fun i hi=>h i (by omega)) (h n (by omega))
def zbz(f g:Nat→Nat):∀n:Nat,sumN (fun i=>f i+g i) n=sumN f n+sumN g n
 | 0=>rfl
 |n+1=>by rw[sumN,sumN,sumN,zbz f g n];omega
def zfh(f:Nat→Nat)(c:Nat):∀n:Nat,sumN (fun i=>f i*c) n=sumN f n*c
 | 0=>by rw[sumN,sumN,xfl]
 |n+1=>by rw[sumN,sumN,zfh f c n,xcl]
def zcs:∀n:Nat,sumN (fun _=>0) n=0
 | 0=>rfl
 |n+1=>by rw[sumN,zcs n]
def zma(f:Nat→Nat→Nat)(n:Nat):∀m:Nat,sumN (fun i=>sumN (f i) n) m=sumN (fun j=>sumN (fun i=>f i j) m) n
 | 0=>by simp only[sumN,zcs]
 |m+1=>by
  simp only[sumN]
  rw[zma f n m,←zbz]
def sumN_pos{f:Nat→Nat}:∀{n:Nat},0<sumN f n→∃i,i<n∧0<f i
 | 0,h=>absurd h (by simp[sumN])
 |n+1,h=>by
  rw[sumN]at h
  by_cases h0:0<f n
  ·exact⟨n,by omega,h0⟩
  ·obtain⟨i,h1,h2⟩:=sumN_pos (show 0<sumN f n by omega)
   exact⟨i,by omega,h2⟩
def zvh(c v:Nat):∀n:Nat,sumN (fun i=>if i=c then v else 0) n=if c<n then v else 0
 | 0=>rfl
 |n+1=>by
  rw[sumN,zvh c v n]
  by_cases h:c<n
  ·rw[if_pos h,if_neg (show n≠c by omega),if_pos (show c<n+1 by omega)];rfl
  ·rw[if_neg h]
   by_cases h2:n=c
   ·rw[if_pos h2,if_pos (by omega)];omega
   ·rw[if_neg h2,if_neg (by omega)]
def zgo{f:Nat→Nat}{n i:Nat}(h:i<n):f i≤sumN f n:=by
 induction n with
 |zero=>omega
 |succ n ih=>
  rw[sumN]
  by_cases h2:i=n
  ·subst h2;omega
  ·have:=ih (by omega);omega
def sumN_upd{f g:Nat→Nat}{n c:Nat}(hc:c<n)(h:∀i,i<n→i≠c→f i=g i):sumN f n+g c=sumN g n+f c:=by
 induction n with
 |zero=>omega
 |succ n ih=>
  rw[sumN,sumN]
  by_cases h2:c=n
  ·subst h2
   rw[zak fun i hi=>h i (by omega) (by omega)];omega
  ·have:=ih (by omega) fun i hi hn=>h i (by omega) hn
   have:=h n (by omega) (by omega)
   omega
def selN(p:Nat→Bool)(n:Nat):List Nat:=(List.range n).filter p
def selI(p:Nat→Bool)(n:Nat):List Int:=(selN p n).map Int.ofNat
def cntN(p:Nat→Bool)(n:Nat):Nat:=sumN (fun i=>if p i then 1 else 0) n
def zrh(p:Nat→Bool)(n:Nat):selN p (n+1)=selN p n++(if p n then [n]else []):=by
 unfold selN
 rw[xfx,xfe]
 congr 1
 cases h:p n<;>simp[xey,h]
def zev(p:Nat→Bool)(n:Nat):selI p (n+1)=selI p n++(if p n then [(n:Int)]else []):=by
 unfold selI
 rw[zrh,xdd]
 congr 1
 cases h:p n<;>rfl
def zca(p:Nat→Bool):∀n:Nat,(selN p n).length=cntN p n
 | 0=>rfl
 |n+1=>by
  rw[zrh,xbk,zca p n]
  show _=cntN p n+(if p n then 1 else 0)
  cases h:p n<;>rfl
def zat(p:Nat→Bool)(n:Nat):(selI p n).length=cntN p n:=by rw[selI,xbw,zca]
def zbn{p:Nat→Bool}{n i:Nat}:i∈selN p n↔i<n∧p i=true:=by
 unfold selN;rw[xfy,xbu]
def zal{p:Nat→Bool}{n:Nat}{x:Int}:x∈selI p n↔∃i:Nat,x=(i:Int)∧i<n∧p i=true:=by
 unfold selI
 rw[xdg]
 constructor
 ·rintro⟨i,h,rfl⟩;exact⟨i,rfl,zbn.1 h⟩
 ·rintro⟨i,rfl,h⟩;exact⟨i,zbn.2 h,rfl⟩
def selN_congr{p q:Nat→Bool}{n:Nat}(h:∀i,i<n→p i=q i):selN p n=selN q n:=by
 unfold selN
 exact xfa fun i hi=>h i (xbu.1 hi)
def zho{p q:Nat→Bool}{n:Nat}(h:∀i,i<n→p i=q i):selI p n=selI q n:=by
 unfold selI;rw[selN_congr h]
def zhz{p q:Nat→Bool}{n:Nat}(h:∀i,i<n→p i=q i):cntN p n=cntN q n:=zak fun i hi=>by rw[h i hi]
def zbd(p:Nat→Bool)(n:Nat):cntN p n≤n:=by
 rw[←zca]
 unfold selN
 exact xbb (xfn _ _) (by simp)
def zqf{p:Nat→Bool}{n:Nat}:0<cntN p n↔∃i,i<n∧p i=true:=by
 constructor
 ·intro h
  obtain⟨i,h1,h2⟩:=sumN_pos h
  refine⟨i,h1,?_⟩
  cases hp:p i
  ·rw[hp]at h2;simp at h2
  ·rfl
 ·rintro⟨i,h1,h2⟩
  have:=zgo (f:=fun i=>if p i then 1 else 0) h1
  simp only[h2]at this
  exact this
def selN_filter(p q:Nat→Bool)(n:Nat):(selN p n).filter q=selN (fun i=>p i&&q i) n:=by
 unfold selN
 rw[xiz]
 exact xfa fun i _=>by rw[Bool.and_comm]
def extr(least:Bool)(r:Int→Rat)(l:List Int):List Int:=l.filter fun i=>l.all fun k=>if least then decide (r i≤r k)else decide (r k≤r i)
def zco(round:List Rat)(c:Int):Rat:=round.getD c.toNat 0
def zdb(lots:List Int)(c:Int):Nat:=lots.idxOf c
def byLot(lots:List Int)(least:Bool)(l:List Int):Int:=l.tail.foldl (fun m c=>if least then(if zdb lots m<zdb lots c then c else m)else(if zdb lots c<zdb lots m then c else m)) (l.headD 0)
def zbc(ties:Int)(earlier:List (List Rat)):List (List Rat):=if ties=3 then []else if ties=1 then earlier.reverse else earlier
def tieL(least:Bool)(rounds:List (List Rat))(tied:List Int):List Int:=rounds.foldl (fun l r=>if 1<l.length then extr least (zco r) l else l) tied
def tieB(ties:Int)(earlier:List (List Rat))(tied lots:List Int)(least:Bool):Int:=
 let l:=tieL least (zbc ties earlier) tied
 if l.length=1 then l.headD 0 else byLot lots least l
abbrev Gp:=List Int×Int
structure GP where
 gs:List Gp
 n:Nat
 seats:Nat
 q:Nat
 tot:Nat
 ties:Int
 lots:List Int
def GP.p(P:GP)(g:Nat):List Int:=(P.gs.getD g ([],0)).1
def GP.k(P:GP)(g:Nat):Nat:=(P.gs.getD g ([],0)).2.toNat
def GP.G(P:GP):Nat:=P.gs.length
structure GS where
 D:Nat
 num:Nat→Nat
 at_:Nat→Nat
 st:Nat→Nat
 keep:Nat→Rat
def GS.on(P:GP)(s:GS)(g c:Nat):Bool:=decide (s.at_ g<(P.p g).length)&&decide ((P.p g).getD (s.at_ g) 0=(c:Int))
def GS.lie(P:GP)(s:GS)(c:Nat):Nat:=sumN (fun g=>if s.on P g c then P.k g*s.num g else 0) P.G
def GS.bar(P:GP)(s:GS):Nat:=P.q*s.D
def GS.vt(P:GP)(s:GS)(c:Nat):Nat:=if s.st c=2 then s.bar P else if s.st c=3 then 0 else s.lie P c
def GS.el1(P:GP)(s:GS)(i:Nat):Bool:=decide (s.st i=0)&&decide (s.bar P≤s.vt P i)
def GS.st1(P:GP)(s:GS)(i:Nat):Nat:=if s.el1 P i then 1 else s.st i
def frac(a b:Nat):Rat:=(a:Rat)/(b:Rat)
structure Rd where
 votes:List Rat
 keep:List Rat
 quota:Rat
 exh:Rat
 sur:Rat
 el:List Int
 ex:List Int
 ti:List Int
def nxt(p:List Int)(st:Nat→Nat)(k:Nat):Nat:=k+((p.drop k).takeWhile fun c=>decide (st c.toNat≠0)).length
def GS.move(P:GP)(s:GS)(st:Nat→Nat)(keep:Nat→Rat)(x a b:Nat):GS:=
 {D:=s.D*b,num:=fun g=>if s.on P g x then s.num g*a else s.num g*b,at_:=fun g=>if s.on P g x then nxt (P.p g) st (s.at_ g+1)else s.at_ g,st:=st,keep:=keep}
def zpm(P:GP)(v:Nat→Nat)(st:Nat→Nat)(c:Nat)(most:Bool)(i:Nat):Bool:=decide (st i=c)&&(List.range P.n).all fun k=>!decide (st k=c)||(if most then decide (v k≤v i)else decide (v i≤v k))
def GS.fin(P:GP)(s:GS):Bool:=decide (cntN (fun i=>decide (s.st1 P i=1)) P.n+cntN (fun i=>decide (s.st1 P i=2)) P.n=P.seats)||decide (cntN (fun i=>decide (s.st1 P i=1)) P.n+cntN (fun i=>decide (s.st1 P i=2)) P.n+cntN (fun i=>decide (s.st1 P i=0)) P.n≤P.seats)
def GS.most(P:GP)(s:GS):Bool:=decide (0<cntN (fun i=>decide (s.st1 P i=1)) P.n)
def GS.tied(P:GP)(s:GS):List Int:=selI (zpm P (s.vt P) (s.st1 P) (if s.most P then 1 else 0) (s.most P)) P.n
def GS.pick(P:GP)(earlier:List (List Rat))(s:GS):Int:=if(s.tied P).length=1 then(s.tied P).headD 0 else tieB P.ties earlier (s.tied P) P.lots (!s.most P)
def GS.rd0(P:GP)(s:GS):Rd:=
 {votes:=lst (fun i=>frac (s.vt P i) s.D) P.n
  keep:=lst s.keep P.n
  quota:=(P.q:Rat)
  exh:=frac (P.tot*s.D-sumN (s.vt P) P.n) s.D
  sur:=frac (sumN (fun i=>if s.st1 P i=1 then s.vt P i-s.bar P else 0) P.n) s.D
  el:=selI (s.el1 P) P.n
  ex:=[]
  ti:=[]}
def GS.done(P:GP)(s:GS):Rd:={s.rd0 P with el:=if cntN (fun i=>decide (s.st1 P i=1)) P.n+cntN (fun i=>decide (s.st1 P i=2)) P.n<P.seats then selI (fun i=>s.el1 P i||decide (s.st1 P i=0)) P.n else selI (s.el1 P) P.n}
def GS.tiedR(P:GP)(s:GS):List Int:=if(s.tied P).length=1 then []else s.tied P
def GS.trans(P:GP)(earlier:List (List Rat))(s:GS):GS:=
 let x:=(s.pick P earlier).toNat
 s.move P (upd (s.st1 P) x 2) (upd s.keep x (frac (s.vt P x-s.bar P) (s.vt P x))) x (s.vt P x-s.bar P) (s.vt P x)
def GS.excl(P:GP)(earlier:List (List Rat))(s:GS):GS:=
 let x:=(s.pick P earlier).toNat
 s.move P (upd (s.st1 P) x 3) (upd s.keep x 0) x 1 1
def gstep(P:GP)(earlier:List (List Rat))(s:GS):Rd×Option GS:=
 if s.fin P then(s.done P,none)
 else if s.most P then({s.rd0 P with ti:=s.tiedR P},some (s.trans P earlier))
 else({s.rd0 P with ti:=s.tiedR P,ex:=[s.pick P earlier]},some (s.excl P earlier))
def grun(P:GP):Nat→List Rd→GS→List Rd
 | 0,rs,_=>rs
 |k+1,rs,s=>match gstep P (rs.map Rd.votes) s with
  |(r,none)=>rs++[r]
  |(r,some s')=>grun P k (rs++[r]) s'
def g0:GS:={D:=1,num:=fun _=>1,at_:=fun _=>0,st:=fun _=>0,keep:=fun _=>1}
def zji(P:GP):List Rd:=grun P (P.n+1) [] g0
section
def zhe{α:Type}(f:α→Rat):∀{l:List α},l≠ []→∃i∈l,∀k∈l,f i≤f k
 | [],h=>absurd rfl h
 | [x],_=>⟨x,by simp,fun k hk=>by simp at hk;subst hk;exact xhy⟩
 |x::y::l,_=>by
  obtain⟨i,h1,h2⟩:=zhe f (l:=y::l) (by simp)
  rcases Rat.le_total (a:=f x) (b:=f i)with h|h
  ·refine⟨x,by simp,fun k hk=>?_⟩
   rcases xbd.1 hk with rfl|hk
   ·exact xhy
   ·exact Rat.le_trans h (h2 k hk)
  ·refine⟨i,xap _ h1,fun k hk=>?_⟩
   rcases xbd.1 hk with rfl|hk
   ·exact h
   ·exact h2 k hk
def zmv{α:Type}(f:α→Nat){l:List α}(h:l≠ []):∃i∈l,∀k∈l,f i≤f k:=by
 induction l with
 |nil=>exact absurd rfl h
 |cons x l ih=>
  by_cases hl:l=[]
  ·subst hl;exact⟨x,by simp,fun k hk=>by simp at hk;subst hk;exact xak _⟩
  ·obtain⟨i,h1,h2⟩:=ih hl
   by_cases hx:f x≤f i
   ·refine⟨x,by simp,fun k hk=>?_⟩
    rcases xbd.1 hk with rfl|hk
    ·exact xak _
    ·exact xbb hx (h2 k hk)
   ·refine⟨i,xap _ h1,fun k hk=>?_⟩
    rcases xbd.1 hk with rfl|hk
    ·omega
    ·exact h2 k hk
def exists_mostN{α:Type}(f:α→Nat){l:List α}(h:l≠ []):∃i∈l,∀k∈l,f k≤f i:=by
 induction l with
 |nil=>exact absurd rfl h
 |cons x l ih=>
  by_cases hl:l=[]
  ·subst hl;exact⟨x,by simp,fun k hk=>by simp at hk;subst hk;exact xak _⟩
  ·obtain⟨i,h1,h2⟩:=ih hl
   by_cases hx:f i≤f x
   ·refine⟨x,by simp,fun k hk=>?_⟩
    rcases xbd.1 hk with rfl|hk
    ·exact xak _
    ·exact xbb (h2 k hk) hx
   ·refine⟨i,xap _ h1,fun k hk=>?_⟩
    rcases xbd.1 hk with rfl|hk
    ·omega
    ·exact h2 k hk
def extr_ne{least:Bool}{r:Int→Rat}{l:List Int}(h:l≠ []):extr least r l≠ []:=by
 cases least
 ·obtain⟨i,h1,h2⟩:=zhe (fun i=>- r i) h
  have:i∈extr false r l:=xfy.2 ⟨h1,xbt.2 fun k hk=>by
   have:=h2 k hk
   simp only[xaw,xbf,xam]
   grind⟩
  exact xfo this
 ·obtain⟨i,h1,h2⟩:=zhe r h
  have:i∈extr true r l:=xfy.2 ⟨h1,xbt.2 fun k hk=>by
   simp only[if_true,xam]
   exact h2 k hk⟩
  exact xfo this
def extr_sub{least:Bool}{r:Int→Rat}{l:List Int}{x:Int}(h:x∈extr least r l):x∈l:=(xfy.1 h).1
def zlz:∀{least:Bool} {rounds:List (List Rat)} {l:List Int} {x:Int},x∈tieL least rounds l→x∈l
 |_,[],_,_,h=>h
 |least,r::rounds,l,x,h=>by
  have h':x∈tieL least rounds (if 1<l.length then extr least (zco r) l else l):=h
  have:=zlz h'
  split at this
  ·exact extr_sub this
  ·exact this
def tieL_ne:∀{least:Bool} {rounds:List (List Rat)} {l:List Int},l≠ []→tieL least rounds l≠ []
 |_,[],_,h=>h
 |least,r::rounds,l,h=>by
  show tieL least rounds (if 1<l.length then extr least (zco r) l else l)≠ []
  refine tieL_ne ?_
  split
  ·exact extr_ne h
  ·exact h
def zmq{α:Type}(f:α→α→α)(hf:∀a b,f a b=a∨f a b=b):∀(l:List α) (x:α),l.foldl f x=x∨l.foldl f x∈l
 | [],x=>.inl rfl
 |y::l,x=>by
  rw[xgk]
  rcases zmq f hf l (f x y)with h|h
  ·rw[h]
   rcases hf x y with h1|h1
   ·exact .inl h1
   ·exact .inr (by rw[h1];simp)
  ·exact .inr (xap _ h)
def byLot_mem{lots:List Int}{least:Bool}{l:List Int}(h:l≠ []):byLot lots least l∈l:=by
 cases l with
 |nil=>exact absurd rfl h
 |cons x l=>
  unfold byLot
  simp only[List.tail_cons,xht]
  rcases zmq (fun m c=>if least then(if zdb lots m<zdb lots c then c else m)else(if zdb lots c<zdb lots m then c else m)) (fun a b=>by cases least<;>simp only[if_true,xaw,xbf]<;>split<;>simp) l x with h|h
  ·rw[h];simp
  ·exact xap _ h
def zfs{l:List Int}(h:l≠ []):l.headD 0∈l:=by
 cases l with
 |nil=>exact absurd rfl h
 |cons x l=>simp
def zps{ties:Int}{earlier:List (List Rat)}{tied lots:List Int}{least:Bool}(h:tied≠ []):tieB ties earlier tied lots least∈tied:=by
 unfold tieB
 have hn:=tieL_ne (least:=least) (rounds:=zbc ties earlier) h
 simp only
 split
 ·exact zlz (zfs hn)
 ·exact zlz (byLot_mem hn)
def zos{α:Type}(p:α→Bool):∀l:List α,(l.takeWhile p).length≤l.length
 | []=>xak _
 |x::l=>by
  rw[xfj]
  split
  ·simp only[xaz];have:=zos p l;omega
  ·simp
def zot{α:Type}(p:α→Bool)(d:α):∀l:List α,(l.takeWhile p).length<l.length→p (l.getD (l.takeWhile p).length d)=false
 | [],h=>by simp at h
 |x::l,h=>by
  rw[xfj]at h ⊢
  split at h
  ·rename_i hx
   rw[if_pos hx]
   simp only[xaz,xhm]
   exact zot p d l (by simpa using h)
  ·rename_i hx
   rw[if_neg hx]
   simpa using hx
def zjf{α:Type}(p:α→Bool)(d:α):∀(l:List α) (i:Nat),i<(l.takeWhile p).length→p (l.getD i d)=true
 | [],i,h=>by simp at h
 |x::l,i,h=>by
  rw[xfj]at h
  split at h
  ·rename_i hx
   cases i with
   |zero=>simpa using hx
   |succ i=>exact zjf p d l i (by simpa using h)
  ·simp at h
def nxt_ge(p:List Int)(st:Nat→Nat)(k:Nat):k≤nxt p st k:=Nat.le_add_right _ _
def nxt_le{p:List Int}(st:Nat→Nat){k:Nat}(h:k≤p.length):nxt p st k≤p.length:=by
 unfold nxt
 have:=zos (fun c=>decide (st (Int.toNat c)≠0)) (p.drop k)
 rw[xeh]at this
 omega
def zmn{α:Type}(l:List α)(k i:Nat)(d:α):(l.drop k).getD i d=l.getD (k+i) d:=by
 simp[xae,xkr]
def nxt_at{p:List Int}{st:Nat→Nat}{k:Nat}(h:nxt p st k<p.length):st (p.getD (nxt p st k) 0).toNat=0:=by
 unfold nxt at h ⊢
 have:=zot (fun c=>decide (st (Int.toNat c)≠0)) 0 (p.drop k) (by rw[xeh];omega)
 rw[zmn]at this
 simpa using this
def zud{p:List Int}{st:Nat→Nat}{k i:Nat}(h1:k≤i)(h2:i<nxt p st k):st (p.getD i 0).toNat≠0:=by
 unfold nxt at h2
 have:=zjf (fun c=>decide (st (Int.toNat c)≠0)) 0 (p.drop k) (i-k) (by omega)
 rw[zmn,show k+(i-k)=i by omega]at this
 simpa using this
def nxt_step{p:List Int}{st:Nat→Nat}{k:Nat}(h:k<p.length):nxt p st k=if st (p.getD k 0).toNat=0 then k else nxt p st (k+1):=by
 unfold nxt
 have e:p.drop k=p.getD k 0::p.drop (k+1):=by
  rw[xae,xar h]
  exact xjd h
 rw[e,xfj]
 by_cases hs:st (p.getD k 0).toNat=0
 ·rw[if_pos hs,if_neg (by simpa using hs)];rfl
 ·simp only[hs,ne_eq,not_false_iff,xah,if_true,xbf,xaz];omega
def nxt_end{p:List Int}{st:Nat→Nat}{k:Nat}(h:p.length≤k):nxt p st k=k:=by
 unfold nxt
 rw[List.drop_of_length_le h];rfl
def GP.mkd(P:GP):Nat:=sumN (fun g=>if P.p g=[]then 0 else P.k g) P.G
structure GP.OK(P:GP):Prop where
 n1:1≤P.n
 n7:P.n≤7
 seats1:1≤P.seats
 seats5:P.seats≤5
 prefs:∀g,g<P.G→∀c∈P.p g,∃i:Nat,c=(i:Int)∧i<P.n
 plen:∀g,g<P.G→(P.p g).length≤7
 total:sumN P.k P.G=P.tot
 tot5:P.tot≤100000
 q1:1≤P.q
 q5:P.q≤100001
 quota:P.mkd<P.q*(P.seats+1)
 ties1:1≤P.ties
 ties3:P.ties≤3
 lotn:P.lots.length=P.n
 lots:∀c∈P.lots,∃i:Nat,c=(i:Int)∧i<P.n
 lotd:P.lots.Nodup
def GS.c2(P:GP)(s:GS):Nat:=cntN (fun i=>decide (s.st i=2)) P.n
structure GI(P:GP)(s:GS):Prop where
 D0:0<s.D
 Db:s.D≤2^(17*(2^s.c2 P-1))
 num:∀g,g<P.G→s.num g≤s.D
 at_:∀g,g<P.G→s.at_ g≤(P.p g).length
 lies:∀g c,g<P.G→s.on P g c=true→s.st c=0∨s.st c=1
 st3:∀c,s.st c≤3
 blank:∀g,g<P.G→P.p g=[]→s.num g=s.D
 cons:sumN (fun g=>if P.p g=[]then 0 else P.k g*s.num g) P.G+s.bar P*s.c2 P=P.mkd*s.D
 pend:∀c,c<P.n→s.st c=1→s.bar P≤s.lie P c
variable {P:GP} {s:GS}
def GS.on_lt{g c:Nat}(h:s.on P g c=true):s.at_ g<(P.p g).length:=by
 unfold GS.on at h
 rw[xan,xam]at h
 exact h.1
def GS.on_at{g c:Nat}(h:s.on P g c=true):(P.p g).getD (s.at_ g) 0=(c:Int):=by
 unfold GS.on at h
 rw[xan,xam,xam]at h
 exact h.2
def GS.on_uniq{g c d:Nat}(h:s.on P g c=true)(h':s.on P g d=true):c=d:=by
 have h1:=GS.on_at h
 have h2:=GS.on_at h'
 omega
def GS.on_ne{g c:Nat}(h:s.on P g c=true):P.p g≠ []:=fun e=>by
 have:=GS.on_lt h
 rw[e]at this
 simp at this
def zci{l:List Int}{i:Nat}(h:i<l.length):l.getD i 0∈l:=by
 rw[xae,xar h]
 exact xbc h
def GS.on_ex(hP:P.OK){g:Nat}(hg:g<P.G)(h:s.at_ g<(P.p g).length):∃c,c<P.n∧s.on P g c=true:=by
 obtain⟨i,h1,h2⟩:=hP.prefs g hg _ (zci h)
 refine⟨i,h2,?_⟩
 unfold GS.on
 rw[xan,xam,xam]
 exact⟨h,h1⟩
def lie_sum(hP:P.OK):sumN (s.lie P) P.n=sumN (fun g=>if s.at_ g<(P.p g).length then P.k g*s.num g else 0) P.G:=by
 unfold GS.lie
 rw[zma (fun c g=>if s.on P g c then P.k g*s.num g else 0)]
 refine zak fun g hg=>?_
 by_cases h:s.at_ g<(P.p g).length
 ·obtain⟨c,h1,h2⟩:=GS.on_ex hP hg h
  rw[if_pos h]
  have:sumN (fun i=>if s.on P g i then P.k g*s.num g else 0) P.n=sumN (fun i=>if i=c then P.k g*s.num g else 0) P.n:=zak fun i hi=>by
   by_cases hic:i=c
   ·subst hic;rw[if_pos h2,if_pos rfl]
   ·rw[if_neg hic,if_neg fun h3=>hic (GS.on_uniq h3 h2)]
  rw[this,zvh,if_pos h1]
 ·rw[if_neg h]
  refine(zak fun i hi=>if_neg fun h3=>h (GS.on_lt h3)).trans (zcs _)
def zks(hP:P.OK):sumN (s.lie P) P.n≤sumN (fun g=>if P.p g=[]then 0 else P.k g*s.num g) P.G:=by
 rw[lie_sum hP]
 refine zdp fun g hg=>?_
 by_cases h:P.p g=[]
 ·rw[if_neg (by rw[h];simp),if_pos h];exact xak _
 ·rw[if_neg h]
  split
  ·exact xak _
  ·exact xbz _
def zwf(hI:GI P s){c:Nat}(h:s.st c=2∨s.st c=3):s.lie P c=0:=by
 unfold GS.lie
 refine(zak fun g hg=>if_neg fun h3=>?_).trans (zcs _)
 have:=hI.lies g c hg h3
 omega
def vt_lie(hI:GI P s){c:Nat}(h:s.st c=0∨s.st c=1):s.vt P c=s.lie P c:=by
 unfold GS.vt;rw[if_neg (by omega),if_neg (by omega)]
def vt_eq(hI:GI P s)(c:Nat):s.vt P c=s.lie P c+if decide (s.st c=2)then s.bar P else 0:=by
 have h3:=hI.st3 c
 by_cases h2:s.st c=2
 ·unfold GS.vt;rw[if_pos h2,zwf hI (.inl h2),xag h2];simp
 ·rw[xaj h2]
  by_cases h4:s.st c=3
  ·unfold GS.vt;rw[if_neg h2,if_pos h4,zwf hI (.inr h4)];rfl
  ·rw[vt_lie hI (by omega)];rfl
def zsx(p:Nat→Bool)(v:Nat):∀n:Nat,sumN (fun i=>if p i then v else 0) n=v*cntN p n
 | 0=>by simp[sumN,cntN]
 |n+1=>by
  show sumN _ n+(if p n then v else 0)=v*(cntN p n+(if p n then 1 else 0))
  rw[zsx p v n,xcz]
  cases p n<;>simp
def vt_sum(hP:P.OK)(hI:GI P s):sumN (s.vt P) P.n=sumN (s.lie P) P.n+s.bar P*s.c2 P:=by
 rw[zak fun i _=>vt_eq hI i,zbz,zsx];rfl
def vt_sum_le(hP:P.OK)(hI:GI P s):sumN (s.vt P) P.n≤P.mkd*s.D:=by
 rw[vt_sum hP hI]
 have:=zks (s:=s) hP
 have:=hI.cons
 omega
def mk_le(hP:P.OK):P.mkd≤P.tot:=by
 rw[←hP.total]
 exact zdp fun g _=>by split<;>omega
def znh(hP:P.OK)(hI:GI P s):sumN (s.vt P) P.n≤P.tot*s.D:=xbb (vt_sum_le hP hI) (xav _ (mk_le hP))
def zvc(hP:P.OK)(hI:GI P s){c:Nat}(h:c<P.n):s.vt P c≤P.tot*s.D:=xbb (zgo h) (znh hP hI)
def bar_pos(hP:P.OK)(hI:GI P s):0<s.bar P:=Nat.mul_pos hP.q1 hI.D0
def zch(c:Nat):(s.el1 P c=true∧s.st c=0∧s.st1 P c=1∧s.bar P≤s.vt P c)∨(s.el1 P c=false∧s.st1 P c=s.st c):=by
 unfold GS.st1
 cases h:s.el1 P c
 ·exact .inr ⟨rfl,rfl⟩
 ·unfold GS.el1 at h
  rw[xan,xam,xam]at h
  exact .inl ⟨rfl,h.1,rfl,h.2⟩
def zqx(hI:GI P s){c:Nat}(hc:c<P.n)(h:s.st1 P c=1):(s.st c=0∨s.st c=1)∧s.vt P c=s.lie P c∧s.bar P≤s.vt P c:=by
 rcases zch (P:=P) (s:=s) c with⟨_,h1,h2,h3⟩|⟨_,h2⟩
 ·exact⟨.inl h1,vt_lie hI (.inl h1),h3⟩
 ·have h1:s.st c=1:=by omega
  have:=hI.pend c hc h1
  rw[vt_lie hI (.inr h1)]
  exact⟨.inr h1,rfl,this⟩
def zvk(c:Nat):s.st1 P c=2↔s.st c=2:=by
 rcases zch (P:=P) (s:=s) c with⟨_,h1,h2,h3⟩|⟨_,h2⟩<;>omega
def GS.e1(P:GP)(s:GS):Nat:=cntN (fun i=>decide (s.st1 P i=1)) P.n
def GS.e2(P:GP)(s:GS):Nat:=cntN (fun i=>decide (s.st1 P i=2)) P.n
def GS.e0(P:GP)(s:GS):Nat:=cntN (fun i=>decide (s.st1 P i=0)) P.n
def zoi(hP:P.OK)(hI:GI P s):s.e1 P+s.e2 P≤P.seats:=by
 have h1:s.bar P*(s.e1 P+s.e2 P)≤sumN (s.vt P) P.n:=by
  unfold GS.e1 GS.e2
  rw[xcz,←zsx,←zsx,←zbz]
  refine zdp fun i hi=>?_
  by_cases h:s.st1 P i=1
  ·rw[xag h,xaj (by omega)]
   have:=(zqx hI hi h).2.2
   simpa using this
  ·rw[xaj h]
   by_cases h2:s.st1 P i=2
   ·rw[xag h2]
    have h3:=(zvk i).1 h2
    have:s.vt P i=s.bar P:=by unfold GS.vt;rw[if_pos h3]
    rw[this];simp
   ·rw[xaj h2];simp
 have h2:=vt_sum_le hP hI
 have h3:s.bar P*(s.e1 P+s.e2 P)<s.bar P*(P.seats+1):=by
  refine xdq (xbb h1 h2) ?_
  have:P.mkd*s.D<P.q*(P.seats+1)*s.D:=xgx hP.quota hI.D0
  have e:s.bar P*(P.seats+1)=P.q*(P.seats+1)*s.D:=by unfold GS.bar;rw[xhp]
  omega
 have:=Nat.lt_of_mul_lt_mul_left h3
 omega
def fin_false(hP:P.OK)(hI:GI P s)(h:s.fin P=false):s.e1 P+s.e2 P<P.seats∧P.seats<s.e1 P+s.e2 P+s.e0 P:=by
 unfold GS.fin at h
 rw[xcj,xay,xay]at h
 have h1:¬s.e1 P+s.e2 P=P.seats:=h.1
 have h2:¬s.e1 P+s.e2 P+s.e0 P≤P.seats:=h.2
 have:=zoi hP hI
 omega
def tied_ne(hP:P.OK)(hI:GI P s)(h:s.fin P=false):s.tied P≠ []:=by
 obtain⟨h1,h2⟩:=fin_false hP hI h
 have hne:selN (fun i=>decide (s.st1 P i=if s.most P then 1 else 0)) P.n≠ []:=by
  have:0<cntN (fun i=>decide (s.st1 P i=if s.most P then 1 else 0)) P.n:=by
   cases hm:s.most P
   ·show 0<s.e0 P;omega
   ·unfold GS.most at hm
    exact xbl hm
  rw[←zca]at this
  exact xcr.1 this
 unfold GS.tied
 generalize(if s.most P then 1 else 0)=c at hne ⊢
 have key:∃i,i<P.n∧zpm P (s.vt P) (s.st1 P) c (s.most P) i=true:=by
  cases s.most P
  ·obtain⟨i,k1,k2⟩:=zmv (s.vt P) hne
   obtain⟨k3,k4⟩:=zbn.1 k1
   refine⟨i,k3,?_⟩
   unfold zpm
   rw[k4,xax,xbt]
   intro k hk
   by_cases h5:s.st1 P k=c
   ·have:=k2 k (zbn.2 ⟨xbu.1 hk,xag h5⟩)
    simp[this]
   ·simp[h5]
  ·obtain⟨i,k1,k2⟩:=exists_mostN (s.vt P) hne
   obtain⟨k3,k4⟩:=zbn.1 k1
   refine⟨i,k3,?_⟩
   unfold zpm
   rw[k4,xax,xbt]
   intro k hk
   by_cases h5:s.st1 P k=c
   ·have:=k2 k (zbn.2 ⟨xbu.1 hk,xag h5⟩)
    simp[this]
   ·simp[h5]
 obtain⟨i,k1,k2⟩:=key
 exact xfo (zal.2 ⟨i,rfl,k1,k2⟩)
def pick_mem{earlier:List (List Rat)}(h:s.tied P≠ []):s.pick P earlier∈s.tied P:=by
 unfold GS.pick
 split
 ·exact zfs h
 ·exact zps h
def zgs(hP:P.OK)(hI:GI P s)(h:s.fin P=false)(earlier:List (List Rat)):∃x:Nat,s.pick P earlier=(x:Int)∧x<P.n∧s.st1 P x=if s.most P then 1 else 0:=by
 have h1:=pick_mem (earlier:=earlier) (tied_ne hP hI h)
 obtain⟨i,h2,h3,h4⟩:=zal.1 h1
 refine⟨i,h2,h3,?_⟩
 unfold zpm at h4
 rw[xan,xam]at h4
 exact h4.1
def move_on{st:Nat→Nat}{keep:Nat→Rat}{x a b g c:Nat}(hx:s.on P g x=false):(s.move P st keep x a b).on P g c=s.on P g c:=by
 unfold GS.on GS.move
 simp only[hx,xaw,xbf]
def move_lie{st:Nat→Nat}{keep:Nat→Rat}{x a b c:Nat}(hc:c≠x):s.lie P c*b≤(s.move P st keep x a b).lie P c:=by
 unfold GS.lie
 rw[←zfh]
 refine zdp fun g hg=>?_
 by_cases h:s.on P g c=true
 ·have hx:s.on P g x=false:=by
   cases hx:s.on P g x
   ·rfl
   ·exact absurd (GS.on_uniq h hx) hc
  rw[if_pos h,if_pos (by rw[move_on hx];exact h)]
  show _≤P.k g*(if s.on P g x then s.num g*a else s.num g*b)
  rw[hx,xbr];exact xak _
 ·rw[if_neg h,xfl];exact xbz _
def move_cons{st:Nat→Nat}{keep:Nat→Rat}{x a b:Nat}(hab:a≤b):sumN (fun g=>if P.p g=[]then 0 else P.k g*(s.move P st keep x a b).num g) P.G+(b-a)*s.lie P x=sumN (fun g=>if P.p g=[]then 0 else P.k g*s.num g) P.G*b:=by
 unfold GS.lie
 rw[←zfh,xby (b-a),←zfh,←zbz]
 refine zak fun g hg=>?_
 show(if P.p g=[]then 0 else P.k g*(if s.on P g x then s.num g*a else s.num g*b))+_=_
 cases h:s.on P g x
 ·simp only[xaw,xbf]
  split
  ·simp
  ·rw[xfl,xdl,xbr]
 ·have:=GS.on_ne h
  simp only[if_neg this,if_true]
  rw[←xbr,←xcz]
  congr 1
  omega
def zlq{p q:Nat→Bool}{n x:Nat}(hx:x<n)(h:∀i,i<n→i≠x→p i=q i)(h0:q x=false)(h1:p x=true):cntN p n=cntN q n+1:=by
 have:=sumN_upd (f:=fun i=>if p i then 1 else 0) (g:=fun i=>if q i then 1 else 0) hx fun i hi hne=>by rw[h i hi hne]
 simp only[h0,h1,if_true,xaw,xbf]at this
 unfold cntN
 omega
def move_inv(hP:P.OK)(hI:GI P s){x a b y:Nat}{keep:Nat→Rat}(hx:x<P.n)(hy:y=2∨y=3)(hst:s.st1 P x=if y=2 then 1 else 0)(hab:a≤b)(hb0:0<b)
  (hd:y=2→(b-a)*s.lie P x=s.bar P*b) (hd3:y=3→a=b) (hb:s.D*b≤2^(17*(2^(s.c2 P+if y=2 then 1 else 0)-1))) :
  GI P (s.move P (upd (s.st1 P) x y) keep x a b):=by
 have hx2:s.st x≠2:=by
  have:=zvk (P:=P) (s:=s) x
  split at hst<;>omega
 have hc2:(s.move P (upd (s.st1 P) x y) keep x a b).c2 P=s.c2 P+if y=2 then 1 else 0:=by
  unfold GS.c2
  show cntN (fun i=>decide (upd (s.st1 P) x y i=2)) P.n=_
  by_cases h2:y=2
  ·subst h2
   rw[if_pos rfl]
   refine zlq hx (fun i hi hne=>?_) (xaj hx2) (by rw[zbu];rfl)
   rw[zep _ _ hne]
   exact xbv.2 (zvk i)
  ·rw[if_neg h2,xdl]
   refine zhz fun i hi=>?_
   by_cases hi:i=x
   ·subst hi;rw[zbu];exact xbv.2 ⟨fun h=>absurd h h2,fun h=>absurd h hx2⟩
   ·rw[zep _ _ hi];exact xbv.2 (zvk i)
 refine⟨Nat.mul_pos hI.D0 hb0,by rw[hc2];exact hb,fun g hg=>?_,fun g hg=>?_,fun g c hg hon=>?_,fun c=>?_,fun g hg hp=>?_,?_,fun c hc hc1=>?_⟩
 ·show(if s.on P g x then s.num g*a else s.num g*b)≤s.D*b
  have:=hI.num g hg
  split
  ·exact xdf this hab
  ·exact xav _ this
 ·show(if s.on P g x then nxt (P.p g) _ (s.at_ g+1)else s.at_ g)≤_
  cases h:s.on P g x
  ·exact hI.at_ g hg
  ·exact nxt_le _ (GS.on_lt h)
 ·show upd (s.st1 P) x y c=0∨upd (s.st1 P) x y c=1
  cases h:s.on P g x
  ·rw[move_on h]at hon
   have hcx:c≠x:=fun e=>by rw[e]at hon;rw[h]at hon;cases hon
   rw[zep _ _ hcx]
   have:=hI.lies g c hg hon
   rcases zch (P:=P) (s:=s) c with⟨_,h1,h2,_⟩|⟨_,h2⟩<;>omega
  ·have h1:=GS.on_lt hon
   have h2:=GS.on_at hon
   have e:(s.move P (upd (s.st1 P) x y) keep x a b).at_ g=nxt (P.p g) (upd (s.st1 P) x y) (s.at_ g+1):=by
    show(if s.on P g x then nxt (P.p g) _ (s.at_ g+1)else s.at_ g)=_
    rw[h];rfl
   rw[e]at h1 h2
   have h3:=nxt_at h1
   rw[h2,xaf]at h3
   exact .inl h3
 ·show upd (s.st1 P) x y c≤3
  by_cases hi:c=x
  ·subst hi;rw[zbu];omega
  ·rw[zep _ _ hi]
   have:=hI.st3 c
   rcases zch (P:=P) (s:=s) c with⟨_,h1,h2,_⟩|⟨_,h2⟩<;>omega
 ·show(if s.on P g x then s.num g*a else s.num g*b)=s.D*b
  rw[if_neg fun h=>GS.on_ne h hp,hI.blank g hg hp]
 ·have h1:=move_cons (P:=P) (s:=s) (st:=upd (s.st1 P) x y) (keep:=keep) (x:=x) hab
  have h2:=hI.cons
  rw[hc2]
  have e1:(s.move P (upd (s.st1 P) x y) keep x a b).bar P=s.bar P*b:=by
   show P.q*(s.D*b)=P.q*s.D*b
   rw[xbr]
  have e2:P.mkd*(s.move P (upd (s.st1 P) x y) keep x a b).D=P.mkd*s.D*b:=by
   show P.mkd*(s.D*b)=_
   rw[xbr]
  rw[e1,e2,←h2,xcl,←h1]
  rcases hy with h3|h3
  ·rw[hd h3,if_pos h3,xcz,xdu,xhp (s.bar P) b]
   omega
  ·rw[hd3 h3,xho,xfl,if_neg (by omega),xdl,xdl,xhp]
 ·have hc1':upd (s.st1 P) x y c=1:=hc1
  have hcx:c≠x:=fun e=>by rw[e,zbu]at hc1';omega
  rw[zep _ _ hcx]at hc1'
  obtain⟨_,k2,k3⟩:=zqx hI hc hc1'
  have e1:(s.move P (upd (s.st1 P) x y) keep x a b).bar P=s.bar P*b:=by
   show P.q*(s.D*b)=P.q*s.D*b
   rw[xbr]
  rw[e1]
  refine xbb (xav b ?_) (move_lie hcx)
  omega
def pow_next{D v t c:Nat}(hD:D≤2^(17*(2^c-1)))(hv:v≤t*D)(ht:t≤100000):D*v≤2^(17*(2^(c+1)-1)):=by
 have h1:D*v≤D*(100000*D):=xdk _ (xbb hv (xav _ ht))
 have h2:D*(100000*D)≤2^(17*(2^c-1))*(2^17*2^(17*(2^c-1))):=xdf hD (xdf (by decide) hD)
 have h3:17*(2^(c+1)-1)=17*(2^c-1)+(17+17*(2^c-1)):=by
  have:0<2^c:=xgf (by decide)
  rw[xch];omega
 rw[h3,xfb,xfb]
 omega
def trans_inv(hP:P.OK)(hI:GI P s)(h:s.fin P=false)(hm:s.most P=true)(earlier:List (List Rat)):GI P (s.trans P earlier):=by
 obtain⟨x,h1,h2,h3⟩:=zgs hP hI h earlier
 rw[hm,if_pos rfl]at h3
 obtain⟨_,k2,k3⟩:=zqx hI h2 h3
 have hb:=bar_pos hP hI
 unfold GS.trans
 simp only[h1,xaf]
 refine move_inv hP hI h2 (.inl rfl) (by rw[h3];rfl) (xik _ _) (by omega) (fun _=>?_) (fun h=>by omega) ?_
 ·rw[←k2]
  congr 1
  omega
 ·rw[if_pos rfl]
  exact pow_next hI.Db (zvc hP hI h2) hP.tot5
def excl_inv(hP:P.OK)(hI:GI P s)(h:s.fin P=false)(hm:s.most P=false)(earlier:List (List Rat)):GI P (s.excl P earlier):=by
 obtain⟨x,h1,h2,h3⟩:=zgs hP hI h earlier
 rw[hm]at h3
 unfold GS.excl
 simp only[h1,xaf]
 refine move_inv hP hI h2 (.inr rfl) (by rw[h3];rfl) (xak _) (by omega) (fun h=>by omega) (fun _=>rfl) ?_
 rw[xdu]
 exact hI.Db
def g0_inv(hP:P.OK):GI P g0:=by
 have hc:g0.c2 P=0:=(zhz (q:=fun _=>false) fun i _=>rfl).trans (by unfold cntN;exact zcs _)
 refine⟨by decide,by rw[hc];exact xak 1,fun g hg=>xak 1,fun g hg=>xbz _,fun g c hg _=>.inl rfl,fun c=>xbz 3,fun g hg hp=>rfl,?_,fun c hc h=>by cases h⟩
 rw[hc,xix,xdl]
 show _=P.mkd*1
 rw[xdu]
 unfold GP.mkd
 refine zak fun g hg=>?_
 show(if P.p g=[]then 0 else P.k g*1)=_
 rw[xdu]
def GS.meas(P:GP)(s:GS):Nat:=cntN (fun i=>decide (s.st i=0∨s.st i=1)) P.n
def meas_move{x a b y:Nat}{keep:Nat→Rat}(hx:x<P.n)(hy:y=2∨y=3)(hst:s.st1 P x=0∨s.st1 P x=1):(s.move P (upd (s.st1 P) x y) keep x a b).meas P+1=s.meas P:=by
 unfold GS.meas
 refine(zlq (q:=fun i=>decide (upd (s.st1 P) x y i=0∨upd (s.st1 P) x y i=1)) hx (fun i hi hne=>?_) ?_ ?_).symm
 ·rw[zep _ _ hne]
  refine xbv.2 ?_
  rcases zch (P:=P) (s:=s) i with⟨_,h1,h2,_⟩|⟨_,h2⟩<;>omega
 ·rw[zbu];exact xaj (by omega)
 ·refine xag ?_
  rcases zch (P:=P) (s:=s) x with⟨_,h1,h2,_⟩|⟨_,h2⟩<;>omega
def znn(hP:P.OK)(hI:GI P s)(h:s.fin P=false)(hm:s.most P=true)(earlier:List (List Rat)):(s.trans P earlier).meas P+1=s.meas P:=by
 obtain⟨x,h1,h2,h3⟩:=zgs hP hI h earlier
 rw[hm,if_pos rfl]at h3
 unfold GS.trans
 simp only[h1,xaf]
 exact meas_move h2 (.inl rfl) (.inr h3)
def zsp(hP:P.OK)(hI:GI P s)(h:s.fin P=false)(hm:s.most P=false)(earlier:List (List Rat)):(s.excl P earlier).meas P+1=s.meas P:=by
 obtain⟨x,h1,h2,h3⟩:=zgs hP hI h earlier
 rw[hm]at h3
 unfold GS.excl
 simp only[h1,xaf]
 exact meas_move h2 (.inr rfl) (.inl (by simpa using h3))
def meas_le(s:GS):s.meas P≤P.n:=zbd _ _
def c2_le(s:GS):s.c2 P≤P.n:=zbd _ _
def eD:Nat:=2159
def eB:Nat:=2208
def D_small(hP:P.OK)(hI:GI P s):s.D≤2^eD:=by
 refine xbb hI.Db (xck (by decide) ?_)
 have h1:=c2_le (P:=P) s
 have h2:=hP.n7
 have:2^s.c2 P≤2^7:=xck (by decide) (by omega)
 show _≤2159
 omega
end
section
abbrev CT:=List Int×(List (List Int)×(Int×(Int×(Int×(Int×(Int×(Int×Int)))))))
abbrev RD:=List Rt×(List Rt×(Rt×(Rt×(Rt×(List Int×(List Int×List Int))))))
abbrev KT:=CT×(List Int×(Int×(Int×(List (List Int×(Int×(Int×Rt)))×(List Int×(List Rt×(Int×(List (List Rt)×(Int×(Int×(Int×(Int×(List RD×List Int)))))))))))))
def zcm{α:Type}{l:List α}{d:α}(h:l.length+1≤4294967296):decide ((l.length:Int)+(([d]:List α).length:Int)≤LIM)=true:=by
 have:(l.length:Int)+(([d]:List α).length:Int)=((l.length+1:Nat):Int):=by simp
 rw[this];exact zce h
def zge(a b:Nat):decide ((a:Int)=(b:Int))=decide (a=b):=xbv.2 xfk
def frac_nd(a b:Nat):(frac a b).num.natAbs≤a∧(frac a b).den≤max 1 b:=by
 have e:frac a b=mkRat a b:=by
  unfold frac
  rw[Rat.mkRat_eq_div]
  rfl
 rw[e]
 by_cases hb:b=0
 ·subst hb;rw[Rat.mkRat_zero];exact⟨xbz _,xkc _ _⟩
 ·rw[Rat.num_mkRat,Rat.den_mkRat,if_neg hb,if_neg hb]
  refine⟨?_,xbb (xfc _ _) (Nat.le_max_right _ _)⟩
  rw[xja]
  have:((a:Int)/((b.gcd a:Nat):Int))=((a/b.gcd a:Nat):Int):=rfl
  rw[this,xja]
  exact xfc _ _
def zll{a b e:Nat}(ha:a<2^e)(hb:b<2^e)(he:1≤e):Bz e (frac a b):=by
 obtain⟨h1,h2⟩:=frac_nd a b
 have:1<2^e:=xiw (by omega)
 exact⟨by omega,by omega⟩
def zwm(a:Nat):frac a 1=(a:Rat):=by unfold frac;grind
def zwn{a b D:Nat}(hD:0<D):frac a D+frac b D=frac (a+b) D:=by
 unfold frac
 rw[xgw,xgw,xgw,←Rat.add_mul]
 simp only[Rat.natCast_add]
def zqd{a b D:Nat}(hD:0<D)(h:b≤a):frac a D-frac b D=frac (a-b) D:=by
 have:=zwn (a:=a-b) (b:=b) hD
 rw[Nat.sub_add_cancel h]at this
 rw[←this];grind
def frac_mul_nat(a D k:Nat):frac a D*(k:Rat)=frac (k*a) D:=by
 unfold frac
 simp only[xjz]
 rw[xgw,xgw]
 grind
def zmo{q D:Nat}(hD:0<D):frac (q*D) D=(q:Rat):=by
 unfold frac
 have:(D:Rat)≠0:=by simp;omega
 rw[xjz,Rat.mul_div_cancel this]
def zir{a b D:Nat}(hD:0<D):frac a D≤frac b D↔a≤b:=by
 unfold frac
 have:(0:Rat)<(D:Rat):=by exact_mod_cast hD
 rw[xgw,xgw]
 have hi:(0:Rat)<(D:Rat)⁻¹:=Rat.inv_pos.2 this
 constructor
 ·intro h
  have:=Rat.le_of_mul_le_mul_right h hi
  exact_mod_cast this
 ·intro h
  exact Rat.mul_le_mul_of_nonneg_right (by exact_mod_cast h) (Rat.le_of_lt hi)
def frac_lt{a b D:Nat}(hD:0<D):frac a D<frac b D↔a<b:=by
 rw[←Rat.not_le,zir hD];omega
def frac_inj{a b D:Nat}(hD:0<D):frac a D=frac b D↔a=b:=by
 constructor
 ·intro h
  have h1:a≤b:=(zir hD).1 (by rw[h];exact xhy)
  have h2:b≤a:=(zir hD).1 (by rw[h];exact xhy)
  omega
 ·intro h;rw[h]
def Bz.sz2{q:Rat}(h:Bz eB q):Sz 268435456 (rr q):=by
 have h':Bz (32*69) q:=h
 have:=Bz.sz (k:=69) h'
 exact⟨by have:=this.1;omega,by have:=this.2;omega⟩
def bz_nat{n:Nat}(h:n<2^64):Bz eB (n:Rat):=by
 rw[←zwm]
 exact zll (Nat.lt_trans h (xfh (by decide) (by decide))) (xiw (by decide)) (by decide)
def zhl{n:Nat}(h:n≤9223372036854775807):d49 (n:Int)=some (rr (n:Rat)):=by
 rw[zur (by omega) (by omega)];rfl
def zhb{p:Nat→Bool}{n j:Nat}(h:j<(selN p n).length):(selN p n).getD j 0<n∧p ((selN p n).getD j 0)=true:=by
 rw[xae,xar h]
 exact zbn.1 (xbc h)
def zjp{p:Nat→Bool}{n j:Nat}(h:j<(selN p n).length):(selI p n).getD j 0=(((selN p n).getD j 0:Nat):Int):=by
 unfold selI
 rw[xae,xcv,xar h,xae,xar h];rfl
def zbg{α:Type}(l:List α)(d:α){n:Nat}(h:n<l.length):l.take (n+1)=l.take n++[l.getD n d]:=by
 rw[xhb,xae,xar h];rfl
def zed{α:Type}(f:Nat→α)(L:List Nat)(x:α):Nat→α:=fun c=>if c∈L then x else f c
def zlh{α:Type}(f:Nat→α)(L:List Nat)(c:Nat)(x:α):upd (zed f L x) c x=zed f (L++[c]) x:=by
 funext d
 unfold upd zed
 by_cases h:d=c
 ·subst h;simp
 ·simp[h]
def znl{α:Type}(f:Nat→α)(x:α):zed f [] x=f:=by funext d;simp[zed]
def zoj{k:KT}{st:Nat→Nat}{n:Nat}(hk:k.2.2.2.2.2.1=lst (fun i=>(st i:Int)) n)(hn:n≤1000)(x:Nat):d101 k (x:Int)=some (selI (fun i=>decide (st i=x)) n):=by
 unfold d101
 rw[hk,zaf]
 refine zaa (fun i=>((x:Int),selI (fun i=>decide (st i=x)) i,lst (fun i=>(st i:Int)) n,(n:Int),(i:Int))) n rfl (fun i hi=>?_) ?_ rfl
 ·have hl:(selI (fun i=>decide (st i=x)) i).length+1≤4294967296:=by
   rw[zat];have:=zbd (fun i=>decide (st i=x)) i;omega
  rw[zev]
  simp only[dlt hi,d0le,zaf,xai,xab,tn,zam _ hi,zaq,zge,zbk (show i<9223372036854775807 by omega)]
  by_cases h:st i=x
  ·rw[xag h,xab,zcm hl,xab];rfl
  ·rw[xaj h,xac];simp
 ·simp only[nlt (xak n),xac]
def d97_eq{f:Nat→Rat}{n:Nat}(hn:n≤1000)(hf:∀i,i<n→Bz eB (f i)):d97 (lst (fun i=>rr (f i)) n)=some (lst (fun i=>rr (f i)) n):=by
 unfold d97
 rw[zaf]
 refine zaa (fun i=>(lst (fun i=>rr (f i)) i,lst (fun i=>rr (f i)) n,(n:Int),(i:Int))) n rfl (fun i hi=>?_) ?_ rfl
 ·have hs:=(hf i hi).sz2
  simp only[dlt hi,d0le,zaf,xai,xab,tn,zam _ hi,zbk (show i<9223372036854775807 by omega),zwv (show(rr (f i)).2.1.length≤4294967296 by have:=hs.1;omega),zwv (show(rr (f i)).2.2.length≤4294967296 by have:=hs.2;omega),xaa]
  have hl:=zcm (l:=lst (fun i=>rr (f i)) i) (d:=((rr (f i)).1,(rr (f i)).2.1,(rr (f i)).2.2)) (by rw[zaf];omega)
  rw[zaf]at hl
  rw[hl,xab,zhc]
 ·simp only[nlt (xak n),xac]
def GS.lieU(P:GP)(s:GS)(m c:Nat):Nat:=sumN (fun g=>if s.on P g c then P.k g*s.num g else 0) m
def parc(P:GP)(s:GS)(g:Nat):List Int×(Int×(Int×Rt)):=(P.p g,(P.k g:Int),(s.at_ g:Int),rr (frac (s.num g) s.D))
variable {P:GP} {s:GS}
def lieU_le(m c:Nat)(h:m≤P.G):s.lieU P m c≤s.lie P c:=by
 have key:∀(f:Nat→Nat) (m n:Nat),m≤n→sumN f m≤sumN f n:=by
  intro f m n
  induction n with
  |zero=>intro h;rw[show m=0 by omega];exact xak _
  |succ n ih=>
   intro h
   by_cases hm:m=n+1
   ·rw[hm];exact xak _
   ·rw[sumN];have:=ih (by omega);omega
 exact key _ _ _ h
def zki{a:Nat}(hP:P.OK)(hI:GI P s)(h:a≤P.tot*s.D):a<2^eB:=by
 have h1:=D_small hP hI
 have h2:P.tot*s.D≤100000*2^eD:=xdf hP.tot5 h1
 have h3:100000*2^eD≤2^17*2^eD:=xav _ (by decide)
 have h4:2^17*2^eD<2^eB:=by rw[←xfb];exact xfh (by decide) (by decide)
 omega
def D_lt(hP:P.OK)(hI:GI P s):s.D<2^eB:=xdq (D_small hP hI) (xfh (by decide) (by decide))
def zbo(hP:P.OK)(hI:GI P s){a:Nat}(h:a≤P.tot*s.D):Bz eB (frac a s.D):=zll (zki hP hI h) (D_lt hP hI) (by decide)
def k_le(hP:P.OK){g:Nat}(h:g<P.G):P.k g≤P.tot:=by rw[←hP.total];exact zgo h
def knum_le(hP:P.OK)(hI:GI P s){g:Nat}(h:g<P.G):P.k g*s.num g≤P.tot*s.D:=xdf (k_le hP h) (hI.num g h)
def lie_le(hP:P.OK)(hI:GI P s){c:Nat}(h:c<P.n):s.lie P c≤P.tot*s.D:=by
 have h1:=zgo (f:=s.lie P) h
 have h2:=zks (s:=s) hP
 have h3:=hI.cons
 have h4:=xav s.D (mk_le hP)
 omega
def num_small(hP:P.OK)(hI:GI P s){g:Nat}(h:g<P.G):Bz eB (frac (s.num g) s.D):=zll (xdq (hI.num g h) (D_lt hP hI)) (D_lt hP hI) (by decide)
def zrm(hP:P.OK):Bz eB (P.q:Rat):=bz_nat (by have:=hP.q5;omega)
def d96_eq(hP:P.OK)(hI:GI P s)(hG:P.G≤1000000){k:KT}(h1:k.2.2.2.2.1=lst (parc P s) P.G)(h2:k.2.2.2.2.2.1=lst (fun i=>(s.st i:Int)) P.n)(h3:k.2.2.2.1=(P.q:Int)) :
  d96 k=some (lst (fun i=>rr (frac (s.vt P i) s.D)) P.n):=by
 have hn:=hP.n7
 unfold d96
 rw[h2,zaf]
 refine zaa (fun i=>(k,lst (fun _=>rr 0) i,(P.n:Int),(i:Int))) P.n rfl (fun i hi=>?_) (b:=(k,lst (fun _=>rr 0) P.n)) ?_ ?_
 ·have hl:=zcm (l:=lst (fun _=>rr 0) i) (d:=rr 0) (by rw[zaf];omega)
  simp only[dlt hi,xab,show d49 0=some (rr 0)from zur (n:=0) (by omega) (by omega),xaa,hl,zbk (show i<9223372036854775807 by omega),←zhc]
 ·simp only[nlt (xak P.n),xac]
 simp only[h1,zaf]
 refine zaa (fun m=>(k,lst (fun c=>rr (frac (s.lieU P m c) s.D)) P.n,lst (parc P s) P.G,(P.G:Int),(m:Int))) P.G ?_ (fun g hg=>?_) (b:=(k,lst (fun c=>rr (frac (s.lie P c) s.D)) P.n)) ?_ ?_
 ·simp only[GS.lieU,sumN,show frac 0 s.D=0 by unfold frac;rw[xgw];simp];rfl
 ·simp only[dlt hg,d0le,zaf,xai,xab,tn,zam (parc P s) hg,parc,zaq,zbk (show g<9223372036854775807 by omega)]
  by_cases ha:s.at_ g<(P.p g).length
  ·obtain⟨c,c1,c2⟩:=GS.on_ex hP hg ha
   have c3:=GS.on_at c2
   have hU:=lieU_le (P:=P) (s:=s) g c (by omega)
   have hL:=lie_le hP hI c1
   have hk:=k_le hP hg
   have ht:=hP.tot5
   have hk2:=knum_le hP hI hg
   rw[dlt ha]
   simp only[xab,d0le,xai,tn,c3,dlt c1,zam (fun c=>rr (frac (s.lieU P g c) s.D)) c1,zaf]
   rw[zhl (by omega),xaa,d136_rr (num_small hP hI hg).sz2 (bz_nat (by omega)).sz2,xaa,frac_mul_nat,d104_rr (zbo hP hI (by omega)).sz2 (zbo hP hI hk2).sz2,xaa,zwn hI.D0,zen]
   have e:lst (upd (fun c=>rr (frac (s.lieU P g c) s.D)) c (rr (frac (s.lieU P g c+P.k g*s.num g) s.D))) P.n=lst (fun c=>rr (frac (s.lieU P (g+1) c) s.D)) P.n:=zay fun i hi=>by
    unfold upd GS.lieU
    by_cases h:i=c
    ·subst h;rw[if_pos rfl,sumN,if_pos c2]
    ·rw[if_neg h,sumN,if_neg fun h4=>h (GS.on_uniq h4 c2),xdl]
   rw[e]
  ·rw[nlt (by omega),xac]
   have e:lst (fun c=>rr (frac (s.lieU P g c) s.D)) P.n=lst (fun c=>rr (frac (s.lieU P (g+1) c) s.D)) P.n:=zay fun i hi=>by
    unfold GS.lieU
    rw[sumN,if_neg fun h4=>ha (GS.on_lt h4),xdl]
   rw[e]
 ·simp only[nlt (xak P.G),xac];rfl
 have e2:=zoj (k:=k) h2 (by omega) 2
 simp only[show d101 k 2=some (selI (fun i=>decide (s.st i=2)) P.n)from e2,xaa]
 obtain⟨L,hL⟩:∃L,selN (fun i=>decide (s.st i=2)) P.n=L:=⟨_,rfl⟩
 have hLi:(selI (fun i=>decide (s.st i=2)) P.n).length=L.length:=by rw[←hL,selI,xbw]
 have hLl:L.length≤7:=by rw[←hL,zca];have:=zbd (fun i=>decide (s.st i=2)) P.n;omega
 rw[hLi]
 refine zaa (fun j=>(k,lst (zed (fun c=>rr (frac (s.lie P c) s.D)) (L.take j) (rr (P.q:Rat))) P.n,selI (fun i=>decide (s.st i=2)) P.n,(L.length:Int),(j:Int))) L.length ?_ (fun j hj=>?_) (b:=lst (zed (fun c=>rr (frac (s.lie P c) s.D)) L (rr (P.q:Rat))) P.n) ?_ ?_
 ·rw[xei,znl];rfl
 ·have hj':j<(selN (fun i=>decide (s.st i=2)) P.n).length:=by rw[hL];exact hj
  have hg:=zhb hj'
  rw[hL]at hg
  have hq:=hP.q5
  simp only[dlt hj,d0le,hLi,xai,xab,tn,zjp hj',h3,zhl (show P.q≤9223372036854775807 by omega),xaa,zaf,dlt hg.1,zbk (show j<9223372036854775807 by omega),zen,zlh,hL]
  rw[zbg L 0 hj]
 ·simp only[nlt (xak L.length),xac,xbh]
 ·congr 1
  refine zay fun i hi=>?_
  unfold zed
  rw[vt_eq hI]
  by_cases h:s.st i=2
  ·rw[if_pos (by rw[←hL];exact zbn.2 ⟨hi,xag h⟩),xag h,zwf hI (.inl h),if_pos rfl,xdc]
   unfold GS.bar
   rw[zmo hI.D0]
  ·rw[if_neg (by rw[←hL];intro hm;exact h (xbl (zbn.1 hm).2)),xaj h]
   simp
end
def zvg{α:Type}(l:List α)(x:α){i:Nat}(h:i<l.length):(l.set i x).take (i+1)=l.take i++[x]:=by
 refine xjl fun j=>?_
 by_cases hj:j<i+1
 ·rw[xjk hj]
  by_cases h2:i=j
  ·subst h2
   rw[xjx h,xdv (by rw[xbj];omega),xbj,xeo (by omega),xho];rfl
  ·rw[xkl h2,xek (by rw[xbj];omega),xjk (by omega)]
 ·rw[xdh (by rw[xbj,xcd];omega),xdh (by rw[xbk,xbj];simp;omega)]
def zfv(g:Int→Bool)(s:List Int){j:Nat}(h:j<s.length):(s.take (j+1)).filter g=(s.take j).filter g++(if g (s.getD j 0)then [s.getD j 0]else []):=by
 rw[zbg s 0 h,xfe]
 congr 1
 rw[xey]
 cases hg:g (s.getD j 0)<;>rfl
def getD_of_drop{s t:List Int}{j:Nat}(h:s.drop j=t.drop j):s.getD j 0=t.getD j 0:=by
 have h1:=zmn s j 0 0
 have h2:=zmn t j 0 0
 rw[xdl]at h1 h2
 rw[←h1,←h2,h]
def zpf{s t:List Int}{j:Nat}(h:s.drop j=t.drop j):s.drop (j+1)=t.drop (j+1):=by
 rw[←xib,←xib,h]
def d100_eq{s:List Int}{f:Int→Option Bool}{g:Int→Bool}(hf:∀c∈s,f c=some (g c))(hs:s.length≤1000000):d100 s f=some (s.filter fun c=>!g c):=by
 unfold d100
 rw[d55_on hf (by omega)]
 have hle:=zet g s
 by_cases h:zac g s<s.length
 ·rw[if_pos h,xaa,xaj (show ¬((zac g s:Nat):Int)=-1 by omega),xac]
  obtain⟨i0,hi0⟩:∃i0,zac g s=i0:=⟨_,rfl⟩
  have hat:=zdh g s h
  have hlt:=zcw g s
  rw[hi0]at h hat hlt
  rw[hi0,zbk (by omega)]
  refine zcq (Q:=fun r=>r=some (s.filter fun c=>!g c)) (fun(m:Nat) (st:(List Int)×(Int→Option Bool)×Int×Int)=>∃(s':List Int) (i:Nat),st=(s',f,(i:Int),((i0+1+m:Nat):Int))∧s'.length=s.length∧i≤i0+m∧i0+1+m≤s.length∧s'.take i=(s.take (i0+1+m)).filter (fun c=>!g c)∧s'.drop (i0+1+m)=s.drop (i0+1+m)) (s.length-(i0+1)) ?_ ?_ ?_
  ·refine⟨s,i0,rfl,rfl,by omega,by omega,?_,rfl⟩
   rw[zfv _ s h,hat,show(!true)=false from rfl]
   simp only[xaw,xbf,xco]
   refine(xhn.2 fun x hx=>?_).symm
   obtain⟨k,hk,hkx⟩:=xcm hx
   rw[xbj]at hk
   have:=hlt k (by omega)
   rw[xae,xar (by omega)]at this
   rw[xhc]at hkx
   rw[←hkx]
   simpa using this
  ·rintro m st hm ⟨s',i,rfl,hl,hi,hmle,ht,hd⟩
   have hj:i0+1+m<s.length:=by omega
   have hgd:=getD_of_drop hd
   have hmem:s.getD (i0+1+m) 0∈s:=zci hj
   simp only[hl,dlt hj,d0le,xai,xab,tn,zaq,hgd,hf _ hmem,xaa]
   rw[show i0+1+(m+1)=i0+1+m+1 by omega]
   cases hg:g (s.getD (i0+1+m) 0)with
   |true=>
    refine⟨_,by rw[xaq,xac,zbk (by omega)],s',i,rfl,hl,by omega,by omega,?_,zpf hd⟩
    rw[zfv _ s hj,hg,ht];simp
   |false=>
    refine⟨_,by simp only[xao,xab,dlt (show i<s.length by omega),zbk (show i<9223372036854775807 by omega),zbk (show i0+1+m<9223372036854775807 by omega),xai],s'.set i (s.getD (i0+1+m) 0),i+1,rfl,by simpa using hl,by omega,by omega,?_,?_⟩
    ·rw[zvg _ _ (by omega),zfv _ s hj,hg,ht];simp
    ·rw[List.drop_set_of_lt (by omega)];exact zpf hd
  ·rintro st ⟨s',i,rfl,hl,hi,hmle,ht,hd⟩
   have e:i0+1+(s.length-(i0+1))=s.length:=by omega
   rw[e]at ht hd ⊢
   rw[xbh]at ht
   refine⟨(s',(i:Int)),by simp only[hl,nlt (xak s.length),xac],?_⟩
   have hil:i≤s'.length:=by omega
   have hlen:(List.take i s'++List.replicate (s'.length-i) 0).length=s'.length:=by simp;omega
   have c1:zbs (i:Int) (s'.length:Int) s'.length=true:=by
    unfold zbs
    simp only[xan,xam]
    omega
   have c2:zbs 0 (i:Int) s'.length=true:=by
    unfold zbs
    simp only[xan,xam]
    omega
   simp only[c1,xab,tn,hlen,c2]
   rw[List.take_append_of_le_length (by rw[xbj];omega),List.take_take,Nat.min_self,ht]
 ·rw[if_neg h,xaa]
  have hall:∀x∈s,g x=false:=fun x hx=>by
   cases hg:g x
   ·rfl
   ·exact absurd ((ziu g s).2 ⟨x,hx,hg⟩) h
  rw[xhn.2 fun x hx=>by rw[hall x hx];rfl]
  rfl
def d99_eq {c:CT} {lots:List Int} {tot q:Int} {pc:List (List Int × (Int × (Int × Rt)))} {st:Nat→Nat} {n:Nat} {kp:List Rt} {filled:Nat} {rest:List (List Rt) × (Int × (Int × (Int × (Int × (List RD × List Int)))))}
    {v kk:List Rt} {qu ex su:Rt} {el ex2 ti:List Int} {p:Nat→Bool} (hn:n≤7) (hf:filled≤1000) (hel:el.length≤1000) :
    d99 (c,lots,tot,q,pc,lst (fun i=>(st i:Int)) n,kp,(filled:Int),rest) (v,kk,qu,ex,su,el,ex2,ti) (selI p n)
      =some ((c,lots,tot,q,pc,lst (fun i=>((if p i then 1 else st i:Nat):Int)) n,kp,((filled+cntN p n:Nat):Int),rest),(v,kk,qu,ex,su,zdq (el++selI p n),ex2,ti)):=by
  unfold d99
  obtain⟨L,hL⟩:∃L,selN p n=L:=⟨_,rfl⟩
  have hLi:(selI p n).length=L.length:=by rw[←hL,selI,xbw]
  have hLc:cntN p n=L.length:=by rw[←hL,zca]
  have hLl:L.length≤7:=by rw[←hLc];have:=zbd p n;omega
  rw[hLi]
  refine zaa (fun j=>((c,lots,tot,q,pc,lst (fun i=>((zed st (L.take j) 1 i:Nat):Int)) n,kp,((filled+j:Nat):Int),rest),(v,kk,qu,ex,su,el++(selI p n).take j,ex2,ti),selI p n,(L.length:Int),(j:Int))) L.length ?_ (fun j hj=>?_) (b:=((c,lots,tot,q,pc,lst (fun i=>((zed st L 1 i:Nat):Int)) n,kp,((filled+L.length:Nat):Int),rest),(v,kk,qu,ex,su,el++selI p n,ex2,ti))) ?_ ?_
  · rw[xei,znl,xei,xco];rfl
  · have hj':j<(selN p n).length:=by rw[hL];exact hj
    have hg:=zhb hj'
    have hsg:=zjp hj'
    rw[hL]at hg hsg
    have hll:(el++(selI p n).take j).length+1≤4294967296:=by rw[xbk,xbj];omega
    simp only[dlt hj,d0le,hLi,xai,xab,tn,hsg,zaf,dlt hg.1,zcm hll,zbk (show j<9223372036854775807 by omega),zbk (show filled+j<9223372036854775807 by omega),zen]
    have e:lst (upd (fun i=>((zed st (L.take j) 1 i:Nat):Int)) (L.getD j 0) 1) n=lst (fun i=>((zed st (L.take (j+1)) 1 i:Nat):Int)) n:=zay fun i hi=>by
      rw[zbg L 0 hj,←zlh]
      unfold upd
      split<;>rfl
    rw[e,zbg (selI p n) 0 (by rw[hLi];exact hj),hsg,xcp]
    rfl
  · simp only[nlt (xak L.length),xac,xbh]
    rw[←hLi,xbh]
  · have hd:d125 (el++selI p n)=some (zdq (el++selI p n)):=by
      unfold d125
      rw[zce (by rw[xbk];omega)];rfl
    simp only[hd,xaa,hLc]
    have e:lst (fun i=>((zed st L 1 i:Nat):Int)) n=lst (fun i=>((if p i then 1 else st i:Nat):Int)) n:=zay fun i hi=>by
     unfold zed
     congr 1
     by_cases h:p i=true
     · rw[if_pos (by rw[←hL];exact zbn.2 ⟨hi,h⟩),if_pos h]
     · rw[if_neg (by rw[←hL];exact fun hm=>h (zbn.1 hm).2),if_neg h]
    rw[e]
def zcz(p:Nat→Bool):∀n:Nat,(selI p n).Pairwise (·< ·)
 | 0=>List.Pairwise.nil
 |n+1=>by
  rw[zev,xfr]
  refine⟨zcz p n,by split<;>simp,fun x hx y hy=>?_⟩
  obtain⟨i,rfl,h1,_⟩:=zal.1 hx
  split at hy
  ·simp at hy;subst hy;omega
  ·simp at hy
def zvm{l m:List Int}(hp:l.Perm m)(hs:m.Pairwise (·≤·)):zdq l=m:=by
 unfold zdq
 have h1:=List.mergeSort_perm l fun x y=>decide (x≤y)
 have h2:(l.mergeSort fun x y=>decide (x≤y)).Pairwise (·≤·):=by
  have:=List.pairwise_mergeSort (le:=fun x y:Int=>decide (x≤y)) (fun a b c h1 h2=>xag (Int.le_trans (xbl h1) (xbl h2))) (fun a b=>by simp only[xdj,xam];omega) l
  exact this.imp fun h=>xbl h
 exact(h1.trans hp).eq_of_pairwise (fun a b _ _ h3 h4=>Int.le_antisymm h3 h4) h2 hs
def sortI_selI(p:Nat→Bool)(n:Nat):zdq (selI p n)=selI p n:=zvm (xje _) ((zcz p n).imp fun h=>Int.le_of_lt h)
def sel_perm{p q:Nat→Bool}(h:∀i,p i=true→q i=false):∀n:Nat,(selI p n++selI q n).Perm (selI (fun i=>p i||q i) n)
 | 0=>xje _
 |n+1=>by
  have ih:=sel_perm h n
  rw[zev,zev,zev]
  cases hp:p n
  ·simp only[xaw,xbf,xco,xbp]
   cases hq:q n
   ·simp only[xaw,xbf,xco];exact ih
   ·simp only[if_true]
    rw[←xcp]
    exact ih.append_right _
  ·rw[h n hp]
   simp only[xaw,xbf,xco,xcx,if_true]
   refine List.Perm.trans ?_ (ih.append_right [(n:Int)])
   rw[xcp,xcp]
   exact List.Perm.append_left _ xkf
def sortI_two{p q:Nat→Bool}(h:∀i,p i=true→q i=false)(n:Nat):zdq (selI p n++selI q n)=selI (fun i=>p i||q i) n:=
 zvm (sel_perm h n) ((zcz _ n).imp fun h=>Int.le_of_lt h)
def ext0(ρ:Int→Rat)(l:List Int):List Int:=l.filter fun i=>l.all fun k=>decide (ρ i≤ρ k)
def sgR(least:Bool)(r:Int→Rat)(c:Int):Rat:=if least then r c else-r c
def extr_ext0(least:Bool)(r:Int→Rat)(l:List Int):extr least r l=ext0 (sgR least r) l:=by
 unfold extr ext0 sgR
 refine xfa fun i _=>?_
 congr 1
 funext k
 cases least
 ·simp only[xaw,xbf]
  exact xbv.2 ⟨fun h=>by grind,fun h=>by grind⟩
 ·rfl
def zmt{ρ:Int→Rat}{l:List Int}{x:Int}:x∈ext0 ρ l↔x∈l∧∀k∈l,ρ x≤ρ k:=by
 unfold ext0
 rw[xfy,xbt]
 simp only[xam]
def zso{ρ:Int→Rat}{l:List Int}(h:l≠ []):ext0 ρ l≠ []:=by
 obtain⟨i,h1,h2⟩:=zhe ρ h
 exact xfo (zmt.2 ⟨h1,h2⟩)
def zwr(ρ:Int→Rat):ext0 ρ []=[]:=rfl
def zsn(ρ:Int→Rat){l:List Int}(x:Int)(hl:l≠ []):ext0 ρ (l++[x])=if ρ x<ρ ((ext0 ρ l).headD 0)then [x]else if ρ x=ρ ((ext0 ρ l).headD 0)then ext0 ρ l++[x]else ext0 ρ l:=by
 have hy:=zfs (zso (ρ:=ρ) hl)
 generalize(ext0 ρ l).headD 0=y at hy ⊢
 obtain⟨h1,h2⟩:=zmt.1 hy
 have e:ext0 ρ (l++[x])=l.filter (fun i=>(l.all fun k=>decide (ρ i≤ρ k))&&decide (ρ i≤ρ x))++if(l.all fun k=>decide (ρ x≤ρ k))then [x]else []:=by
  unfold ext0
  rw[xfe]
  congr 1
  ·refine xfa fun i _=>?_
   rw[List.all_append];simp
  ·rw[xey,List.all_append]
   have:ρ x≤ρ x:=xhy
   simp[this]
 rw[e]
 by_cases c1:ρ x<ρ y
 ·rw[if_pos c1]
  have a1:l.filter (fun i=>(l.all fun k=>decide (ρ i≤ρ k))&&decide (ρ i≤ρ x))=[]:=by
   refine xgr.2 fun i hi hc=>?_
   simp only[xan,xam]at hc
   have:=h2 i hi
   grind
  have a2:(l.all fun k=>decide (ρ x≤ρ k))=true:=xbt.2 fun k hk=>xag (by have:=h2 k hk;grind)
  rw[a1,a2];rfl
 ·rw[if_neg c1]
  have a1:l.filter (fun i=>(l.all fun k=>decide (ρ i≤ρ k))&&decide (ρ i≤ρ x))=ext0 ρ l:=by
   unfold ext0
   refine xfa fun i hi=>?_
   cases hall:(l.all fun k=>decide (ρ i≤ρ k))
   ·rfl
   ·have:=xbl (xbt.1 hall y h1)
    rw[xax]
    exact xag (by grind)
  rw[a1]
  by_cases c2:ρ x=ρ y
  ·rw[if_pos c2]
   have a2:(l.all fun k=>decide (ρ x≤ρ k))=true:=xbt.2 fun k hk=>xag (by have:=h2 k hk;grind)
   rw[a2];rfl
  ·rw[if_neg c2]
   have a2:(l.all fun k=>decide (ρ x≤ρ k))=false:=by
    rw[List.all_eq_false]
    exact⟨y,h1,by simp only[xam];grind⟩
   rw[a2];simp
def ordQ(least:Bool)(a b:Rat):Int:=if least then cmpQ a b else 0-cmpQ a b
def ordQ_lt(least:Bool)(r:Int→Rat)(x y:Int):decide (ordQ least (r x) (r y)<0)=decide (sgR least r x<sgR least r y):=by
 refine xbv.2 ?_
 unfold ordQ sgR cmpQ
 cases least<;>simp only[xaw,xbf,if_true]
 ·by_cases h1:r x<r y
  ·rw[if_pos h1];constructor
   ·intro h;omega
   ·intro h;grind
  ·rw[if_neg h1]
   by_cases h2:r x=r y
   ·rw[if_pos h2];constructor
    ·intro h;omega
    ·intro h;grind
   ·rw[if_neg h2];constructor
    ·intro _;grind
    ·intro _;omega
 ·by_cases h1:r x<r y
  ·rw[if_pos h1];constructor
   ·intro h;exact h1
   ·intro h;omega
  ·rw[if_neg h1];constructor
   ·intro h;split at h<;>omega
   ·intro h;exact absurd h h1
def ordQ_eq(least:Bool)(r:Int→Rat)(x y:Int):decide (ordQ least (r x) (r y)=0)=decide (sgR least r x=sgR least r y):=by
 refine xbv.2 ?_
 unfold ordQ sgR cmpQ
 cases least<;>simp only[xaw,xbf,if_true]
 ·by_cases h1:r x<r y
  ·rw[if_pos h1];constructor
   ·intro h;omega
   ·intro h;grind
  ·rw[if_neg h1]
   by_cases h2:r x=r y
   ·rw[if_pos h2];constructor
    ·intro h;grind
    ·intro h;omega
   ·rw[if_neg h2];constructor
    ·intro _;omega
    ·intro _;grind
 ·by_cases h1:r x<r y
  ·rw[if_pos h1];constructor
   ·intro h;omega
   ·intro h;grind
  ·rw[if_neg h1];constructor
   ·intro h;split at h
    ·assumption
    ·omega
   ·intro h;rw[if_pos h]
def cmpQ_bounds(a b:Rat):-1≤cmpQ a b∧cmpQ a b≤1:=by
 unfold cmpQ;(repeat' split)<;>omega
def ziv(v:Int):∀l:List Int,zac (fun x=>decide (v=x)) l=l.idxOf v
 | []=>rfl
 |x::l=>by
  unfold zac
  rw[List.idxOf_cons,ziv v l]
  by_cases h:v=x
  ·subst h;simp
  ·have:(x == v)=false:=by simp;exact fun e=>h e.symm
   rw[this];simp[h]
def d147_eq{lots:List Int}(hl:lots.length≤1000){a b:Int}(ha:a∈lots)(hb:b∈lots):d147 a b lots=some ((zdb lots a:Int)-(zdb lots b:Int)):=by
 unfold d147
 have h1:=List.idxOf_lt_length_iff.2 ha
 have h2:=List.idxOf_lt_length_iff.2 hb
 rw[zuq a (by omega),zuq b (by omega),ziv,ziv,if_pos h1,if_pos h2]
 simp only[xaa]
 unfold zdb
 rw[zbx (by omega) (by omega)]
def d148_eq{x:List Int}{cmp:Int→Int→Option Int}{g:Int→Int→Int}(hx:x≠ [])(hl:x.length≤1000)(hc:∀a∈x,∀b∈x,cmp a b=some (g a b)):d148 x cmp=some (x.tail.foldl (fun m c=>if 0<g c m then c else m) (x.headD 0)):=by
 have hp:=xcr.2 hx
 unfold d148
 rw[xaj (show ¬((x.length:Int)<1) by omega),xac,show(decide (0≤0)&&decide ((0:Int)<(x.length:Int)))=true by rw[xag (show(0:Int)<(x.length:Int) by omega)];rfl,xab]
 have hmem:∀i,(x.tail.take i).foldl (fun m c=>if 0<g c m then c else m) (x.headD 0)∈x:=fun i=>by
  cases x with
  |nil=>exact absurd rfl hx
  |cons y x=>
   simp only[List.tail_cons,xht]
   rcases zmq (fun m c=>if 0<g c m then c else m) (fun a b=>by split<;>simp) (x.take i) y with h|h
   ·rw[h];simp
   ·exact xap _ (xcq h)
 refine zaa (fun i=>(x,cmp,(x.tail.take i).foldl (fun m c=>if 0<g c m then c else m) (x.headD 0),((i+1:Nat):Int))) (x.length-1) ?_ (fun i hi=>?_) (b:=x.tail.foldl (fun m c=>if 0<g c m then c else m) (x.headD 0)) ?_ rfl
 ·rw[xei,xkn]
  cases x with
  |nil=>exact absurd rfl hx
  |cons y x=>rfl
 ·have hlt:i+1<x.length:=by omega
  have hxm:x.getD (i+1) 0∈x:=zci hlt
  have ht:x.tail.getD i 0=x.getD (i+1) 0:=by
   cases x with
   |nil=>exact absurd rfl hx
   |cons y x=>rfl
  have hs:x.tail.take (i+1)=x.tail.take i++[x.getD (i+1) 0]:=by rw[zbg x.tail 0 (by rw[xjt];omega),ht]
  simp only[dlt hlt,d0le,xai,xab,tn,zaq,hc _ hxm _ (hmem i),xaa,zbk (show i+1<9223372036854775807 by omega),hs,xec,xgk,xkn]
  generalize(x.tail.take i).foldl (fun m c=>if 0<g c m then c else m) (x.headD 0)=m
  by_cases h:0<g (x.getD (i+1) 0) m
  ·rw[xag h,xab,if_pos h]
  ·rw[xaj h,xac,if_neg h]
 ·have e:x.length-1+1=x.length:=by omega
  rw[e]
  simp only[nlt (xak x.length),xac]
  rw[xbi (by rw[xjt];omega)]
def d149_eq{x:List Int}{cmp:Int→Int→Option Int}{g:Int→Int→Int}(hx:x≠ [])(hl:x.length≤1000)(hc:∀a∈x,∀b∈x,cmp a b=some (g a b)):d149 x cmp=some (x.tail.foldl (fun m c=>if g c m<0 then c else m) (x.headD 0)):=by
 have hp:=xcr.2 hx
 unfold d149
 rw[xaj (show ¬((x.length:Int)<1) by omega),xac,show(decide (0≤0)&&decide ((0:Int)<(x.length:Int)))=true by rw[xag (show(0:Int)<(x.length:Int) by omega)];rfl,xab]
 have hmem:∀i,(x.tail.take i).foldl (fun m c=>if g c m<0 then c else m) (x.headD 0)∈x:=fun i=>by
  cases x with
  |nil=>exact absurd rfl hx
  |cons y x=>
   simp only[List.tail_cons,xht]
   rcases zmq (fun m c=>if g c m<0 then c else m) (fun a b=>by split<;>simp) (x.take i) y with h|h
   ·rw[h];simp
   ·exact xap _ (xcq h)
 refine zaa (fun i=>(x,cmp,(x.tail.take i).foldl (fun m c=>if g c m<0 then c else m) (x.headD 0),((i+1:Nat):Int))) (x.length-1) ?_ (fun i hi=>?_) (b:=x.tail.foldl (fun m c=>if g c m<0 then c else m) (x.headD 0)) ?_ rfl
 ·rw[xei,xkn]
  cases x with
  |nil=>exact absurd rfl hx
  |cons y x=>rfl
 ·have hlt:i+1<x.length:=by omega
  have hxm:x.getD (i+1) 0∈x:=zci hlt
  have ht:x.tail.getD i 0=x.getD (i+1) 0:=by
   cases x with
   |nil=>exact absurd rfl hx
   |cons y x=>rfl
  have hs:x.tail.take (i+1)=x.tail.take i++[x.getD (i+1) 0]:=by rw[zbg x.tail 0 (by rw[xjt];omega),ht]
  simp only[dlt hlt,d0le,xai,xab,tn,zaq,hc _ hxm _ (hmem i),xaa,zbk (show i+1<9223372036854775807 by omega),hs,xec,xgk,xkn]
  generalize(x.tail.take i).foldl (fun m c=>if g c m<0 then c else m) (x.headD 0)=m
  by_cases h:g (x.getD (i+1) 0) m<0
  ·rw[xag h,xab,if_pos h]
  ·rw[xaj h,xac,if_neg h]
 ·have e:x.length-1+1=x.length:=by omega
  rw[e]
  simp only[nlt (xak x.length),xac]
  rw[xbi (by rw[xjt];omega)]
structure LotsOK(n:Nat)(lots:List Int):Prop where
 n1:1≤n
 n7:n≤7
 len:lots.length=n
 within:∀c∈lots,∃i:Nat,c=(i:Int)∧i<n
 nodup:lots.Nodup
def LotsOK.mem{n:Nat}{lots:List Int}(h:LotsOK n lots){i:Nat}(hi:i<n):(i:Int)∈lots:=by
 refine xgg fun hni=>?_
 have:=zby (n:=n) ((i:Int)::lots) (xdx.2 ⟨hni,h.nodup⟩) (fun x hx=>by
  rcases xbd.1 hx with rfl|hx
  ·omega
  ·obtain⟨j,rfl,hj⟩:=h.within x hx;omega)
 rw[xaz,h.len]at this
 omega
def d144_eq{n:Nat}{ties:Int}{tied lots:List Int}(h1:1≤ties)(h3:ties≤3)(hl:LotsOK n lots)(ht:tied≠ [])(hts:tied.Pairwise (·< ·))(htb:∀c∈tied,∃i:Nat,c=(i:Int)∧i<n)(htl:tied.length≤1000):d144 ties tied lots=some true:=by
 have hn1:=hl.n1
 have hn7:=hl.n7
 have hp:=xcr.2 ht
 unfold d144
 rw[zaq]
 simp only[hl.len,xaj (show ¬ties<1 by omega),xaj (show ¬3<ties by omega),xaj (show ¬(n:Int)<1 by omega),xaj (show ¬7<(n:Int) by omega),xaj (show ¬(tied.length:Int)=0 by omega),xao,xab,xac]
 refine zaa (fun i=>(tied,(n:Int),lst (fun v=>decide ((v:Int)∈lots.take i)) 7,lots,(n:Int),(i:Int))) n ?_ (fun i hi=>?_) (b:=.inl (tied,(n:Int))) ?_ ?_
 ·simp only[xei,xgp,xal];rfl
 ·have hil:i<lots.length:=by rw[hl.len];exact hi
  obtain⟨c,hc,hcn⟩:=hl.within _ (zci hil)
  have hnot:decide ((c:Int)∈lots.take i)=false:=xaj fun hm=>by
   have:=hl.nodup.sublist (List.take_sublist (i+1) lots)
   rw[zbg lots 0 hil,hc,xdp]at this
   exact this.2.2 _ hm _ (by simp) rfl
  simp only[dlt hi,hl.len,d0le,xai,xab,tn,zaq,hc,xaj (show ¬(c:Int)<0 by omega),xaj (show ¬(n:Int)≤(c:Int) by omega),xao,show decide ((c:Int)<7)=true from xag (by omega),zam (fun v=>decide ((v:Int)∈lots.take i)) (show c<7 by omega),hnot,xac,zen,zbk (show i<9223372036854775807 by omega)]
  have e:lst (upd (fun v=>decide ((v:Int)∈lots.take i)) c true) 7=lst (fun v=>decide ((v:Int)∈lots.take (i+1))) 7:=zay fun v hv=>by
   rw[zbg lots 0 hil,hc]
   unfold upd
   by_cases hvc:v=c
   ·subst hvc;simp
   ·rw[if_neg hvc]
    refine xbv.2 ?_
    rw[xbq,xbn]
    exact⟨.inl,fun hm=>hm.resolve_right fun e=>hvc (xfk.1 e)⟩
  rw[e]
 ·simp only[nlt (xak n),xac]
 ·simp only
  refine zaa (fun i=>(tied,(n:Int),tied,(tied.length:Int),(i:Int))) tied.length rfl (fun i hi=>?_) (b:=.inl ()) ?_ rfl
  ·obtain⟨c,hc,hcn⟩:=htb _ (zci hi)
   simp only[dlt hi,d0le,xai,xab,tn,zaq,hc,xaj (show ¬(c:Int)<0 by omega),xaj (show ¬(n:Int)≤(c:Int) by omega),xao,zbk (show i<9223372036854775807 by omega)]
   cases i with
   |zero=>rfl
   |succ i=>
    have hlt:tied.getD i 0<tied.getD (i+1) 0:=by
     rw[xae,xar (by omega),xae,xar hi]
     exact xej.1 hts i (i+1) (by omega) hi (by omega)
    rw[hc]at hlt
    simp only[show decide ((0:Int)<((i+1:Nat):Int))=true from xag (by omega),xab,wpred (show i<9223372036854775807 by omega),d0le,dlt (show i<tied.length by omega),xai,tn,xaj (show ¬(c:Int)≤tied.getD i 0 by omega),xac]
  ·simp only[nlt (xak tied.length),xac]
def RndOK(n:Nat)(r:List Rat):Prop:=r.length=n∧∀q∈r,Bz eB q
def map_getD_rr{r:List Rat}{c:Nat}(h:c<r.length):(r.map rr).getD c (false,[],[])=rr (r.getD c 0):=by
 rw[xae,xcv,xar h,xae,xar h];rfl
def zdf{α:Type}{l:List α}{d:α}{i:Nat}(h:i<l.length):l.getD i d∈l:=by
 rw[xae,xar h]
 exact xbc h
def RndOK.bz{n:Nat}{r:List Rat}(h:RndOK n r){c:Nat}(hc:c<n):Bz eB (zco r (c:Int)):=h.2 _ (zdf (by rw[h.1];exact hc))
def d172_eq{n:Nat}{r:List Rat}(h:RndOK n r){c:Nat}(hc:c<n):d172 (r.map rr) (c:Int)=some (rr (zco r (c:Int))):=by
 have hc':c<r.length:=by rw[h.1];exact hc
 unfold d172
 rw[xbw,dlt hc']
 simp only[xab,d0le,xai,tn,map_getD_rr hc']
 rfl
def w_ord(least:Bool)(a b:Rat):(bif !least then w (0-cmpQ a b)else cmpQ a b)=ordQ least a b:=by
 have:=cmpQ_bounds a b
 unfold ordQ
 cases least
 ·rw[xao,xab,zbx (by omega) (by omega)];rfl
 ·rfl
def zkv(l:List Int):l.getD 0 0=l.headD 0:=by cases l<;>rfl
def zqe(ρ:Int→Rat)(l:List Int):(ext0 ρ l).length≤l.length:=xfn _ _
def d146_eq{n:Nat}{r:List Rat}(h:RndOK n r){l:List Int}(hl:∀c∈l,∃i:Nat,c=(i:Int)∧i<n)(hll:l.length≤1000)(least:Bool):d146 l (r.map rr) least=some (extr least (zco r) l):=by
 rw[extr_ext0]
 unfold d146
 refine zaa (fun i=>(r.map rr,least,ext0 (sgR least (zco r)) (l.take i),l,(l.length:Int),(i:Int))) l.length rfl (fun i hi=>?_) (b:=ext0 (sgR least (zco r)) l) ?_ rfl
 ·obtain⟨c,hc,hcn⟩:=hl _ (zci hi)
  have hol:=zqe (sgR least (zco r)) (l.take i)
  rw[xbj]at hol
  simp only[dlt hi,d0le,xai,xab,tn,zaq,hc,zbk (show i<9223372036854775807 by omega)]
  rw[zbg l 0 hi,hc]
  by_cases hi0:l.take i=[]
  ·rw[hi0,zwr]
   have e:ext0 (sgR least (zco r)) ([]++[(c:Int)])=[(c:Int)]:=by
    have:sgR least (zco r) (c:Int)≤sgR least (zco r) (c:Int):=xhy
    simp[ext0,xey,this]
   rw[e]
   simp only[show decide ((0:Int)<(([]:List Int).length:Int))=false from rfl,xac,show decide ((-1:Int)≤0)=true from rfl,xab,zcm (l:=([]:List Int)) (d:=(c:Int)) (by simp)]
   rfl
  ·have hne:=zso (ρ:=sgR least (zco r)) hi0
   have hpos:=xcr.2 hne
   obtain⟨y,hy⟩:∃y,(ext0 (sgR least (zco r)) (l.take i)).headD 0=y:=⟨_,rfl⟩
   have hym:y∈l:=by
    have:=zfs hne
    rw[hy]at this
    exact xcq (zmt.1 this).1
   obtain⟨d,rfl,hdn⟩:=hl _ hym
   rw[zsn _ _ hi0,hy]
   generalize ext0 (sgR least (zco r)) (l.take i)=out at *
   have hlt1:=ordQ_lt least (zco r) (c:Int) (d:Int)
   have heq1:=ordQ_eq least (zco r) (c:Int) (d:Int)
   have hg0:(decide (0≤0)&&decide ((0:Int)<(out.length:Int)))=true:=by
    rw[xag (show(0:Int)<(out.length:Int) by omega)];rfl
   have hg1:decide ((0:Int)<(out.length:Int))=true:=xag (by omega)
   have hcut:zbs 0 0 out.length=true:=by
    unfold zbs
    simp only[xan,xam]
    omega
   have hb:=w_ord least (zco r (c:Int)) (zco r (d:Int))
   rw[hg0]
   simp only[hg1,xab,zkv,hy,d172_eq h hcn,d172_eq h hdn,xaa,d103_rr (h.bz hcn).sz2 (h.bz hdn).sz2,hcut,xei]
   have hcl:decide ((([]:List Int).length:Int)+(([(c:Int)]:List Int).length:Int)≤LIM)=true:=zcm (l:=([]:List Int)) (d:=(c:Int)) (by simp)
   have hol2:=zcm (l:=out) (d:=(c:Int)) (by omega)
   have key:∀o:Int,o=ordQ least (zco r (c:Int)) (zco r (d:Int))→(bif decide (o<0)then
     bif decide (o≤0)then
      bif decide ((([]:List Int).length:Int)+(([(c:Int)]:List Int).length:Int)≤LIM)then(some (Sum.inl (r.map rr,least,([]:List Int)++[(c:Int)],l,(l.length:Int),((i+1:Nat):Int))):Option ((List Rt×Bool×List Int×List Int×Int×Int)⊕List Int))else none
     else some (Sum.inl (r.map rr,least,([]:List Int),l,(l.length:Int),((i+1:Nat):Int)))
    else
     bif decide (o≤0)then
      bif decide ((out.length:Int)+(([(c:Int)]:List Int).length:Int)≤LIM)then some (Sum.inl (r.map rr,least,out++[(c:Int)],l,(l.length:Int),((i+1:Nat):Int)))else none
     else some (Sum.inl (r.map rr,least,out,l,(l.length:Int),((i+1:Nat):Int))))=some (.inl (r.map rr,least,if sgR least (zco r) (c:Int)<sgR least (zco r) (d:Int)then [(c:Int)]else if sgR least (zco r) (c:Int)=sgR least (zco r) (d:Int)then out++[(c:Int)]else out,l,(l.length:Int),((i+1:Nat):Int))):=by
    intro o ho
    rw[←ho]at hlt1 heq1
    rw[hcl,hol2]
    by_cases c1:o<0
    ·rw[xag c1]at hlt1
     rw[if_pos (xbl hlt1.symm),xag c1,xag (show o≤0 by omega)];rfl
    ·rw[xaj c1]at hlt1
     rw[if_neg (xee hlt1.symm),xaj c1]
     by_cases c2:o=0
     ·rw[xag c2]at heq1
      rw[if_pos (xbl heq1.symm),xag (show o≤0 by omega)];rfl
     ·rw[xaj c2]at heq1
      rw[if_neg (xee heq1.symm),xaj (show ¬o≤0 by omega)];rfl
   cases least
   ·rw[xao,xab]at hb ⊢
    exact key _ hb
   ·rw[xaq,xac]at hb ⊢
    exact key _ hb
 ·simp only[nlt (xak l.length),xac,xbh]
def ztp:∀{least:Bool} {rs:List (List Rat)} {l:List Int},l.length≤1→tieL least rs l=l
 |_,[],_,_=>rfl
 |least,r::rs,l,h=>by
  show tieL least rs (if 1<l.length then extr least (zco r) l else l)=l
  rw[if_neg (by omega)]
  exact ztp h
def tieL_snoc(least:Bool)(rs:List (List Rat))(r:List Rat)(l:List Int):tieL least (rs++[r]) l=if 1<(tieL least rs l).length then extr least (zco r) (tieL least rs l)else tieL least rs l:=by
 unfold tieL
 rw[xec];rfl
def tieL_append(least:Bool)(rs rs':List (List Rat))(l:List Int):tieL least (rs++rs') l=tieL least rs' (tieL least rs l):=by
 unfold tieL
 rw[xec]
def extr_len(least:Bool)(r:Int→Rat)(l:List Int):(extr least r l).length≤l.length:=xfn _ _
def zvf:∀(least:Bool) (rs:List (List Rat)) (l:List Int),(tieL least rs l).length≤l.length
 |_,[],_=>xak _
 |least,r::rs,l=>by
  show(tieL least rs (if 1<l.length then extr least (zco r) l else l)).length≤_
  refine xbb (zvf least rs _) ?_
  split
  ·exact extr_len _ _ _
  ·exact xak _
def d110_eq{n:Nat}{ties:Int}{E:List (List Rat)}{tied lots:List Int}{least:Bool}(h1:1≤ties)(h3:ties≤3)(hl:LotsOK n lots)(hE:∀r∈E,RndOK n r)(hEl:E.length≤1000000)(ht:tied≠ [])(hts:tied.Pairwise (·< ·))(htb:∀c∈tied,∃i:Nat,c=(i:Int)∧i<n)(htl:tied.length≤1000) :
  ∃b,d110 ties (E.map (List.map rr)) tied lots least=some (tieB ties E tied lots least,b,E.map (List.map rr)):=by
 have hcl:d145 tied=some tied:=by unfold d145;rw[zce (by omega)];rfl
 unfold d110
 rw[d144_eq h1 h3 hl ht hts htb htl]
 simp only[xaa,xaq,xac,hcl]
 have hfin:∀left:List Int,left=tieL least (zbc ties E) tied→∃b,(bif (decide ((left.length:Int)=1))then
   bif (decide (0≤0)&&decide (0<(left.length:Int)))then
    some ((List.getD left 0 0),false,E.map (List.map rr))
   else none
  else
   bif least then
    (d148 left (fun a a_1=>d147 a a_1 lots)).bind fun r_3=>
    some (r_3,true,E.map (List.map rr))
   else
    (d149 left (fun a_2 a_3=>d147 a_2 a_3 lots)).bind fun r_4=>
    some (r_4,true,E.map (List.map rr)))=some (tieB ties E tied lots least,b,E.map (List.map rr)):=by
  intro left hleft
  have hne:left≠ []:=by rw[hleft];exact tieL_ne ht
  have hlen:left.length≤tied.length:=by rw[hleft];exact zvf _ _ _
  have hlot:∀a∈left,a∈lots:=fun a ha=>by
   rw[hleft]at ha
   obtain⟨i,rfl,hi⟩:=htb _ (zlz ha)
   exact hl.mem hi
  have hll:=hl.len
  have hn7:=hl.n7
  unfold tieB
  simp only[←hleft]
  by_cases hone:left.length=1
  ·refine⟨false,?_⟩
   rw[if_pos hone,hone,zkv];rfl
  ·refine⟨true,?_⟩
   rw[if_neg hone,xaj (show ¬(left.length:Int)=1 by omega),xac]
   have hc:∀a∈left,∀b∈left,d147 a b lots=some ((zdb lots a:Int)-(zdb lots b:Int)):=fun a ha b hb=>d147_eq (by omega) (hlot a ha) (hlot b hb)
   cases least
   ·rw[xac,d149_eq hne (by omega) hc,xaa]
    unfold byLot
    simp only[xaw,xbf]
    congr 3
    funext m c
    by_cases h:zdb lots c<zdb lots m
    ·rw[if_pos h,if_pos (by omega)]
    ·rw[if_neg h,if_neg (by omega)]
   ·rw[xab,d148_eq hne (by omega) hc,xaa]
    unfold byLot
    simp only[if_true]
    congr 3
    funext m c
    by_cases h:zdb lots m<zdb lots c
    ·rw[if_pos h,if_pos (by omega)]
    ·rw[if_neg h,if_neg (by omega)]
 refine zic (Q:=fun r=>∃b,r=some (tieB ties E tied lots least,b,E.map (List.map rr))) (fun(M:Nat) (st:Int×(List (List Rt))×Bool×(List Int)×(List Int)×Int)=>∃i:Nat,st=(ties,E.map (List.map rr),least,lots,tieL least ((zbc ties E).take i) tied,(i:Int))∧i+M=E.length) E.length ⟨0,by rw[xei];rfl,by omega⟩ ?_
 rintro M st ⟨i,rfl,hM⟩
 have hsub:∀c∈tieL least ((zbc ties E).take i) tied,∃j:Nat,c=(j:Int)∧j<n:=fun c hc=>htb c (zlz hc)
 have hlen:=zvf least ((zbc ties E).take i) tied
 obtain⟨left,hleft⟩:∃left,tieL least ((zbc ties E).take i) tied=left:=⟨_,rfl⟩
 rw[hleft]at hsub hlen
 have hEm:(E.map (List.map rr)).length=E.length:=xbw ..
 simp only[hleft,hEm,zaq]
 by_cases c3:ties=3
 ·have hr:zbc ties E=[]:=by unfold zbc;rw[if_pos c3]
  have hq:left=tieL least (zbc ties E) tied:=by rw[←hleft,hr,List.take_nil]
  have hd3:(!decide (ties=3))=false:=by rw[xag c3];rfl
  refine .inr ⟨(E.map (List.map rr),least,lots,left),?_,hfin left hq⟩
  rw[hd3]
  simp only[xac]
  cases decide ((i:Int)<(E.length:Int))<;>cases decide (1<(left.length:Int))<;>rfl
 ·have hd3:(!decide (ties=3))=true:=by rw[xaj c3];rfl
  have hrl:(zbc ties E).length=E.length:=by
   unfold zbc
   rw[if_neg c3]
   split
   ·exact List.length_reverse
   ·rfl
  rw[hd3]
  rcases xda M with h0|h0
  ·have hq:left=tieL least (zbc ties E) tied:=by rw[←hleft,xbi (by omega)]
   refine .inr ⟨(E.map (List.map rr),least,lots,left),?_,hfin left hq⟩
   simp only[nlt (show E.length≤i by omega),xac]
  ·have hiE:i<E.length:=by omega
   by_cases hl1:1<left.length
   ·have hg:decide ((1:Int)<(left.length:Int))=true:=xag (by omega)
    have key:∀(r:List Rat) (z:List Rt),r∈E→(zbc ties E).getD i []=r→z=r.map rr→d146 left z least=some (tieL least ((zbc ties E).take (i+1)) tied):=by
     rintro r z hr hri rfl
     rw[d146_eq (hE r hr) hsub (by omega),zbg (zbc ties E) [] (by omega),tieL_snoc,hleft,hri,if_pos hl1]
    refine .inl ⟨(ties,E.map (List.map rr),least,lots,tieL least ((zbc ties E).take (i+1)) tied,((i+1:Nat):Int)),M-1,?_,by omega,i+1,rfl,by omega⟩
    simp only[dlt hiE,hg,xab,d0le,xai,tn,zbk (show i<9223372036854775807 by omega)]
    by_cases c1:ties=1
    ·have i1:w (w ((E.length:Int)-1)-(i:Int))=((E.length-1-i:Nat):Int):=by
      rw[zbx (n:=(E.length:Int)-1) (by omega) (by omega),zbx (by omega) (by omega)];omega
     have hgr:(zbc ties E).getD i []=E.getD (E.length-1-i) []:=by
      unfold zbc
      rw[if_neg c3,if_pos c1]
      rw[xae,List.getElem?_reverse hiE,xae]
     have hz:(E.map (List.map rr)).getD (E.length-1-i) []=(E.getD (E.length-1-i) []).map rr:=by
      rw[xae,xcv,xar (by omega),xae,xar (by omega)];rfl
     simp only[xag c1,xab,i1,d0le,dlt (show E.length-1-i<E.length by omega),xai,tn]
     rw[key _ _ (zdf (by omega)) hgr hz];rfl
    ·have hgr:(zbc ties E).getD i []=E.getD i []:=by
      unfold zbc
      rw[if_neg c3,if_neg c1]
     have hz:(E.map (List.map rr)).getD i []=(E.getD i []).map rr:=by
      rw[xae,xcv,xar hiE,xae,xar hiE];rfl
     simp only[xaj c1,xac]
     rw[key _ _ (zdf (by omega)) hgr hz];rfl
   ·have hg:decide ((1:Int)<(left.length:Int))=false:=xaj (by omega)
    have hq:left=tieL least (zbc ties E) tied:=by
     have e:=tieL_append least ((zbc ties E).take i) ((zbc ties E).drop i) tied
     rw[xez,hleft,ztp (l:=left) (by omega)]at e
     exact e.symm
    refine .inr ⟨(E.map (List.map rr),least,lots,left),?_,hfin left hq⟩
    simp only[dlt hiE,hg,xab,xac]
section
set_option maxHeartbeats 1000000 in
def d141_eq{c:CT}{lots:List Int}{tot q:Int}{pc:List (List Int×(Int×(Int×Rt)))}{stl:List Int}{kp:List Rt}{filled:Int}{E:List (List Rat)}{rest:Int×(Int×(Int×(Int×(List RD×List Int))))}
  {n:Nat} {v:Nat→Rat} {kk:List Rt} {qu ex su:Rt} {el ex2 ti cls:List Int} {ties:Int} {least:Bool} (hties:c.2.2.2.2.2.2.1=ties) (h1:1≤ties) (h3:ties≤3) (hl:LotsOK n lots) (hE:∀r∈E,RndOK n r) (hEl:E.length≤1000000)
  (hv:∀i,i<n→Bz eB (v i)) (hcn:cls≠ []) (hcs:cls.Pairwise (·< ·)) (hcb:∀x∈cls,∃i:Nat,x=(i:Int)∧i<n) (hcl:cls.length≤1000) :
  d141 (c,lots,tot,q,pc,stl,kp,filled,E.map (List.map rr),rest) (lst (fun i=>rr (v i)) n,kk,qu,ex,su,el,ex2,ti) cls least
   =some (if(extr least (fun x=>v x.toNat) cls).length=1 then(extr least (fun x=>v x.toNat) cls).headD 0 else tieB ties E (extr least (fun x=>v x.toNat) cls) lots least,(c,lots,tot,q,pc,stl,kp,filled,E.map (List.map rr),rest),(lst (fun i=>rr (v i)) n,kk,qu,ex,su,el,ex2,if(extr least (fun x=>v x.toNat) cls).length=1 then ti else extr least (fun x=>v x.toNat) cls)):=by
 unfold d141
 obtain⟨K,hK⟩:∃K:KT,(c,lots,tot,q,pc,stl,kp,filled,E.map (List.map rr),rest)=K:=⟨_,rfl⟩
 obtain⟨R,hR⟩:∃R:RD,(lst (fun i=>rr (v i)) n,kk,qu,ex,su,el,ex2,ti)=R:=⟨_,rfl⟩
 have hR1:R.1=lst (fun i=>rr (v i)) n:=by rw[←hR]
 rw[hK,hR]
 refine zaa (fun i=>(K,R,least,ext0 (sgR least (fun x=>v x.toNat)) (cls.take i),cls,(cls.length:Int),(i:Int))) cls.length rfl (fun i hi=>?_) (b:=(K,R,least,ext0 (sgR least (fun x=>v x.toNat)) cls)) ?_ ?_
 ·obtain⟨c,hc,hcn⟩:=hcb _ (zci hi)
  have hol:=zqe (sgR least (fun x=>v x.toNat)) (cls.take i)
  rw[xbj]at hol
  simp only[dlt hi,d0le,xai,xab,tn,zaq,hc,zbk (show i<9223372036854775807 by omega)]
  rw[zbg cls 0 hi,hc]
  by_cases hi0:cls.take i=[]
  ·rw[hi0,zwr]
   have e:ext0 (sgR least (fun x=>v x.toNat)) ([]++[(c:Int)])=[(c:Int)]:=by
    have:sgR least (fun x=>v x.toNat) (c:Int)≤sgR least (fun x=>v x.toNat) (c:Int):=xhy
    simp[ext0,xey,this]
   rw[e]
   rfl
  ·have hne:=zso (ρ:=sgR least (fun x=>v x.toNat)) hi0
   have hpos:=xcr.2 hne
   obtain⟨y,hy⟩:∃y,(ext0 (sgR least (fun x=>v x.toNat)) (cls.take i)).headD 0=y:=⟨_,rfl⟩
   have hym:y∈cls:=by
    have:=zfs hne
    rw[hy]at this
    exact xcq (zmt.1 this).1
   obtain⟨d,rfl,hdn⟩:=hcb _ hym
   rw[zsn _ _ hi0,hy]
   generalize ext0 (sgR least (fun x=>v x.toNat)) (cls.take i)=out at *
   have hlt1:ordQ least (v c) (v d)<0↔sgR least (fun x=>v x.toNat) (c:Int)<sgR least (fun x=>v x.toNat) (d:Int):=xbv.1 (ordQ_lt least (fun x=>v x.toNat) (c:Int) (d:Int))
   have heq1:ordQ least (v c) (v d)=0↔sgR least (fun x=>v x.toNat) (c:Int)=sgR least (fun x=>v x.toNat) (d:Int):=xbv.1 (ordQ_eq least (fun x=>v x.toNat) (c:Int) (d:Int))
   have hg0:(decide (0≤0)&&decide ((0:Int)<(out.length:Int)))=true:=by
    rw[xag (show(0:Int)<(out.length:Int) by omega)];rfl
   have hg1:decide ((0:Int)<(out.length:Int))=true:=xag (by omega)
   have hb:=w_ord least (v c) (v d)
   rw[hg0]
   have hol2:=zcm (l:=out) (d:=(c:Int)) (by omega)
   simp only[hg1,xab,zkv,hy,d0le,tn,hR1,zaf,dlt hcn,dlt hdn,xai,zam (fun i=>rr (v i)) hcn,zam (fun i=>rr (v i)) hdn,d103_rr (hv c hcn).sz2 (hv d hdn).sz2,xaa,hol2]
   have key:∀o:Int,o=ordQ least (v c) (v d)→(bif decide (o<0)then
     (some (Sum.inl (K,R,least,[(c:Int)],cls,(cls.length:Int),((i+1:Nat):Int))):Option ((KT×RD×Bool×List Int×List Int×Int×Int)⊕(KT×RD×Bool×List Int)))
    else
     bif decide (o=0)then some (Sum.inl (K,R,least,out++[(c:Int)],cls,(cls.length:Int),((i+1:Nat):Int)))
     else some (Sum.inl (K,R,least,out,cls,(cls.length:Int),((i+1:Nat):Int))))=some (.inl (K,R,least,if sgR least (fun x=>v x.toNat) (c:Int)<sgR least (fun x=>v x.toNat) (d:Int)then [(c:Int)]else if sgR least (fun x=>v x.toNat) (c:Int)=sgR least (fun x=>v x.toNat) (d:Int)then out++[(c:Int)]else out,cls,(cls.length:Int),((i+1:Nat):Int))):=by
    intro o ho
    rw[←ho]at hlt1 heq1
    by_cases c1:o<0
    ·rw[if_pos (hlt1.1 c1),xag c1];rfl
    ·rw[if_neg fun h=>c1 (hlt1.2 h),xaj c1]
     by_cases c2:o=0
     ·rw[if_pos (heq1.1 c2),xag c2];rfl
     ·rw[if_neg fun h=>c2 (heq1.2 h),xaj c2];rfl
   cases least
   ·rw[xao,xab]at hb ⊢
    exact key _ hb
   ·rw[xaq,xac]at hb ⊢
    exact key _ hb
 ·simp only[nlt (xak cls.length),xac,xbh]
 ·rw[←extr_ext0]
  have htne:extr least (fun x=>v x.toNat) cls≠ []:=extr_ne hcn
  have htl:=extr_len least (fun x=>v x.toNat) cls
  have hts:(extr least (fun x=>v x.toNat) cls).Pairwise (·< ·):=hcs.sublist List.filter_sublist
  have htb:∀x∈extr least (fun x=>v x.toNat) cls,∃i:Nat,x=(i:Int)∧i<n:=fun x hx=>hcb x (extr_sub hx)
  generalize extr least (fun x=>v x.toNat) cls=tied at *
  by_cases hone:tied.length=1
  ·simp only[if_pos hone]
   rw[hone,zkv,←hR];rfl
  ·simp only[if_neg hone]
   rw[xaj (show ¬(tied.length:Int)=1 by omega),xac]
   obtain⟨b,hb⟩:=d110_eq (least:=least) h1 h3 hl hE hEl htne hts htb (by omega)
   simp only[←hK,←hR,hties,hb,xaa]
def zmp{a b c d:Nat}(hb:0<b)(hd:0<d):frac a b*frac c d=frac (a*c) (b*d):=by
 unfold frac
 have h1:(b:Rat)≠0:=by
  have:(0:Rat)<(b:Rat):=by exact_mod_cast hb
  intro e
  rw[e]at this
  exact absurd this (by decide)
 have h2:(d:Rat)≠0:=by
  have:(0:Rat)<(d:Rat):=by exact_mod_cast hd
  intro e
  rw[e]at this
  exact absurd this (by decide)
 rw[xjz,xjz]
 grind
def frac_cancel{a b c:Nat}(hb:0<b)(hc:0<c):frac (a*c) (b*c)=frac a b:=by
 rw[←zmp hb hc]
 have:frac c c=1:=by
  have:=zmo (q:=1) hc
  rw[xko]at this
  exact this
 rw[this,Rat.mul_one]
def nxt_congr{p:List Int}{st st':Nat→Nat}(h:∀i,st i=0↔st' i=0)(k:Nat):nxt p st k=nxt p st' k:=by
 unfold nxt
 congr 3
 funext c
 exact xbv.2 (not_congr (h _))
def upd_upd{α:Type}(f:Nat→α)(i:Nat)(x y:α):upd (upd f i x) i y=upd f i y:=by
 funext j;unfold upd;split<;>rfl
variable {P:GP} {s:GS}
set_option maxHeartbeats 1000000 in
def d143_eq(hP:P.OK)(hI:GI P s)(hG:P.G≤1000000){c:CT}{lots:List Int}{tot q:Int}{kp:List Rt}{filled:Int}{rest:List (List Rt)×(Int×(Int×(Int×(Int×(List RD×List Int)))))}
  {st st':Nat→Nat} {keep:Nat→Rat} {x a b:Nat} (hst:∀i,st i=0↔st' i=0) (hb:0<b) (hab:Bz eB (frac a b)) :
  d143 (c,lots,tot,q,lst (parc P s) P.G,lst (fun i=>(st i:Int)) P.n,kp,filled,rest) (x:Int) (rr (frac a b))
   =some (c,lots,tot,q,lst (parc P (s.move P st' keep x a b)) P.G,lst (fun i=>(st i:Int)) P.n,kp,filled,rest):=by
 unfold d143
 simp only[zaf]
 refine zaa (fun g=>((c,lots,tot,q,lst (fun j=>if j<g then parc P (s.move P st' keep x a b) j else parc P s j) P.G,lst (fun i=>(st i:Int)) P.n,kp,filled,rest),(x:Int),rr (frac a b),(P.G:Int),(g:Int))) P.G ?_ (fun g hg=>?_) (b:=(c,lots,tot,q,lst (parc P (s.move P st' keep x a b)) P.G,lst (fun i=>(st i:Int)) P.n,kp,filled,rest)) ?_ rfl
 ·rfl
 ·have hgF:(fun j=>if j<g then parc P (s.move P st' keep x a b) j else parc P s j) g=parc P s g:=by simp
  have hnext:upd (fun j=>if j<g then parc P (s.move P st' keep x a b) j else parc P s j) g (parc P (s.move P st' keep x a b) g)=fun j=>if j<g+1 then parc P (s.move P st' keep x a b) j else parc P s j:=by
   funext j
   unfold upd
   by_cases h:j=g
   ·subst h;rw[if_pos rfl,if_pos (by omega)]
   ·rw[if_neg h]
    show(if j<g then parc P (s.move P st' keep x a b) j else parc P s j)=_
    by_cases h2:j<g
    ·rw[if_pos h2,if_pos (by omega)]
    ·rw[if_neg h2,if_neg (by omega)]
  have hplen:=hP.plen g hg
  generalize(fun j=>if j<g then parc P (s.move P st' keep x a b) j else parc P s j)=F at hgF hnext ⊢
  have hw:w ((g:Int)+1)=((g+1:Nat):Int):=by rw[zbx (by omega) (by omega)];omega
  have stay:s.on P g x=false→lst F P.G=lst (fun j=>if j<g+1 then parc P (s.move P st' keep x a b) j else parc P s j) P.G:=fun h=>by
   rw[←hnext]
   refine zay fun i hi=>?_
   unfold upd
   by_cases hig:i=g
   ·subst hig
    rw[if_pos rfl,hgF]
    unfold parc
    have e1:(s.move P st' keep x a b).at_ i=s.at_ i:=by
     show(if s.on P i x then _ else s.at_ i)=_
     rw[h];rfl
    have e2:(s.move P st' keep x a b).num i=s.num i*b:=by
     show(if s.on P i x then _ else s.num i*b)=_
     rw[h];rfl
    have e3:(s.move P st' keep x a b).D=s.D*b:=rfl
    rw[e1,e2,e3,frac_cancel hI.D0 hb]
   ·rw[if_neg hig]
  simp only[dlt hg,d0le,zaf,xai,xab,tn,zaq,zam F hg,hgF,parc,xaf,hw]
  by_cases ha:s.at_ g<(P.p g).length
  ·obtain⟨d,d1,d2⟩:=GS.on_ex hP hg ha
   have d3:=GS.on_at d2
   rw[show decide (((P.p g).length:Int)≤(s.at_ g:Int))=false from xaj (by omega)]
   simp only[xao,xab,dlt ha,d0le,xai,d3,zge,tn]
   by_cases hdx:d=x
   ·subst hdx
    simp only[xah,xaq,xac]
    rw[d136_rr (num_small hP hI hg).sz2 hab.sz2,xaa,zmp hI.D0 hb]
    simp only[zen,zam (upd F g _) hg,zbu,upd_upd,zbk (show s.at_ g<9223372036854775807 by omega)]
    have hn1:=nxt_ge (P.p g) st (s.at_ g+1)
    have hn2:=nxt_le st (show s.at_ g+1≤(P.p g).length by omega)
    refine zaa (fun m=>((c,lots,tot,q,lst (upd F g (P.p g,(P.k g:Int),((s.at_ g+1+m:Nat):Int),rr (frac (s.num g*a) (s.D*b)))) P.G,lst (fun i=>(st i:Int)) P.n,kp,filled,rest),(d:Int),rr (frac a b),(g:Int),(P.G:Int),(g:Int))) (nxt (P.p g) st (s.at_ g+1)-(s.at_ g+1)) ?_ (fun m hm=>?_) (b:=((c,lots,tot,q,lst (upd F g (P.p g,(P.k g:Int),((nxt (P.p g) st (s.at_ g+1):Nat):Int),rr (frac (s.num g*a) (s.D*b)))) P.G,lst (fun i=>(st i:Int)) P.n,kp,filled,rest),(d:Int),rr (frac a b),(P.G:Int),(g:Int))) ?_ ?_
    ·rfl
    ·have hlt:s.at_ g+1+m<(P.p g).length:=by omega
     obtain⟨e,e1,e2⟩:=hP.prefs g hg _ (zci hlt)
     have hbf:=zud (p:=P.p g) (st:=st) (k:=s.at_ g+1) (i:=s.at_ g+1+m) (by omega) (by omega)
     rw[e1,xaf]at hbf
     have hd0:decide ((st e:Int)=0)=false:=xaj (by omega)
     simp only[zam (upd F g _) hg,zbu,dlt hlt,d0le,xai,xab,tn,e1,zaf,dlt e2,zam (fun i=>(st i:Int)) e2,hd0,xao,zen,upd_upd,zbk (show s.at_ g+1+m<9223372036854775807 by omega)]
     rfl
    ·obtain⟨N,hN⟩:∃N,nxt (P.p g) st (s.at_ g+1)=N:=⟨_,rfl⟩
     rw[hN]at hn1 hn2 ⊢
     rw[show s.at_ g+1+(N-(s.at_ g+1))=N by omega]
     by_cases hlt:N<(P.p g).length
     ·obtain⟨e,e1,e2⟩:=hP.prefs g hg _ (zci hlt)
      have hat:=nxt_at (p:=P.p g) (st:=st) (k:=s.at_ g+1) (by rw[hN];exact hlt)
      rw[hN,e1,xaf]at hat
      have hd0:decide ((st e:Int)=0)=true:=xag (by omega)
      simp only[zam (upd F g _) hg,zbu,dlt hlt,d0le,xai,xab,xac,tn,e1,zaf,dlt e2,zam (fun i=>(st i:Int)) e2,hd0,xaq]
     ·simp only[zam (upd F g _) hg,zbu,tn,nlt (show(P.p g).length≤N by omega),xac]
    ·have e:(P.p g,(P.k g:Int),((nxt (P.p g) st (s.at_ g+1):Nat):Int),rr (frac (s.num g*a) (s.D*b)))=parc P (s.move P st' keep d a b) g:=by
      unfold parc
      have e1:(s.move P st' keep d a b).at_ g=nxt (P.p g) st (s.at_ g+1):=by
       show(if s.on P g d then _ else s.at_ g)=_
       rw[d2,nxt_congr hst];rfl
      have e2:(s.move P st' keep d a b).num g=s.num g*a:=by
       show(if s.on P g d then s.num g*a else _)=_
       rw[d2];rfl
      have e3:(s.move P st' keep d a b).D=s.D*b:=rfl
      rw[e1,e2,e3]
     rw[e,hnext]
     simp only[hw]
     rfl
   ·have hoff:s.on P g x=false:=by
     cases h:s.on P g x
     ·rfl
     ·exact absurd (GS.on_uniq d2 h) hdx
    simp only[xaj hdx,xao,xab]
    rw[stay hoff]
    rfl
  ·have hoff:s.on P g x=false:=by
    cases h:s.on P g x
    ·rfl
    ·exact absurd (GS.on_lt h) ha
   rw[show decide (((P.p g).length:Int)≤(s.at_ g:Int))=true from xag (by omega)]
   simp only[xaq,xac,xab]
   rw[stay hoff]
   rfl
 ·have e:lst (fun j=>if j<P.G then parc P (s.move P st' keep x a b) j else parc P s j) P.G=lst (parc P (s.move P st' keep x a b)) P.G:=zay fun i hi=>if_pos hi
  simp only[nlt (xak P.G),xac,e]
end
section
def rdT(r:Rd):RD:=(r.votes.map rr,r.keep.map rr,rr r.quota,rr r.exh,rr r.sur,r.el,r.ex,r.ti)
def KTof(P:GP)(c:CT)(s:GS)(st:Nat→Nat)(fl:Nat)(rs:List Rd):KT:=
 (c,P.lots,(P.tot:Int),(P.q:Int),lst (parc P s) P.G,lst (fun i=>(st i:Int)) P.n,lst (fun i=>rr (s.keep i)) P.n,(fl:Int),(rs.map Rd.votes).map (List.map rr),3,(P.seats:Int),0,(P.n:Int),rs.map rdT,rs.flatMap Rd.el)
variable {P:GP} {s:GS}
def zgq(p:Nat→Bool)(g:Int→Bool)(n:Nat):(selI p n).filter g=selI (fun i=>p i&&g (i:Int)) n:=by
 unfold selI
 rw[List.filter_map,←selN_filter]
 rfl
def sum_sel(p:Nat→Bool)(f:Nat→Nat):∀n:Nat,((selN p n).map f).sum=sumN (fun i=>if p i then f i else 0) n
 | 0=>rfl
 |n+1=>by
  rw[zrh,xdd,xke,sum_sel p f n,sumN]
  congr 1
  cases p n<;>simp
def zqu(l:List Nat)(j:Nat):(l.take j).sum≤l.sum:=by
 conv=>rhs;rw[←xez j l]
 rw[xke]
 omega
def zsw(hI:GI P s):cntN (fun i=>decide (s.st i=1)) P.n+cntN (fun i=>decide (s.st i=2)) P.n+cntN (s.el1 P) P.n=s.e1 P+s.e2 P:=by
 unfold cntN GS.e1 GS.e2 cntN
 rw[←zbz,←zbz,←zbz]
 refine zak fun i hi=>?_
 rcases zch (P:=P) (s:=s) i with⟨h0,h1,h2,_⟩|⟨h0,h2⟩
 ·simp[h0,h1,h2]
 ·simp[h2,h0]
def tied_eq(hI:GI P s)(st:Nat→Nat)(c:Nat)(most:Bool):extr (!most) (fun x=>frac (s.vt P x.toNat) s.D) (selI (fun i=>decide (st i=c)) P.n)=selI (zpm P (s.vt P) st c most) P.n:=by
 unfold extr
 rw[zgq]
 refine zho fun i hi=>?_
 unfold zpm
 congr 1
 rw[xff,xbt,xbt]
 constructor
 ·intro h k hk
  by_cases hc:st k=c
  ·have:=h (k:Int) (zal.2 ⟨k,rfl,xbu.1 hk,xag hc⟩)
   cases most
   ·simpa[hc,zir hI.D0]using this
   ·simpa[hc,zir hI.D0]using this
  ·simp[hc]
 ·intro h x hx
  obtain⟨k,rfl,hk,hc⟩:=zal.1 hx
  have:=h k (xbu.2 hk)
  rw[hc]at this
  cases most
  ·simpa[zir hI.D0]using this
  ·simpa[zir hI.D0]using this
def frac_div(hD:0<s.D){a b:Nat}(hb:0<b):frac a s.D/frac b s.D=frac a b:=by
 unfold frac
 have h1:(s.D:Rat)≠0:=by
  have:(0:Rat)<(s.D:Rat):=by exact_mod_cast hD
  intro e
  rw[e]at this
  exact absurd this (by decide)
 have h2:(b:Rat)≠0:=by
  have:(0:Rat)<(b:Rat):=by exact_mod_cast hb
  intro e
  rw[e]at this
  exact absurd this (by decide)
 grind
def frac_pos{a b:Nat}(ha:0<a)(hb:0<b):0<frac a b:=by
 have:=(frac_lt (a:=0) (b:=a) hb).2 ha
 have e:frac 0 b=0:=by unfold frac;rw[xgw];simp
 rwa[e]at this
structure RsOK(P:GP)(s:GS)(rs:List Rd):Prop where
 rnd:∀r∈rs,RndOK P.n r.votes∧r.el.length≤7
 len:rs.length≤7
 keep:∀i,i<P.n→Bz eB (s.keep i)
def zsa(hP:P.OK):LotsOK P.n P.lots:=⟨hP.n1,hP.n7,hP.lotn,hP.lots,hP.lotd⟩
def zwo:∀{rs:List Rd},(∀r∈rs,r.el.length≤7)→(rs.flatMap Rd.el).length≤7*rs.length
 | [],_=>by simp
 |r::rs,h=>by
  rw[xed,xbk,xaz]
  have:=zwo (rs:=rs) fun x hx=>h x (xap _ hx)
  have:=h r (by simp)
  omega
def votes_rnd(hP:P.OK)(hI:GI P s):RndOK P.n (lst (fun i=>frac (s.vt P i) s.D) P.n):=⟨zaf _ _,fun q hq=>by
 obtain⟨i,hi,rfl⟩:=mem_lst.1 hq
 exact zbo hP hI (zvc hP hI hi)⟩
def bz_zero:Bz eB (0:Rat):=by
 have:=bz_nat (n:=0) (by decide)
 exact this
def zdn(P:GP)(s:GS)(el:List Int):RD:=(lst (fun i=>rr (frac (s.vt P i) s.D)) P.n,lst (fun i=>rr (s.keep i)) P.n,rr (P.q:Rat),rr (frac (P.tot*s.D-sumN (s.vt P) P.n) s.D),rr (frac (sumN (fun i=>if s.st1 P i=1 then s.vt P i-s.bar P else 0) P.n) s.D),el,[],[])
def sur_le(hP:P.OK)(hI:GI P s):sumN (fun i=>if s.st1 P i=1 then s.vt P i-s.bar P else 0) P.n≤P.tot*s.D:=
 xbb (zdp fun i _=>by split<;>omega) (znh hP hI)
def q_frac(hI:GI P s):(P.q:Rat)=frac (s.bar P) s.D:=(zmo hI.D0).symm
def bar_le(hP:P.OK)(hI:GI P s):Bz eB (frac (s.bar P) s.D):=by rw[←q_frac hI];exact zrm hP
def d102_eq(hP:P.OK)(hI:GI P s){c:Nat}(hc:c<P.n){r:RD}(h1:r.1=lst (fun i=>rr (frac (s.vt P i) s.D)) P.n)(h2:r.2.2.1=rr (P.q:Rat)):d102 (c:Int) r=some (decide (s.vt P c<s.bar P)):=by
 unfold d102
 simp only[h1,h2,zaf,d0le,dlt hc,xai,xab,tn,zam (fun i=>rr (frac (s.vt P i) s.D)) hc]
 rw[d103_rr (zbo hP hI (zvc hP hI hc)).sz2 (zrm hP).sz2,xaa,q_frac hI]
 congr 1
 refine xbv.2 ?_
 rw[←frac_lt hI.D0]
 unfold cmpQ
 by_cases h:frac (s.vt P c) s.D<frac (s.bar P) s.D
 ·rw[if_pos h];exact⟨fun _=>h,fun _=>by omega⟩
 ·rw[if_neg h];exact⟨fun hc=>by split at hc<;>omega,fun hc=>absurd hc h⟩
set_option maxHeartbeats 1000000 in
def d105_eq(hP:P.OK)(hI:GI P s)(hG:P.G≤1000000){rs:List Rd}(hR:RsOK P s rs){c:CT}(hc:c.2.2.2.2.2.2.1=P.ties)(fl:Nat)(hf:s.fin P=false)(hm:s.most P=true)(el:List Int) :
  d105 (KTof P c s (s.st1 P) fl rs) (zdn P s el)=some (KTof P c (s.trans P (rs.map Rd.votes)) (s.trans P (rs.map Rd.votes)).st fl rs,(zdn P s el).1,(zdn P s el).2.1,(zdn P s el).2.2.1,(zdn P s el).2.2.2.1,(zdn P s el).2.2.2.2.1,el,[],s.tiedR P):=by
 have hn7:=hP.n7
 have hq5:=hP.q5
 obtain⟨x,x1,x2,x3⟩:=zgs hP hI hf (rs.map Rd.votes)
 rw[hm,if_pos rfl]at x3
 obtain⟨_,k2,k3⟩:=zqx hI x2 x3
 have hb:=bar_pos hP hI
 have hvx:=zvc hP hI x2
 have htie:extr false (fun x=>frac (s.vt P x.toNat) s.D) (selI (fun i=>decide (s.st1 P i=1)) P.n)=s.tied P:=by
  have:=tied_eq hI (s.st1 P) 1 true
  unfold GS.tied
  rw[hm]
  exact this
 have hcls:selI (fun i=>decide (s.st1 P i=1)) P.n≠ []:=xfo (zal.2 ⟨x,rfl,x2,xag x3⟩)
 have hcl:(selI (fun i=>decide (s.st1 P i=1)) P.n).length≤1000:=by rw[zat];have:=zbd (fun i=>decide (s.st1 P i=1)) P.n;omega
 unfold d105
 rw[show d101 (KTof P c s (s.st1 P) fl rs) 1=some (selI (fun i=>decide (s.st1 P i=1)) P.n)from zoj (k:=KTof P c s (s.st1 P) fl rs) rfl (by omega) 1]
 have hd:=d141_eq (c:=c) (lots:=P.lots) (tot:=(P.tot:Int)) (q:=(P.q:Int)) (pc:=lst (parc P s) P.G) (stl:=lst (fun i=>(s.st1 P i:Int)) P.n) (kp:=lst (fun i=>rr (s.keep i)) P.n) (filled:=(fl:Int)) (E:=rs.map Rd.votes) (rest:=(3,(P.seats:Int),0,(P.n:Int),rs.map rdT,rs.flatMap Rd.el)) (v:=fun i=>frac (s.vt P i) s.D) (kk:=(zdn P s el).2.1) (qu:=(zdn P s el).2.2.1) (ex:=(zdn P s el).2.2.2.1) (su:=(zdn P s el).2.2.2.2.1) (el:=el) (ex2:=[]) (ti:=[]) (least:=false) hc (by have:=hP.ties1;omega) hP.ties3 (zsa hP) (fun r hr=>by
   obtain⟨r',h1,rfl⟩:=xdg.1 hr
   exact(hR.rnd r' h1).1) (by rw[xbw];have:=hR.len;omega) (fun i hi=>zbo hP hI (zvc hP hI hi)) hcls (zcz _ _) (fun y hy=>by
   obtain⟨i,h1,h2,_⟩:=zal.1 hy
   exact⟨i,h1,h2⟩) hcl
 rw[htie]at hd
 have hpick:(if(s.tied P).length=1 then(s.tied P).headD 0 else tieB P.ties (rs.map Rd.votes) (s.tied P) P.lots false)=(x:Int):=by
  rw[←x1];unfold GS.pick;rw[hm];rfl
 rw[hpick]at hd
 rw[xaa,show d141 (KTof P c s (s.st1 P) fl rs) (zdn P s el) (selI (fun i=>decide (s.st1 P i=1)) P.n) false=_ from hd,xaa]
 have hbz:Bz eB (frac (s.vt P x-s.bar P) (s.vt P x)):=zll (zki hP hI (by omega)) (zki hP hI hvx) (by decide)
 have h180:=d143_eq (keep:=upd s.keep x (frac (s.vt P x-s.bar P) (s.vt P x))) hP hI hG (c:=c) (lots:=P.lots) (tot:=(P.tot:Int)) (q:=(P.q:Int)) (kp:=lst (fun i=>rr (s.keep i)) P.n) (filled:=(fl:Int)) (rest:=((rs.map Rd.votes).map (List.map rr),3,(P.seats:Int),0,(P.n:Int),rs.map rdT,rs.flatMap Rd.el)) (st:=s.st1 P) (st':=upd (s.st1 P) x 2) (x:=x) (a:=s.vt P x-s.bar P) (b:=s.vt P x) (fun i=>by
  unfold upd
  by_cases h:i=x
  ·subst h;rw[if_pos rfl,x3];omega
  ·rw[if_neg h]) (by omega) hbz
 simp only[d0le,zaf,dlt x2,xai,xab,tn,zam (fun i=>rr (frac (s.vt P i) s.D)) x2,zhl (show P.q≤9223372036854775807 by omega),xaa,d98_rr (zbo hP hI hvx).sz2 (zrm hP).sz2,q_frac hI,zqd hI.D0 k3]
 have hdiv:d142 (rr (frac (s.vt P x-s.bar P) s.D)) (rr (frac (s.vt P x) s.D))=some (rr (frac (s.vt P x-s.bar P) (s.vt P x)),true):=by
  rw[d142_rr (zbo hP hI (by omega)).sz2 (zbo hP hI hvx).sz2 (frac_pos (by omega) hI.D0),frac_div hI.D0 (by omega)]
 have hd132:d98 (rr (frac (s.vt P x) s.D)) (rr (frac (s.bar P) s.D))=some (rr (frac (s.vt P x-s.bar P) s.D)):=by
  rw[d98_rr (zbo hP hI hvx).sz2 (bar_le hP hI).sz2,zqd hI.D0 k3]
 rw[hd132,xaa,hdiv,xaa]
 simp only[h180,xaa,zaf,dlt x2,xab,zen]
 have hxn:(s.pick P (rs.map Rd.votes)).toNat=x:=by rw[x1];rfl
 congr 1
 unfold KTof GS.trans GS.tiedR zdn
 simp only[hxn]
 have e1:lst (upd (fun i=>(s.st1 P i:Int)) x 2) P.n=lst (fun i=>((s.move P (upd (s.st1 P) x 2) (upd s.keep x (frac (s.vt P x-s.bar P) (s.vt P x))) x (s.vt P x-s.bar P) (s.vt P x)).st i:Int)) P.n:=zay fun i hi=>by
  show upd (fun i=>(s.st1 P i:Int)) x 2 i=((upd (s.st1 P) x 2 i:Nat):Int)
  unfold upd;split<;>rfl
 have e2:lst (upd (fun i=>rr (s.keep i)) x (rr (frac (s.vt P x-s.bar P) (s.vt P x)))) P.n=lst (fun i=>rr ((s.move P (upd (s.st1 P) x 2) (upd s.keep x (frac (s.vt P x-s.bar P) (s.vt P x))) x (s.vt P x-s.bar P) (s.vt P x)).keep i)) P.n:=zay fun i hi=>by
  show upd (fun i=>rr (s.keep i)) x _ i=rr (upd s.keep x _ i)
  unfold upd;split<;>rfl
 rw[e1,e2,q_frac hI]
 rfl
set_option maxHeartbeats 1000000 in
def d106_eq(hP:P.OK)(hI:GI P s)(hG:P.G≤1000000){rs:List Rd}(hR:RsOK P s rs){c:CT}(hc:c.2.2.2.2.2.2.1=P.ties)(fl:Nat)(hf:s.fin P=false)(hm:s.most P=false)(el:List Int) :
  d106 (KTof P c s (s.st1 P) fl rs) (zdn P s el)=some (KTof P c (s.excl P (rs.map Rd.votes)) (s.excl P (rs.map Rd.votes)).st fl rs,(zdn P s el).1,(zdn P s el).2.1,(zdn P s el).2.2.1,(zdn P s el).2.2.2.1,(zdn P s el).2.2.2.2.1,el,[s.pick P (rs.map Rd.votes)],s.tiedR P):=by
 have hn7:=hP.n7
 obtain⟨x,x1,x2,x3⟩:=zgs hP hI hf (rs.map Rd.votes)
 rw[hm]at x3
 have x3':s.st1 P x=0:=by simpa using x3
 have htie:extr true (fun x=>frac (s.vt P x.toNat) s.D) (selI (fun i=>decide (s.st1 P i=0)) P.n)=s.tied P:=by
  have:=tied_eq hI (s.st1 P) 0 false
  unfold GS.tied
  rw[hm]
  exact this
 have hcls:selI (fun i=>decide (s.st1 P i=0)) P.n≠ []:=xfo (zal.2 ⟨x,rfl,x2,xag x3'⟩)
 have hcl:(selI (fun i=>decide (s.st1 P i=0)) P.n).length≤1000:=by rw[zat];have:=zbd (fun i=>decide (s.st1 P i=0)) P.n;omega
 unfold d106
 rw[show d101 (KTof P c s (s.st1 P) fl rs) 0=some (selI (fun i=>decide (s.st1 P i=0)) P.n)from zoj (k:=KTof P c s (s.st1 P) fl rs) rfl (by omega) 0]
 have hd:=d141_eq (c:=c) (lots:=P.lots) (tot:=(P.tot:Int)) (q:=(P.q:Int)) (pc:=lst (parc P s) P.G) (stl:=lst (fun i=>(s.st1 P i:Int)) P.n) (kp:=lst (fun i=>rr (s.keep i)) P.n) (filled:=(fl:Int)) (E:=rs.map Rd.votes) (rest:=(3,(P.seats:Int),0,(P.n:Int),rs.map rdT,rs.flatMap Rd.el)) (v:=fun i=>frac (s.vt P i) s.D) (kk:=(zdn P s el).2.1) (qu:=(zdn P s el).2.2.1) (ex:=(zdn P s el).2.2.2.1) (su:=(zdn P s el).2.2.2.2.1) (el:=el) (ex2:=[]) (ti:=[]) (least:=true) hc (by have:=hP.ties1;omega) hP.ties3 (zsa hP) (fun r hr=>by
   obtain⟨r',h1,rfl⟩:=xdg.1 hr
   exact(hR.rnd r' h1).1) (by rw[xbw];have:=hR.len;omega) (fun i hi=>zbo hP hI (zvc hP hI hi)) hcls (zcz _ _) (fun y hy=>by
   obtain⟨i,h1,h2,_⟩:=zal.1 hy
   exact⟨i,h1,h2⟩) hcl
 rw[htie]at hd
 have hpick:(if(s.tied P).length=1 then(s.tied P).headD 0 else tieB P.ties (rs.map Rd.votes) (s.tied P) P.lots true)=(x:Int):=by
  rw[←x1];unfold GS.pick;rw[hm];rfl
 rw[hpick]at hd
 rw[xaa,show d141 (KTof P c s (s.st1 P) fl rs) (zdn P s el) (selI (fun i=>decide (s.st1 P i=0)) P.n) true=_ from hd,xaa]
 have h180:=d143_eq (keep:=upd s.keep x 0) hP hI hG (c:=c) (lots:=P.lots) (tot:=(P.tot:Int)) (q:=(P.q:Int)) (kp:=lst (fun i=>rr (upd s.keep x 0 i)) P.n) (filled:=(fl:Int)) (rest:=((rs.map Rd.votes).map (List.map rr),3,(P.seats:Int),0,(P.n:Int),rs.map rdT,rs.flatMap Rd.el)) (st:=upd (s.st1 P) x 3) (st':=upd (s.st1 P) x 3) (x:=x) (a:=1) (b:=1) (fun i=>Iff.rfl) (by omega) (zll (xiw (by decide)) (xiw (by decide)) (by decide))
 have hone:rr (frac 1 1)=rr (1:Rat):=by rw[zwm];rfl
 have e1:lst (upd (fun i=>(s.st1 P i:Int)) x 3) P.n=lst (fun i=>((upd (s.st1 P) x 3 i:Nat):Int)) P.n:=zay fun i hi=>by
  unfold upd;split<;>rfl
 have e2:lst (upd (fun i=>rr (s.keep i)) x (rr 0)) P.n=lst (fun i=>rr (upd s.keep x 0 i)) P.n:=zay fun i hi=>by
  unfold upd;split<;>rfl
 have hz0:d49 0=some (rr 0):=zur (n:=0) (by omega) (by omega)
 have hz1:d49 1=some (rr 1):=zur (n:=1) (by omega) (by omega)
 rw[hone]at h180
 simp only[d0le,zaf,dlt x2,xai,xab,tn,hz0,hz1,xaa,zen,e1,e2,h180]
 have hxn:(s.pick P (rs.map Rd.votes)).toNat=x:=by rw[x1];rfl
 unfold KTof GS.excl GS.tiedR zdn
 simp only[hxn,x1]
 rfl
end
end Go.Proofs.YtfgjbkjddcjlfaaGreat
