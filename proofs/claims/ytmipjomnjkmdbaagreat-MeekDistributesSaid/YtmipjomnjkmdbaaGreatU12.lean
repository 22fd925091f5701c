/- Part 12 of what stands below the statement. -/
import Derived.Test.YtmipjomnjkmdbaaGreatU11
set_option linter.unusedSimpArgs false
set_option linter.unusedVariables false
namespace Go.Proofs.YtmipjomnjkmdbaaGreat
open Go Go.X
theorem zmc{α β γ:Type}{f:α→Option (α⊕β)}{k:β→Option γ}{a0:α}{Q:Option γ→Prop}(R:Nat→α→Prop)(n:Nat)(h0:R n a0)(hs:∀i a,i<n→R (i+1) a→∃a',f a=some (.inl a')∧R i a')(he:∀a,R 0 a→∃b,f a=some (.inr b)∧Q (k b)):Q ((zaa f a0).bind k):=by
 refine zbq (Q:=Q) (fun i a=>i≤n∧R (n-i) a) n ⟨xbn _,h0⟩ ?_ ?_
 ·rintro i a hi ⟨h1,h2⟩
  rw[show n-i=n-(i+1)+1 by omega]at h2
  obtain⟨a',h3,h4⟩:=hs (n-(i+1)) a (by omega) h2
  exact⟨a',h3,hi,h4⟩
 ·rintro a ⟨_,h⟩
  rw[Nat.sub_self]at h
  exact he a h
theorem getD_set_ne(l:List Int){i j:Nat}(x:Int)(h:i≠j):(l.set i x).getD j 0=l.getD j 0:=by
 simp only[xac,xhf h]
theorem zmv(n i:Nat):(List.replicate n (0:Int)).getD i 0=0:=by
 rw[xac,xgj]
 split<;>rfl
theorem short_step{P V q r t x d X:Nat}(h:V=q*d+P*4294967296*r+(t+P*x))(hX:X=r*4294967296+x):V=(q+P*(X/d))*d+P*(X%d)+t:=by
 have e:=xem X d
 have e1:P*X=P*(X/d)*d+P*(X%d):=by
  rw[xbf,xbc (X/d),←xcd,e]
 have e2:P*X=P*4294967296*r+P*x:=by rw[hX,xcd,xbf,xbc r]
 rw[xbj]
 omega
theorem d202_eq{a:List Int}(ha:IsL a)(la:a.length≤1073741824){d:Nat}(hd:0<d)(hd2:d<4294967296):∃q,d202 a (d:Int)=some (q,((nv a%d:Nat):Int))∧IsL q∧q.length=a.length∧nv q=nv a/d:=by
 unfold d202
 simp only[xaw,d0le,zbo (n:=a.length) (by omega),xah,xad,tn]
 have hd0:decide ((d:Int)=0)=false:=decide_eq_false (by omega)
 refine zmc (Q:=fun r=>∃q,r=some (q,((nv a%d:Nat):Int))∧IsL q∧q.length=a.length∧nv q=nv a/d) (fun(i:Nat) (st:(List Int)×Int×(List Int)×Int×Int)=>∃(q:List Int) (r:Nat),st=(a,(d:Int),q,(r:Int),(i:Int)-1)∧i≤a.length∧IsL q∧q.length=a.length∧r<d∧(∀k,k<i→q.getD k 0=0)∧nv a=nv q*d+4294967296^i*r+nv (a.take i)) a.length ?_ ?_ ?_
 ·refine⟨_,0,by rw[zaz (by omega) (by omega)];rfl,Nat.le_refl _,IsL.zeros _,by simp,hd,fun k _=>zmv _ k,by simp[zdd]⟩
 ·rintro i st hi ⟨q,r,rfl,hia,hL,hlen,hr,hz,hv⟩
  obtain⟨x,hx1,hx2,hx3⟩:=zdg ha i
  have hi1:(((i+1:Nat):Int))-1=(i:Int):=by omega
  obtain⟨X,hX⟩:∃X,r*4294967296+x=X:=⟨_,rfl⟩
  have hX1:X/d<4294967296:=by
   rw[xde hd]
   have:(r+1)*4294967296≤d*4294967296:=xam _ hr
   rw[xbc 4294967296]
   omega
  have hX2:X%d<d:=xdh _ hd
  have t1:Int.tdiv (X:Int) (d:Int)=((X/d:Nat):Int):=rfl
  have t2:Int.tmod (X:Int) (d:Int)=((X%d:Nat):Int):=rfl
  have hw:w ((i:Int)-1)=(i:Int)-1:=zaz (by omega) (by omega)
  simp only[hi1,d0le,dlt (show i<a.length by omega),dlt (show i<q.length by omega),hd0,xal,xad,xah,tn,hx1,or64w (show r<4294967296 by omega) hx2,hX,t1,t2,zap (show X/d<18446744073709551616 by omega),zap (show X%d<18446744073709551616 by omega),zcn,xck hX1,hw]
  have e1:=zht q i (((X/d:Nat):Int)) (by omega)
  rw[hz i (by omega),xan]at e1
  refine⟨_,rfl,_,_,rfl,by omega,hL.set i (Int.natCast_nonneg _) (by rw[show(4294967296:Int)=((4294967296:Nat):Int)from rfl];exact Int.ofNat_lt.2 hX1),by simpa using hlen,hX2,fun k hk=>by rw[getD_set_ne _ _ (by omega)];exact hz k (by omega),?_⟩
  have e2:nv (q.set i (((X/d:Nat):Int)))=nv q+4294967296^i*(X/d):=by simpa using e1
  rw[e2]
  rw[xbi,hx3]at hv
  exact short_step hv hX.symm
 ·rintro st ⟨q,r,rfl,hia,hL,hlen,hr,hz,hv⟩
  refine⟨(q,(r:Int)),rfl,q,?_,hL,hlen,?_⟩
  ·simp only[xdn,nv,xgo,Nat.one_mul,xda]at hv
   rw[hv,xbc,Nat.mul_add_mod,xck hr]
  ·simp only[xdn,nv,xgo,Nat.one_mul,xda]at hv
   rw[hv,xbc,Nat.mul_add_div hd,xed hr,xda]
theorem shl_nat{x n:Nat}(hn:n≤31):(x:Int)*2^(min (Int.toNat (n:Int)) 64)=((x*2^n:Nat):Int):=by
 rw[tn,show min n 64=n by omega];simp
theorem shr_nat{x n:Nat}(hn:n≤31):Int.fdiv (x:Int) (2^(min (Int.toNat (n:Int)) 64))=((x/2^n:Nat):Int):=by
 rw[tn,show min n 64=n by omega]
 have:((2:Int)^n)=((2^n:Nat):Int):=by simp
 rw[this,xgb _ (Int.natCast_nonneg _)]
 rfl
theorem zld{n:Nat}(hn:n≤31):2^n*2^(32-n)=4294967296:=by
 rw[←xdo,show n+(32-n)=32 by omega]
theorem low_half{x n:Nat}(hn:n≤31):x*2^n%4294967296=x%2^(32-n)*2^n:=by
 rw[←zld hn,xbc x,Nat.mul_mod_mul_left,xbc]
theorem low_top{x n o:Nat}(hn:n≤31)(ho:o<2^n):o+x*2^n%4294967296<4294967296:=by
 rw[low_half hn]
 have h1:x%2^(32-n)<2^(32-n):=xdh _ (xff (by decide))
 have h2:=xam (2^n) h1
 rw[xbc (2^(32-n)),zld hn,xey]at h2
 omega
theorem or32{o x n:Nat}(hn:n≤31)(ho:o<2^n):(BitVec.ofInt 32 (o:Int)|||BitVec.ofInt 32 ((x*2^n%4294967296:Nat):Int)).toNat=o+x*2^n%4294967296:=by
 have h2:o<4294967296:=by have:=low_top (x:=x) hn ho;omega
 rw[xha,zgf 32 _ (by omega),zgf 32 _ (xdh _ (by decide)),low_half hn]
 exact or_add ho
theorem left_step{P v lo hi x t T:Nat}(hv:v=t*T)(hlo:x*T=lo+4294967296*hi):v+P*lo+P*4294967296*hi=(t+P*x)*T:=by
 rw[xbj,←hv,xbf P x T,hlo,xcd,←xbf];omega
theorem set_set_nv{out:List Int}(hL:IsL out){i o lo hi:Nat}(h:i+1<out.length)(ho:out.getD i 0=(o:Int))(hlt:nv out<4294967296^(i+1))(h1:o+lo<4294967296)(h2:hi<4294967296) :
  IsL ((out.set i ((o+lo:Nat):Int)).set (i+1) (hi:Int))∧nv ((out.set i ((o+lo:Nat):Int)).set (i+1) (hi:Int))=nv out+4294967296^i*lo+4294967296^i*4294967296*hi:=by
 have q1:=hL.set i (x:=((o+lo:Nat):Int)) (by omega) (by omega)
 refine⟨q1.set _ (by omega) (by omega),?_⟩
 have e1:=zht out i ((o+lo:Nat):Int) (by omega)
 rw[ho,xan,xan,xcd]at e1
 have e2:=zix q1 (i:=i+1) (hi:Int) (by simpa using h) (zhs hL (by omega) (by omega) (by omega) hlt)
 rw[e2,xan,xbi]
 omega
theorem d204_eq{a:List Int}(ha:IsL a)(la:a.length≤1073741824){n:Nat}(hn:n≤31):∃out,d204 a (n:Int)=some out∧IsL out∧out.length=a.length+1∧nv out=nv a*2^n:=by
 unfold d204
 have hT:2^n<4294967296:=xhb (by decide) (show n<32 by omega)
 have hT0:0<2^n:=xff (by decide)
 simp only[zbc (show a.length<9223372036854775807 by omega),xaw,d0le,zbo (n:=a.length+1) (by omega),xah,xad,tn]
 refine zbq (Q:=fun r=>∃out,r=some out∧IsL out∧out.length=a.length+1∧nv out=nv a*2^n) (fun(i:Nat) (st:Int×(List Int)×(List Int)×Int×Int)=>∃(out:List Int),st=((n:Int),out,a,(a.length:Int),(i:Int))∧IsL out∧out.length=a.length+1∧nv out=nv (a.take i)*2^n) a.length ?_ ?_ ?_
 ·exact⟨_,rfl,IsL.zeros _,by simp,by simp[zdd,nv]⟩
 ·rintro i st hi ⟨out,rfl,hL,hlen,hv⟩
  obtain⟨x,hx1,hx2,hx3⟩:=zdg ha i
  have htop:=top_lt ha i
  have hlt:nv out<4294967296^i*2^n:=by rw[hv];exact xfu htop hT0
  have ho1:out.getD i 0=((nv out/4294967296^i:Nat):Int):=by
   rw[zes hL]
   have:nv out/4294967296^i<2^n:=xdw hlt
   rw[xck (by omega)]
  have ho2:nv out/4294967296^i<2^n:=xdw hlt
  obtain⟨o,ho⟩:∃o,nv out/4294967296^i=o:=⟨_,rfl⟩
  rw[ho]at ho1 ho2
  have hlt1:nv out<4294967296^(i+1):=by
   rw[xbi]
   exact xaq hlt (xcj _ (by omega))
  obtain⟨v,hvx⟩:∃v,x*2^n=v:=⟨_,rfl⟩
  have hv64:v<4294967296*4294967296:=by rw[←hvx];exact Nat.mul_lt_mul'' hx2 hT
  have hor:=or32 (x:=x) hn ho2
  have hlo:=low_top (x:=x) hn ho2
  rw[hvx]at hor hlo
  have s1:wu32 ((o+v%4294967296:Nat):Int)=((o+v%4294967296:Nat):Int):=by rw[zcn,xck hlo]
  have hhi:v/4294967296<4294967296:=by omega
  have s2:wu32 ((v/4294967296:Nat):Int)=((v/4294967296:Nat):Int):=by rw[zcn,xck hhi]
  simp only[dlt hi,d0le,dlt (show i<out.length by omega),zbc (show i<9223372036854775807 by omega),List.length_set,dlt (show i+1<out.length by omega),xad,xah,tn,hx1,ho1,zap (show x<18446744073709551616 by omega)]
  rw[show(x:Int)*2^(min n 64)=(v:Int) by have:=shl_nat (x:=x) hn;rw[tn,hvx]at this;exact this]
  simp only[zap (show v<18446744073709551616 by omega),zcn (n:=v),hor,s1,shr32,zap (show v/4294967296<18446744073709551616 by omega),s2]
  obtain⟨q1,q2⟩:=set_set_nv hL (i:=i) (lo:=v%4294967296) (hi:=v/4294967296) (by omega) ho1 hlt1 hlo hhi
  refine⟨_,rfl,_,rfl,q1,by simpa using hlen,?_⟩
  rw[q2,hx3]
  exact left_step hv (by rw[hvx];omega)
 ·rintro st ⟨out,rfl,hL,hlen,hv⟩
  rw[xax (Nat.le_refl _)]at hv
  exact⟨out,by simp only[nlt (Nat.le_refl a.length),xae],out,rfl,hL,hlen,hv⟩
theorem right_digit{X n:Nat}(hn:n≤31):(X%4294967296+X/4294967296%4294967296*4294967296)/2^n%4294967296=X/2^n%4294967296:=by
 have hT0:0<2^n:=xff (by decide)
 obtain⟨z,hz⟩:∃z,X%4294967296+X/4294967296%4294967296*4294967296=z:=⟨_,rfl⟩
 have e:X=z+2^n*(2^(32-n)*(X/4294967296/4294967296)*4294967296):=by
  rw[xbf,←xbf (2^n),zld hn]
  omega
 rw[hz]
 conv=>rhs;rw[e]
 rw[xhc _ _ hT0,Nat.add_mul_mod_self_right]
theorem or64r{a b:Nat}(ha:a<4294967296)(hb:b<4294967296):wu64 (((BitVec.ofInt 64 (b:Int)|||BitVec.ofInt 64 (wu64 ((a:Int)*2^(min (Int.toNat 32) 64)))).toNat:Nat):Int)=((b+a*4294967296:Nat):Int):=by
 rw[shl32,zap (n:=a*4294967296) (by omega),xha,Nat.or_comm,←xha,or64 ha hb,zap (by omega)]
 congr 1
 omega
theorem d206_eq{a:List Int}(ha:IsL a)(la:a.length≤1073741824){n:Nat}(hn:n≤31):∃out,d206 a (n:Int)=some out∧IsL out∧out.length=a.length∧nv out=nv a/2^n:=by
 unfold d206
 have hT0:0<2^n:=xff (by decide)
 simp only[xaw,d0le,zbo (n:=a.length) (by omega),xah,xad,tn]
 refine zbq (Q:=fun r=>∃out,r=some out∧IsL out∧out.length=a.length∧nv out=nv a/2^n) (fun(i:Nat) (st:(List Int)×Int×(List Int)×Int×Int)=>∃(out:List Int),st=(a,(n:Int),out,(a.length:Int),(i:Int))∧IsL out∧out.length=a.length∧nv out=nv a/2^n%4294967296^i) a.length ?_ ?_ ?_
 ·exact⟨_,rfl,IsL.zeros _,by simp,by simp[zdd,nv,Nat.mod_one]⟩
 ·rintro i st hi ⟨out,rfl,hL,hlen,hv⟩
  have g0:=zes ha i
  have g1:=zes ha (i+1)
  rw[xbi,←xct]at g1
  have hlt:nv out<4294967296^i:=by rw[hv];exact xdh _ (znk i)
  have hd:=right_digit (X:=nv a/4294967296^i) hn
  obtain⟨X,hX⟩:∃X,nv a/4294967296^i=X:=⟨_,rfl⟩
  rw[hX]at g0 g1 hd
  have b0:X%4294967296<4294967296:=xdh _ (by decide)
  have b1:X/4294967296%4294967296<4294967296:=xdh _ (by decide)
  obtain⟨z,hz⟩:∃z,X%4294967296+X/4294967296%4294967296*4294967296=z:=⟨_,rfl⟩
  rw[hz]at hd
  have hzb:z<18446744073709551616:=by omega
  have hzd:z/2^n<18446744073709551616:=xfa (xcy _ _) hzb
  have sh:Int.fdiv (z:Int) (2^(min n 64))=((z/2^n:Nat):Int):=by have:=shr_nat (x:=z) hn;rwa[tn]at this
  simp only[dlt hi,zfu ha,zbc (show i<9223372036854775807 by omega),d0le,dlt (show i<out.length by omega),xad,xah,xab,g0,g1,or64r b1 b0,hz,tn,sh,zap hzd,zcn,hd]
  have e1:=zix hL (i:=i) (((X/2^n%4294967296:Nat):Int)) (by omega) hlt
  rw[xan]at e1
  refine⟨_,rfl,_,rfl,hL.set i (by omega) (by omega),by simpa using hlen,?_⟩
  rw[e1,hv,←hX,xct,xbc (4294967296^i) (2^n),←xct,Nat.mod_pow_succ]
 ·rintro st ⟨out,rfl,hL,hlen,hv⟩
  refine⟨out,by simp only[nlt (Nat.le_refl a.length),xae],out,rfl,hL,hlen,?_⟩
  rw[hv]
  exact xck (xfa (xcy _ _) (zoc ha))
end Go.Proofs.YtmipjomnjkmdbaaGreat
namespace Go.Proofs.YtmipjomnjkmdbaaGreat
open Go Go.X
theorem zgn{α β γ:Type}{f:α→Option (α⊕β)}{k:β→Option γ}{a0:α}{Q:Option γ→Prop}(R:Nat→α→Prop)(n:Nat)(h0:R n a0)(hs:∀m a,R m a→(∃a' m',f a=some (.inl a')∧m'<m∧R m' a')∨∃b,f a=some (.inr b)∧Q (k b)):Q ((zaa f a0).bind k):=by
 have key:∀M m a,m<M→R m a→∃b,zaa f a=some b∧Q (k b):=by
  intro M
  induction M with
  |zero=>intro m a h;omega
  |succ M ih=>
   intro m a hm hr
   rcases hs m a hr with⟨a',m',h1,h2,h3⟩|⟨b,h1,h2⟩
   ·obtain⟨b,h4,h5⟩:=ih m' a' (by omega) h3
    exact⟨b,zgo h1 h4,h5⟩
   ·exact⟨b,zdw h1,h2⟩
 obtain⟨b,h1,h2⟩:=key (n+1) n a0 (by omega) h0
 rw[h1]
 exact h2
theorem two_top{v:List Int}(hv:IsL v){m:Nat}(hm:v.length=m+2):∃h s t:Nat,v.getD (m+1) 0=(h:Int)∧v.getD m 0=(s:Int)∧h<4294967296∧s<4294967296∧t<4294967296^m∧nv v=(h*4294967296+s)*4294967296^m+t:=by
 have g0:=zes hv m
 have g1:=zes hv (m+1)
 rw[xbi,←xct]at g1
 have hlt:=zoc hv
 rw[hm,show m+2=m+1+1 by omega,xbi,xbi,xbf]at hlt
 have hY:=xdw hlt
 have hdm:=xem (nv v) (4294967296^m)
 have hml:=xdh (nv v) (znk m)
 generalize nv v/4294967296^m=Y at *
 refine⟨Y/4294967296,Y%4294967296,nv v%4294967296^m,?_,g0,by omega,by omega,hml,?_⟩
 ·rw[g1];omega
 ·rw[show Y/4294967296*4294967296+Y%4294967296=Y by omega,xbc Y];omega
theorem three_top{u:List Int}(hu:IsL u){j m:Nat}(hlt:nv u<4294967296^(j+m+3)):∃a b c z:Nat,u.getD (j+m+2) 0=(a:Int)∧u.getD (j+m+1) 0=(b:Int)∧u.getD (j+m) 0=(c:Int)∧a<4294967296∧b<4294967296∧c<4294967296∧z<4294967296^m∧nv u/4294967296^j=((a*4294967296+b)*4294967296+c)*4294967296^m+z:=by
 have g0:=zes hu (j+m)
 have g1:=zes hu (j+m+1)
 have g2:=zes hu (j+m+2)
 rw[show j+m+2=j+m+1+1 by omega,xbi,←xct]at g2
 rw[xbi,←xct]at g1 g2
 rw[xdo,←xct]at g0 g1 g2
 have hl2:nv u/4294967296^j/4294967296^m<4294967296*4294967296*4294967296:=by
  rw[xct,←xdo]
  refine xdw ?_
  rw[show j+m+3=j+m+1+1+1 by omega,xbi,xbi,xbi]at hlt
  rw[←xbf,←xbf]
  exact hlt
 generalize nv u/4294967296^j=U at *
 have hdm:=xem U (4294967296^m)
 have hml:=xdh U (znk m)
 generalize U/4294967296^m=Y at *
 refine⟨Y/4294967296/4294967296,Y/4294967296%4294967296,Y%4294967296,U%4294967296^m,?_,g1,g0,by omega,by omega,by omega,hml,?_⟩
 ·rw[show j+m+2=j+m+1+1 by omega,g2];omega
 ·rw[show(Y/4294967296/4294967296*4294967296+Y/4294967296%4294967296)*4294967296+Y%4294967296=Y by omega,xbc Y];omega
theorem guess_low{U V W top h s t u0 z q r:Nat}(hV:V=(h*4294967296+s)*W+t)(hU:U=(top*4294967296+u0)*W+z)(hz:z<W)(hu:u0<4294967296)(hq:q*h+r=top)(hr:r<h):U<(q+1)*V:=by
 have h1:top+1≤(q+1)*h:=by rw[xey];omega
 have h2:top*4294967296+u0+1≤(q+1)*(h*4294967296+s):=by
  rw[xcd,←xbf]
  have:=xam 4294967296 h1
  omega
 have h3:=xam W h2
 rw[hV,xcd,←xbf,hU]
 rw[xey]at h3
 omega
theorem top_bound{B U V W x c y t z:Nat}(hV:V=y*W+t)(hU:U=(x*B+c)*W+z)(ht:t<W)(hlt:U<B*V):x≤y:=by
 refine Nat.not_lt.1 fun h1=>?_
 have h2:(y+1)*B≤x*B:=xam B h1
 have h3:=xam W h2
 have h4:B*V≤B*((y+1)*W):=by
  refine xcj B ?_
  rw[hV,xey];omega
 rw[xbc (y+1) B,xbf]at h3
 rw[xbj]at hU
 omega
theorem q_small{q h r:Nat}(hq:q*h+r≤h*4294967296+4294967295)(hr:4294967296≤r):q<4294967296:=by
 refine Nat.not_le.1 fun h1=>?_
 have:=xam h h1
 rw[xbc 4294967296]at this
 omega
theorem d216_eq{u v:List Int}(hu:IsL u)(hv:IsL v){j m:Nat}(hm:v.length=m+2)(hlen:j+m+2<u.length)(lu:u.length≤1073741825)(hlt:nv u<4294967296^(j+m+3))(hh:v.getD (m+1) 0≠0)(hUV:nv u/4294967296^j<4294967296*nv v) :
  ∃q:Nat,d216 u v (j:Int)=some (q:Int)∧q<4294967296∧nv u/4294967296^j<(q+1)*nv v∧q*nv v<nv u/4294967296^j+nv v:=by
 obtain⟨h,s,t,v1,v2,hh1,hs1,ht1,hV⟩:=two_top hv hm
 obtain⟨a,b,c,z,u1,u2,u3,ha1,hb1,hc1,hz1,hU⟩:=three_top hu hlt
 have hb0:=top_bound hV hU ht1 hUV
 generalize nv u/4294967296^j=U at *
 generalize nv v=V at *
 generalize 4294967296^m=W at *
 rw[v1]at hh
 have hh0:0<h:=by omega
 obtain⟨top,htop⟩:∃top,a*4294967296+b=top:=⟨_,rfl⟩
 rw[htop]at hU hb0
 have htl:top<18446744073709551616:=by omega
 unfold d216
 have i1:w ((j:Int)+((m+2:Nat):Int))=((j+m+2:Nat):Int):=by rw[zaz (by omega) (by omega)];omega
 have i2:w (((j+m+2:Nat):Int)-1)=((j+m+1:Nat):Int):=by rw[zaz (by omega) (by omega)];omega
 have i3:w (((m+2:Nat):Int)-1)=((m+1:Nat):Int):=by rw[zaz (by omega) (by omega)];omega
 have i4:w (((m+2:Nat):Int)-2)=((m:Nat):Int):=by rw[zaz (by omega) (by omega)];omega
 have i5:w (((j+m+2:Nat):Int)-2)=((j+m:Nat):Int):=by rw[zaz (by omega) (by omega)];omega
 have hne:decide ((h:Int)=0)=false:=decide_eq_false (by omega)
 have hd1:top/h<18446744073709551616:=xfa (xcy _ _) htl
 have hd2:top%h<h:=xdh _ hh0
 have t1:Int.tdiv (top:Int) (h:Int)=((top/h:Nat):Int):=rfl
 have t2:Int.tmod (top:Int) (h:Int)=((top%h:Nat):Int):=rfl
 simp only[hm,i1,i2,i3,d0le,dlt (show j+m+2<u.length by omega),dlt (show j+m+1<u.length by omega),dlt (show m+1<m+2 by omega),xad,xah,tn,v1,u1,u2,zap (show h<18446744073709551616 by omega),zap (show a<18446744073709551616 by omega),hne,xal,or64w ha1 hb1,htop,t1,t2,zap hd1,zap (show top%h<18446744073709551616 by omega)]
 refine zgn (Q:=fun r=>∃q:Nat,r=some (q:Int)∧q<4294967296∧U<(q+1)*V∧q*V<U+V) (fun(M:Nat) (st:(List Int)×(List Int)×Int×Int×Int×Int×Int)=>∃(q r:Nat),M=q∧st=(u,v,(j:Int),((m+2:Nat):Int),(h:Int),(q:Int),(r:Int))∧q*h+r=top∧r<4294967296∧q<18446744073709551616∧U<(q+1)*V) (top/h) ?_ ?_
 ·exact⟨_,_,rfl,rfl,by rw[xbc];exact xem top h,by omega,hd1,guess_low hV hU hz1 hc1 (by rw[xbc];exact xem top h) hd2⟩
 ·rintro M st ⟨q,r,rfl,rfl,hq,hr,hq64,hlow⟩
  have e2:wu64 ((r:Int)+(h:Int))=((r+h:Nat):Int):=by rw[zbf (by omega) (by omega)];omega
  have e1:0<M→wu64 ((M:Int)-1)=((M-1:Nat):Int):=fun h0=>by rw[zbf (by omega) (by omega)];omega
  have down:0<M→U<M*V→(4294967296≤r+h∧M-1<4294967296∧U<(M-1+1)*V∧(M-1)*V<U+V)∨(r+h<4294967296∧(M-1)*h+(r+h)=top∧U<(M-1+1)*V):=by
   intro h0 hU1
   have e3:(M-1)*h+(r+h)=top:=by
    rw[←hq]
    obtain⟨M',rfl⟩:∃M',M=M'+1:=⟨M-1,by omega⟩
    rw[Nat.add_sub_cancel,xey];omega
   have e4:M-1+1=M:=by omega
   rw[e4]
   by_cases hb:4294967296≤r+h
   ·have hqs:=q_small (h:=h) (r:=r+h) (by rw[e3];omega) hb
    refine .inl ⟨hb,hqs,hU1,znb hV hU ht1 hh0 e3 hqs ?_⟩
    have:(M-1)*s≤4294967296*4294967296:=Nat.mul_le_mul (by omega) (by omega)
    omega
   ·exact .inr ⟨by omega,e3,hU1⟩
  by_cases hq1:4294967296≤M
  ·have d1:decide ((4294967296:Int)≤(M:Int))=true:=decide_eq_true (by omega)
   have hM:0<M:=by omega
   rcases down hM (xaq hUV (xam V hq1))with⟨k1,k2,k3,k4⟩|⟨k1,k2,k3⟩
   ·have d2:decide ((4294967296:Int)≤((r+h:Nat):Int))=true:=decide_eq_true (by omega)
    exact .inr ⟨((M-1:Nat):Int),by simp only[zah,d1,xap,xae,xad,e1 hM,e2,d2],M-1,rfl,k2,k3,k4⟩
   ·have d2:decide ((4294967296:Int)≤((r+h:Nat):Int))=false:=decide_eq_false (by omega)
    exact .inl ⟨_,M-1,by simp only[zah,d1,xap,xae,xad,e1 hM,e2,d2],by omega,M-1,r+h,rfl,rfl,k2,k1,by omega,k3⟩
  ·have d1:decide ((4294967296:Int)≤(M:Int))=false:=decide_eq_false (by omega)
   obtain⟨p,hp⟩:∃p,M*s=p:=⟨_,rfl⟩
   have hpl:p≤4294967295*4294967295:=by rw[←hp];exact Nat.mul_le_mul (by omega) (by omega)
   have hpi:(M:Int)*(s:Int)=(p:Int):=by rw[←hp];simp
   simp only[zah,d1,xal,xad,i1,i4,i5,d0le,dlt (show m<m+2 by omega),hm,dlt (show j+m<u.length by omega),xah,tn,v2,u3,or64w hr hc1,zap (show s<18446744073709551616 by omega),hpi,zap (show p<18446744073709551616 by omega)]
   by_cases hc:r*4294967296+c<p
   ·simp only[dlt hc]
    rw[←hp]at hc
    have hM:0<M:=by
     rcases xbw M with h0|h0
     ·subst h0;rw[xel]at hc;omega
     ·exact h0
    rcases down hM (digit_low hV hU hz1 hq hc)with⟨k1,k2,k3,k4⟩|⟨k1,k2,k3⟩
    ·have d2:decide ((4294967296:Int)≤((r+h:Nat):Int))=true:=decide_eq_true (by omega)
     exact .inr ⟨((M-1:Nat):Int),by simp only[xae,xad,e1 hM,e2,d2],M-1,rfl,k2,k3,k4⟩
    ·have d2:decide ((4294967296:Int)≤((r+h:Nat):Int))=false:=decide_eq_false (by omega)
     exact .inl ⟨_,M-1,by simp only[xae,xad,e1 hM,e2,d2],by omega,M-1,r+h,rfl,rfl,k2,k1,by omega,k3⟩
   ·rw[nlt (a:=r*4294967296+c) (b:=p) (by omega)]
    refine .inr ⟨(M:Int),by simp only[xae],M,rfl,by omega,hlow,?_⟩
    exact znb hV hU ht1 hh0 hq (by omega) (by rw[hp];omega)
end Go.Proofs.YtmipjomnjkmdbaaGreat
namespace Go.Proofs.YtmipjomnjkmdbaaGreat
open Go Go.X
theorem and_low{p:Nat}(h:p<18446744073709551616):wu64 (((BitVec.ofInt 64 (p:Int)&&&BitVec.ofInt 64 4294967295).toNat:Nat):Int)=((p%4294967296:Nat):Int):=by
 have:BitVec.ofInt 64 4294967295=BitVec.ofNat 64 4294967295:=rfl
 rw[this,BitVec.toNat_and,zgf 64 _ (by omega),BitVec.toNat_ofNat]
 have e:=Nat.and_two_pow_sub_one_eq_mod p 32
 rw[show(2:Nat)^32-1=4294967295 from rfl,show(2:Nat)^32=4294967296 from rfl]at e
 rw[show 4294967295%2^64=4294967295 from rfl,e,zap (by omega)]
theorem sub_step{X N N' N2 T x y q dig lo h bo bo' ca ca' s p Y:Nat}(hN:N+X*(q*T)=N'+X*Y*(bo+ca))(h2:N2+X*Y*x=N+X*Y*dig)(hp:q*y+ca=p)(hlo:p=lo+4294967296*ca')(hs:s+lo+bo=4294967296+x)(hd:s=dig+4294967296*h)(hb:bo'+h=1):N2+X*(q*(T+Y*y))=N'+X*(Y*4294967296)*(bo'+ca'):=by
 have e:dig+q*y+ca+bo=x+4294967296*(bo'+ca'):=by omega
 have e1:=xbe ((X*Y) * ·) e
 simp only[xcd]at e1 hN ⊢
 have e2:X*(q*(Y*y))=X*Y*(q*y):=by rw[Nat.mul_left_comm q,←xbf]
 have e3:X*Y*(4294967296*bo')=X*(Y*4294967296)*bo':=by simp only[xbf]
 have e4:X*Y*(4294967296*ca')=X*(Y*4294967296)*ca':=by simp only[xbf]
 omega
theorem add_step{X N N' N2 T x y dig c c' s Y:Nat}(hN:N+X*Y*c=N'+X*T)(h2:N2+X*Y*x=N+X*Y*dig)(hs:x+y+c=s)(hd:s=dig+4294967296*c'):N2+X*(Y*4294967296)*c'=N'+X*(T+Y*y):=by
 have e:dig+4294967296*c'=x+y+c:=by omega
 have e1:=xbe ((X*Y) * ·) e
 simp only[xcd]at e1 hN ⊢
 have e2:X*(Y*y)=X*Y*y:=by rw[xbf]
 have e4:X*Y*(4294967296*c')=X*(Y*4294967296)*c':=by simp only[xbf]
 omega
theorem below_next{N X U q V:Nat}(hX:0<X)(hU:N/X=U)(h:U<(q+1)*V):N<X*(q*V)+X*V:=by
 have h1:N<X*(U+1):=by
  have:=xem N X
  have:=xdh N hX
  rw[hU]at *
  rw[xcd,xdp]
  omega
 have h2:X*(U+1)≤X*((q+1)*V):=xcj _ h
 have e:X*((q+1)*V)=X*(q*V)+X*V:=by rw[xey,xcd]
 omega
theorem floor_le{N X U Y:Nat}(hU:N/X=U)(h:Y≤U):X*Y≤N:=by
 have:=xem N X
 rw[hU]at this
 have h2:X*Y≤X*U:=xcj _ h
 omega
set_option maxHeartbeats 1000000 in
theorem d205_eq{u v:List Int}(hu:IsL u)(hv:IsL v){m k:Nat}(hm:v.length=m+2)(hk:u.length=k+(m+2))(lu:u.length≤1073741825)(hh:v.getD (m+1) 0≠0)(hlt:nv u<nv v*4294967296^k) :
  ∃q r,d205 u v=some (q,r)∧IsL q∧IsL r∧q.length=k∧r.length=u.length∧nv q=nv u/nv v∧nv r=nv u%nv v:=by
 have hV0:0<nv v:=by
  rcases xbw (nv v)with h0|h0
  ·rw[h0,xel]at hlt;omega
  ·exact h0
 have hVB:=zoc hv
 unfold d205
 have i1:w ((u.length:Int)-(v.length:Int))=(k:Int):=by rw[zaz (by omega) (by omega)];omega
 have i2:w ((v.length:Int)+1)=((m+3:Nat):Int):=by rw[zaz (by omega) (by omega)];omega
 have i3:w ((k:Int)-1)=(k:Int)-1:=zaz (by omega) (by omega)
 simp only[i1,xaw,d0le,zbo (n:=k) (by omega),xah,xad,tn,i3]
 refine zmc (Q:=fun r=>∃q r',r=some (q,r')∧IsL q∧IsL r'∧q.length=k∧r'.length=u.length∧nv q=nv u/nv v∧nv r'=nv u%nv v) (fun(i:Nat) (st:(List Int)×(List Int)×Int×(List Int)×Int)=>∃(u' out:List Int),st=(u',v,(v.length:Int),out,(i:Int)-1)∧i≤k∧IsL u'∧u'.length=u.length∧IsL out∧out.length=k∧(∀t,t<i→out.getD t 0=0)∧nv u=nv u'+nv out*nv v∧nv u'<nv v*4294967296^i) k ?_ ?_ ?_
 ·exact⟨u,_,rfl,Nat.le_refl _,hu,rfl,IsL.zeros _,by simp,fun t _=>zmv _ t,by rw[zdd];omega,hlt⟩
 ·rintro i st hi ⟨u',out,rfl,hik,hu',hlu,hL,hlo,hz,hv1,hv2⟩
  obtain⟨X,hX⟩:∃X,4294967296^i=X:=⟨_,rfl⟩
  have hX0:0<X:=by rw[←hX];exact znk i
  rw[xbi,hX]at hv2
  have hB3:nv u'<4294967296^(i+m+3):=by
   refine xaq hv2 ?_
   rw[show i+m+3=(m+2)+(i+1) by omega,xdo,xbi _ i,hX,←hm]
   exact xam _ (xfj hVB)
  have hUV:nv u'/4294967296^i<4294967296*nv v:=by
   rw[hX]
   refine xdw ?_
   rw[←xbf,xbc]
   exact hv2
  obtain⟨q,hq0,hq1,hq2,hq3⟩:=d216_eq hu' hv (j:=i) hm (by omega) (by omega) hB3 hh hUV
  have j1:((i+1:Nat):Int)-1=(i:Int):=by omega
  have wi1:w ((i:Int)-1)=(i:Int)-1:=zaz (by omega) (by omega)
  rw[hX]at hq2 hq3
  simp only[j1,d0le,xad,hq0,xab,i2]
  refine zbq (Q:=fun(r:Option (((List Int)×(List Int)×Int×(List Int)×Int)⊕((List Int)×(List Int))))=>∃a',r=some (.inl a')∧∃(u' out:List Int),a'=(u',v,(v.length:Int),out,(i:Int)-1)∧i≤k∧IsL u'∧u'.length=u.length∧IsL out∧out.length=k∧(∀t,t<i→out.getD t 0=0)∧nv u=nv u'+nv out*nv v∧nv u'<nv v*4294967296^i)
   (fun(d:Nat) (st:(List Int)×(List Int)×Int×(List Int)×Int×Int×Int×Int×Int×Int)=>∃(z:List Int) (bo ca:Nat),st=(z,v,(v.length:Int),out,(i:Int),(q:Int),(bo:Int),(ca:Int),((m+3:Nat):Int),(d:Int))∧IsL z∧z.length=u.length∧bo≤1∧ca<4294967296∧(d≤m+2∨ca=0)∧nv z+X*(q*nv (v.take d))=nv u'+X*4294967296^d*(bo+ca)∧nv z<4294967296^(i+m+3)) (m+3) ?_ ?_ ?_
  ·exact⟨u',0,0,rfl,hu',hlu,by omega,by omega,.inl (by omega),by simp[nv],hB3⟩
  ·rintro d st hd ⟨z,bo,ca,rfl,hzL,hzl,hbo,hca,hor,heq,hzb⟩
   obtain⟨y,hy1,hy2,hy3⟩:=zdg hv d
   have hx:=hzL.getD (d+i)
   obtain⟨x,hx1⟩:∃x:Nat,z.getD (d+i) 0=(x:Int):=⟨_,(xfy hx.1).symm⟩
   rw[hx1]at hx
   obtain⟨qy,hqy⟩:∃p,q*y=p:=⟨_,rfl⟩
   have hpl:qy≤4294967295*4294967295:=by rw[←hqy];exact Nat.mul_le_mul (by omega) (by omega)
   have hqi:(q:Int)*(y:Int)=(qy:Int):=by rw[←hqy];simp
   have s1:wu64 ((qy:Int)+(ca:Int))=((qy+ca:Nat):Int):=by rw[zbf (by omega) (by omega)];omega
   obtain⟨p,hp⟩:∃p,qy+ca=p:=⟨_,rfl⟩
   obtain⟨lo,hlo'⟩:∃lo,p%4294967296=lo:=⟨_,rfl⟩
   have s2:wu64 (4294967296+(x:Int))=4294967296+(x:Int):=zbf (by omega) (by omega)
   have s3:wu64 (4294967296+(x:Int)-(lo:Int))=4294967296+(x:Int)-lo:=zbf (by omega) (by omega)
   obtain⟨s,hs⟩:∃s,4294967296+x-lo-bo=s:=⟨_,rfl⟩
   have s4:wu64 (4294967296+(x:Int)-(lo:Int)-(bo:Int))=(s:Int):=by rw[zbf (by omega) (by omega)];omega
   have s5:wu64 (1-((s/4294967296:Nat):Int))=((1-s/4294967296:Nat):Int):=by rw[zbf (by omega) (by omega)];omega
   simp only[dlt hd,zfu hv,hy1,xab,wadd (show d+i≤9223372036854775807 by omega),d0le,dlt (show d+i<z.length by omega),xad,xah,tn,hx1,hqi,zap (show qy<18446744073709551616 by omega),s1,hp,and_low (show p<18446744073709551616 by omega),hlo',zap (show x<18446744073709551616 by omega),s2,s3,s4,shr32,zap (show s/4294967296<18446744073709551616 by omega),s5,zap (show p/4294967296<18446744073709551616 by omega),zcn,zbc (show d<9223372036854775807 by omega)]
   have e1:=zht z (d+i) (((s%4294967296:Nat):Int)) (by omega)
   rw[hx1,xan,xan,xfk d i,xdo,hX,xfk i d]at e1
   refine⟨_,rfl,_,_,_,rfl,hzL.set _ (by omega) (by omega),by simpa using hzl,by omega,by omega,?_,?_,zhs hzL (by omega) (by omega) (by omega) hzb⟩
   ·by_cases hdm:d+1≤m+2
    ·exact .inl hdm
    ·right
     have hy0:y=0:=by
      have:v.getD d 0=0:=by rw[xac,xca (by omega)];rfl
      omega
     rw[hy0,xgp]at hqy
     omega
   ·rw[hy3,xbi]
    exact sub_step heq e1 (by rw[hqy];exact hp) (show p=lo+4294967296*(p/4294967296) by omega) (s:=s) (by omega) (h:=s/4294967296) (by omega) (by omega)
  ·rintro st ⟨z,bo,ca,rfl,hzL,hzl,hbo,hca,hor,heq,hzb⟩
   have hca0:ca=0:=by omega
   subst hca0
   rw[xax (by omega),xda]at heq
   have hX3:X*4294967296^(m+3)=4294967296^(i+m+3):=by rw[←hX,←xdo];rfl
   rw[hX3]at heq
   refine⟨_,by simp only[nlt (Nat.le_refl (m+3)),xae];rfl,?_⟩
   obtain⟨TT,hTT⟩:∃TT,4294967296^(i+m+3)=TT:=⟨_,rfl⟩
   rw[hTT]at heq hzb hX3
   rcases xbw bo with hb0|hb0
   ·subst hb0
    simp only[show decide ((0:Int)<((0:Nat):Int))=false from rfl,xae,zah,d0le,dlt (show i<out.length by omega),xah,xad,tn,zcn,xck hq1,wi1]
    have e1:=zht out i (q:Int) (by omega)
    rw[hz i (by omega),xan,hX]at e1
    have e2:nv (out.set i (q:Int))=nv out+X*q:=by simpa using e1
    refine⟨_,rfl,_,_,rfl,by omega,hzL,hzl,hL.set _ (by omega) (by omega),by simpa using hlo,fun t ht=>by rw[getD_set_ne _ _ (by omega)];exact hz t (by omega),?_,?_⟩
    ·rw[e2,hv1,xbj,xbf];omega
    ·have:=below_next hX0 rfl hq2
     rw[hX,xbc (nv v) X]
     omega
   ·have hb1:bo=1:=by omega
    subst hb1
    rw[xdp]at heq
    have hqV:nv u'<X*(q*nv v):=by omega
    have hq0':0<q:=by
     rcases xbw q with h0|h0
     ·subst h0;rw[xel,xgp]at hqV;omega
     ·exact h0
    obtain⟨q',rfl⟩:∃q',q=q'+1:=⟨q-1,by omega⟩
    have hqm:wu64 (((q'+1:Nat):Int)-1)=(q':Int):=by rw[zbf (by omega) (by omega)];omega
    simp only[show decide ((0:Int)<((1:Nat):Int))=true from rfl,xad,hqm,i2]
    refine zbq (Q:=fun(r:Option (((List Int)×(List Int)×Int×(List Int)×Int)⊕((List Int)×(List Int))))=>∃a',r=some (.inl a')∧∃(u' out:List Int),a'=(u',v,(v.length:Int),out,(i:Int)-1)∧i≤k∧IsL u'∧u'.length=u.length∧IsL out∧out.length=k∧(∀t,t<i→out.getD t 0=0)∧nv u=nv u'+nv out*nv v∧nv u'<nv v*4294967296^i)
     (fun(d:Nat) (st:(List Int)×(List Int)×Int×(List Int)×Int×Int×Int×Int×Int)=>∃(z2:List Int) (c:Nat),st=(z2,v,(v.length:Int),out,(i:Int),(q':Int),(c:Int),((m+3:Nat):Int),(d:Int))∧IsL z2∧z2.length=u.length∧c≤1∧nv z2+X*4294967296^d*c=nv z+X*nv (v.take d)∧nv z2<4294967296^(i+m+3)) (m+3) ?_ ?_ ?_
    ·exact⟨z,0,rfl,hzL,hzl,by omega,by simp[nv],by rw[hTT];exact hzb⟩
    ·rintro d st hd ⟨z2,c,rfl,hzL2,hzl2,hc,heq2,hzb2⟩
     obtain⟨y,hy1,hy2,hy3⟩:=zdg hv d
     have hx:=hzL2.getD (d+i)
     obtain⟨x,hx1⟩:∃x:Nat,z2.getD (d+i) 0=(x:Int):=⟨_,(xfy hx.1).symm⟩
     rw[hx1]at hx
     have s1:wu64 ((x:Int)+(y:Int))=((x+y:Nat):Int):=by rw[zbf (by omega) (by omega)];omega
     have s2:wu64 (((x+y:Nat):Int)+(c:Int))=((x+y+c:Nat):Int):=by rw[zbf (by omega) (by omega)];omega
     obtain⟨s,hs⟩:∃s,x+y+c=s:=⟨_,rfl⟩
     simp only[dlt hd,zfu hv,hy1,xab,wadd (show d+i≤9223372036854775807 by omega),d0le,dlt (show d+i<z2.length by omega),xad,xah,tn,hx1,zap (show x<18446744073709551616 by omega),s1,s2,hs,shr32,zap (show s/4294967296<18446744073709551616 by omega),zcn,zbc (show d<9223372036854775807 by omega)]
     have e1:=zht z2 (d+i) (((s%4294967296:Nat):Int)) (by omega)
     rw[hx1,xan,xan,xfk d i,xdo,hX,xfk i d]at e1
     refine⟨_,rfl,_,_,rfl,hzL2.set _ (by omega) (by omega),by simpa using hzl2,by omega,?_,zhs hzL2 (by omega) (by omega) (by omega) hzb2⟩
     rw[hy3,xbi]
     exact add_step heq2 e1 hs (by omega)
    ·rintro st ⟨z2,c,rfl,hzL2,hzl2,hc,heq2,hzb2⟩
     rw[xax (by omega),hX3]at heq2
     rw[hTT]at hzb2
     refine⟨_,by simp only[nlt (Nat.le_refl (m+3)),xae];rfl,?_⟩
     simp only[zah,d0le,dlt (show i<out.length by omega),xah,xad,tn,zcn,xck (show q'<4294967296 by omega),wi1]
     have e1:=zht out i (q':Int) (by omega)
     rw[hz i (by omega),xan,hX]at e1
     have e2:nv (out.set i (q':Int))=nv out+X*q':=by simpa using e1
     have hfl:X*(q'*nv v)≤nv u':=by
      refine floor_le rfl ?_
      rw[xey]at hq3
      omega
     rw[xey,xcd]at hqV heq
     have hc1:c=1:=by
      rcases xbw c with h0|h0
      ·subst h0;rw[xgp]at heq2;omega
      ·omega
     subst hc1
     rw[xdp]at heq2
     refine⟨_,rfl,_,_,rfl,by omega,hzL2,hzl2,hL.set _ (by omega) (by omega),by simpa using hlo,fun t ht=>by rw[getD_set_ne _ _ (by omega)];exact hz t (by omega),?_,?_⟩
     ·rw[e2,hv1,xbj,xbf];omega
     ·rw[hX,xbc (nv v) X]
      omega
 ·rintro st ⟨u',out,rfl,hik,hu',hlu,hL,hlo,hz,hv1,hv2⟩
  rw[xgo,xdp]at hv2
  refine⟨(u',out),rfl,out,u',rfl,hL,hu',hlo,hlu,?_,?_⟩
  ·rw[hv1,xbc,xhc _ _ hV0,xed hv2,Nat.zero_add]
  ·rw[hv1,xbc,Nat.add_mul_mod_self_left,xck hv2]
end Go.Proofs.YtmipjomnjkmdbaaGreat
namespace Go.Proofs.YtmipjomnjkmdbaaGreat
open Go Go.X
theorem bl_zero(f:Nat):Lib.bitLenAux f 0=0:=by cases f<;>simp[Lib.bitLenAux]
theorem bl_bounds:∀(f x:Nat),x<2^f→x≠0→1≤Lib.bitLenAux f x∧Lib.bitLenAux f x≤f∧x<2^Lib.bitLenAux f x
 | 0,x,h,h0=>by rw[xgo]at h;omega
 |f+1,x,h,h0=>by
  have e:Lib.bitLenAux (f+1) x=1+Lib.bitLenAux f (x/2):=by simp[Lib.bitLenAux,h0]
  rw[e]
  by_cases h2:x/2=0
  ·rw[h2,bl_zero]
   exact⟨by omega,by omega,by rw[xda,Nat.pow_one];omega⟩
  ·obtain⟨q1,q2,q3⟩:=bl_bounds f (x/2) (by rw[xbi]at h;omega) h2
   refine⟨by omega,by omega,?_⟩
   rw[xfk,xbi];omega
theorem bl_more:∀(f x:Nat),x<2^f→∀g,f≤g→Lib.bitLenAux g x=Lib.bitLenAux f x
 | 0,x,h,g,_=>by
  rw[xgo]at h
  obtain rfl:x=0:=by omega
  rw[bl_zero,bl_zero]
 |f+1,x,h,g,hg=>by
  obtain⟨g',rfl⟩:∃g',g=g'+1:=⟨g-1,by omega⟩
  simp only[Lib.bitLenAux]
  by_cases h0:x=0
  ·rw[if_pos h0,if_pos h0]
  ·rw[if_neg h0,if_neg h0,bl_more f (x/2) (by rw[xbi]at h;omega) g' (by omega)]
theorem d200_eq{x:Nat}(h0:0<x)(h1:x<4294967296):∃L:Nat,d200 (x:Int)=some (L:Int)∧1≤L∧L≤32∧x<2^L:=by
 have hx:x<2^32:=h1
 have e:Lib.bitLen x=Lib.bitLenAux 32 x:=bl_more 32 x hx 64 (by decide)
 refine⟨Lib.bitLen x,rfl,?_⟩
 rw[e]
 exact bl_bounds 32 x hx (by omega)
theorem znl{v:List Int}(hv:NF v){m:Nat}(hm:v.length=m+1):∃h:Nat,v.getD m 0=(h:Int)∧0<h∧h<4294967296:=by
 have g:=hv.1.getD m
 refine⟨(v.getD m 0).toNat,by omega,?_,by omega⟩
 have:v.getD m 0≠0:=by
  intro e
  refine hv.2 ?_
  rw[List.getLast?_eq_getElem?,hm,Nat.add_sub_cancel,xag (by omega)]
  rw[xac,xag (by omega)]at e
  simpa using e
 omega
set_option maxHeartbeats 1000000 in
theorem d170_eq{a b:List Int}(ha:IsL a)(hb:IsL b)(la:a.length≤1073741823)(lb:b.length≤1073741823)(h0:nv b≠0):d170 a b=some (zal (nv a/nv b),zal (nv a%nv b),true):=by
 unfold d170
 rw[zbo (by omega),zbo (by omega)]
 simp only[xad,xab,zbr ha,zbr hb]
 have hla:=zbb ha
 have hlb:=zbb hb
 have hNA:=zim (nv a)
 have hNB:=zim (nv b)
 have hA:=zak (nv a)
 have hB:=zak (nv b)
 have eA:=zat (nv a)
 have eB:=zat (nv b)
 have hm:=@zdb (nv b) (nv a)
 have hBl:=zao (nv b)
 have hAl:=zao (nv a)
 have hBp:=@zfq (nv b)
 have hxA:zal (nv a)=zal (nv a):=rfl
 have hxB:zal (nv b)=zal (nv b):=rfl
 generalize hyA:zal (nv a)=A at *
 generalize hyB:zal (nv b)=B at *
 have hB0:0<B.length:=hBp.2 (xeh h0)
 rw[show decide ((B.length:Int)=0)=false from decide_eq_false (by omega),d201_eq hA hB (by omega) (by omega),eA,eB]
 simp only[xae,xab,cmpN_lt]
 by_cases hlt:nv a<nv b
 ·rw[decide_eq_true hlt,xad,d173_eq (by omega),xed hlt,xck hlt,zcs,hyA]
  rfl
 rw[decide_eq_false hlt,xae]
 have hBA:=hm (by omega)
 by_cases h1:B.length=1
 ·have q1:decide ((B.length:Int)=1)=true:=decide_eq_true (by omega)
  have q2:decide ((0:Int)<(B.length:Int))=true:=decide_eq_true (by omega)
  obtain⟨h,hh1,hh2,hh3⟩:=znl hNB (m:=0) h1
  have hbv:nv b=h:=by
   rw[←eB]
   obtain⟨y,rfl⟩:=xeg.1 h1
   simp only[xex]at hh1
   simp only[nv,hh1];omega
  obtain⟨q,r1,r2,r3,r4⟩:=d202_eq hA (by omega) hh2 hh3
  have hml:nv A%h<h:=xdh _ hh2
  rw[eA]at r1 r4 hml
  have q3:d129 ((nv a%h:Nat):Int)=some (zal (nv a%h)):=by rw[zow (by omega) (by omega)];rfl
  simp only[q1,q2,q3,xaw,Int.le_refl,xah,xad,hh1,zap (show h<18446744073709551616 by omega),r1,xab,zfv r2 (show q.length≤4294967296 by omega),r4,hbv]
  rfl
 ·obtain⟨m,hmB⟩:∃m,B.length=m+2:=⟨B.length-2,by omega⟩
  have q1:decide (((m+2:Nat):Int)=1)=false:=decide_eq_false (by omega)
  have i1:w (((m+2:Nat):Int)-1)=((m+1:Nat):Int):=by rw[zaz (by omega) (by omega)];omega
  obtain⟨h,hh1,hh2,hh3⟩:=znl hNB (m:=m+1) hmB
  obtain⟨L,hL0,hL1,hL2,hL3⟩:=d200_eq hh2 hh3
  have e203:d203 (h:Int)=some ((32-L:Nat):Int):=by
   unfold d203
   rw[hL0]
   simp only[xab]
   rw[zaz (by omega) (by omega)]
   congr 1;omega
  have hn:32-L≤31:=by omega
  have hpow:2^L*2^(32-L)=4294967296:=by rw[←xdo,show L+(32-L)=32 by omega]
  obtain⟨n,hnn⟩:∃n,32-L=n:=⟨_,rfl⟩
  rw[hnn]at e203 hn hpow
  have hT0:0<2^n:=xff (by decide)
  obtain⟨u,u1,u2,u3,u4⟩:=d204_eq hA (by omega) hn
  obtain⟨v0,v1,v2,v3,v4⟩:=d204_eq hB (by omega) hn
  rw[eA]at u4
  rw[eB]at v4
  simp only[hmB,q1,xae,i1,d0le,dlt (show m+1<m+2 by omega),xah,xad,tn,hh1,e203,xab,u1,v1,zbo (n:=v0.length) (by omega),zbr v2]
  have hbl:4294967296^(m+1)≤nv b:=by
   refine Nat.not_lt.1 fun hc=>?_
   have:=(hBl (m+1)).2 hc
   omega
  have hbu:nv b<2^L*4294967296^(m+1):=by
   have g:=zes hB (m+1)
   rw[hh1,eB]at g
   have hlt2:=(hBl (m+2)).1 (by omega)
   have hd:nv b/4294967296^(m+1)<4294967296:=xdw (by rw[←xbi];exact hlt2)
   rw[xck hd]at g
   have:nv b/4294967296^(m+1)<2^L:=by omega
   exact(xde (znk _)).1 this
  have hvu:nv v0<4294967296^(m+2):=by
   have e:4294967296^(m+2)=2^L*4294967296^(m+1)*2^n:=by
    rw[show m+2=(m+1)+1 by omega,xbi,Nat.mul_right_comm,hpow,xbc]
   rw[v4,e]
   exact xfu hbu hT0
  have hvl:4294967296^(m+1)≤nv v0:=by
   rw[v4]
   exact Nat.le_trans hbl (Nat.le_mul_of_pos_right _ hT0)
  have hV:=zak (nv v0)
  have eV:=zat (nv v0)
  have hVlen:(zal (nv v0)).length=m+2:=by
   have r1:=(zao (nv v0) (m+2)).2 hvu
   have r2:¬(zal (nv v0)).length≤m+1:=fun hc=>by
    have:=(zao (nv v0) (m+1)).1 hc
    omega
   omega
  obtain⟨hv,w1,w2,_⟩:=znl (zim (nv v0)) (m:=m+1) hVlen
  obtain⟨k,hk⟩:∃k,A.length=k+(m+1):=⟨A.length-(m+1),by omega⟩
  have hal:nv a<4294967296^(k+(m+1)):=(hAl _).1 (by omega)
  have hkey:nv u<nv (zal (nv v0))*4294967296^k:=by
   rw[eV,u4,v4,Nat.mul_right_comm]
   refine xfu ?_ hT0
   rw[xdo,xbc]at hal
   exact xaq hal (xam _ hbl)
  obtain⟨q,r,z1,z2,z3,z4,z5,z6,z7⟩:=d205_eq u2 hV hVlen (k:=k) (by omega) (by omega) (by omega) hkey
  rw[eV,u4,v4,Nat.mul_div_mul_right _ _ hT0]at z6
  rw[eV,u4,v4,Nat.mul_mod_mul_right]at z7
  obtain⟨o,o1,o2,o3,o4⟩:=d206_eq z3 (by omega) hn
  rw[z7,Nat.mul_div_cancel _ hT0]at o4
  simp only[z1,xab,zfv z2 (show q.length≤4294967296 by omega),z6,o1,zfv o2 (show o.length≤4294967296 by omega),o4]
theorem d169_eq{a b:List Int}(ha:IsL a)(hb:IsL b)(la:a.length≤1073741823)(lb:b.length≤1073741823):d169 a b=some (zal (Nat.gcd (nv a) (nv b))):=by
 unfold d169
 rw[zfv ha (by omega),zfv hb (by omega)]
 simp only[xab]
 have hla:=zbb ha
 have hlb:=zbb hb
 refine zgn (Q:=fun r=>r=some (zal (Nat.gcd (nv a) (nv b)))) (fun(M:Nat) (st:(List Int)×(List Int))=>∃x:Nat,st=(zal x,zal M)∧(zal x).length≤1073741823∧(zal M).length≤1073741823∧Nat.gcd x M=Nat.gcd (nv a) (nv b)) (nv b) ⟨nv a,rfl,by omega,by omega,rfl⟩ ?_
 rintro M st ⟨x,rfl,h1,h2,h3⟩
 rcases xbw M with h0|h0
 ·subst h0
  refine .inr ⟨zal x,by simp[zcs],?_⟩
  rw[Nat.gcd_zero_right]at h3
  rw[h3]
 ·have hp:=zfq.2 h0
  have hd:=d170_eq (zak x) (zak M) h1 h2 (by rw[zat];omega)
  rw[zat,zat]at hd
  refine .inl ⟨(zal M,zal (x%M)),x%M,?_,xdh _ h0,M,rfl,h2,?_,?_⟩
  ·rw[show decide ((0:Int)<((zal M).length:Int))=true from decide_eq_true (by omega),xad,hd];rfl
  ·have:=zdb (xfj (xdh x h0));omega
  ·rw[←h3,Nat.gcd_comm x M,Nat.gcd_rec M x,Nat.gcd_comm]
theorem d167_eq{a:List Int}(ha:IsL a)(la:a.length≤1073741824):∃k:Int,d167 a=some k∧decide (k=0)=decide (nv a=0):=by
 unfold d167
 rw[zbo (by omega)]
 simp only[xad,xab,zbr ha]
 have hla:=zbb ha
 have hNA:=zim (nv a)
 have hp:=@zfq (nv a)
 generalize hyA:zal (nv a)=A at *
 rcases xbw A.length with h0|h0
 ·refine⟨0,by rw[decide_eq_true (show(A.length:Int)=0 by omega)];rfl,?_⟩
  rw[decide_eq_true rfl,decide_eq_true (show nv a=0 by omega)]
 ·obtain⟨m,hm⟩:∃m,A.length=m+1:=⟨A.length-1,by omega⟩
  obtain⟨h,hh1,hh2,hh3⟩:=znl hNA hm
  obtain⟨L,hL0,hL1,hL2,hL3⟩:=d200_eq hh2 hh3
  have i1:w (((m+1:Nat):Int)-1)=(m:Int):=wpred (by omega)
  have i2:w (32*(m:Int))=32*(m:Int):=zaz (by omega) (by omega)
  have i3:w (32*(m:Int)+(L:Int))=32*(m:Int)+L:=zaz (by omega) (by omega)
  refine⟨32*(m:Int)+L,?_,?_⟩
  ·rw[hm,decide_eq_false (show ¬(((m+1:Nat):Int)=0) by omega)]
   simp only[xae,i1,d0le,dlt (show m<m+1 by omega),xah,xad,tn,hh1,hL0,xab,i2,i3]
  ·rw[decide_eq_false (by omega),decide_eq_false (by omega)]
end Go.Proofs.YtmipjomnjkmdbaaGreat
namespace Go.Proofs.YtmipjomnjkmdbaaGreat
open Go Go.X
abbrev Rt:=Bool×(List Int×List Int)
def sgnN(neg:Bool)(n:Nat):Int:=if neg then -(n:Int)else n
theorem sgnN_abs(neg:Bool)(n:Nat):(sgnN neg n).natAbs=n:=by unfold sgnN;split<;>simp
theorem sgnN_zero(neg:Bool):sgnN neg 0=0:=by cases neg<;>rfl
theorem sgnN_not(neg:Bool)(n:Nat):sgnN (!neg) n=- sgnN neg n:=by cases neg<;>simp[sgnN]
def rv(r:Rt):Rat:=mkRat (sgnN r.1 (nv r.2.1)) (nv r.2.2)
def rr(q:Rat):Rt:=(decide (q.num<0),zal q.num.natAbs,zal q.den)
def RtOK(r:Rt):Prop:=IsL r.2.1∧IsL r.2.2
theorem rr_ok(q:Rat):RtOK (rr q):=⟨zak _,zak _⟩
theorem sgn_num(q:Rat):sgnN (decide (q.num<0)) q.num.natAbs=q.num:=by
 unfold sgnN
 by_cases h:q.num<0
 ·simp only[h,xaw,if_true];omega
 ·simp only[h,xcf];simp;omega
theorem rv_rr(q:Rat):rv (rr q)=q:=by
 unfold rv rr
 simp only[zat,sgn_num,Rat.mkRat_self]
theorem rr_zero:rr 0=(false,[],[1]):=by
 unfold rr
 simp only[Rat.zero_num,Rat.zero_den]
 rw[zib (n:=1) (by omega)]
 simp[zcs]
theorem rr_make(neg:Bool){a b:Nat}(ha:a≠0)(hb:b≠0):rr (mkRat (sgnN neg a) b)=(neg,zal (a/Nat.gcd a b),zal (b/Nat.gcd a b)):=by
 unfold rr
 rw[Rat.num_mkRat,Rat.den_mkRat,if_neg hb,if_neg hb,sgnN_abs,Nat.gcd_comm b a]
 obtain⟨g,hg⟩:∃g,Nat.gcd a b=g:=⟨_,rfl⟩
 have hd:g∣a:=by rw[←hg];exact Nat.gcd_dvd_left a b
 have hgp:0<g:=by rw[←hg];exact Nat.gcd_pos_of_pos_left b (xeh ha)
 rw[hg]
 obtain⟨c,rfl⟩:=hd
 have hc:0<c:=xeh fun e=>ha (by rw[e,xgp])
 rw[Nat.mul_div_cancel_left c hgp]
 have h1:sgnN neg (g*c)/(g:Int)=sgnN neg c:=by
  unfold sgnN
  cases neg
  ·simp only[xba,xch,xfz]
   exact Int.mul_ediv_cancel_left _ (by omega)
  ·simp only[if_true,xfz]
   rw[←Int.mul_neg]
   exact Int.mul_ediv_cancel_left _ (by omega)
 rw[h1,sgnN_abs]
 have h2:decide (sgnN neg c<0)=neg:=by
  unfold sgnN
  cases neg
  ·simp
  ·simp;omega
 rw[h2]
theorem zmp(q:Rat):(rr q).2.1=[]↔q=0:=by
 unfold rr
 rw[limbs_nil,Int.natAbs_eq_zero,Rat.num_eq_zero]
theorem rr_neg(q:Rat):(rr q).1=decide (q<0):=by
 unfold rr
 have:q.num<0↔q<0:=by
  have h:=Rat.num_nonneg (q:=q)
  rw[←Rat.not_le,←h];omega
 simp only[this]
def Sz(k:Nat)(r:Rt):Prop:=r.2.1.length≤k∧r.2.2.length≤k
theorem d168_eq:d168=some (rr 0):=by
 unfold d168
 rw[zow (by omega) (by omega),rr_zero,show(1:Int).toNat=1 from rfl,zib (n:=1) (by omega)]
 simp[zcs]
theorem d127_eq(neg:Bool){a b:List Int}(ha:IsL a)(hb:IsL b)(la:a.length≤1073741823)(lb:b.length≤1073741823):d127 neg a b=some (rr (mkRat (sgnN neg (nv a)) (nv b))):=by
 unfold d127
 obtain⟨k,k1,k2⟩:=d167_eq ha (by omega)
 obtain⟨l,l1,l2⟩:=d167_eq hb (by omega)
 rw[zah,k1,l1]
 simp only[xab,k2,l2]
 by_cases ha0:nv a=0
 ·rw[ha0,decide_eq_true rfl]
  simp only[xap,xae,xad,d168_eq,sgnN_zero,Rat.zero_mkRat,xab]
 ·rw[decide_eq_false ha0]
  by_cases hb0:nv b=0
  ·rw[hb0,decide_eq_true rfl,Rat.mkRat_zero]
   simp only[xal,xad,d168_eq,xab]
  ·rw[decide_eq_false hb0,rr_make neg ha0 hb0]
   have hg:Nat.gcd (nv a) (nv b)≠0:=fun e=>ha0 (Nat.eq_zero_of_gcd_eq_zero_left e)
   have hgl:(zal (Nat.gcd (nv a) (nv b))).length≤1073741823:=by
    have:=zdb (Nat.le_of_dvd (xeh ha0) (Nat.gcd_dvd_left (nv a) (nv b)))
    have:=zbb ha
    omega
   have e1:=d170_eq ha (zak (Nat.gcd (nv a) (nv b))) la hgl (by rw[zat];exact hg)
   have e2:=d170_eq hb (zak (Nat.gcd (nv a) (nv b))) lb hgl (by rw[zat];exact hg)
   rw[zat]at e1 e2
   simp only[xal,xad,xae,d169_eq ha hb la lb,e1,e2,xab]
theorem rr_len(neg:Bool)(a b:Nat):(rr (mkRat (sgnN neg a) b)).2.1.length≤(zal a).length∧(rr (mkRat (sgnN neg a) b)).2.2.length≤max 1 (zal b).length:=by
 by_cases ha:a=0
 ·subst ha
  rw[sgnN_zero,Rat.zero_mkRat,rr_zero]
  exact⟨xbn _,xgt _ _⟩
 ·by_cases hb:b=0
  ·subst hb
   rw[Rat.mkRat_zero,rr_zero]
   exact⟨xbn _,xgt _ _⟩
  ·rw[rr_make neg ha hb]
   exact⟨zdb (xcy _ _),Nat.le_trans (zdb (xcy _ _)) (Nat.le_max_right _ _)⟩
theorem rr_sz{r:Rt}(h:RtOK r){k:Nat}(hk:Sz k r)(h1:1≤k):Sz k (rr (rv r)):=by
 obtain⟨q1,q2⟩:=rr_len r.1 (nv r.2.1) (nv r.2.2)
 have:=zbb h.1
 have:=zbb h.2
 have:=hk.1
 have:=hk.2
 exact⟨by show(rr (mkRat _ _)).2.1.length≤_;omega,by show(rr (mkRat _ _)).2.2.length≤_;omega⟩
theorem zje{r:Rt}(h:RtOK r)(hk:Sz 1073741823 r):d175 r=some (rr (rv r)):=by
 unfold d175
 rw[d127_eq r.1 h.1 h.2 hk.1 hk.2];rfl
theorem zfp(a b:Nat):(zal (a*b)).length≤(zal a).length+(zal b).length:=by
 rw[zao,xdo]
 exact Nat.mul_lt_mul'' ((zao a _).1 (Nat.le_refl _)) ((zao b _).1 (Nat.le_refl _))
theorem zoi(a b:Nat):(zal (a+b)).length≤max (zal a).length (zal b).length+1:=by
 rw[zao,xbi]
 have h1:=(zao a (max (zal a).length (zal b).length)).1 (xgt _ _)
 have h2:=(zao b (max (zal a).length (zal b).length)).1 (Nat.le_max_right _ _)
 omega
theorem sum_eq(s t:Bool){a b:Nat}(la:(zal a).length≤1073741823)(lb:(zal b).length≤1073741823):∃(u:Bool) (c:Nat),d176 s (zal a) t (zal b)=some (u,zal c)∧sgnN u c=sgnN s a+sgnN t b∧c≤a+b:=by
 unfold d176
 have hA:=zak a
 have hB:=zak b
 by_cases h:s=t
 ·subst h
  rw[d209_eq hA hB (by omega) (by omega),zat,zat]
  refine⟨s,a+b,by simp,?_,Nat.le_refl _⟩
  unfold sgnN;split<;>omega
 ·rw[beq_eq_false_iff_ne.2 h,d210_eq hA hB (by omega) (by omega),d210_eq hB hA (by omega) (by omega),zat,zat]
  simp only[xae,xab]
  by_cases hlt:a<b
  ·rw[if_pos hlt,if_neg (by omega)]
   refine⟨t,b-a,rfl,?_,by omega⟩
   unfold sgnN
   cases s<;>cases t<;>simp at h⊢ <;>omega
  ·rw[if_neg hlt]
   refine⟨s,a-b,rfl,?_,by omega⟩
   unfold sgnN
   cases s<;>cases t<;>simp at h⊢ <;>omega
theorem add_mk{x y:Rat}:mkRat (x.num*y.den+y.num*x.den) (x.den*y.den)=x+y:=by
 have:=Rat.mkRat_add_mkRat x.num y.num x.den_nz y.den_nz
 rw[Rat.mkRat_self,Rat.mkRat_self]at this
 exact this.symm
theorem sgn_scale(x:Rat)(d:Nat):sgnN (decide (x.num<0)) (x.num.natAbs*d)=x.num*d:=by
 have h:=sgn_num x
 unfold sgnN at h ⊢
 split
 ·rename_i h1
  rw[if_pos h1]at h
  rw[←h]
  simp[Int.neg_mul]
 ·rename_i h1
  rw[if_neg h1]at h
  rw[←h]
  simp
theorem d138_rr{x y:Rat}(hx:Sz 268435456 (rr x))(hy:Sz 268435456 (rr y)):d138 (rr x) (rr y)=some (rr (x+y)):=by
 unfold d138
 rw[zje (rr_ok x) ⟨by have:=hx.1;omega,by have:=hx.2;omega⟩,zje (rr_ok y) ⟨by have:=hy.1;omega,by have:=hy.2;omega⟩,rv_rr,rv_rr]
 simp only[xab]
 obtain⟨a1,a2⟩:=hx
 obtain⟨b1,b2⟩:=hy
 simp only[rr]at a1 a2 b1 b2 ⊢
 rw[d177_eq (zak _) (zak _) (by omega) (by omega),d177_eq (zak _) (zak _) (by omega) (by omega),d177_eq (zak _) (zak _) (by omega) (by omega)]
 simp only[xab,zat]
 have m1:=zfp x.num.natAbs y.den
 have m2:=zfp y.num.natAbs x.den
 have m3:=zfp x.den y.den
 obtain⟨u,c,e1,e2,e3⟩:=sum_eq (decide (x.num<0)) (decide (y.num<0)) (a:=x.num.natAbs*y.den) (b:=y.num.natAbs*x.den) (by omega) (by omega)
 have m4:=zoi (x.num.natAbs*y.den) (y.num.natAbs*x.den)
 have m5:=zdb e3
 rw[e1]
 simp only[xab]
 rw[d127_eq u (zak c) (zak _) (by omega) (by omega),zat,zat,e2,sgn_scale,sgn_scale,add_mk]
 rfl
theorem rv_not(r:Rt):rv (!r.1,r.2)=- rv r:=by
 unfold rv
 rw[sgnN_not,Rat.neg_mkRat]
theorem d138_gen{a b:Rt}(ha:RtOK a)(hb:RtOK b)(ka:Sz 268435456 a)(kb:Sz 268435456 b):d138 a b=some (rr (rv a+rv b)):=by
 have ha':=rr_sz ha ka (by omega)
 have hb':=rr_sz hb kb (by omega)
 rw[←d138_rr ha' hb']
 unfold d138
 rw[zje ha ⟨by have:=ka.1;omega,by have:=ka.2;omega⟩,zje hb ⟨by have:=kb.1;omega,by have:=kb.2;omega⟩,zje (rr_ok _) ⟨by have:=ha'.1;omega,by have:=ha'.2;omega⟩,zje (rr_ok _) ⟨by have:=hb'.1;omega,by have:=hb'.2;omega⟩,rv_rr,rv_rr]
theorem d132_rr{x y:Rat}(hx:Sz 268435456 (rr x))(hy:Sz 268435456 (rr y)):d132 (rr x) (rr y)=some (rr (x-y)):=by
 unfold d132
 rw[d138_gen (rr_ok x) (b:=(!(rr y).1,(rr y).2)) (rr_ok y) hx hy,rv_not,rv_rr,rv_rr,Rat.sub_eq_add_neg]
 rfl
def cmpQ(x y:Rat):Int:=if x<y then -1 else if x=y then 0 else 1
theorem zjj{x y:Rat}:x-y=0↔x=y:=by
 constructor
 ·intro h;grind
 ·intro h;grind
theorem zkq{x y:Rat}:x-y<0↔x<y:=by
 constructor
 ·intro h;grind
 ·intro h;grind
theorem d137_rr{x y:Rat}(hx:Sz 268435456 (rr x))(hy:Sz 268435456 (rr y)):d137 (rr x) (rr y)=some (cmpQ x y):=by
 unfold d137
 rw[d132_rr hx hy]
 simp only[xab]
 rw[rr_neg]
 unfold cmpQ
 by_cases h:x<y
 ·rw[decide_eq_true (zkq.2 h),if_pos h];rfl
 ·rw[decide_eq_false (fun hc=>h (zkq.1 hc)),if_neg h]
  by_cases h2:x=y
  ·rw[if_pos h2,(zmp (x-y)).2 (zjj.2 h2)];rfl
  ·have:(rr (x-y)).2.1≠ []:=fun hc=>h2 (zjj.1 ((zmp _).1 hc))
   have:=xco.2 this
   rw[if_neg h2,decide_eq_false (by omega)];rfl
theorem d128_eq{n:Int}(h0:-9223372036854775807≤n)(h1:n≤9223372036854775807):d128 n=some (zal n.natAbs):=by
 unfold d128
 by_cases h:n<0
 ·have e:wu64 (0-wu64 n)=-n:=by
   rw[wu64_mod,wu64_mod];omega
  rw[decide_eq_true h,xad,e,zow (by omega) (by omega),show(-n).toNat=n.natAbs by omega];rfl
 ·rw[decide_eq_false h,xae,zbf (by omega) (by omega),zow (by omega) (by omega),show n.toNat=n.natAbs by omega];rfl
theorem zlh{n:Nat}(h:n<18446744073709551616):(zal n).length≤2:=(zao n 2).2 h
end Go.Proofs.YtmipjomnjkmdbaaGreat
namespace Go.Proofs.YtmipjomnjkmdbaaGreat
open Go Go.X
theorem B_pow(i:Nat):4294967296^i=2^(32*i):=by rw[Nat.pow_mul]
def Bz(k:Nat)(q:Rat):Prop:=q.num.natAbs<2^k∧q.den<2^k
theorem Bz.sz{k:Nat}{q:Rat}(h:Bz (32*k) q):Sz k (rr q):=by
 refine⟨(zao _ _).2 ?_,(zao _ _).2 ?_⟩
 ·rw[B_pow];exact h.1
 ·rw[B_pow];exact h.2
end Go.Proofs.YtmipjomnjkmdbaaGreat
namespace Go.Proofs.YtmipjomnjkmdbaaGreat
open Go Go.X
def lst{α:Type}(f:Nat→α)(n:Nat):List α:=(List.range n).map f
theorem zam{α:Type}(f:Nat→α)(n:Nat):(lst f n).length=n:=by simp[lst]
theorem zbd{α:Type}(f:Nat→α){n i:Nat}(h:i<n)(d:α):(lst f n).getD i d=f i:=by
 simp[lst,xac,xbr,List.getElem?_range h]
theorem zog{α:Type}(f:Nat→α){n i:Nat}(h:i<n):(lst f n)[i]?=some (f i):=by
 simp[lst,xbr,List.getElem?_range h]
theorem zia{α:Type}(f:Nat→α)(n:Nat):lst f (n+1)=lst f n++[f n]:=by simp[lst,xgu]
theorem zbu{α:Type}{f g:Nat→α}{n:Nat}(h:∀i,i<n→f i=g i):lst f n=lst g n:=by
 unfold lst
 exact xew fun i hi=>h i (List.mem_range.1 hi)
def upd{α:Type}(f:Nat→α)(i:Nat)(x:α):Nat→α:=fun j=>if j=i then x else f j
theorem upd_self{α:Type}(f:Nat→α)(i:Nat)(x:α):upd f i x i=x:=if_pos rfl
theorem zmd{α:Type}(f:Nat→α){i j:Nat}(x:α)(h:j≠i):upd f i x j=f j:=if_neg h
theorem ziy{α:Type}(f:Nat→α)(n i:Nat)(x:α):(lst f n).set i x=lst (upd f i x) n:=by
 refine xfi fun j=>?_
 by_cases hj:j<n
 ·rw[zog _ hj]
  by_cases h:i=j
  ·subst h
   rw[List.getElem?_set_self (by rw[zam];exact hj),upd_self]
  ·rw[xhf h,zog _ hj,zmd _ _ (fun e=>h e.symm)]
 ·rw[xca (by rw[List.length_set,zam];omega),xca (by rw[zam];omega)]
theorem lst_map{α β:Type}(f:Nat→α)(g:α→β)(n:Nat):(lst f n).map g=lst (fun i=>g (f i)) n:=by simp[lst]
theorem zof{α:Type}(l:List α)(d:α):lst (fun i=>l.getD i d) l.length=l:=by
 refine xfi fun j=>?_
 by_cases hj:j<l.length
 ·rw[zog _ hj,xac,xag hj];rfl
 ·rw[xca (by rw[zam];omega),xca (by omega)]
theorem zoe{α:Type}(x:α)(n:Nat):List.replicate n x=lst (fun _=>x) n:=by
 induction n with
 |zero=>rfl
 |succ n ih=>rw[zia,List.replicate_succ',ih]
theorem mem_lst{α:Type}{f:Nat→α}{n:Nat}{x:α}:x∈lst f n↔∃i,i<n∧f i=x:=by simp[lst]
def sumN(f:Nat→Nat):Nat→Nat
 | 0=>0
 |n+1=>sumN f n+f n
theorem zbs{f g:Nat→Nat}:∀{n:Nat},(∀i,i<n→f i=g i)→sumN f n=sumN g n
 | 0,_=>rfl
 |n+1,h=>by rw[sumN,sumN,zbs fun i hi=>h i (by omega),h n (by omega)]
theorem ziq{f g:Nat→Nat}:∀{n:Nat},(∀i,i<n→f i≤g i)→sumN f n≤sumN g n
 | 0,_=>Nat.le_refl _
 |n+1,h=>Nat.add_le_add (ziq fun i hi=>h i (by omega)) (h n (by omega))
theorem zhp(f g:Nat→Nat):∀n:Nat,sumN (fun i=>f i+g i) n=sumN f n+sumN g n
 | 0=>rfl
 |n+1=>by rw[sumN,sumN,sumN,zhp f g n];omega
theorem zhn(f:Nat→Nat)(c:Nat):∀n:Nat,sumN (fun i=>f i*c) n=sumN f n*c
 | 0=>by rw[sumN,sumN,xel]
 |n+1=>by rw[sumN,sumN,zhn f c n,xbj]
theorem zhm:∀n:Nat,sumN (fun _=>0) n=0
 | 0=>rfl
 |n+1=>by rw[sumN,zhm n]
theorem zkp(f:Nat→Nat→Nat)(n:Nat):∀m:Nat,sumN (fun i=>sumN (f i) n) m=sumN (fun j=>sumN (fun i=>f i j) m) n
 | 0=>by simp only[sumN,zhm]
 |m+1=>by
  simp only[sumN]
  rw[zkp f n m,←zhp]
theorem sumN_pos{f:Nat→Nat}:∀{n:Nat},0<sumN f n→∃i,i<n∧0<f i
 | 0,h=>absurd h (by simp[sumN])
 |n+1,h=>by
  rw[sumN]at h
  by_cases h0:0<f n
  ·exact⟨n,by omega,h0⟩
  ·obtain⟨i,h1,h2⟩:=sumN_pos (show 0<sumN f n by omega)
   exact⟨i,by omega,h2⟩
theorem sumN_one(c v:Nat):∀n:Nat,sumN (fun i=>if i=c then v else 0) n=if c<n then v else 0
 | 0=>rfl
 |n+1=>by
  rw[sumN,sumN_one c v n]
  by_cases h:c<n
  ·rw[if_pos h,if_neg (show n≠c by omega),if_pos (show c<n+1 by omega)];rfl
  ·rw[if_neg h]
   by_cases h2:n=c
   ·rw[if_pos h2,if_pos (by omega)];omega
   ·rw[if_neg h2,if_neg (by omega)]
theorem znp{f:Nat→Nat}{n i:Nat}(h:i<n):f i≤sumN f n:=by
 induction n with
 |zero=>omega
 |succ n ih=>
  rw[sumN]
  by_cases h2:i=n
  ·subst h2;omega
  ·have:=ih (by omega);omega
theorem sumN_upd{f g:Nat→Nat}{n c:Nat}(hc:c<n)(h:∀i,i<n→i≠c→f i=g i):sumN f n+g c=sumN g n+f c:=by
 induction n with
 |zero=>omega
 |succ n ih=>
  rw[sumN,sumN]
  by_cases h2:c=n
  ·subst h2
   rw[zbs fun i hi=>h i (by omega) (by omega)];omega
  ·have:=ih (by omega) fun i hi hn=>h i (by omega) hn
   have:=h n (by omega) (by omega)
   omega
def selN(p:Nat→Bool)(n:Nat):List Nat:=(List.range n).filter p
def selI(p:Nat→Bool)(n:Nat):List Int:=(selN p n).map Int.ofNat
def cntN(p:Nat→Bool)(n:Nat):Nat:=sumN (fun i=>if p i then 1 else 0) n
theorem zkv(p:Nat→Bool)(n:Nat):selN p (n+1)=selN p n++(if p n then [n]else []):=by
 unfold selN
 rw[xgu,xej]
 congr 1
 cases h:p n<;>simp[xee,h]
theorem zec(p:Nat→Bool)(n:Nat):selI p (n+1)=selI p n++(if p n then [(n:Int)]else []):=by
 unfold selI
 rw[zkv,xdq]
 congr 1
 cases h:p n<;>rfl
theorem zfk(p:Nat→Bool):∀n:Nat,(selN p n).length=cntN p n
 | 0=>rfl
 |n+1=>by
  rw[zkv,List.length_append,zfk p n]
  show _=cntN p n+(if p n then 1 else 0)
  cases h:p n<;>rfl
theorem zbp(p:Nat→Bool)(n:Nat):(selI p n).length=cntN p n:=by rw[selI,xbz,zfk]
theorem zen{p:Nat→Bool}{n i:Nat}:i∈selN p n↔i<n∧p i=true:=by
 unfold selN;rw[List.mem_filter,List.mem_range]
theorem zbe{p:Nat→Bool}{n:Nat}{x:Int}:x∈selI p n↔∃i:Nat,x=(i:Int)∧i<n∧p i=true:=by
 unfold selI
 rw[xdz]
 constructor
 ·rintro⟨i,h,rfl⟩;exact⟨i,rfl,zen.1 h⟩
 ·rintro⟨i,rfl,h⟩;exact⟨i,zen.2 h,rfl⟩
theorem selN_congr{p q:Nat→Bool}{n:Nat}(h:∀i,i<n→p i=q i):selN p n=selN q n:=by
 unfold selN
 exact xdb fun i hi=>h i (List.mem_range.1 hi)
theorem zmn{p q:Nat→Bool}{n:Nat}(h:∀i,i<n→p i=q i):selI p n=selI q n:=by
 unfold selI;rw[selN_congr h]
theorem cntN_congr{p q:Nat→Bool}{n:Nat}(h:∀i,i<n→p i=q i):cntN p n=cntN q n:=zbs fun i hi=>by rw[h i hi]
theorem zdc(p:Nat→Bool)(n:Nat):cntN p n≤n:=by
 rw[←zfk]
 unfold selN
 exact Nat.le_trans (xgx _ _) (by simp)
theorem zpa{p:Nat→Bool}{n:Nat}:0<cntN p n↔∃i,i<n∧p i=true:=by
 constructor
 ·intro h
  obtain⟨i,h1,h2⟩:=sumN_pos h
  refine⟨i,h1,?_⟩
  cases hp:p i
  ·rw[hp]at h2;simp at h2
  ·rfl
 ·rintro⟨i,h1,h2⟩
  have:=znp (f:=fun i=>if p i then 1 else 0) h1
  simp only[h2]at this
  exact this
theorem selN_filter(p q:Nat→Bool)(n:Nat):(selN p n).filter q=selN (fun i=>p i&&q i) n:=by
 unfold selN
 rw[xgc]
 exact xdb fun i _=>by rw[Bool.and_comm]
def extr(least:Bool)(r:Int→Rat)(l:List Int):List Int:=l.filter fun i=>l.all fun k=>if least then decide (r i≤r k)else decide (r k≤r i)
def zbn(round:List Rat)(c:Int):Rat:=round.getD c.toNat 0
def zbx(lots:List Int)(c:Int):Nat:=lots.idxOf c
def byLot(lots:List Int)(least:Bool)(l:List Int):Int:=l.tail.foldl (fun m c=>if least then(if zbx lots m<zbx lots c then c else m)else(if zbx lots c<zbx lots m then c else m)) (l.headD 0)
def zas(ties:Int)(earlier:List (List Rat)):List (List Rat):=if ties=3 then []else if ties=1 then earlier.reverse else earlier
def tieL(least:Bool)(rounds:List (List Rat))(tied:List Int):List Int:=rounds.foldl (fun l r=>if 1<l.length then extr least (zbn r) l else l) tied
def tieB(ties:Int)(earlier:List (List Rat))(tied lots:List Int)(least:Bool):Int:=
 let l:=tieL least (zas ties earlier) tied
 if l.length=1 then l.headD 0 else byLot lots least l
abbrev Gp:=List Int×Int
structure GP where
 gs:List Gp
 n:Nat
 seats:Nat
 q:Nat
 tot:Nat
 ties:Int
 lots:List Int
def GP.p(P:GP)(g:Nat):List Int:=(P.gs.getD g ([],0)).1
def GP.k(P:GP)(g:Nat):Nat:=(P.gs.getD g ([],0)).2.toNat
def GP.G(P:GP):Nat:=P.gs.length
structure GS where
 D:Nat
 num:Nat→Nat
 at_:Nat→Nat
 st:Nat→Nat
 keep:Nat→Rat
def frac(a b:Nat):Rat:=(a:Rat)/(b:Rat)
structure Rd where
 votes:List Rat
 keep:List Rat
 quota:Rat
 exh:Rat
 sur:Rat
 el:List Int
 ex:List Int
 ti:List Int
end Go.Proofs.YtmipjomnjkmdbaaGreat
namespace Go.Proofs.YtmipjomnjkmdbaaGreat
open Go Go.X
theorem zep{α:Type}(f:α→Rat):∀{l:List α},l≠ []→∃i∈l,∀k∈l,f i≤f k
 | [],h=>absurd rfl h
 | [x],_=>⟨x,by simp,fun k hk=>by simp at hk;subst hk;exact Rat.le_refl⟩
 |x::y::l,_=>by
  obtain⟨i,h1,h2⟩:=zep f (l:=y::l) (by simp)
  rcases Rat.le_total (a:=f x) (b:=f i)with h|h
  ·refine⟨x,by simp,fun k hk=>?_⟩
   rcases xat.1 hk with rfl|hk
   ·exact Rat.le_refl
   ·exact Rat.le_trans h (h2 k hk)
  ·refine⟨i,xai _ h1,fun k hk=>?_⟩
   rcases xat.1 hk with rfl|hk
   ·exact h
   ·exact h2 k hk
theorem zoo{α:Type}(f:α→Nat){l:List α}(h:l≠ []):∃i∈l,∀k∈l,f i≤f k:=by
 induction l with
 |nil=>exact absurd rfl h
 |cons x l ih=>
  by_cases hl:l=[]
  ·subst hl;exact⟨x,by simp,fun k hk=>by simp at hk;subst hk;exact Nat.le_refl _⟩
  ·obtain⟨i,h1,h2⟩:=ih hl
   by_cases hx:f x≤f i
   ·refine⟨x,by simp,fun k hk=>?_⟩
    rcases xat.1 hk with rfl|hk
    ·exact Nat.le_refl _
    ·exact Nat.le_trans hx (h2 k hk)
   ·refine⟨i,xai _ h1,fun k hk=>?_⟩
    rcases xat.1 hk with rfl|hk
    ·omega
    ·exact h2 k hk
theorem extr_ne{least:Bool}{r:Int→Rat}{l:List Int}(h:l≠ []):extr least r l≠ []:=by
 cases least
 ·obtain⟨i,h1,h2⟩:=zep (fun i=>- r i) h
  have:i∈extr false r l:=List.mem_filter.2 ⟨h1,xby.2 fun k hk=>by
   have:=h2 k hk
   simp only[xba,xch,xaj]
   grind⟩
  exact xfc this
 ·obtain⟨i,h1,h2⟩:=zep r h
  have:i∈extr true r l:=List.mem_filter.2 ⟨h1,xby.2 fun k hk=>by
   simp only[if_true,xaj]
   exact h2 k hk⟩
  exact xfc this
theorem extr_sub{least:Bool}{r:Int→Rat}{l:List Int}{x:Int}(h:x∈extr least r l):x∈l:=(List.mem_filter.1 h).1
theorem zhk:∀{least:Bool} {rounds:List (List Rat)} {l:List Int} {x:Int},x∈tieL least rounds l→x∈l
 |_,[],_,_,h=>h
 |least,r::rounds,l,x,h=>by
  have h':x∈tieL least rounds (if 1<l.length then extr least (zbn r) l else l):=h
  have:=zhk h'
  split at this
  ·exact extr_sub this
  ·exact this
theorem tieL_ne:∀{least:Bool} {rounds:List (List Rat)} {l:List Int},l≠ []→tieL least rounds l≠ []
 |_,[],_,h=>h
 |least,r::rounds,l,h=>by
  show tieL least rounds (if 1<l.length then extr least (zbn r) l else l)≠ []
  refine tieL_ne ?_
  split
  ·exact extr_ne h
  ·exact h
theorem zie{α:Type}(f:α→α→α)(hf:∀a b,f a b=a∨f a b=b):∀(l:List α) (x:α),l.foldl f x=x∨l.foldl f x∈l
 | [],x=>.inl rfl
 |y::l,x=>by
  rw[xen]
  rcases zie f hf l (f x y)with h|h
  ·rw[h]
   rcases hf x y with h1|h1
   ·exact .inl h1
   ·exact .inr (by rw[h1];simp)
  ·exact .inr (xai _ h)
theorem byLot_mem{lots:List Int}{least:Bool}{l:List Int}(h:l≠ []):byLot lots least l∈l:=by
 cases l with
 |nil=>exact absurd rfl h
 |cons x l=>
  unfold byLot
  simp only[List.tail_cons,xgy]
  rcases zie (fun m c=>if least then(if zbx lots m<zbx lots c then c else m)else(if zbx lots c<zbx lots m then c else m)) (fun a b=>by cases least<;>simp only[if_true,xba,xch]<;>split<;>simp) l x with h|h
  ·rw[h];simp
  ·exact xai _ h
theorem zid{l:List Int}(h:l≠ []):l.headD 0∈l:=by
 cases l with
 |nil=>exact absurd rfl h
 |cons x l=>simp
theorem tieB_mem{ties:Int}{earlier:List (List Rat)}{tied lots:List Int}{least:Bool}(h:tied≠ []):tieB ties earlier tied lots least∈tied:=by
 unfold tieB
 have hn:=tieL_ne (least:=least) (rounds:=zas ties earlier) h
 simp only
 split
 ·exact zhk (zid hn)
 ·exact zhk (byLot_mem hn)
theorem getD_drop{α:Type}(l:List α)(k i:Nat)(d:α):(l.drop k).getD i d=l.getD (k+i) d:=by
 simp[xac,xhl]
def GP.mkd(P:GP):Nat:=sumN (fun g=>if P.p g=[]then 0 else P.k g) P.G
structure GP.OK(P:GP):Prop where
 n1:1≤P.n
 n7:P.n≤7
 seats1:1≤P.seats
 seats5:P.seats≤5
 prefs:∀g,g<P.G→∀c∈P.p g,∃i:Nat,c=(i:Int)∧i<P.n
 plen:∀g,g<P.G→(P.p g).length≤7
 total:sumN P.k P.G=P.tot
 tot5:P.tot≤100000
 q1:1≤P.q
 q5:P.q≤100001
 quota:P.mkd<P.q*(P.seats+1)
 ties1:1≤P.ties
 ties3:P.ties≤3
 lotn:P.lots.length=P.n
 lots:∀c∈P.lots,∃i:Nat,c=(i:Int)∧i<P.n
 lotd:P.lots.Nodup
variable {P:GP} {s:GS}
theorem zcb{l:List Int}{i:Nat}(h:i<l.length):l.getD i 0∈l:=by
 rw[xac,xag h]
 exact xbm h
theorem cnt_upd{p q:Nat→Bool}{n x:Nat}(hx:x<n)(h:∀i,i<n→i≠x→p i=q i)(h0:q x=false)(h1:p x=true):cntN p n=cntN q n+1:=by
 have:=sumN_upd (f:=fun i=>if p i then 1 else 0) (g:=fun i=>if q i then 1 else 0) hx fun i hi hne=>by rw[h i hi hne]
 simp only[h0,h1,if_true,xba,xch]at this
 unfold cntN
 omega
def eB:Nat:=2208
end Go.Proofs.YtmipjomnjkmdbaaGreat
namespace Go.Proofs.YtmipjomnjkmdbaaGreat
open Go Go.X
abbrev CT:=List Int×(List (List Int)×(Int×(Int×(Int×(Int×(Int×(Int×Int)))))))
abbrev RD:=List Rt×(List Rt×(Rt×(Rt×(Rt×(List Int×(List Int×List Int))))))
theorem zet{α:Type}{l:List α}{d:α}(h:l.length+1≤4294967296):decide ((l.length:Int)+(([d]:List α).length:Int)≤LIM)=true:=by
 have:(l.length:Int)+(([d]:List α).length:Int)=((l.length+1:Nat):Int):=by simp
 rw[this];exact zbo h
theorem zos(a b:Nat):decide ((a:Int)=(b:Int))=decide (a=b):=xdi.2 xeb
theorem frac_nd(a b:Nat):(frac a b).num.natAbs≤a∧(frac a b).den≤max 1 b:=by
 have e:frac a b=mkRat a b:=by
  unfold frac
  rw[Rat.mkRat_eq_div]
  rfl
 rw[e]
 by_cases hb:b=0
 ·subst hb;rw[Rat.mkRat_zero];exact⟨xbn _,xgt _ _⟩
 ·rw[Rat.num_mkRat,Rat.den_mkRat,if_neg hb,if_neg hb]
  refine⟨?_,Nat.le_trans (xcy _ _) (Nat.le_max_right _ _)⟩
  rw[xgd]
  have:((a:Int)/((b.gcd a:Nat):Int))=((a/b.gcd a:Nat):Int):=rfl
  rw[this,xgd]
  exact xcy _ _
theorem frac_bz{a b e:Nat}(ha:a<2^e)(hb:b<2^e)(he:1≤e):Bz e (frac a b):=by
 obtain⟨h1,h2⟩:=frac_nd a b
 have:1<2^e:=Nat.one_lt_two_pow (by omega)
 exact⟨by omega,by omega⟩
theorem Bz.sz2{q:Rat}(h:Bz eB q):Sz 268435456 (rr q):=by
 have h':Bz (32*69) q:=h
 have:=Bz.sz (k:=69) h'
 exact⟨by have:=this.1;omega,by have:=this.2;omega⟩
theorem selN_getD_lt{p:Nat→Bool}{n j:Nat}(h:j<(selN p n).length):(selN p n).getD j 0<n∧p ((selN p n).getD j 0)=true:=by
 rw[xac,xag h]
 exact zen.1 (xbm h)
theorem selI_getD{p:Nat→Bool}{n j:Nat}(h:j<(selN p n).length):(selI p n).getD j 0=(((selN p n).getD j 0:Nat):Int):=by
 unfold selI
 rw[xac,xbr,xag h,xac,xag h];rfl
theorem zbj{α:Type}(l:List α)(d:α){n:Nat}(h:n<l.length):l.take (n+1)=l.take n++[l.getD n d]:=by
 rw[xeo,xac,xag h];rfl
def zeu{α:Type}(f:Nat→α)(L:List Nat)(x:α):Nat→α:=fun c=>if c∈L then x else f c
theorem updAll_snoc{α:Type}(f:Nat→α)(L:List Nat)(c:Nat)(x:α):upd (zeu f L x) c x=zeu f (L++[c]) x:=by
 funext d
 unfold upd zeu
 by_cases h:d=c
 ·subst h;simp
 ·simp[h]
theorem updAll_nil{α:Type}(f:Nat→α)(x:α):zeu f [] x=f:=by funext d;simp[zeu]
variable {P:GP} {s:GS}
end Go.Proofs.YtmipjomnjkmdbaaGreat
namespace Go.Proofs.YtmipjomnjkmdbaaGreat
open Go Go.X
theorem zno{α:Type}(l:List α)(x:α){i:Nat}(h:i<l.length):(l.set i x).take (i+1)=l.take i++[x]:=by
 refine xfi fun j=>?_
 by_cases hj:j<i+1
 ·rw[xgh hj]
  by_cases h2:i=j
  ·subst h2
   rw[List.getElem?_set_self h,xcq (by rw[xav];omega),xav,xdx (by omega),Nat.sub_self];rfl
  ·rw[xhf h2,xcv (by rw[xav];omega),xgh (by omega)]
 ·rw[xca (by rw[xav,List.length_set];omega),xca (by rw[List.length_append,xav];simp;omega)]
theorem zdp(g:Int→Bool)(s:List Int){j:Nat}(h:j<s.length):(s.take (j+1)).filter g=(s.take j).filter g++(if g (s.getD j 0)then [s.getD j 0]else []):=by
 rw[zbj s 0 h,xej]
 congr 1
 rw[xee]
 cases hg:g (s.getD j 0)<;>rfl
theorem getD_of_drop{s t:List Int}{j:Nat}(h:s.drop j=t.drop j):s.getD j 0=t.getD j 0:=by
 have h1:=getD_drop s j 0 0
 have h2:=getD_drop t j 0 0
 rw[xda]at h1 h2
 rw[←h1,←h2,h]
theorem zjp{s t:List Int}{j:Nat}(h:s.drop j=t.drop j):s.drop (j+1)=t.drop (j+1):=by
 rw[←xhi,←xhi,h]
theorem d134_eq{s:List Int}{f:Int→Option Bool}{g:Int→Bool}(hf:∀c∈s,f c=some (g c))(hs:s.length≤1000000):d134 s f=some (s.filter fun c=>!g c):=by
 unfold d134
 rw[d101_on hf (by omega)]
 have hle:=zez g s
 by_cases h:zar g s<s.length
 ·rw[if_pos h,xab,decide_eq_false (show ¬((zar g s:Nat):Int)=-1 by omega),xae]
  obtain⟨i0,hi0⟩:∃i0,zar g s=i0:=⟨_,rfl⟩
  have hat:=zfa g s h
  have hlt:=zct g s
  rw[hi0]at h hat hlt
  rw[hi0,zbc (by omega)]
  refine zbq (Q:=fun r=>r=some (s.filter fun c=>!g c)) (fun(m:Nat) (st:(List Int)×(Int→Option Bool)×Int×Int)=>∃(s':List Int) (i:Nat),st=(s',f,(i:Int),((i0+1+m:Nat):Int))∧s'.length=s.length∧i≤i0+m∧i0+1+m≤s.length∧s'.take i=(s.take (i0+1+m)).filter (fun c=>!g c)∧s'.drop (i0+1+m)=s.drop (i0+1+m)) (s.length-(i0+1)) ?_ ?_ ?_
  ·refine⟨s,i0,rfl,rfl,by omega,by omega,?_,rfl⟩
   rw[zdp _ s h,hat,show(!true)=false from rfl]
   simp only[xba,xch,xcm]
   refine(xfx.2 fun x hx=>?_).symm
   obtain⟨k,hk,hkx⟩:=xbq hx
   rw[xav]at hk
   have:=hlt k (by omega)
   rw[xac,xag (by omega)]at this
   rw[xep]at hkx
   rw[←hkx]
   simpa using this
  ·rintro m st hm ⟨s',i,rfl,hl,hi,hmle,ht,hd⟩
   have hj:i0+1+m<s.length:=by omega
   have hgd:=getD_of_drop hd
   have hmem:s.getD (i0+1+m) 0∈s:=zcb hj
   simp only[hl,dlt hj,d0le,xah,xad,tn,zah,hgd,hf _ hmem,xab]
   rw[show i0+1+(m+1)=i0+1+m+1 by omega]
   cases hg:g (s.getD (i0+1+m) 0)with
   |true=>
    refine⟨_,by rw[xap,xae,zbc (by omega)],s',i,rfl,hl,by omega,by omega,?_,zjp hd⟩
    rw[zdp _ s hj,hg,ht];simp
   |false=>
    refine⟨_,by simp only[xal,xad,dlt (show i<s.length by omega),zbc (show i<9223372036854775807 by omega),zbc (show i0+1+m<9223372036854775807 by omega),xah],s'.set i (s.getD (i0+1+m) 0),i+1,rfl,by simpa using hl,by omega,by omega,?_,?_⟩
    ·rw[zno _ _ (by omega),zdp _ s hj,hg,ht];simp
    ·rw[List.drop_set_of_lt (by omega)];exact zjp hd
  ·rintro st ⟨s',i,rfl,hl,hi,hmle,ht,hd⟩
   have e:i0+1+(s.length-(i0+1))=s.length:=by omega
   rw[e]at ht hd ⊢
   rw[xbo]at ht
   refine⟨(s',(i:Int)),by simp only[hl,nlt (Nat.le_refl s.length),xae],?_⟩
   have hil:i≤s'.length:=by omega
   have hlen:(List.take i s'++List.replicate (s'.length-i) 0).length=s'.length:=by simp;omega
   have c1:zbz (i:Int) (s'.length:Int) s'.length=true:=by
    unfold zbz
    simp only[xaf,xaj]
    omega
   have c2:zbz 0 (i:Int) s'.length=true:=by
    unfold zbz
    simp only[xaf,xaj]
    omega
   simp only[c1,xad,tn,hlen,c2]
   rw[List.take_append_of_le_length (by rw[xav];omega),List.take_take,Nat.min_self,ht]
 ·rw[if_neg h,xab]
  have hall:∀x∈s,g x=false:=fun x hx=>by
   cases hg:g x
   ·rfl
   ·exact absurd ((zhg g s).2 ⟨x,hx,hg⟩) h
  rw[xfx.2 fun x hx=>by rw[hall x hx];rfl]
  rfl
theorem zed(p:Nat→Bool):∀n:Nat,(selI p n).Pairwise (·< ·)
 | 0=>List.Pairwise.nil
 |n+1=>by
  rw[zec,xeq]
  refine⟨zed p n,by split<;>simp,fun x hx y hy=>?_⟩
  obtain⟨i,rfl,h1,_⟩:=zbe.1 hx
  split at hy
  ·simp at hy;subst hy;omega
  ·simp at hy
theorem sortI_of{l m:List Int}(hp:l.Perm m)(hs:m.Pairwise (·≤·)):zdh l=m:=by
 unfold zdh
 have h1:=List.mergeSort_perm l fun x y=>decide (x≤y)
 have h2:(l.mergeSort fun x y=>decide (x≤y)).Pairwise (·≤·):=by
  have:=List.pairwise_mergeSort (le:=fun x y:Int=>decide (x≤y)) (fun a b c h1 h2=>decide_eq_true (Int.le_trans (of_decide_eq_true h1) (of_decide_eq_true h2))) (fun a b=>by simp only[xdf,xaj];omega) l
  exact this.imp fun h=>of_decide_eq_true h
 exact(h1.trans hp).eq_of_pairwise (fun a b _ _ h3 h4=>Int.le_antisymm h3 h4) h2 hs
theorem sel_perm{p q:Nat→Bool}(h:∀i,p i=true→q i=false):∀n:Nat,(selI p n++selI q n).Perm (selI (fun i=>p i||q i) n)
 | 0=>xhj _
 |n+1=>by
  have ih:=sel_perm h n
  rw[zec,zec,zec]
  cases hp:p n
  ·simp only[xba,xch,xcm,xbg]
   cases hq:q n
   ·simp only[xba,xch,xcm];exact ih
   ·simp only[if_true]
    rw[←xcp]
    exact ih.append_right _
  ·rw[h n hp]
   simp only[xba,xch,xcm,xbp,if_true]
   refine List.Perm.trans ?_ (ih.append_right [(n:Int)])
   rw[xcp,xcp]
   exact List.Perm.append_left _ xgv
theorem sortI_two{p q:Nat→Bool}(h:∀i,p i=true→q i=false)(n:Nat):zdh (selI p n++selI q n)=selI (fun i=>p i||q i) n:=
 sortI_of (sel_perm h n) ((zed _ n).imp fun h=>Int.le_of_lt h)
def ext0(ρ:Int→Rat)(l:List Int):List Int:=l.filter fun i=>l.all fun k=>decide (ρ i≤ρ k)
def sgR(least:Bool)(r:Int→Rat)(c:Int):Rat:=if least then r c else-r c
theorem extr_ext0(least:Bool)(r:Int→Rat)(l:List Int):extr least r l=ext0 (sgR least r) l:=by
 unfold extr ext0 sgR
 refine xdb fun i _=>?_
 congr 1
 funext k
 cases least
 ·simp only[xba,xch]
  exact xdi.2 ⟨fun h=>by grind,fun h=>by grind⟩
 ·rfl
theorem zon{ρ:Int→Rat}{l:List Int}{x:Int}:x∈ext0 ρ l↔x∈l∧∀k∈l,ρ x≤ρ k:=by
 unfold ext0
 rw[List.mem_filter,xby]
 simp only[xaj]
theorem ext0_ne{ρ:Int→Rat}{l:List Int}(h:l≠ []):ext0 ρ l≠ []:=by
 obtain⟨i,h1,h2⟩:=zep ρ h
 exact xfc (zon.2 ⟨h1,h2⟩)
theorem ext0_nil(ρ:Int→Rat):ext0 ρ []=[]:=rfl
theorem ext0_snoc(ρ:Int→Rat){l:List Int}(x:Int)(hl:l≠ []):ext0 ρ (l++[x])=if ρ x<ρ ((ext0 ρ l).headD 0)then [x]else if ρ x=ρ ((ext0 ρ l).headD 0)then ext0 ρ l++[x]else ext0 ρ l:=by
 have hy:=zid (ext0_ne (ρ:=ρ) hl)
 generalize(ext0 ρ l).headD 0=y at hy ⊢
 obtain⟨h1,h2⟩:=zon.1 hy
 have e:ext0 ρ (l++[x])=l.filter (fun i=>(l.all fun k=>decide (ρ i≤ρ k))&&decide (ρ i≤ρ x))++if(l.all fun k=>decide (ρ x≤ρ k))then [x]else []:=by
  unfold ext0
  rw[xej]
  congr 1
  ·refine xdb fun i _=>?_
   rw[List.all_append];simp
  ·rw[xee,List.all_append]
   have:ρ x≤ρ x:=Rat.le_refl
   simp[this]
 rw[e]
 by_cases c1:ρ x<ρ y
 ·rw[if_pos c1]
  have a1:l.filter (fun i=>(l.all fun k=>decide (ρ i≤ρ k))&&decide (ρ i≤ρ x))=[]:=by
   refine xfe.2 fun i hi hc=>?_
   simp only[xaf,xaj]at hc
   have:=h2 i hi
   grind
  have a2:(l.all fun k=>decide (ρ x≤ρ k))=true:=xby.2 fun k hk=>decide_eq_true (by have:=h2 k hk;grind)
  rw[a1,a2];rfl
 ·rw[if_neg c1]
  have a1:l.filter (fun i=>(l.all fun k=>decide (ρ i≤ρ k))&&decide (ρ i≤ρ x))=ext0 ρ l:=by
   unfold ext0
   refine xdb fun i hi=>?_
   cases hall:(l.all fun k=>decide (ρ i≤ρ k))
   ·rfl
   ·have:=of_decide_eq_true (xby.1 hall y h1)
    rw[xbd]
    exact decide_eq_true (by grind)
  rw[a1]
  by_cases c2:ρ x=ρ y
  ·rw[if_pos c2]
   have a2:(l.all fun k=>decide (ρ x≤ρ k))=true:=xby.2 fun k hk=>decide_eq_true (by have:=h2 k hk;grind)
   rw[a2];rfl
  ·rw[if_neg c2]
   have a2:(l.all fun k=>decide (ρ x≤ρ k))=false:=by
    rw[List.all_eq_false]
    exact⟨y,h1,by simp only[xaj];grind⟩
   rw[a2];simp
def ordQ(least:Bool)(a b:Rat):Int:=if least then cmpQ a b else 0-cmpQ a b
theorem ordQ_lt(least:Bool)(r:Int→Rat)(x y:Int):decide (ordQ least (r x) (r y)<0)=decide (sgR least r x<sgR least r y):=by
 refine xdi.2 ?_
 unfold ordQ sgR cmpQ
 cases least<;>simp only[xba,xch,if_true]
 ·by_cases h1:r x<r y
  ·rw[if_pos h1];constructor
   ·intro h;omega
   ·intro h;grind
  ·rw[if_neg h1]
   by_cases h2:r x=r y
   ·rw[if_pos h2];constructor
    ·intro h;omega
    ·intro h;grind
   ·rw[if_neg h2];constructor
    ·intro _;grind
    ·intro _;omega
 ·by_cases h1:r x<r y
  ·rw[if_pos h1];constructor
   ·intro h;exact h1
   ·intro h;omega
  ·rw[if_neg h1];constructor
   ·intro h;split at h<;>omega
   ·intro h;exact absurd h h1
theorem ordQ_eq(least:Bool)(r:Int→Rat)(x y:Int):decide (ordQ least (r x) (r y)=0)=decide (sgR least r x=sgR least r y):=by
 refine xdi.2 ?_
 unfold ordQ sgR cmpQ
 cases least<;>simp only[xba,xch,if_true]
 ·by_cases h1:r x<r y
  ·rw[if_pos h1];constructor
   ·intro h;omega
   ·intro h;grind
  ·rw[if_neg h1]
   by_cases h2:r x=r y
   ·rw[if_pos h2];constructor
    ·intro h;grind
    ·intro h;omega
   ·rw[if_neg h2];constructor
    ·intro _;omega
    ·intro _;grind
 ·by_cases h1:r x<r y
  ·rw[if_pos h1];constructor
   ·intro h;omega
   ·intro h;grind
  ·rw[if_neg h1];constructor
   ·intro h;split at h
    ·assumption
    ·omega
   ·intro h;rw[if_pos h]
theorem cmpQ_bounds(a b:Rat):-1≤cmpQ a b∧cmpQ a b≤1:=by
 unfold cmpQ;(repeat' split)<;>omega
end Go.Proofs.YtmipjomnjkmdbaaGreat
namespace Go.Proofs.YtmipjomnjkmdbaaGreat
open Go Go.X
theorem zfr(v:Int):∀l:List Int,zar (fun x=>decide (v=x)) l=l.idxOf v
 | []=>rfl
 |x::l=>by
  unfold zar
  rw[List.idxOf_cons,zfr v l]
  by_cases h:v=x
  ·subst h;simp
  ·have:(x == v)=false:=by simp;exact fun e=>h e.symm
   rw[this];simp[h]
theorem d188_eq{lots:List Int}(hl:lots.length≤1000){a b:Int}(ha:a∈lots)(hb:b∈lots):d188 a b lots=some ((zbx lots a:Int)-(zbx lots b:Int)):=by
 unfold d188
 have h1:=List.idxOf_lt_length_iff.2 ha
 have h2:=List.idxOf_lt_length_iff.2 hb
 rw[zou a (by omega),zou b (by omega),zfr,zfr,if_pos h1,if_pos h2]
 simp only[xab]
 unfold zbx
 rw[zaz (by omega) (by omega)]
theorem d190_eq{x:List Int}{cmp:Int→Int→Option Int}{g:Int→Int→Int}(hx:x≠ [])(hl:x.length≤1000)(hc:∀a∈x,∀b∈x,cmp a b=some (g a b)):d190 x cmp=some (x.tail.foldl (fun m c=>if 0<g c m then c else m) (x.headD 0)):=by
 have hp:=xco.2 hx
 unfold d190
 rw[decide_eq_false (show ¬((x.length:Int)<1) by omega),xae,show(decide (0≤0)&&decide ((0:Int)<(x.length:Int)))=true by rw[decide_eq_true (show(0:Int)<(x.length:Int) by omega)];rfl,xad]
 have hmem:∀i,(x.tail.take i).foldl (fun m c=>if 0<g c m then c else m) (x.headD 0)∈x:=fun i=>by
  cases x with
  |nil=>exact absurd rfl hx
  |cons y x=>
   simp only[List.tail_cons,xgy]
   rcases zie (fun m c=>if 0<g c m then c else m) (fun a b=>by split<;>simp) (x.take i) y with h|h
   ·rw[h];simp
   ·exact xai _ (xcg h)
 refine zae (fun i=>(x,cmp,(x.tail.take i).foldl (fun m c=>if 0<g c m then c else m) (x.headD 0),((i+1:Nat):Int))) (x.length-1) ?_ (fun i hi=>?_) (b:=x.tail.foldl (fun m c=>if 0<g c m then c else m) (x.headD 0)) ?_ rfl
 ·rw[xdn,xhg]
  cases x with
  |nil=>exact absurd rfl hx
  |cons y x=>rfl
 ·have hlt:i+1<x.length:=by omega
  have hxm:x.getD (i+1) 0∈x:=zcb hlt
  have ht:x.tail.getD i 0=x.getD (i+1) 0:=by
   cases x with
   |nil=>exact absurd rfl hx
   |cons y x=>rfl
  have hs:x.tail.take (i+1)=x.tail.take i++[x.getD (i+1) 0]:=by rw[zbj x.tail 0 (by rw[xgk];omega),ht]
  simp only[dlt hlt,d0le,xah,xad,tn,zah,hc _ hxm _ (hmem i),xab,zbc (show i+1<9223372036854775807 by omega),hs,List.foldl_append,xen,xhg]
  generalize(x.tail.take i).foldl (fun m c=>if 0<g c m then c else m) (x.headD 0)=m
  by_cases h:0<g (x.getD (i+1) 0) m
  ·rw[decide_eq_true h,xad,if_pos h]
  ·rw[decide_eq_false h,xae,if_neg h]
 ·have e:x.length-1+1=x.length:=by omega
  rw[e]
  simp only[nlt (Nat.le_refl x.length),xae]
  rw[xax (by rw[xgk];omega)]
theorem d191_eq{x:List Int}{cmp:Int→Int→Option Int}{g:Int→Int→Int}(hx:x≠ [])(hl:x.length≤1000)(hc:∀a∈x,∀b∈x,cmp a b=some (g a b)):d191 x cmp=some (x.tail.foldl (fun m c=>if g c m<0 then c else m) (x.headD 0)):=by
 have hp:=xco.2 hx
 unfold d191
 rw[decide_eq_false (show ¬((x.length:Int)<1) by omega),xae,show(decide (0≤0)&&decide ((0:Int)<(x.length:Int)))=true by rw[decide_eq_true (show(0:Int)<(x.length:Int) by omega)];rfl,xad]
 have hmem:∀i,(x.tail.take i).foldl (fun m c=>if g c m<0 then c else m) (x.headD 0)∈x:=fun i=>by
  cases x with
  |nil=>exact absurd rfl hx
  |cons y x=>
   simp only[List.tail_cons,xgy]
   rcases zie (fun m c=>if g c m<0 then c else m) (fun a b=>by split<;>simp) (x.take i) y with h|h
   ·rw[h];simp
   ·exact xai _ (xcg h)
 refine zae (fun i=>(x,cmp,(x.tail.take i).foldl (fun m c=>if g c m<0 then c else m) (x.headD 0),((i+1:Nat):Int))) (x.length-1) ?_ (fun i hi=>?_) (b:=x.tail.foldl (fun m c=>if g c m<0 then c else m) (x.headD 0)) ?_ rfl
 ·rw[xdn,xhg]
  cases x with
  |nil=>exact absurd rfl hx
  |cons y x=>rfl
 ·have hlt:i+1<x.length:=by omega
  have hxm:x.getD (i+1) 0∈x:=zcb hlt
  have ht:x.tail.getD i 0=x.getD (i+1) 0:=by
   cases x with
   |nil=>exact absurd rfl hx
   |cons y x=>rfl
  have hs:x.tail.take (i+1)=x.tail.take i++[x.getD (i+1) 0]:=by rw[zbj x.tail 0 (by rw[xgk];omega),ht]
  simp only[dlt hlt,d0le,xah,xad,tn,zah,hc _ hxm _ (hmem i),xab,zbc (show i+1<9223372036854775807 by omega),hs,List.foldl_append,xen,xhg]
  generalize(x.tail.take i).foldl (fun m c=>if g c m<0 then c else m) (x.headD 0)=m
  by_cases h:g (x.getD (i+1) 0) m<0
  ·rw[decide_eq_true h,xad,if_pos h]
  ·rw[decide_eq_false h,xae,if_neg h]
 ·have e:x.length-1+1=x.length:=by omega
  rw[e]
  simp only[nlt (Nat.le_refl x.length),xae]
  rw[xax (by rw[xgk];omega)]
structure LotsOK(n:Nat)(lots:List Int):Prop where
 n1:1≤n
 n7:n≤7
 len:lots.length=n
 within:∀c∈lots,∃i:Nat,c=(i:Int)∧i<n
 nodup:lots.Nodup
theorem LotsOK.mem{n:Nat}{lots:List Int}(h:LotsOK n lots){i:Nat}(hi:i<n):(i:Int)∈lots:=by
 refine xdv fun hni=>?_
 have:=zhv (n:=n) ((i:Int)::lots) (xfb.2 ⟨hni,h.nodup⟩) (fun x hx=>by
  rcases xat.1 hx with rfl|hx
  ·omega
  ·obtain⟨j,rfl,hj⟩:=h.within x hx;omega)
 rw[xbx,h.len]at this
 omega
theorem d185_eq{n:Nat}{ties:Int}{tied lots:List Int}(h1:1≤ties)(h3:ties≤3)(hl:LotsOK n lots)(ht:tied≠ [])(hts:tied.Pairwise (·< ·))(htb:∀c∈tied,∃i:Nat,c=(i:Int)∧i<n)(htl:tied.length≤1000):d185 ties tied lots=some true:=by
 have hn1:=hl.n1
 have hn7:=hl.n7
 have hp:=xco.2 ht
 unfold d185
 rw[zah]
 simp only[hl.len,decide_eq_false (show ¬ties<1 by omega),decide_eq_false (show ¬3<ties by omega),decide_eq_false (show ¬(n:Int)<1 by omega),decide_eq_false (show ¬7<(n:Int) by omega),decide_eq_false (show ¬(tied.length:Int)=0 by omega),xal,xad,xae]
 refine zae (fun i=>(tied,(n:Int),lst (fun v=>decide ((v:Int)∈lots.take i)) 7,lots,(n:Int),(i:Int))) n ?_ (fun i hi=>?_) (b:=.inl (tied,(n:Int))) ?_ ?_
 ·simp only[xdn,List.not_mem_nil,xcf];rfl
 ·have hil:i<lots.length:=by rw[hl.len];exact hi
  obtain⟨c,hc,hcn⟩:=hl.within _ (zcb hil)
  have hnot:decide ((c:Int)∈lots.take i)=false:=decide_eq_false fun hm=>by
   have:=hl.nodup.sublist (List.take_sublist (i+1) lots)
   rw[zbj lots 0 hil,hc,xfh]at this
   exact this.2.2 _ hm _ (by simp) rfl
  simp only[dlt hi,hl.len,d0le,xah,xad,tn,zah,hc,decide_eq_false (show ¬(c:Int)<0 by omega),decide_eq_false (show ¬(n:Int)≤(c:Int) by omega),xal,show decide ((c:Int)<7)=true from decide_eq_true (by omega),zbd (fun v=>decide ((v:Int)∈lots.take i)) (show c<7 by omega),hnot,xae,ziy,zbc (show i<9223372036854775807 by omega)]
  have e:lst (upd (fun v=>decide ((v:Int)∈lots.take i)) c true) 7=lst (fun v=>decide ((v:Int)∈lots.take (i+1))) 7:=zbu fun v hv=>by
   rw[zbj lots 0 hil,hc]
   unfold upd
   by_cases hvc:v=c
   ·subst hvc;simp
   ·rw[if_neg hvc]
    refine xdi.2 ?_
    rw[List.mem_append,xei]
    exact⟨.inl,fun hm=>hm.resolve_right fun e=>hvc (xeb.1 e)⟩
  rw[e]
 ·simp only[nlt (Nat.le_refl n),xae]
 ·simp only
  refine zae (fun i=>(tied,(n:Int),tied,(tied.length:Int),(i:Int))) tied.length rfl (fun i hi=>?_) (b:=.inl ()) ?_ rfl
  ·obtain⟨c,hc,hcn⟩:=htb _ (zcb hi)
   simp only[dlt hi,d0le,xah,xad,tn,zah,hc,decide_eq_false (show ¬(c:Int)<0 by omega),decide_eq_false (show ¬(n:Int)≤(c:Int) by omega),xal,zbc (show i<9223372036854775807 by omega)]
   cases i with
   |zero=>rfl
   |succ i=>
    have hlt:tied.getD i 0<tied.getD (i+1) 0:=by
     rw[xac,xag (by omega),xac,xag hi]
     exact xdu.1 hts i (i+1) (by omega) hi (by omega)
    rw[hc]at hlt
    simp only[show decide ((0:Int)<((i+1:Nat):Int))=true from decide_eq_true (by omega),xad,wpred (show i<9223372036854775807 by omega),d0le,dlt (show i<tied.length by omega),xah,tn,decide_eq_false (show ¬(c:Int)≤tied.getD i 0 by omega),xae]
  ·simp only[nlt (Nat.le_refl tied.length),xae]
def RndOK(n:Nat)(r:List Rat):Prop:=r.length=n∧∀q∈r,Bz eB q
theorem map_getD_rr{r:List Rat}{c:Nat}(h:c<r.length):(r.map rr).getD c (false,[],[])=rr (r.getD c 0):=by
 rw[xac,xbr,xag h,xac,xag h];rfl
theorem zch{α:Type}{l:List α}{d:α}{i:Nat}(h:i<l.length):l.getD i d∈l:=by
 rw[xac,xag h]
 exact xbm h
theorem RndOK.bz{n:Nat}{r:List Rat}(h:RndOK n r){c:Nat}(hc:c<n):Bz eB (zbn r (c:Int)):=h.2 _ (zch (by rw[h.1];exact hc))
theorem d213_eq{n:Nat}{r:List Rat}(h:RndOK n r){c:Nat}(hc:c<n):d213 (r.map rr) (c:Int)=some (rr (zbn r (c:Int))):=by
 have hc':c<r.length:=by rw[h.1];exact hc
 unfold d213
 rw[xbz,dlt hc']
 simp only[xad,d0le,xah,tn,map_getD_rr hc']
 rfl
theorem w_ord(least:Bool)(a b:Rat):(bif !least then w (0-cmpQ a b)else cmpQ a b)=ordQ least a b:=by
 have:=cmpQ_bounds a b
 unfold ordQ
 cases least
 ·rw[xal,xad,zaz (by omega) (by omega)];rfl
 ·rfl
theorem zmt(l:List Int):l.getD 0 0=l.headD 0:=by cases l<;>rfl
theorem ext0_len(ρ:Int→Rat)(l:List Int):(ext0 ρ l).length≤l.length:=xgx _ _
theorem d187_eq{n:Nat}{r:List Rat}(h:RndOK n r){l:List Int}(hl:∀c∈l,∃i:Nat,c=(i:Int)∧i<n)(hll:l.length≤1000)(least:Bool):d187 l (r.map rr) least=some (extr least (zbn r) l):=by
 rw[extr_ext0]
 unfold d187
 refine zae (fun i=>(r.map rr,least,ext0 (sgR least (zbn r)) (l.take i),l,(l.length:Int),(i:Int))) l.length rfl (fun i hi=>?_) (b:=ext0 (sgR least (zbn r)) l) ?_ rfl
 ·obtain⟨c,hc,hcn⟩:=hl _ (zcb hi)
  have hol:=ext0_len (sgR least (zbn r)) (l.take i)
  rw[xav]at hol
  simp only[dlt hi,d0le,xah,xad,tn,zah,hc,zbc (show i<9223372036854775807 by omega)]
  rw[zbj l 0 hi,hc]
  by_cases hi0:l.take i=[]
  ·rw[hi0,ext0_nil]
   have e:ext0 (sgR least (zbn r)) ([]++[(c:Int)])=[(c:Int)]:=by
    have:sgR least (zbn r) (c:Int)≤sgR least (zbn r) (c:Int):=Rat.le_refl
    simp[ext0,xee,this]
   rw[e]
   simp only[show decide ((0:Int)<(([]:List Int).length:Int))=false from rfl,xae,show decide ((-1:Int)≤0)=true from rfl,xad,zet (l:=([]:List Int)) (d:=(c:Int)) (by simp)]
   rfl
  ·have hne:=ext0_ne (ρ:=sgR least (zbn r)) hi0
   have hpos:=xco.2 hne
   obtain⟨y,hy⟩:∃y,(ext0 (sgR least (zbn r)) (l.take i)).headD 0=y:=⟨_,rfl⟩
   have hym:y∈l:=by
    have:=zid hne
    rw[hy]at this
    exact xcg (zon.1 this).1
   obtain⟨d,rfl,hdn⟩:=hl _ hym
   rw[ext0_snoc _ _ hi0,hy]
   generalize ext0 (sgR least (zbn r)) (l.take i)=out at *
   have hlt1:=ordQ_lt least (zbn r) (c:Int) (d:Int)
   have heq1:=ordQ_eq least (zbn r) (c:Int) (d:Int)
   have hg0:(decide (0≤0)&&decide ((0:Int)<(out.length:Int)))=true:=by
    rw[decide_eq_true (show(0:Int)<(out.length:Int) by omega)];rfl
   have hg1:decide ((0:Int)<(out.length:Int))=true:=decide_eq_true (by omega)
   have hcut:zbz 0 0 out.length=true:=by
    unfold zbz
    simp only[xaf,xaj]
    omega
   have hb:=w_ord least (zbn r (c:Int)) (zbn r (d:Int))
   rw[hg0]
   simp only[hg1,xad,zmt,hy,d213_eq h hcn,d213_eq h hdn,xab,d137_rr (h.bz hcn).sz2 (h.bz hdn).sz2,hcut,xdn]
   have hcl:decide ((([]:List Int).length:Int)+(([(c:Int)]:List Int).length:Int)≤LIM)=true:=zet (l:=([]:List Int)) (d:=(c:Int)) (by simp)
   have hol2:=zet (l:=out) (d:=(c:Int)) (by omega)
   have key:∀o:Int,o=ordQ least (zbn r (c:Int)) (zbn r (d:Int))→(bif decide (o<0)then
     bif decide (o≤0)then
      bif decide ((([]:List Int).length:Int)+(([(c:Int)]:List Int).length:Int)≤LIM)then(some (Sum.inl (r.map rr,least,([]:List Int)++[(c:Int)],l,(l.length:Int),((i+1:Nat):Int))):Option ((List Rt×Bool×List Int×List Int×Int×Int)⊕List Int))else none
     else some (Sum.inl (r.map rr,least,([]:List Int),l,(l.length:Int),((i+1:Nat):Int)))
    else
     bif decide (o≤0)then
      bif decide ((out.length:Int)+(([(c:Int)]:List Int).length:Int)≤LIM)then some (Sum.inl (r.map rr,least,out++[(c:Int)],l,(l.length:Int),((i+1:Nat):Int)))else none
     else some (Sum.inl (r.map rr,least,out,l,(l.length:Int),((i+1:Nat):Int))))=some (.inl (r.map rr,least,if sgR least (zbn r) (c:Int)<sgR least (zbn r) (d:Int)then [(c:Int)]else if sgR least (zbn r) (c:Int)=sgR least (zbn r) (d:Int)then out++[(c:Int)]else out,l,(l.length:Int),((i+1:Nat):Int))):=by
    intro o ho
    rw[←ho]at hlt1 heq1
    rw[hcl,hol2]
    by_cases c1:o<0
    ·rw[decide_eq_true c1]at hlt1
     rw[if_pos (of_decide_eq_true hlt1.symm),decide_eq_true c1,decide_eq_true (show o≤0 by omega)];rfl
    ·rw[decide_eq_false c1]at hlt1
     rw[if_neg (xdg hlt1.symm),decide_eq_false c1]
     by_cases c2:o=0
     ·rw[decide_eq_true c2]at heq1
      rw[if_pos (of_decide_eq_true heq1.symm),decide_eq_true (show o≤0 by omega)];rfl
     ·rw[decide_eq_false c2]at heq1
      rw[if_neg (xdg heq1.symm),decide_eq_false (show ¬o≤0 by omega)];rfl
   cases least
   ·rw[xal,xad]at hb ⊢
    exact key _ hb
   ·rw[xap,xae]at hb ⊢
    exact key _ hb
 ·simp only[nlt (Nat.le_refl l.length),xae,xbo]
theorem zmh:∀{least:Bool} {rs:List (List Rat)} {l:List Int},l.length≤1→tieL least rs l=l
 |_,[],_,_=>rfl
 |least,r::rs,l,h=>by
  show tieL least rs (if 1<l.length then extr least (zbn r) l else l)=l
  rw[if_neg (by omega)]
  exact zmh h
theorem tieL_snoc(least:Bool)(rs:List (List Rat))(r:List Rat)(l:List Int):tieL least (rs++[r]) l=if 1<(tieL least rs l).length then extr least (zbn r) (tieL least rs l)else tieL least rs l:=by
 unfold tieL
 rw[List.foldl_append];rfl
theorem tieL_append(least:Bool)(rs rs':List (List Rat))(l:List Int):tieL least (rs++rs') l=tieL least rs' (tieL least rs l):=by
 unfold tieL
 rw[List.foldl_append]
theorem extr_len(least:Bool)(r:Int→Rat)(l:List Int):(extr least r l).length≤l.length:=xgx _ _
theorem znm:∀(least:Bool) (rs:List (List Rat)) (l:List Int),(tieL least rs l).length≤l.length
 |_,[],_=>Nat.le_refl _
 |least,r::rs,l=>by
  show(tieL least rs (if 1<l.length then extr least (zbn r) l else l)).length≤_
  refine Nat.le_trans (znm least rs _) ?_
  split
  ·exact extr_len _ _ _
  ·exact Nat.le_refl _
theorem d155_eq{n:Nat}{ties:Int}{E:List (List Rat)}{tied lots:List Int}{least:Bool}(h1:1≤ties)(h3:ties≤3)(hl:LotsOK n lots)(hE:∀r∈E,RndOK n r)(hEl:E.length≤1000000)(ht:tied≠ [])(hts:tied.Pairwise (·< ·))(htb:∀c∈tied,∃i:Nat,c=(i:Int)∧i<n)(htl:tied.length≤1000) :
  ∃b,d155 ties (E.map (List.map rr)) tied lots least=some (tieB ties E tied lots least,b,E.map (List.map rr)):=by
 have hcl:d186 tied=some tied:=by unfold d186;rw[zbo (by omega)];rfl
 unfold d155
 rw[d185_eq h1 h3 hl ht hts htb htl]
 simp only[xab,xap,xae,hcl]
 have hfin:∀left:List Int,left=tieL least (zas ties E) tied→∃b,(bif (decide ((left.length:Int)=1))then
   bif (decide (0≤0)&&decide (0<(left.length:Int)))then
    some ((List.getD left 0 0),false,E.map (List.map rr))
   else none
  else
   bif least then
    (d190 left (fun a a_1=>d188 a a_1 lots)).bind fun r_3=>
    some (r_3,true,E.map (List.map rr))
   else
    (d191 left (fun a_2 a_3=>d188 a_2 a_3 lots)).bind fun r_4=>
    some (r_4,true,E.map (List.map rr)))=some (tieB ties E tied lots least,b,E.map (List.map rr)):=by
  intro left hleft
  have hne:left≠ []:=by rw[hleft];exact tieL_ne ht
  have hlen:left.length≤tied.length:=by rw[hleft];exact znm _ _ _
  have hlot:∀a∈left,a∈lots:=fun a ha=>by
   rw[hleft]at ha
   obtain⟨i,rfl,hi⟩:=htb _ (zhk ha)
   exact hl.mem hi
  have hll:=hl.len
  have hn7:=hl.n7
  unfold tieB
  simp only[←hleft]
  by_cases hone:left.length=1
  ·refine⟨false,?_⟩
   rw[if_pos hone,hone,zmt];rfl
  ·refine⟨true,?_⟩
   rw[if_neg hone,decide_eq_false (show ¬(left.length:Int)=1 by omega),xae]
   have hc:∀a∈left,∀b∈left,d188 a b lots=some ((zbx lots a:Int)-(zbx lots b:Int)):=fun a ha b hb=>d188_eq (by omega) (hlot a ha) (hlot b hb)
   cases least
   ·rw[xae,d191_eq hne (by omega) hc,xab]
    unfold byLot
    simp only[xba,xch]
    congr 3
    funext m c
    by_cases h:zbx lots c<zbx lots m
    ·rw[if_pos h,if_pos (by omega)]
    ·rw[if_neg h,if_neg (by omega)]
   ·rw[xad,d190_eq hne (by omega) hc,xab]
    unfold byLot
    simp only[if_true]
    congr 3
    funext m c
    by_cases h:zbx lots m<zbx lots c
    ·rw[if_pos h,if_pos (by omega)]
    ·rw[if_neg h,if_neg (by omega)]
 refine zgn (Q:=fun r=>∃b,r=some (tieB ties E tied lots least,b,E.map (List.map rr))) (fun(M:Nat) (st:Int×(List (List Rt))×Bool×(List Int)×(List Int)×Int)=>∃i:Nat,st=(ties,E.map (List.map rr),least,lots,tieL least ((zas ties E).take i) tied,(i:Int))∧i+M=E.length) E.length ⟨0,by rw[xdn];rfl,by omega⟩ ?_
 rintro M st ⟨i,rfl,hM⟩
 have hsub:∀c∈tieL least ((zas ties E).take i) tied,∃j:Nat,c=(j:Int)∧j<n:=fun c hc=>htb c (zhk hc)
 have hlen:=znm least ((zas ties E).take i) tied
 obtain⟨left,hleft⟩:∃left,tieL least ((zas ties E).take i) tied=left:=⟨_,rfl⟩
 rw[hleft]at hsub hlen
 have hEm:(E.map (List.map rr)).length=E.length:=xbz ..
 simp only[hleft,hEm,zah]
 by_cases c3:ties=3
 ·have hr:zas ties E=[]:=by unfold zas;rw[if_pos c3]
  have hq:left=tieL least (zas ties E) tied:=by rw[←hleft,hr,List.take_nil]
  have hd3:(!decide (ties=3))=false:=by rw[decide_eq_true c3];rfl
  refine .inr ⟨(E.map (List.map rr),least,lots,left),?_,hfin left hq⟩
  rw[hd3]
  simp only[xae]
  cases decide ((i:Int)<(E.length:Int))<;>cases decide (1<(left.length:Int))<;>rfl
 ·have hd3:(!decide (ties=3))=true:=by rw[decide_eq_false c3];rfl
  have hrl:(zas ties E).length=E.length:=by
   unfold zas
   rw[if_neg c3]
   split
   ·exact List.length_reverse
   ·rfl
  rw[hd3]
  rcases xbw M with h0|h0
  ·have hq:left=tieL least (zas ties E) tied:=by rw[←hleft,xax (by omega)]
   refine .inr ⟨(E.map (List.map rr),least,lots,left),?_,hfin left hq⟩
   simp only[nlt (show E.length≤i by omega),xae]
  ·have hiE:i<E.length:=by omega
   by_cases hl1:1<left.length
   ·have hg:decide ((1:Int)<(left.length:Int))=true:=decide_eq_true (by omega)
    have key:∀(r:List Rat) (z:List Rt),r∈E→(zas ties E).getD i []=r→z=r.map rr→d187 left z least=some (tieL least ((zas ties E).take (i+1)) tied):=by
     rintro r z hr hri rfl
     rw[d187_eq (hE r hr) hsub (by omega),zbj (zas ties E) [] (by omega),tieL_snoc,hleft,hri,if_pos hl1]
    refine .inl ⟨(ties,E.map (List.map rr),least,lots,tieL least ((zas ties E).take (i+1)) tied,((i+1:Nat):Int)),M-1,?_,by omega,i+1,rfl,by omega⟩
    simp only[dlt hiE,hg,xad,d0le,xah,tn,zbc (show i<9223372036854775807 by omega)]
    by_cases c1:ties=1
    ·have i1:w (w ((E.length:Int)-1)-(i:Int))=((E.length-1-i:Nat):Int):=by
      rw[zaz (n:=(E.length:Int)-1) (by omega) (by omega),zaz (by omega) (by omega)];omega
     have hgr:(zas ties E).getD i []=E.getD (E.length-1-i) []:=by
      unfold zas
      rw[if_neg c3,if_pos c1]
      rw[xac,List.getElem?_reverse hiE,xac]
     have hz:(E.map (List.map rr)).getD (E.length-1-i) []=(E.getD (E.length-1-i) []).map rr:=by
      rw[xac,xbr,xag (by omega),xac,xag (by omega)];rfl
     simp only[decide_eq_true c1,xad,i1,d0le,dlt (show E.length-1-i<E.length by omega),xah,tn]
     rw[key _ _ (zch (by omega)) hgr hz];rfl
    ·have hgr:(zas ties E).getD i []=E.getD i []:=by
      unfold zas
      rw[if_neg c3,if_neg c1]
     have hz:(E.map (List.map rr)).getD i []=(E.getD i []).map rr:=by
      rw[xac,xbr,xag hiE,xac,xag hiE];rfl
     simp only[decide_eq_false c1,xae]
     rw[key _ _ (zch (by omega)) hgr hz];rfl
   ·have hg:decide ((1:Int)<(left.length:Int))=false:=decide_eq_false (by omega)
    have hq:left=tieL least (zas ties E) tied:=by
     have e:=tieL_append least ((zas ties E).take i) ((zas ties E).drop i) tied
     rw[xcx,hleft,zmh (l:=left) (by omega)]at e
     exact e.symm
    refine .inr ⟨(E.map (List.map rr),least,lots,left),?_,hfin left hq⟩
    simp only[dlt hiE,hg,xad,xae]
end Go.Proofs.YtmipjomnjkmdbaaGreat
namespace Go.Proofs.YtmipjomnjkmdbaaGreat
open Go Go.X
def rdT(r:Rd):RD:=(r.votes.map rr,r.keep.map rr,rr r.quota,rr r.exh,rr r.sur,r.el,r.ex,r.ti)
variable {P:GP} {s:GS}
theorem zkw(p:Nat→Bool)(g:Int→Bool)(n:Nat):(selI p n).filter g=selI (fun i=>p i&&g (i:Int)) n:=by
 unfold selI
 rw[List.filter_map,←selN_filter]
 rfl
theorem sum_sel(p:Nat→Bool)(f:Nat→Nat):∀n:Nat,((selN p n).map f).sum=sumN (fun i=>if p i then f i else 0) n
 | 0=>rfl
 |n+1=>by
  rw[zkv,xdq,List.sum_append,sum_sel p f n,sumN]
  congr 1
  cases p n<;>simp
theorem sum_take_le(l:List Nat)(j:Nat):(l.take j).sum≤l.sum:=by
 conv=>rhs;rw[←xcx j l]
 rw[List.sum_append]
 omega
theorem lotsOK(hP:P.OK):LotsOK P.n P.lots:=⟨hP.n1,hP.n7,hP.lotn,hP.lots,hP.lotd⟩
theorem flat_len:∀{rs:List Rd},(∀r∈rs,r.el.length≤7)→(rs.flatMap Rd.el).length≤7*rs.length
 | [],_=>by simp
 |r::rs,h=>by
  rw[List.flatMap_cons,List.length_append,xbx]
  have:=flat_len (rs:=rs) fun x hx=>h x (xai _ hx)
  have:=h r (by simp)
  omega
end Go.Proofs.YtmipjomnjkmdbaaGreat
namespace Go.Proofs.YtmipjomnjkmdbaaGreat
open Go Go.X
variable {P:GP} {s:GS}
theorem lim_two{α:Type}{l m:List α}(h:l.length+m.length≤4294967296):decide ((l.length:Int)+(m.length:Int)≤LIM)=true:=by
 rw[show(l.length:Int)+(m.length:Int)=((l.length+m.length:Nat):Int) by omega];exact zbo h
end Go.Proofs.YtmipjomnjkmdbaaGreat
namespace Go.Proofs.YtmipjomnjkmdbaaGreat
open Go Go.X
def permB(n:Int)(lots:List Int):Bool:=decide ((lots.length:Int)=n)&&decide (isB n lots)
def fitE(m:Int)(c:CT)(gs:List Grp)(lots:List Int):Int:=
 bif decide (m<1)||(decide (3<m)|| !decide (c.2.2.1=m))then 5
 else bif decide ((c.2.1.length:Int)<1)||(decide (7<(c.2.1.length:Int))||(decide (c.2.2.2.1<1)||(decide (5<c.2.2.2.1)||((decide (m=1)&& !decide (c.2.2.2.1=1))||(!(bif decide (m=2)then decide (1≤c.2.2.2.2.2.1)&&decide (c.2.2.2.2.2.1≤6)else decide (c.2.2.2.2.2.1=0))||(decide (c.2.2.2.2.2.2.1<1)||decide (3<c.2.2.2.2.2.2.1)))))))then 4
 else bif !zfz (c.2.1.length:Int) gs then 8
 else bif !permB (c.2.1.length:Int) lots then 13
 else 0
set_option maxHeartbeats 2000000 in
theorem d66_eq(m:Int)(c:CT){gs:List Grp}{lots:List Int}(hg:GsOK gs)(hl:lots.length≤281474976710656):d66 m c gs lots=some (fitE m c gs lots):=by
 have hp:decide ((c.2.1.length:Int)<1)=false→decide (7<(c.2.1.length:Int))=false→d124 (c.2.1.length:Int) gs=some (zfz (c.2.1.length:Int) gs):=fun h1 h2=>by
  have h1:=xdg h1
  have h2:=xdg h2
  rw[d124_eq (by omega) hg.1 hg.2]
  unfold zfz goodP
  rw[decide_eq_true (show 1≤(c.2.1.length:Int)∧(c.2.1.length:Int)≤7 by omega)];rfl
 have hq:decide (7<(c.2.1.length:Int))=false→d125 lots (c.2.1.length:Int)=some (permB (c.2.1.length:Int) lots):=fun h2=>by
  have h2:=xdg h2
  unfold d125 permB
  by_cases h:(lots.length:Int)=(c.2.1.length:Int)
  ·rw[decide_eq_true h,xad,d165_eq (by omega) hl];rfl
  ·rw[decide_eq_false h];rfl
 unfold d66 fitE
 cases he2:decide (m=2)<;>cases hg1:decide (1≤c.2.2.2.2.2.1)<;>simp only[he2,hg1,xap,xal,xad,xae,xce,xbg,Bool.or_true,xbp,xbd,xbl,xab]
 all_goals
  rw[zah]
  cases ha1:decide (m<1)
  case true=>simp only[ha1,zah,xap,xal,xad,xae,xce,xbg,Bool.or_true,xbp,xbd,xbl,xab]
  try simp only[ha1,xap,xal,xad,xae,xce,xbg,Bool.or_true,xbp,xbd,xbl,xab]
  cases ha2:decide (3<m)
  case true=>simp only[ha2,zah,xap,xal,xad,xae,xce,xbg,Bool.or_true,xbp,xbd,xbl,xab]
  try simp only[ha2,xap,xal,xad,xae,xce,xbg,Bool.or_true,xbp,xbd,xbl,xab]
  cases ha3:decide (c.2.2.1=m)
  case false=>simp only[ha3,zah,xap,xal,xad,xae,xce,xbg,Bool.or_true,xbp,xbd,xbl,xab]
  try simp only[ha3,xap,xal,xad,xae,xce,xbg,Bool.or_true,xbp,xbd,xbl,xab]
  rw[zah]
  try simp only[xap,xal,xad,xae,xce,xbg,Bool.or_true,xbp,xbd,xbl,xab]
  cases hn1:decide ((c.2.1.length:Int)<1)
  case true=>simp only[hn1,zah,xap,xal,xad,xae,xce,xbg,Bool.or_true,xbp,xbd,xbl,xab]
  try simp only[hn1,xap,xal,xad,xae,xce,xbg,Bool.or_true,xbp,xbd,xbl,xab]
  cases hn2:decide (7<(c.2.1.length:Int))
  case true=>simp only[hn2,zah,xap,xal,xad,xae,xce,xbg,Bool.or_true,xbp,xbd,xbl,xab]
  try simp only[hn2,xap,xal,xad,xae,xce,xbg,Bool.or_true,xbp,xbd,xbl,xab]
  simp only[zah,hp hn1 hn2,hq hn2,xap,xal,xad,xae,xce,xbg,Bool.or_true,xbp,xbd,xbl,xab]
  cases hs1:decide (c.2.2.2.1<1)
  case true=>simp only[hs1,zah,xap,xal,xad,xae,xce,xbg,Bool.or_true,xbp,xbd,xbl,xab]
  try simp only[hs1,xap,xal,xad,xae,xce,xbg,Bool.or_true,xbp,xbd,xbl,xab]
  cases hs2:decide (5<c.2.2.2.1)
  case true=>simp only[hs2,zah,xap,xal,xad,xae,xce,xbg,Bool.or_true,xbp,xbd,xbl,xab]
  try simp only[hs2,xap,xal,xad,xae,xce,xbg,Bool.or_true,xbp,xbd,xbl,xab]
  cases hm1:decide (m=1)<;>cases hso:decide (c.2.2.2.1=1)<;>simp only[hm1,hso,xap,xal,xad,xae,xce,xbg,Bool.or_true,xbp,xbd,xbl,xab]
  all_goals (try (cases hg2:decide (c.2.2.2.2.2.1≤6)<;>simp only[hg2,xap,xal,xad,xae,xce,xbg,Bool.or_true,xbp,xbd,xbl,xab]))
  all_goals (try (cases hg0:decide (c.2.2.2.2.2.1=0)<;>simp only[hg0,xap,xal,xad,xae,xce,xbg,Bool.or_true,xbp,xbd,xbl,xab]))
  all_goals (try (cases ht1:decide (c.2.2.2.2.2.2.1<1)<;>simp only[ht1,xap,xal,xad,xae,xce,xbg,Bool.or_true,xbp,xbd,xbl,xab]))
  all_goals (try (cases ht2:decide (3<c.2.2.2.2.2.2.1)<;>simp only[ht2,xap,xal,xad,xae,xce,xbg,Bool.or_true,xbp,xbd,xbl,xab]))
  all_goals (try (cases zfz (c.2.1.length:Int) gs<;>simp only[xap,xal,xad,xae,xce,xbg,Bool.or_true,xbp,xbd,xbl,xab]))
  all_goals (try (cases permB (c.2.1.length:Int) lots<;>simp only[xap,xal,xad,xae,xce,xbg,Bool.or_true,xbp,xbd,xbl,xab]))
theorem zlm{m:Int}{c:CT}{gs:List Grp}{lots:List Int}(h:fitE m c gs lots=0):1≤m∧m≤3∧c.2.2.1=m∧1≤c.2.1.length∧c.2.1.length≤7∧1≤c.2.2.2.1∧c.2.2.2.1≤5∧(m=1→c.2.2.2.1=1)∧(m=2→1≤c.2.2.2.2.2.1∧c.2.2.2.2.2.1≤6)∧(m≠2→c.2.2.2.2.2.1=0)∧1≤c.2.2.2.2.2.2.1∧c.2.2.2.2.2.2.1≤3∧PileOK (c.2.1.length:Int) gs (wsum (fun _=>1) gs)∧lots.length=c.2.1.length∧isB (c.2.1.length:Int) lots:=by
 unfold fitE at h
 by_cases h1:(decide (m<1)||(decide (3<m)|| !decide (c.2.2.1=m)))=true
 ·rw[h1]at h;exact absurd h (by show ¬(5:Int)=0;omega)
 have h1:(decide (m<1)||(decide (3<m)|| !decide (c.2.2.1=m)))=false:=by simpa using h1
 rw[h1,xae]at h
 cases h2:(decide ((c.2.1.length:Int)<1)||(decide (7<(c.2.1.length:Int))||(decide (c.2.2.2.1<1)||(decide (5<c.2.2.2.1)||((decide (m=1)&& !decide (c.2.2.2.1=1))||(!(bif decide (m=2)then decide (1≤c.2.2.2.2.2.1)&&decide (c.2.2.2.2.2.1≤6)else decide (c.2.2.2.2.2.1=0))||(decide (c.2.2.2.2.2.2.1<1)||decide (3<c.2.2.2.2.2.2.1))))))))
 case true=>rw[h2]at h;exact absurd h (by show ¬(4:Int)=0;omega)
 rw[h2,xae]at h
 cases h3:zfz (c.2.1.length:Int) gs
 case false=>rw[h3]at h;exact absurd h (by show ¬(8:Int)=0;omega)
 rw[h3,xap,xae]at h
 cases h4:permB (c.2.1.length:Int) lots
 case false=>rw[h4]at h;exact absurd h (by show ¬(13:Int)=0;omega)
 simp only[xbt,xar,xek,xaj]at h1 h2
 obtain⟨a1,a2,a3⟩:=h1
 obtain⟨b1,b2,b3,b4,b5,b6,b7,b8⟩:=h2
 unfold permB at h4
 simp only[xaf,xaj]at h4
 refine⟨by omega,by omega,a3,by omega,by omega,by omega,by omega,fun hm=>?_,fun hm=>?_,fun hm=>?_,by omega,by omega,(pileB_ok h3).2.2,by omega,h4.2⟩
 ·rw[decide_eq_true hm,xbd,xek,xaj]at b5
  exact b5
 ·rw[decide_eq_true hm,xad,xaf,xaj,xaj]at b6
  exact b6
 ·rw[decide_eq_false hm,xae,xaj]at b6
  exact b6
theorem d30_eq{b s:Int}(h0:0≤b)(h1:b≤100000)(h2:1≤s)(h3:s≤5):d30 b s=some (b/(s+1)+1):=by
 have e:w (s+1)=s+1:=zaz (by omega) (by omega)
 have hd:Int.tdiv b (s+1)=b/(s+1):=xdr h0
 have hle:b/(s+1)≤b:=Int.ediv_le_self _ h0
 have hge:0≤b/(s+1):=Int.ediv_nonneg h0 (by omega)
 unfold d30
 rw[zah]
 simp only[decide_eq_false (show ¬b<0 by omega),decide_eq_false (show ¬100000<b by omega),decide_eq_false (show ¬s<1 by omega),decide_eq_false (show ¬5<s by omega),xal,xad,xae,e,decide_eq_false (show ¬s+1=0 by omega),hd]
 rw[zaz (n:=b/(s+1)) (by omega) (by omega),zaz (by omega) (by omega)]
theorem PileOK.d67{n:Int}{gs:List Grp}{N:Int}(h:PileOK n gs N)(hn:n≤7):d67 gs=some (wsum (fun _=>1) gs):=by
 obtain⟨hl,hg⟩:=h.sizes hn
 have hf:∀p:List Int,0≤(1:Int)∧(1:Int)≤1:=fun p=>by omega
 unfold Go.Proofs.YtmipjomnjkmdbaaGreat.d67
 rw[h.d100 hn]
 simp only[xab,xap,xae]
 have:d104 gs (fun a=>d126 a)=some (wsum (fun _=>1) gs):=by
  unfold d104
  refine zae (b:=wsum (fun _=>1) gs) (fun i=>((fun a=>d126 a),wsum (fun _=>1) (gs.take i),gs,(gs.length:Int),(i:Int))) gs.length rfl (fun i hi=>?_) ?_ rfl
  ·have h1:=h.part hf (i+1)
   rw[zcu _ gs hi]at h1
   simp only[dlt hi,d0le,xah,xad,tn,d126,xab,zbc (show i<9223372036854775807 by omega)]
   rw[zaz (by omega) (by omega),zcu _ gs hi,Int.mul_one]
  ·simp only[nlt (Nat.le_refl gs.length),xae,xbo]
 rw[this];rfl
def gpOf(c:CT)(gs:List Grp)(lots:List Int):GP:=
 {gs:=gs,n:=c.2.1.length,seats:=c.2.2.2.1.toNat,q:=(wsum zau gs/(c.2.2.2.1+1)+1).toNat,tot:=(wsum (fun _=>1) gs).toNat,ties:=c.2.2.2.2.2.2.1,lots:=lots}
theorem zkh{n:Int}{gs:List Grp}{N:Int}(h:PileOK n gs N)(b:List Int→Bool)(c:CT)(lots:List Int):∀m,m≤gs.length→wsum (fun p=>if b p then 1 else 0) (gs.take m)=((sumN (fun g=>if b ((gpOf c gs lots).p g)then(gpOf c gs lots).k g else 0) m:Nat):Int)
 | 0,_=>rfl
 |m+1,hm=>by
  have hb:=(h.ballots _ (zch (l:=gs) (d:=([],0)) (i:=m) (by omega))).2
  rw[zcu _ gs (by omega),zkh h b c lots m (by omega),sumN,Int.natCast_add]
  congr 1
  show _*(if b (gs.getD m ([],0)).1 then 1 else 0)=((if b (gs.getD m ([],0)).1 then(gs.getD m ([],0)).2.toNat else 0:Nat):Int)
  split
  ·rw[Int.mul_one];omega
  ·rw[Int.mul_zero];rfl
theorem quo_lt{m s:Nat}(h1:1≤s)(h5:s≤5):m<(m/(s+1)+1)*(s+1):=by
 have:s=1∨s=2∨s=3∨s=4∨s=5:=by omega
 rcases this with rfl|rfl|rfl|rfl|rfl<;>omega
theorem gpOf_ok{c:CT}{gs:List Grp}{lots:List Int}(h:fitE 3 c gs lots=0):(gpOf c gs lots).OK∧(gpOf c gs lots).G≤1000000∧c.2.2.2.1=((gpOf c gs lots).seats:Int)∧d67 gs=some ((gpOf c gs lots).tot:Int)∧d52 gs=some (wsum zau gs)∧d30 (wsum zau gs) c.2.2.2.1=some ((gpOf c gs lots).q:Int):=by
 obtain⟨_,_,_,n1,n7,s1,s5,_,_,_,t1,t3,hp,ll,hB⟩:=zlm h
 obtain⟨hl,hg⟩:=hp.sizes (by omega)
 have hmk:=hp.part (f:=zau) (fun p=>by unfold zau;split<;>omega) gs.length
 have hto:=hp.part (f:=fun _=>1) (fun p=>by omega) gs.length
 rw[xbo]at hmk hto
 have hS:c.2.2.2.1=(c.2.2.2.1.toNat:Int):=by omega
 have e1:wsum (fun _=>1) gs=((sumN (gpOf c gs lots).k gs.length:Nat):Int):=by
  have:=zkh hp (fun _=>true) c lots gs.length (Nat.le_refl _)
  rw[xbo]at this
  simpa using this
 have e2:wsum zau gs=(((gpOf c gs lots).mkd:Nat):Int):=by
  have:=zkh hp (fun p=>decide (p≠ [])) c lots gs.length (Nat.le_refl _)
  rw[xbo]at this
  have hf:(fun p:List Int=>if decide (p≠ [])=true then(1:Int)else 0)=zau:=by
   funext p;unfold zau;by_cases hp:p=[]<;>simp[hp]
  rw[hf]at this
  rw[this]
  congr 1
  unfold GP.mkd
  refine zbs fun g hg=>?_
  by_cases hp:(gpOf c gs lots).p g=[]<;>simp[hp]
 obtain⟨S,hSS⟩:∃S,c.2.2.2.1.toNat=S:=⟨_,rfl⟩
 have hq:(gpOf c gs lots).q=(gpOf c gs lots).mkd/(S+1)+1:=by
  show(wsum zau gs/(c.2.2.2.1+1)+1).toNat=_
  rw[e2,hS,hSS]
  rfl
 have hm5:(gpOf c gs lots).mkd≤100000:=by omega
 have hdiv:=xcy (gpOf c gs lots).mkd (S+1)
 have hq1:1≤(gpOf c gs lots).q∧(gpOf c gs lots).q≤100001:=by
  rw[hq]
  generalize(gpOf c gs lots).mkd/(S+1)=Q at hdiv ⊢
  omega
 refine⟨⟨n1,n7,by show 1≤c.2.2.2.1.toNat;omega,by show c.2.2.2.1.toNat≤5;omega,fun g hgl x hx=>?_,fun g hgl=>?_,?_,by show(wsum (fun _=>1) gs).toNat≤_;omega,hq1.1,hq1.2,?_,t1,t3,ll,fun x hx=>?_,hB.1⟩,by show gs.length≤_;omega,?_,?_,hp.d52 (by omega),?_⟩
 ·have:=(hp.ballots _ (zch (l:=gs) (d:=([],0)) (i:=g) hgl)).1.2 x hx
  exact⟨x.toNat,by omega,by show x.toNat<c.2.1.length;omega⟩
 ·exact(hg _ (zch (l:=gs) (d:=([],0)) (i:=g) hgl)).1
 ·show sumN (gpOf c gs lots).k gs.length=(wsum (fun _=>1) gs).toNat
  omega
 ·rw[hq]
  show _<_*(c.2.2.2.1.toNat+1)
  rw[hSS]
  exact quo_lt (by omega) (by omega)
 ·have:=hB.2 x hx
  exact⟨x.toNat,by omega,by show x.toNat<c.2.1.length;omega⟩
 ·exact hS
 ·rw[hp.d67 (by omega)]
  congr 1
  show _=((wsum (fun _=>1) gs).toNat:Int)
  omega
 ·rw[d30_eq hmk.1 hmk.2 s1 s5]
  congr 1
  show _=((wsum zau gs/(c.2.2.2.1+1)+1).toNat:Int)
  have:0≤wsum zau gs/(c.2.2.2.1+1):=Int.ediv_nonneg hmk.1 (by omega)
  omega
variable {P:GP} {s:GS}
end Go.Proofs.YtmipjomnjkmdbaaGreat
namespace Go.Proofs.YtmipjomnjkmdbaaGreat
open Go Go.X
theorem d72_eq{n:Nat}(hn:n≤1000):∃l,d72 (n:Int)=some l∧l.length=n:=by
 unfold d72
 refine⟨lst (fun i=>[wu8 (w (97+(i:Int)))]) n,?_,zam _ _⟩
 refine zae (fun i=>((n:Int),lst (fun i=>[wu8 (w (97+(i:Int)))]) i,(i:Int))) n rfl (fun i hi=>?_) ?_ rfl
 ·simp only[dlt hi,xad,zet (l:=lst (fun i=>[wu8 (w (97+(i:Int)))]) i) (d:=[wu8 (w (97+(i:Int)))]) (by rw[zam];omega),zbc (show i<9223372036854775807 by omega),zia]
 ·simp only[nlt (Nat.le_refl n),xae]
structure ConOK(c:CT)(n:Nat)(m:Int):Prop where
 names:c.2.1.length=n
 method:c.2.2.1=m
 seats1:1≤c.2.2.2.1
 seats5:c.2.2.2.1≤5
 seat:m=1→c.2.2.2.1=1
 digits:m=2→1≤c.2.2.2.2.2.1∧c.2.2.2.2.2.1≤6
 nodigits:m≠2→c.2.2.2.2.2.1=0
 ties1:1≤c.2.2.2.2.2.2.1
 ties3:c.2.2.2.2.2.2.1≤3
theorem d27_eq{n:Nat}(hn:n≤1000){code:Int}(hc:WT (.int .i64) code):∃l,d27 (n:Int) code=some l∧l.length=n∧isB (n:Int) l:=by
 have hwt:∀x:Int,WT (.int .i64) x→-9223372036854775808≤x∧x≤9223372036854775807:=fun x hx=>wt_int hx
 unfold d27
 refine zbq (Q:=fun r=>∃l,r=some l∧l.length=n∧isB (n:Int) l) (fun(i:Nat) (st:Int×Int×(List Int)×Int)=>∃(cd:Int) (out:List Int),st=((n:Int),cd,out,(i:Int))∧WT (.int .i64) cd∧out.length=i∧isB (i:Int) out) n ?_ ?_ ?_
 ·exact⟨code,[],rfl,hc,rfl,List.nodup_nil,fun x hx=>by simp at hx⟩
 ·rintro i st hi ⟨cd,out,rfl,hcd,hlen,hb⟩
  have hcb:=hwt cd hcd
  have b:=zgt cd (n:=((i+1:Nat):Int)) (by omega)
  obtain⟨r,hr⟩:∃r:Nat,cd%((i+1:Nat):Int)=(r:Int):=⟨(cd%((i+1:Nat):Int)).toNat,by omega⟩
  have hri:r≤i:=by omega
  have c1:zbz 0 (r:Int) out.length=true:=by
   unfold zbz
   simp only[xaf,xaj]
   omega
  have c2:zbz (r:Int) (out.length:Int) out.length=true:=by
   unfold zbz
   simp only[xaf,xaj]
   omega
  have hq:-9223372036854775808≤Int.tdiv cd ((i+1:Nat):Int)∧Int.tdiv cd ((i+1:Nat):Int)≤9223372036854775807:=by
   have h1:=Int.natAbs_tdiv_le_natAbs cd ((i+1:Nat):Int)
   by_cases h0:cd=-9223372036854775808
   ·subst h0
    have h2:Int.tdiv (-9223372036854775808) ((i+1:Nat):Int)=-(Int.tdiv 9223372036854775808 ((i+1:Nat):Int)):=by rw[←Int.neg_tdiv]
    have h3:0≤Int.tdiv 9223372036854775808 ((i+1:Nat):Int):=Int.tdiv_nonneg (by omega) (by omega)
    omega
   ·omega
  have hne:decide (((i+1:Nat):Int)=0)=false:=decide_eq_false (by omega)
  have ht:(out.take r).length=r:=by rw[xav];omega
  have l1:decide ((([]:List Int).length:Int)+((out.take r).length:Int)≤LIM)=true:=lim_two (by rw[ht];simp;omega)
  have l2:=zet (l:=out.take r) (d:=(i:Int)) (by omega)
  have l3:decide (((out.take r++[(i:Int)]).length:Int)+((out.drop r).length:Int)≤LIM)=true:=lim_two (by simp;omega)
  simp only[dlt hi,xad,zbc (show i<9223372036854775807 by omega),zjq hcd (show(0:Int)<((i+1:Nat):Int) by omega) (by omega),hr,xab,hne,xal,c1,c2,xhh,tn,xbo,l1,l2,l3]
  refine⟨_,rfl,_,_,rfl,?_,by simp;omega,?_,fun x hx=>?_⟩
  ·rw[zaz hq.1 hq.2]
   exact zaz hq.1 hq.2
  ·have hp:(out.take r++[(i:Int)]++out.drop r).Perm ((i:Int)::out):=by
    have h1:(out.take r++[(i:Int)]++out.drop r).Perm ([(i:Int)]++out.take r++out.drop r):=List.Perm.append_right _ xgv
    have h2:[(i:Int)]++out.take r++out.drop r=(i:Int)::out:=by rw[xcp,xcx];rfl
    rwa[h2]at h1
   refine hp.nodup_iff.2 (xfb.2 ⟨fun hm=>?_,hb.1⟩)
   have:=hb.2 _ hm
   omega
  ·simp only[List.mem_append,xei]at hx
   rcases hx with(hx|hx)|hx
   ·have:=hb.2 x (xcg hx);omega
   ·omega
   ·have:=hb.2 x (xhe hx);omega
 ·rintro st ⟨cd,out,rfl,hcd,hlen,hb⟩
  exact⟨out,by simp only[nlt (Nat.le_refl n),xae],out,rfl,hlen,hb⟩
theorem zln{c:CT}{n:Nat}{m:Int}{gs:List Grp}{lots:List Int}{N:Int}(hc:ConOK c n m)(hm:1≤m)(hm3:m≤3)(h1:1≤n)(h7:n≤7)(hp:PileOK (n:Int) gs N)(hl:lots.length=n)(hb:isB (n:Int) lots):fitE m c gs lots=0:=by
 have hn:=hc.names
 have hpb:zfz (n:Int) gs=true:=by
  unfold zfz goodP
  rw[decide_eq_true hp.good,decide_eq_true (show 1≤(n:Int)∧(n:Int)≤7 by omega)];rfl
 have hqb:permB (n:Int) lots=true:=by
  unfold permB
  rw[decide_eq_true hb,decide_eq_true (by omega)];rfl
 have:=hc.seats1
 have:=hc.seats5
 have:=hc.ties1
 have:=hc.ties3
 unfold fitE
 rw[hn,hpb,hqb]
 simp only[decide_eq_false (show ¬m<1 by omega),decide_eq_false (show ¬3<m by omega),decide_eq_true hc.method,decide_eq_false (show ¬(n:Int)<1 by omega),decide_eq_false (show ¬7<(n:Int) by omega),decide_eq_false (show ¬c.2.2.2.1<1 by omega),decide_eq_false (show ¬5<c.2.2.2.1 by omega),decide_eq_false (show ¬c.2.2.2.2.2.2.1<1 by omega),decide_eq_false (show ¬3<c.2.2.2.2.2.2.1 by omega),xap,xbp,xbg,xae]
 have h1:(decide (m=1)&& !decide (c.2.2.2.1=1))=false:=by
  by_cases h:m=1
  ·rw[decide_eq_true (hc.seat h)];simp
  ·rw[decide_eq_false h];rfl
 have h2:(bif decide (m=2)then decide (1≤c.2.2.2.2.2.1)&&decide (c.2.2.2.2.2.1≤6)else decide (c.2.2.2.2.2.1=0))=true:=by
  by_cases h:m=2
  ·rw[decide_eq_true h,xad,decide_eq_true (hc.digits h).1,decide_eq_true (hc.digits h).2];rfl
  ·rw[decide_eq_false h,xae,decide_eq_true (hc.nodigits h)]
 rw[h1,h2]
 rfl
end Go.Proofs.YtmipjomnjkmdbaaGreat
namespace Go.Proofs.YtmipjomnjkmdbaaGreat
open Go Go.X
variable {P:GP} {s:GS}
theorem zgq(p:Nat→Bool)(n:Nat):(selI p n).Nodup:=(zed p n).imp fun h=>by omega
end Go.Proofs.YtmipjomnjkmdbaaGreat
namespace Go.Proofs.YtmipjomnjkmdbaaGreat
open Go Go.X
def mup(a b:Nat):Nat:=(a+b-1)/b
structure MP where
 P:GP
 one:Nat
 om:Nat
def mw(one:Nat)(kp:Nat→Nat)(p:List Int):Nat→Nat
 | 0=>one
 |j+1=>mw one kp p j-mup (mw one kp p j*kp (p.getD j 0).toNat) one
def zdt(one:Nat)(kp:Nat→Nat)(p:List Int)(j:Nat):Nat:=mup (mw one kp p j*kp (p.getD j 0).toNat) one
def zod(one:Nat)(kp:Nat→Nat)(p:List Int)(c:Nat):Nat:=sumN (fun j=>if p.getD j 0=(c:Int)then zdt one kp p j else 0) p.length
def mvo(P:GP)(one:Nat)(kp:Nat→Nat)(c:Nat):Nat:=sumN (fun g=>P.k g*zod one kp (P.p g) c) P.G
def mro(P:GP)(one:Nat)(kp:Nat→Nat):Nat:=sumN (fun g=>P.k g*mw one kp (P.p g) (P.p g).length) P.G
structure MS where
 st:Nat→Nat
 kp:Nat→Nat
 since:Nat
 bef:Option Nat
def MS.v(Q:MP)(s:MS)(c:Nat):Nat:=mvo Q.P Q.one s.kp c
def MS.rest(Q:MP)(s:MS):Nat:=mro Q.P Q.one s.kp
def MS.quo(Q:MP)(s:MS):Nat:=sumN (s.v Q) Q.P.n/(Q.P.seats+1)+1
def MS.reach(Q:MP)(s:MS)(i:Nat):Bool:=decide (s.st i=0)&&decide (s.quo Q≤s.v Q i)
def zdo(v:Nat→Nat)(lots:List Int)(d i:Nat):Bool:=decide (v i<v d)||(decide (v d=v i)&&decide (zbx lots (d:Int)<zbx lots (i:Int)))
def MS.fl(Q:MP)(s:MS):Nat:=cntN (fun i=>decide (s.st i=1)) Q.P.n
def MS.rank(Q:MP)(s:MS)(i:Nat):Nat:=cntN (fun d=>s.reach Q d&&zdo (s.v Q) Q.P.lots d i) Q.P.n
def MS.el(Q:MP)(s:MS)(i:Nat):Bool:=s.reach Q i&&decide (s.rank Q i<Q.P.seats-s.fl Q)
def MS.st1(Q:MP)(s:MS)(i:Nat):Nat:=if s.el Q i then 1 else s.st i
def MS.sur(Q:MP)(s:MS):Nat:=sumN (fun i=>if s.st1 Q i=1 then s.v Q i-s.quo Q else 0) Q.P.n
def MS.f1(Q:MP)(s:MS):Nat:=cntN (fun i=>decide (s.st1 Q i=1)) Q.P.n
def MS.h1(Q:MP)(s:MS):Nat:=cntN (fun i=>decide (s.st1 Q i=0)) Q.P.n
def MS.some1(Q:MP)(s:MS):Bool:=decide (0<cntN (s.el Q) Q.P.n)
def MS.stall(Q:MP)(s:MS):Bool:=decide (s.sur Q<Q.om)||decide (60≤s.since+1)||(match s.bef with | some b=>decide (b≤s.sur Q) | none=>false)
def MS.near(Q:MP)(s:MS)(i:Nat):Bool:=decide (s.st i=0)&&(List.range Q.P.n).all fun k=>!decide (s.st k=0)||decide (s.v Q i≤s.v Q k+s.sur Q)
def MS.tied(Q:MP)(s:MS):List Int:=selI (s.near Q) Q.P.n
def MS.pick(Q:MP)(E:List (List Rat))(s:MS):Int:=if(s.tied Q).length=1 then(s.tied Q).headD 0 else tieB Q.P.ties E (s.tied Q) Q.P.lots true
def MS.rd0(Q:MP)(s:MS):Rd:=
 {votes:=lst (fun i=>frac (s.v Q i) Q.one) Q.P.n
  keep:=lst (fun i=>frac (s.kp i) Q.one) Q.P.n
  quota:=frac (s.quo Q) Q.one
  exh:=frac (s.rest Q) Q.one
  sur:=frac (s.sur Q) Q.one
  el:=selI (s.el Q) Q.P.n
  ex:=[]
  ti:=[]}
def MS.fin(Q:MP)(s:MS):Bool:=decide (s.f1 Q=Q.P.seats)||decide (s.f1 Q+s.h1 Q≤Q.P.seats)
def MS.done(Q:MP)(s:MS):Rd:={s.rd0 Q with el:=if s.f1 Q=Q.P.seats then selI (s.el Q) Q.P.n else selI (fun i=>s.el Q i||decide (s.st1 Q i=0)) Q.P.n}
def MS.excl(Q:MP)(E:List (List Rat))(s:MS):MS:={st:=upd s.st (s.pick Q E).toNat 2,kp:=upd s.kp (s.pick Q E).toNat 0,since:=0,bef:=none}
def MS.kp1(Q:MP)(s:MS)(i:Nat):Nat:=if s.st1 Q i=1∧0<s.v Q i then min Q.one (mup (mup (s.kp i*s.quo Q) Q.one*Q.one) (s.v Q i))else s.kp i
def MS.redu(Q:MP)(s:MS):MS:={st:=s.st1 Q,kp:=s.kp1 Q,since:=if s.some1 Q then 0 else s.since+1,bef:=some (s.sur Q)}
def MS.exR(Q:MP)(E:List (List Rat))(s:MS):Rd:={s.rd0 Q with ex:=[s.pick Q E],ti:=if(s.tied Q).length=1 then []else s.tied Q}
def MS.cut(Q:MP)(s:MS):Bool:=!s.some1 Q&&s.stall Q
def mstep(Q:MP)(E:List (List Rat))(s:MS):Rd×Option MS:=
 if s.fin Q then(s.done Q,none)
 else if s.cut Q then(s.exR Q E,some (s.excl Q E))
 else(s.rd0 Q,some (s.redu Q))
def mrun(Q:MP):Nat→List Rd→MS→List Rd
 | 0,rs,_=>rs
 |k+1,rs,s=>match mstep Q (rs.map Rd.votes) s with
  |(r,none)=>rs++[r]
  |(r,some s')=>mrun Q k (rs++[r]) s'
def MP.s0(Q:MP):MS:={st:=fun _=>0,kp:=fun _=>Q.one,since:=0,bef:=none}
def mcount(Q:MP):List Rd:=mrun Q 500 [] Q.s0
theorem mup_le{a b c:Nat}(hb:0<b)(h:a≤c*b):mup a b≤c:=by
 unfold mup
 have:(a+b-1)/b<c+1:=by
  rw[xde hb,xbj]
  omega
 omega
theorem mup_pos{a b:Nat}(hb:0<b)(ha:0<a):0<mup a b:=by
 unfold mup
 exact Nat.div_pos (by omega) hb
section
variable {one:Nat} {kp:Nat→Nat} (h1:0<one) (hk:∀c,kp c≤one)
include h1 hk
theorem zgs(p:List Int)(j:Nat):zdt one kp p j≤mw one kp p j:=mup_le h1 (xcj _ (hk _))
theorem mw_step(p:List Int)(j:Nat):mw one kp p (j+1)+zdt one kp p j=mw one kp p j:=by
 have:=zgs h1 hk p j
 show mw one kp p j-zdt one kp p j+_=_
 omega
theorem mw_sum(p:List Int):∀j,sumN (zdt one kp p) j+mw one kp p j=one
 | 0=>by show 0+one=one;omega
 |j+1=>by
  have h2:=mw_sum p j
  have h3:=mw_step h1 hk p j
  rw[sumN]
  omega
theorem mw_le(p:List Int)(j:Nat):mw one kp p j≤one:=by have:=mw_sum h1 hk p j;omega
theorem mgive_sum{n:Nat}{p:List Int}(hp:∀c∈p,∃i:Nat,c=(i:Int)∧i<n):sumN (zod one kp p) n+mw one kp p p.length=one:=by
 have hm:=mw_sum h1 hk p p.length
 refine Eq.trans ?_ hm
 congr 1
 unfold zod
 rw[zkp (fun c j=>if p.getD j 0=(c:Int)then zdt one kp p j else 0)]
 refine zbs fun j hj=>?_
 obtain⟨i,e,hi⟩:=hp _ (zcb hj)
 rw[e]
 have:sumN (fun c:Nat=>if(i:Int)=(c:Int)then zdt one kp p j else 0) n=sumN (fun c=>if c=i then zdt one kp p j else 0) n:=zbs fun c _=>by
  by_cases h:c=i
  ·subst h;rw[if_pos rfl,if_pos rfl]
  ·rw[if_neg h,if_neg (by omega)]
 rw[this,sumN_one,if_pos hi]
theorem mv_sum{P:GP}(hP:P.OK):sumN (mvo P one kp) P.n+mro P one kp=P.tot*one:=by
 unfold mvo mro
 rw[zkp (fun c g=>P.k g*zod one kp (P.p g) c),←zhp,←hP.total,←zhn]
 refine zbs fun g hg=>?_
 have h2:=mgive_sum h1 hk (n:=P.n) (hP.prefs g hg)
 have h3:sumN (fun c=>P.k g*zod one kp (P.p g) c) P.n=P.k g*sumN (zod one kp (P.p g)) P.n:=by
  rw[xbc,←zhn]
  exact zbs fun c _=>xbc _ _
 rw[h3,←xcd,h2]
theorem mv_le{P:GP}(hP:P.OK){c:Nat}(hc:c<P.n):mvo P one kp c≤P.tot*one:=by
 have h2:=mv_sum h1 hk hP
 have h3:=znp (f:=mvo P one kp) hc
 omega
end
structure MP.OK(Q:MP):Prop where
 P:Q.P.OK
 one1:0<Q.one
 one6:Q.one≤1000000
 om:0<Q.om
structure MI(Q:MP)(s:MS):Prop where
 st2:∀c,s.st c≤2
 kp1:∀c,s.kp c≤Q.one
 hop:∀c,s.st c=0→s.kp c=Q.one
 elc:∀c,s.st c=1→0<s.kp c
 exc:∀c,s.st c=2→s.kp c=0
 since:s.since≤59
 fill:s.fl Q<Q.P.seats
 left:0<cntN (fun i=>decide (s.st i=0)) Q.P.n
variable {Q:MP} {s:MS}
theorem MS.v_le(hQ:Q.OK)(hI:MI Q s){c:Nat}(hc:c<Q.P.n):s.v Q c≤Q.P.tot*Q.one:=mv_le hQ.one1 hI.kp1 hQ.P hc
theorem MS.sum_le(hQ:Q.OK)(hI:MI Q s):sumN (s.v Q) Q.P.n+s.rest Q=Q.P.tot*Q.one:=mv_sum hQ.one1 hI.kp1 hQ.P
theorem MS.tot_le(hQ:Q.OK):Q.P.tot*Q.one≤100000000000:=Nat.le_trans (Nat.mul_le_mul hQ.P.tot5 hQ.one6) (by decide)
theorem MS.quo_le(hQ:Q.OK)(hI:MI Q s):s.quo Q≤Q.P.tot*Q.one+1:=by
 have h1:=MS.sum_le hQ hI
 have h2:=xcy (sumN (s.v Q) Q.P.n) (Q.P.seats+1)
 unfold MS.quo
 omega
theorem zda(c:Nat):(s.el Q c=true∧s.st c=0∧s.st1 Q c=1∧s.quo Q≤s.v Q c)∨(s.el Q c=false∧s.st1 Q c=s.st c):=by
 unfold MS.st1
 cases h:s.el Q c
 ·exact .inr ⟨rfl,rfl⟩
 ·unfold MS.el MS.reach at h
  rw[xaf,xaf,xaj,xaj]at h
  exact .inl ⟨rfl,h.1.1,rfl,h.1.2⟩
theorem f1_eq:s.f1 Q=s.fl Q+cntN (s.el Q) Q.P.n:=by
 unfold MS.f1 MS.fl cntN
 rw[←zhp]
 refine zbs fun i hi=>?_
 rcases zda (Q:=Q) (s:=s) i with⟨h0,h1,h2,_⟩|⟨h0,h2⟩
 ·simp[h0,h1,h2]
 ·simp[h0,h2]
theorem h1_eq:s.h1 Q+cntN (s.el Q) Q.P.n=cntN (fun i=>decide (s.st i=0)) Q.P.n:=by
 unfold MS.h1 cntN
 rw[←zhp]
 refine zbs fun i hi=>?_
 rcases zda (Q:=Q) (s:=s) i with⟨h0,h1,h2,_⟩|⟨h0,h2⟩
 ·simp[h0,h1,h2]
 ·simp[h0,h2]
def MS.meas(Q:MP)(s:MS):Nat:=cntN (fun i=>decide (s.st i=0)) Q.P.n*61+(60-s.since)
end Go.Proofs.YtmipjomnjkmdbaaGreat
namespace Go.Proofs.YtmipjomnjkmdbaaGreat
open Go Go.X
theorem countP_at{α:Type}{R:α→α→Bool}:∀{L:List α},L.Pairwise (fun a b=>R a b=true)→(∀a∈L,R a a=false)→(∀a∈L,∀b∈L,R a b=true→R b a=false)→∀{j:Nat} (hj:j<L.length),L.countP (fun d=>R d L[j])=j
 | [],_,_,_,j,hj=>by simp at hj
 |x::L,hp,hi,ha,0,_=>by
  rw[List.countP_eq_zero]
  intro d hd
  rw[List.getElem_cons_zero]
  rcases xat.1 hd with rfl|hd
  ·rw[hi d (by simp)];simp
  ·rw[ha x (by simp) d (xai _ hd) ((xcn.1 hp).1 d hd)];simp
 |x::L,hp,hi,ha,j+1,hj=>by
  obtain⟨h1,h2⟩:=xcn.1 hp
  have hj':j<L.length:=by simpa using hj
  have ih:=countP_at h2 (fun a h=>hi a (xai _ h)) (fun a h b h'=>ha a (xai _ h) b (xai _ h')) hj'
  rw[List.getElem_cons_succ,List.countP_cons,ih,if_pos (h1 _ (xbm hj'))]
theorem ins_ex{α:Type}{R:α→α→Bool}(x:α):∀{L:List α},L.Pairwise (fun a b=>R a b=true)→(∀a∈L,R x a=true∨R a x=true)→(∀a∈L,∀b∈L,R x a=true→R a b=true→R x b=true)→∃A B,L=A++B∧(A++x::B).Pairwise fun a b=>R a b=true
 | [],_,_,_=>⟨[],[],rfl,by simp⟩
 |y::L,hp,ht,hr=>by
  obtain⟨h1,h2⟩:=xcn.1 hp
  cases hxy:R x y with
  |true=>
   refine⟨[],y::L,rfl,?_⟩
   rw[xcu]
   refine xcn.2 ⟨fun b hb=>?_,hp⟩
   rcases xat.1 hb with rfl|hb
   ·exact hxy
   ·exact hr y (by simp) b (xai _ hb) hxy (h1 b hb)
  |false=>
   have hyx:R y x=true:=(ht y (by simp)).resolve_left (by rw[hxy];simp)
   obtain⟨A,B,e,hs⟩:=ins_ex x h2 (fun a ha=>ht a (xai _ ha)) (fun a ha b hb=>hr a (xai _ ha) b (xai _ hb))
   refine⟨y::A,B,by rw[e];rfl,?_⟩
   rw[xbu]
   refine xcn.2 ⟨fun b hb=>?_,hs⟩
   rcases List.mem_append.1 hb with hb|hb
   ·exact h1 b (by rw[e];exact xcr _ hb)
   ·rcases xat.1 hb with rfl|hb
    ·exact hyx
    ·exact h1 b (by rw[e];exact xfl _ hb)
theorem zig{α:Type}{R:α→α→Bool}:∀{l:List α},l.Nodup→(∀a∈l,∀b∈l,a≠b→R a b=true∨R b a=true)→(∀a∈l,∀b∈l,∀c∈l,R a b=true→R b c=true→R a c=true)→∃L:List α,L.Perm l∧L.Pairwise fun a b=>R a b=true
 | [],_,_,_=>⟨[],xhj _,by simp⟩
 |x::l,hn,ht,hr=>by
  obtain⟨h1,h2⟩:=xfb.1 hn
  obtain⟨L,hL,hs⟩:=zig h2 (fun a ha b hb=>ht a (xai _ ha) b (xai _ hb)) (fun a ha b hb c hc=>hr a (xai _ ha) b (xai _ hb) c (xai _ hc))
  have hm:∀a∈L,a∈l:=fun a ha=>hL.mem_iff.1 ha
  obtain⟨A,B,e,hs'⟩:=ins_ex x hs (fun a ha=>ht x (by simp) a (xai _ (hm a ha)) fun e=>h1 (by rw[e];exact hm a ha)) (fun a ha b hb=>hr x (by simp) a (xai _ (hm a ha)) b (xai _ (hm b hb)))
  refine⟨A++x::B,?_,hs'⟩
  refine List.perm_middle.trans (List.Perm.cons x ?_)
  rw[←e]
  exact hL
section
variable {v:Nat→Nat} {lots:List Int}
theorem better_irr(a:Nat):zdo v lots a a=false:=by
 unfold zdo
 simp
theorem better_asym{a b:Nat}(h:zdo v lots a b=true):zdo v lots b a=false:=by
 unfold zdo at h ⊢
 simp only[xdf,xaf,xaj,xbt,Bool.and_eq_false_iff,xar]at h ⊢
 omega
theorem zju{a b c:Nat}(h:zdo v lots a b=true)(h':zdo v lots b c=true):zdo v lots a c=true:=by
 unfold zdo at h h' ⊢
 simp only[xdf,xaf,xaj]at h h' ⊢
 omega
theorem zjv{a b:Nat}(ha:(a:Int)∈lots)(hne:a≠b):zdo v lots a b=true∨zdo v lots b a=true:=by
 have hp:zbx lots (a:Int)≠zbx lots (b:Int):=fun e=>by
  unfold zbx at e
  have h1:lots.idxOf (a:Int)<lots.length:=xfv ha
  have e1:=List.getElem_idxOf h1
  have h2:lots.idxOf (b:Int)<lots.length:=by rw[←e];exact h1
  have e2:=List.getElem_idxOf h2
  have:(a:Int)=(b:Int):=by
   rw[←e1,←e2]
   congr 1
  omega
 unfold zdo
 simp only[xdf,xaf,xaj]
 omega
end
def zlv(v:Nat→Nat)(lots:List Int)(a b:Int):Bool:=zdo v lots a.toNat b.toNat
variable {Q:MP} {s:MS}
theorem reach_sorted(hQ:Q.OK):∃L:List Int,L.Perm (selI (s.reach Q) Q.P.n)∧L.Pairwise fun a b=>zlv (s.v Q) Q.P.lots a b=true:=by
 refine zig (zgq _ _) (fun a ha b hb hne=>?_) (fun a _ b _ c _=>zju)
 obtain⟨i,rfl,hi,_⟩:=zbe.1 ha
 obtain⟨k,rfl,hk,_⟩:=zbe.1 hb
 exact zjv ((lotsOK hQ.P).mem hi) fun e=>hne (by rw[xan,xan]at e;rw[e])
theorem zls(p q:Nat→Bool):∀n:Nat,(selI p n).countP (fun d=>q d.toNat)=cntN (fun d=>p d&&q d) n
 | 0=>rfl
 |n+1=>by
  rw[zec,List.countP_append,zls p q n]
  show _=cntN (fun d=>p d&&q d) n+(if(p n&&q n)=true then 1 else 0)
  congr 1
  cases hp:p n
  ·simp
  ·rw[if_pos rfl,List.countP_singleton,xan]
   simp
theorem el_take(hQ:Q.OK){L:List Int}(hL:L.Perm (selI (s.reach Q) Q.P.n))(hs:L.Pairwise fun a b=>zlv (s.v Q) Q.P.lots a b=true){i:Nat}(hi:i<Q.P.n):(i:Int)∈L.take (Q.P.seats-s.fl Q)↔s.el Q i=true:=by
 have hrank:∀{j:Nat} (hj:j<L.length),s.rank Q (L[j]).toNat=j:=fun{j} hj=>by
  have h1:=countP_at (R:=zlv (s.v Q) Q.P.lots) hs (fun a _=>better_irr _) (fun a _ b _ h=>better_asym h) hj
  rw[hL.countP_eq]at h1
  have h2:=zls (s.reach Q) (fun d=>zdo (s.v Q) Q.P.lots d (L[j]).toNat) Q.P.n
  exact h2.symm.trans h1
 unfold MS.el
 rw[xaf,xaj]
 constructor
 ·intro h
  have hm:=xcg h
  obtain⟨j,hj,e⟩:=xbq h
  rw[xep]at e
  rw[xav]at hj
  have hr:=hrank (j:=j) (by omega)
  rw[e,xan]at hr
  obtain⟨k,e2,_,h2⟩:=zbe.1 (hL.mem_iff.1 hm)
  have:=xeb.1 e2
  subst this
  exact⟨h2,by omega⟩
 ·rintro⟨h1,h2⟩
  have hm:(i:Int)∈L:=hL.mem_iff.2 (zbe.2 ⟨i,rfl,hi,h1⟩)
  obtain⟨j,hj,e⟩:=xbq hm
  have hr:=hrank hj
  rw[e,xan]at hr
  rw[xge]
  exact⟨j,by omega,e⟩
theorem el_perm(hQ:Q.OK){L:List Int}(hL:L.Perm (selI (s.reach Q) Q.P.n))(hs:L.Pairwise fun a b=>zlv (s.v Q) Q.P.lots a b=true):(L.take (Q.P.seats-s.fl Q)).Perm (selI (s.el Q) Q.P.n):=by
 have hnd:L.Nodup:=hL.nodup_iff.2 (zgq _ _)
 refine(List.perm_ext_iff_of_nodup (hnd.sublist (List.take_sublist _ _)) (zgq _ _)).2 fun c=>?_
 constructor
 ·intro h
  obtain⟨i,rfl,hi,_⟩:=zbe.1 (hL.mem_iff.1 (xcg h))
  exact zbe.2 ⟨i,rfl,hi,(el_take hQ hL hs hi).1 h⟩
 ·intro h
  obtain⟨i,rfl,hi,h2⟩:=zbe.1 h
  exact(el_take hQ hL hs hi).2 h2
theorem el_cnt(hQ:Q.OK):cntN (s.el Q) Q.P.n≤Q.P.seats-s.fl Q:=by
 obtain⟨L,hL,hs⟩:=reach_sorted (s:=s) hQ
 rw[←zbp,←(el_perm hQ hL hs).length_eq,xav]
 exact xgr _ _
theorem f1_le(hQ:Q.OK)(hI:MI Q s):s.f1 Q≤Q.P.seats:=by
 have h1:=f1_eq (Q:=Q) (s:=s)
 have h2:=el_cnt (s:=s) hQ
 have h3:=hI.fill
 omega
theorem zmx(hQ:Q.OK)(hI:MI Q s)(h:s.fin Q=false):s.f1 Q<Q.P.seats∧Q.P.seats<s.f1 Q+s.h1 Q:=by
 unfold MS.fin at h
 rw[xbt,xar,xar]at h
 have:=f1_le hQ hI
 omega
theorem some1_iff:s.some1 Q=false↔∀i,i<Q.P.n→s.el Q i=false:=by
 unfold MS.some1
 rw[xar]
 constructor
 ·intro h i hi
  cases he:s.el Q i
  ·rfl
  ·exact absurd (zpa.2 ⟨i,hi,he⟩) h
 ·intro h hc
  obtain⟨i,hi,he⟩:=zpa.1 hc
  rw[h i hi]at he
  cases he
theorem el_out{i:Nat}(h:s.some1 Q=false)(hi:i<Q.P.n):s.el Q i=false∧s.st1 Q i=s.st i:=by
 have:=some1_iff.1 h i hi
 refine⟨this,?_⟩
 unfold MS.st1
 rw[this];rfl
theorem near_ne(hI:MI Q s):s.tied Q≠ []:=by
 have hne:selN (fun i=>decide (s.st i=0)) Q.P.n≠ []:=by
  have:=hI.left
  rw[←zfk]at this
  exact xco.1 this
 obtain⟨i,k1,k2⟩:=zoo (s.v Q) hne
 obtain⟨k3,k4⟩:=zen.1 k1
 refine xfc (a:=(i:Int)) (zbe.2 ⟨i,rfl,k3,?_⟩)
 unfold MS.near
 rw[k4,xbd,xby]
 intro k hk
 by_cases h5:s.st k=0
 ·have:=k2 k (zen.2 ⟨List.mem_range.1 hk,decide_eq_true h5⟩)
  rw[xdf,xaj]
  exact .inr (by omega)
 ·simp[h5]
theorem pickM_mem(E:List (List Rat))(h:s.tied Q≠ []):s.pick Q E∈s.tied Q:=by
 unfold MS.pick
 split
 ·exact zid h
 ·exact tieB_mem h
theorem zoa(hI:MI Q s)(E:List (List Rat)):∃x:Nat,s.pick Q E=(x:Int)∧x<Q.P.n∧s.st x=0:=by
 obtain⟨i,h2,h3,h4⟩:=zbe.1 (pickM_mem E (near_ne hI))
 refine⟨i,h2,h3,?_⟩
 unfold MS.near at h4
 rw[xaf,xaj]at h4
 exact h4.1
theorem hop_excl{x:Nat}(hx:x<Q.P.n)(h0:s.st x=0):cntN (fun i=>decide (s.st i=0)) Q.P.n=cntN (fun i=>decide (upd s.st x 2 i=0)) Q.P.n+1:=
 cnt_upd hx (fun i hi hne=>by rw[zmd _ _ hne]) (by rw[upd_self];rfl) (decide_eq_true h0)
theorem fl_excl{x:Nat}(hx:x<Q.P.n)(h0:s.st x=0):cntN (fun i=>decide (upd s.st x 2 i=1)) Q.P.n=s.fl Q:=by
 refine cntN_congr fun i hi=>?_
 unfold upd
 split
 ·rename_i e;subst e;rw[h0];rfl
 ·rfl
theorem exclM_inv(hQ:Q.OK)(hI:MI Q s)(hf:s.fin Q=false)(hc:s.cut Q=true)(E:List (List Rat)):MI Q (s.excl Q E)∧(s.excl Q E).meas Q<s.meas Q:=by
 obtain⟨x,h1,h2,h3⟩:=zoa hI E
 have hff:=zmx hQ hI hf
 have hs1:s.some1 Q=false:=by
  unfold MS.cut at hc
  rw[xaf,Bool.not_eq_true']at hc
  exact hc.1
 have hcnt:cntN (s.el Q) Q.P.n=0:=by
  refine xgm fun h=>?_
  unfold MS.some1 at hs1
  rw[xar]at hs1
  exact hs1 h
 have hf1:=f1_eq (Q:=Q) (s:=s)
 have hh1:=h1_eq (Q:=Q) (s:=s)
 have hh:=hop_excl (Q:=Q) h2 h3
 have hfl:=fl_excl (Q:=Q) h2 h3
 have hsi:=hI.since
 unfold MS.excl
 rw[h1,xan]
 refine⟨⟨fun c=>?_,fun c=>?_,fun c hc=>?_,fun c hc=>?_,fun c hc=>?_,xbn _,?_,?_⟩,?_⟩
 ·show upd s.st x 2 c≤2
  unfold upd;split
  ·exact Nat.le_refl _
  ·exact hI.st2 c
 ·show upd s.kp x 0 c≤_
  unfold upd;split
  ·exact xbn _
  ·exact hI.kp1 c
 ·have hc':upd s.st x 2 c=0:=hc
  show upd s.kp x 0 c=_
  unfold upd at hc' ⊢
  split at hc'
  ·omega
  ·rename_i e;rw[if_neg e];exact hI.hop c hc'
 ·have hc':upd s.st x 2 c=1:=hc
  show 0<upd s.kp x 0 c
  unfold upd at hc' ⊢
  split at hc'
  ·omega
  ·rename_i e;rw[if_neg e];exact hI.elc c hc'
 ·have hc':upd s.st x 2 c=2:=hc
  show upd s.kp x 0 c=0
  unfold upd at hc' ⊢
  split at hc'
  ·rename_i e;rw[if_pos e]
  ·rename_i e;rw[if_neg e];exact hI.exc c hc'
 ·show cntN (fun i=>decide (upd s.st x 2 i=1)) Q.P.n<_
  rw[hfl];exact hI.fill
 ·show 0<cntN (fun i=>decide (upd s.st x 2 i=0)) Q.P.n
  omega
 ·show cntN (fun i=>decide (upd s.st x 2 i=0)) Q.P.n*61+(60-0)<cntN (fun i=>decide (s.st i=0)) Q.P.n*61+(60-s.since)
  omega
theorem quo_pos:0<s.quo Q:=Nat.succ_pos _
theorem reduM_inv(hQ:Q.OK)(hI:MI Q s)(hf:s.fin Q=false)(hc:s.cut Q=false):MI Q (s.redu Q)∧(s.redu Q).meas Q<s.meas Q:=by
 have hff:=zmx hQ hI hf
 have hf1:=f1_eq (Q:=Q) (s:=s)
 have hh1:=h1_eq (Q:=Q) (s:=s)
 have hsi:=hI.since
 have hst:∀c,s.st1 Q c=2→s.st c=2:=fun c hc=>by
  rcases zda (Q:=Q) (s:=s) c with⟨_,_,h2,_⟩|⟨_,h2⟩<;>omega
 have hst0:∀c,s.st1 Q c=0→s.st c=0:=fun c hc=>by
  rcases zda (Q:=Q) (s:=s) c with⟨_,_,h2,_⟩|⟨_,h2⟩<;>omega
 have hsome:s.some1 Q=false→s.since+1<60:=fun h=>by
  unfold MS.cut at hc
  rw[h,xal,xbd]at hc
  unfold MS.stall at hc
  rw[xbt,xbt,xar,xar]at hc
  omega
 refine⟨⟨fun c=>?_,fun c=>?_,fun c hc=>?_,fun c hc=>?_,fun c hc=>?_,?_,?_,?_⟩,?_⟩
 ·show s.st1 Q c≤2
  have:=hI.st2 c
  rcases zda (Q:=Q) (s:=s) c with⟨_,_,h2,_⟩|⟨_,h2⟩<;>omega
 ·show s.kp1 Q c≤_
  unfold MS.kp1;split
  ·exact xgr _ _
  ·exact hI.kp1 c
 ·have hc':s.st1 Q c=0:=hc
  show s.kp1 Q c=_
  unfold MS.kp1
  rw[if_neg (by omega)]
  exact hI.hop c (hst0 c hc')
 ·have hc':s.st1 Q c=1:=hc
  have hkp:0<s.kp c:=by
   rcases zda (Q:=Q) (s:=s) c with⟨_,h1,h2,_⟩|⟨_,h2⟩
   ·rw[hI.hop c h1];exact hQ.one1
   ·exact hI.elc c (by omega)
  show 0<s.kp1 Q c
  unfold MS.kp1;split
  ·rename_i h
   refine Nat.lt_min.2 ⟨hQ.one1,mup_pos h.2 (Nat.mul_pos (mup_pos hQ.one1 (Nat.mul_pos hkp quo_pos)) hQ.one1)⟩
  ·exact hkp
 ·have hc':s.st1 Q c=2:=hc
  show s.kp1 Q c=0
  unfold MS.kp1
  rw[if_neg (by omega)]
  exact hI.exc c (hst c hc')
 ·show(if s.some1 Q then 0 else s.since+1)≤59
  cases h:s.some1 Q
  ·have:=hsome h
   simp only[xba,xch];omega
  ·simp
 ·show s.f1 Q<_
  omega
 ·show 0<s.h1 Q
  omega
 ·show s.h1 Q*61+(60-(if s.some1 Q then 0 else s.since+1))<cntN (fun i=>decide (s.st i=0)) Q.P.n*61+(60-s.since)
  cases h:s.some1 Q
  ·simp only[xba,xch];omega
  ·have:0<cntN (s.el Q) Q.P.n:=by
    unfold MS.some1 at h
    exact of_decide_eq_true h
   simp only[if_true];omega
theorem s0_inv(hQ:Q.OK):MI Q Q.s0:=by
 have h1:=hQ.P.seats1
 have h2:=hQ.P.n1
 refine⟨fun _=>xbn _,fun _=>Nat.le_refl _,fun _ _=>rfl,fun _ h=>(by cases h),fun _ h=>(by cases h),xbn _,?_,zpa.2 ⟨0,by omega,rfl⟩⟩
 have:Q.s0.fl Q=0:=by unfold MS.fl cntN;exact zhm _
 omega
theorem s0_meas(hQ:Q.OK):Q.s0.meas Q≤487:=by
 have h:=zdc (fun i=>decide (Q.s0.st i=0)) Q.P.n
 have:=hQ.P.n7
 unfold MS.meas
 show _*61+(60-0)≤_
 omega
theorem bzM(hQ:Q.OK){a:Nat}(h:a≤1000000000000000000):Bz eB (frac a Q.one):=by
 have:=hQ.one6
 refine frac_bz (xfa h (Nat.lt_trans (show(1000000000000000000:Nat)<2^64 by decide) (xhb (by decide) (by decide)))) (xfa this (Nat.lt_trans (show(1000000:Nat)<2^64 by decide) (xhb (by decide) (by decide)))) (by decide)
theorem votes_rndM(hQ:Q.OK)(hI:MI Q s):RndOK Q.P.n (s.rd0 Q).votes:=⟨zam _ _,fun q hq=>by
 obtain⟨i,hi,rfl⟩:=mem_lst.1 hq
 have h1:=MS.v_le hQ hI hi
 have h2:=MS.tot_le hQ
 exact bzM hQ (by omega)⟩
structure MRun(Q:MP)(s:MS)(rs:List Rd):Prop where
 inv:MI Q s
 rnd:∀r∈rs,RndOK Q.P.n r.votes∧r.el.length≤7
 len:rs.length+s.meas Q≤487
 run:mrun Q (500-rs.length) rs s=mcount Q
theorem MRun.start(hQ:Q.OK):MRun Q Q.s0 []:=⟨s0_inv hQ,fun r hr=>by simp at hr,by have:=s0_meas hQ;simp;omega,rfl⟩
theorem elM_len(hQ:Q.OK):(selI (s.el Q) Q.P.n).length≤7:=by rw[zbp];have:=zdc (s.el Q) Q.P.n;have:=hQ.P.n7;omega
theorem MRun.next(hQ:Q.OK){rs:List Rd}(h:MRun Q s rs){r:Rd}{s':MS}(hs:mstep Q (rs.map Rd.votes) s=(r,some s'))(hi:MI Q s')(hm:s'.meas Q<s.meas Q)(hv:r.votes=(s.rd0 Q).votes)(he:r.el=(s.rd0 Q).el):MRun Q s' (rs++[r]):=by
 have hl:=h.len
 refine⟨hi,fun x hx=>?_,by simp;omega,?_⟩
 ·rcases List.mem_append.1 hx with hx|hx
  ·exact h.rnd x hx
  ·rw[xei]at hx
   subst hx
   rw[hv,he]
   exact⟨votes_rndM hQ h.inv,elM_len hQ⟩
 ·have hr:=h.run
  rw[show 500-rs.length=(499-rs.length)+1 by omega,mrun,hs]at hr
  rw[←hr]
  simp only[List.length_append,xbx,xgw]
  rw[show 500-(rs.length+(0+1))=499-rs.length by omega]
theorem mstep_fin{E:List (List Rat)}(hf:s.fin Q=true):mstep Q E s=(s.done Q,none):=by unfold mstep;rw[if_pos hf]
theorem mstep_cut{E:List (List Rat)}(hf:s.fin Q=false)(hc:s.cut Q=true):mstep Q E s=(s.exR Q E,some (s.excl Q E)):=by unfold mstep;rw[if_neg (by rw[hf];simp),if_pos hc]
theorem mstep_redu{E:List (List Rat)}(hf:s.fin Q=false)(hc:s.cut Q=false):mstep Q E s=(s.rd0 Q,some (s.redu Q)):=by unfold mstep;rw[if_neg (by rw[hf];simp),if_neg (by rw[hc];simp)]
theorem MRun.fin{rs:List Rd}(h:MRun Q s rs)(hf:s.fin Q=true):rs++[s.done Q]=mcount Q:=by
 have hl:=h.len
 have hr:=h.run
 rw[show 500-rs.length=(499-rs.length)+1 by omega,mrun,mstep_fin hf]at hr
 exact hr
theorem MRun.excl(hQ:Q.OK){rs:List Rd}(h:MRun Q s rs)(hf:s.fin Q=false)(hc:s.cut Q=true):MRun Q (s.excl Q (rs.map Rd.votes)) (rs++[s.exR Q (rs.map Rd.votes)]):=by
 obtain⟨h1,h2⟩:=exclM_inv hQ h.inv hf hc (rs.map Rd.votes)
 exact h.next hQ (mstep_cut hf hc) h1 h2 rfl rfl
theorem MRun.redu(hQ:Q.OK){rs:List Rd}(h:MRun Q s rs)(hf:s.fin Q=false)(hc:s.cut Q=false):MRun Q (s.redu Q) (rs++[s.rd0 Q]):=by
 obtain⟨h1,h2⟩:=reduM_inv hQ h.inv hf hc
 exact h.next hQ (mstep_redu hf hc) h1 h2 rfl rfl
end Go.Proofs.YtmipjomnjkmdbaaGreat
