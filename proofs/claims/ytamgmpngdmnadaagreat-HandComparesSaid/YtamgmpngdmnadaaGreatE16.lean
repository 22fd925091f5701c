/- Part 16 of what stands below the statement. -/
import Derived.Test.YtamgmpngdmnadaaGreatE15
set_option linter.unusedSimpArgs false
set_option linter.unusedVariables false
namespace Go.Proofs.YtamgmpngdmnadaaGreat
open Go Go.X
theorem zes{α β γ:Type}{f:α→Option (α⊕β)}{k:β→Option γ}{a0:α}{Q:Option γ→Prop}(R:Nat→α→Prop)(n:Nat)(h0:R n a0)(hs:∀m a,R m a→(∃a' m',f a=some (.inl a')∧m'<m∧R m' a')∨∃b,f a=some (.inr b)∧Q (k b)):Q ((zae f a0).bind k):=by
 have key:∀M m a,m<M→R m a→∃b,zae f a=some b∧Q (k b):=by
  intro M
  induction M with
  |zero=>intro m a h;omega
  |succ M ih=>
   intro m a hm hr
   rcases hs m a hr with⟨a',m',h1,h2,h3⟩|⟨b,h1,h2⟩
   ·obtain⟨b,h4,h5⟩:=ih m' a' (by omega) h3
    exact⟨b,zip h1 h4,h5⟩
   ·exact⟨b,zex h1,h2⟩
 obtain⟨b,h1,h2⟩:=key (n+1) n a0 (by omega) h0
 rw[h1]
 exact h2
theorem two_top{v:List Int}(hv:IsL v){m:Nat}(hm:v.length=m+2):∃h s t:Nat,v.getD (m+1) 0=(h:Int)∧v.getD m 0=(s:Int)∧h<4294967296∧s<4294967296∧t<4294967296^m∧nv v=(h*4294967296+s)*4294967296^m+t:=by
 have g0:=zfz hv m
 have g1:=zfz hv (m+1)
 rw[xbo,←xdg]at g1
 have hlt:=zsg hv
 rw[hm,show m+2=m+1+1 by omega,xbo,xbo,xba]at hlt
 have hY:=xet hlt
 have hdm:=xfi (nv v) (4294967296^m)
 have hml:=xdr (nv v) (zrj m)
 generalize nv v/4294967296^m=Y at *
 refine⟨Y/4294967296,Y%4294967296,nv v%4294967296^m,?_,g0,by omega,by omega,hml,?_⟩
 ·rw[g1];omega
 ·rw[show Y/4294967296*4294967296+Y%4294967296=Y by omega,xbk Y];omega
theorem three_top{u:List Int}(hu:IsL u){j m:Nat}(hlt:nv u<4294967296^(j+m+3)):∃a b c z:Nat,u.getD (j+m+2) 0=(a:Int)∧u.getD (j+m+1) 0=(b:Int)∧u.getD (j+m) 0=(c:Int)∧a<4294967296∧b<4294967296∧c<4294967296∧z<4294967296^m∧nv u/4294967296^j=((a*4294967296+b)*4294967296+c)*4294967296^m+z:=by
 have g0:=zfz hu (j+m)
 have g1:=zfz hu (j+m+1)
 have g2:=zfz hu (j+m+2)
 rw[show j+m+2=j+m+1+1 by omega,xbo,←xdg]at g2
 rw[xbo,←xdg]at g1 g2
 rw[xdk,←xdg]at g0 g1 g2
 have hl2:nv u/4294967296^j/4294967296^m<4294967296*4294967296*4294967296:=by
  rw[xdg,←xdk]
  refine xet ?_
  rw[show j+m+3=j+m+1+1+1 by omega,xbo,xbo,xbo]at hlt
  rw[←xba,←xba]
  exact hlt
 generalize nv u/4294967296^j=U at *
 have hdm:=xfi U (4294967296^m)
 have hml:=xdr U (zrj m)
 generalize U/4294967296^m=Y at *
 refine⟨Y/4294967296/4294967296,Y/4294967296%4294967296,Y%4294967296,U%4294967296^m,?_,g1,g0,by omega,by omega,by omega,hml,?_⟩
 ·rw[show j+m+2=j+m+1+1 by omega,g2];omega
 ·rw[show(Y/4294967296/4294967296*4294967296+Y/4294967296%4294967296)*4294967296+Y%4294967296=Y by omega,xbk Y];omega
theorem guess_low{U V W top h s t u0 z q r:Nat}(hV:V=(h*4294967296+s)*W+t)(hU:U=(top*4294967296+u0)*W+z)(hz:z<W)(hu:u0<4294967296)(hq:q*h+r=top)(hr:r<h):U<(q+1)*V:=by
 have h1:top+1≤(q+1)*h:=by rw[xfy];omega
 have h2:top*4294967296+u0+1≤(q+1)*(h*4294967296+s):=by
  rw[xcb,←xba]
  have:=xaj 4294967296 h1
  omega
 have h3:=xaj W h2
 rw[hV,xcb,←xba,hU]
 rw[xfy]at h3
 omega
theorem top_bound{B U V W x c y t z:Nat}(hV:V=y*W+t)(hU:U=(x*B+c)*W+z)(ht:t<W)(hlt:U<B*V):x≤y:=by
 refine Nat.not_lt.1 fun h1=>?_
 have h2:(y+1)*B≤x*B:=xaj B h1
 have h3:=xaj W h2
 have h4:B*V≤B*((y+1)*W):=by
  refine xcp B ?_
  rw[hV,xfy];omega
 rw[xbk (y+1) B,xba]at h3
 rw[xbp]at hU
 omega
theorem q_small{q h r:Nat}(hq:q*h+r≤h*4294967296+4294967295)(hr:4294967296≤r):q<4294967296:=by
 refine Nat.not_le.1 fun h1=>?_
 have:=xaj h h1
 rw[xbk 4294967296]at this
 omega
theorem d296_eq{u v:List Int}(hu:IsL u)(hv:IsL v){j m:Nat}(hm:v.length=m+2)(hlen:j+m+2<u.length)(lu:u.length≤1073741825)(hlt:nv u<4294967296^(j+m+3))(hh:v.getD (m+1) 0≠0)(hUV:nv u/4294967296^j<4294967296*nv v) :
  ∃q:Nat,d296 u v (j:Int)=some (q:Int)∧q<4294967296∧nv u/4294967296^j<(q+1)*nv v∧q*nv v<nv u/4294967296^j+nv v:=by
 obtain⟨h,s,t,v1,v2,hh1,hs1,ht1,hV⟩:=two_top hv hm
 obtain⟨a,b,c,z,u1,u2,u3,ha1,hb1,hc1,hz1,hU⟩:=three_top hu hlt
 have hb0:=top_bound hV hU ht1 hUV
 generalize nv u/4294967296^j=U at *
 generalize nv v=V at *
 generalize 4294967296^m=W at *
 rw[v1]at hh
 have hh0:0<h:=by omega
 obtain⟨top,htop⟩:∃top,a*4294967296+b=top:=⟨_,rfl⟩
 rw[htop]at hU hb0
 have htl:top<18446744073709551616:=by omega
 unfold d296
 have i1:w ((j:Int)+((m+2:Nat):Int))=((j+m+2:Nat):Int):=by rw[zbj (by omega) (by omega)];omega
 have i2:w (((j+m+2:Nat):Int)-1)=((j+m+1:Nat):Int):=by rw[zbj (by omega) (by omega)];omega
 have i3:w (((m+2:Nat):Int)-1)=((m+1:Nat):Int):=by rw[zbj (by omega) (by omega)];omega
 have i4:w (((m+2:Nat):Int)-2)=((m:Nat):Int):=by rw[zbj (by omega) (by omega)];omega
 have i5:w (((j+m+2:Nat):Int)-2)=((j+m:Nat):Int):=by rw[zbj (by omega) (by omega)];omega
 have hne:decide ((h:Int)=0)=false:=decide_eq_false (by omega)
 have hd1:top/h<18446744073709551616:=xdt (xdl _ _) htl
 have hd2:top%h<h:=xdr _ hh0
 have t1:Int.tdiv (top:Int) (h:Int)=((top/h:Nat):Int):=rfl
 have t2:Int.tmod (top:Int) (h:Int)=((top%h:Nat):Int):=rfl
 simp only[hm,i1,i2,i3,d0le,dlt (show j+m+2<u.length by omega),dlt (show j+m+1<u.length by omega),dlt (show m+1<m+2 by omega),cond_true,xad,tn,v1,u1,u2,zaz (show h<18446744073709551616 by omega),zaz (show a<18446744073709551616 by omega),hne,xak,or64w ha1 hb1,htop,t1,t2,zaz hd1,zaz (show top%h<18446744073709551616 by omega)]
 refine zes (Q:=fun r=>∃q:Nat,r=some (q:Int)∧q<4294967296∧U<(q+1)*V∧q*V<U+V) (fun(M:Nat) (st:(List Int)×(List Int)×Int×Int×Int×Int×Int)=>∃(q r:Nat),M=q∧st=(u,v,(j:Int),((m+2:Nat):Int),(h:Int),(q:Int),(r:Int))∧q*h+r=top∧r<4294967296∧q<18446744073709551616∧U<(q+1)*V) (top/h) ?_ ?_
 ·exact⟨_,_,rfl,rfl,by rw[xbk];exact xfi top h,by omega,hd1,guess_low hV hU hz1 hc1 (by rw[xbk];exact xfi top h) hd2⟩
 ·rintro M st ⟨q,r,rfl,rfl,hq,hr,hq64,hlow⟩
  have e2:wu64 ((r:Int)+(h:Int))=((r+h:Nat):Int):=by rw[zbo (by omega) (by omega)];omega
  have e1:0<M→wu64 ((M:Int)-1)=((M-1:Nat):Int):=fun h0=>by rw[zbo (by omega) (by omega)];omega
  have down:0<M→U<M*V→(4294967296≤r+h∧M-1<4294967296∧U<(M-1+1)*V∧(M-1)*V<U+V)∨(r+h<4294967296∧(M-1)*h+(r+h)=top∧U<(M-1+1)*V):=by
   intro h0 hU1
   have e3:(M-1)*h+(r+h)=top:=by
    rw[←hq]
    obtain⟨M',rfl⟩:∃M',M=M'+1:=⟨M-1,by omega⟩
    rw[Nat.add_sub_cancel,xfy];omega
   have e4:M-1+1=M:=by omega
   rw[e4]
   by_cases hb:4294967296≤r+h
   ·have hqs:=q_small (h:=h) (r:=r+h) (by rw[e3];omega) hb
    refine .inl ⟨hb,hqs,hU1,zqx hV hU ht1 hh0 e3 hqs ?_⟩
    have:(M-1)*s≤4294967296*4294967296:=Nat.mul_le_mul (by omega) (by omega)
    omega
   ·exact .inr ⟨by omega,e3,hU1⟩
  by_cases hq1:4294967296≤M
  ·have d1:decide ((4294967296:Int)≤(M:Int))=true:=decide_eq_true (by omega)
   have hM:0<M:=by omega
   rcases down hM (xap hUV (xaj V hq1))with⟨k1,k2,k3,k4⟩|⟨k1,k2,k3⟩
   ·have d2:decide ((4294967296:Int)≤((r+h:Nat):Int))=true:=decide_eq_true (by omega)
    exact .inr ⟨((M-1:Nat):Int),by simp only[zal,d1,xam,xac,cond_true,e1 hM,e2,d2],M-1,rfl,k2,k3,k4⟩
   ·have d2:decide ((4294967296:Int)≤((r+h:Nat):Int))=false:=decide_eq_false (by omega)
    exact .inl ⟨_,M-1,by simp only[zal,d1,xam,xac,cond_true,e1 hM,e2,d2],by omega,M-1,r+h,rfl,rfl,k2,k1,by omega,k3⟩
  ·have d1:decide ((4294967296:Int)≤(M:Int))=false:=decide_eq_false (by omega)
   obtain⟨p,hp⟩:∃p,M*s=p:=⟨_,rfl⟩
   have hpl:p≤4294967295*4294967295:=by rw[←hp];exact Nat.mul_le_mul (by omega) (by omega)
   have hpi:(M:Int)*(s:Int)=(p:Int):=by rw[←hp];simp
   simp only[zal,d1,xak,cond_true,i1,i4,i5,d0le,dlt (show m<m+2 by omega),hm,dlt (show j+m<u.length by omega),xad,tn,v2,u3,or64w hr hc1,zaz (show s<18446744073709551616 by omega),hpi,zaz (show p<18446744073709551616 by omega)]
   by_cases hc:r*4294967296+c<p
   ·simp only[dlt hc]
    rw[←hp]at hc
    have hM:0<M:=by
     rcases xch M with h0|h0
     ·subst h0;rw[xed]at hc;omega
     ·exact h0
    rcases down hM (digit_low hV hU hz1 hq hc)with⟨k1,k2,k3,k4⟩|⟨k1,k2,k3⟩
    ·have d2:decide ((4294967296:Int)≤((r+h:Nat):Int))=true:=decide_eq_true (by omega)
     exact .inr ⟨((M-1:Nat):Int),by simp only[xac,cond_true,e1 hM,e2,d2],M-1,rfl,k2,k3,k4⟩
    ·have d2:decide ((4294967296:Int)≤((r+h:Nat):Int))=false:=decide_eq_false (by omega)
     exact .inl ⟨_,M-1,by simp only[xac,cond_true,e1 hM,e2,d2],by omega,M-1,r+h,rfl,rfl,k2,k1,by omega,k3⟩
   ·rw[nlt (a:=r*4294967296+c) (b:=p) (by omega)]
    refine .inr ⟨(M:Int),by simp only[xac],M,rfl,by omega,hlow,?_⟩
    exact zqx hV hU ht1 hh0 hq (by omega) (by rw[hp];omega)
end Go.Proofs.YtamgmpngdmnadaaGreat
namespace Go.Proofs.YtamgmpngdmnadaaGreat
open Go Go.X
theorem and_low{p:Nat}(h:p<18446744073709551616):wu64 (((BitVec.ofInt 64 (p:Int)&&&BitVec.ofInt 64 4294967295).toNat:Nat):Int)=((p%4294967296:Nat):Int):=by
 have:BitVec.ofInt 64 4294967295=BitVec.ofNat 64 4294967295:=rfl
 rw[this,BitVec.toNat_and,zic 64 _ (by omega),BitVec.toNat_ofNat]
 have e:=Nat.and_two_pow_sub_one_eq_mod p 32
 rw[show(2:Nat)^32-1=4294967295 from rfl,show(2:Nat)^32=4294967296 from rfl]at e
 rw[show 4294967295%2^64=4294967295 from rfl,e,zaz (by omega)]
theorem sub_step{X N N' N2 T x y q dig lo h bo bo' ca ca' s p Y:Nat}(hN:N+X*(q*T)=N'+X*Y*(bo+ca))(h2:N2+X*Y*x=N+X*Y*dig)(hp:q*y+ca=p)(hlo:p=lo+4294967296*ca')(hs:s+lo+bo=4294967296+x)(hd:s=dig+4294967296*h)(hb:bo'+h=1):N2+X*(q*(T+Y*y))=N'+X*(Y*4294967296)*(bo'+ca'):=by
 have e:dig+q*y+ca+bo=x+4294967296*(bo'+ca'):=by omega
 have e1:=xbb ((X*Y) * ·) e
 simp only[xcb]at e1 hN ⊢
 have e2:X*(q*(Y*y))=X*Y*(q*y):=by rw[Nat.mul_left_comm q,←xba]
 have e3:X*Y*(4294967296*bo')=X*(Y*4294967296)*bo':=by simp only[xba]
 have e4:X*Y*(4294967296*ca')=X*(Y*4294967296)*ca':=by simp only[xba]
 omega
theorem add_step{X N N' N2 T x y dig c c' s Y:Nat}(hN:N+X*Y*c=N'+X*T)(h2:N2+X*Y*x=N+X*Y*dig)(hs:x+y+c=s)(hd:s=dig+4294967296*c'):N2+X*(Y*4294967296)*c'=N'+X*(T+Y*y):=by
 have e:dig+4294967296*c'=x+y+c:=by omega
 have e1:=xbb ((X*Y) * ·) e
 simp only[xcb]at e1 hN ⊢
 have e2:X*(Y*y)=X*Y*y:=by rw[xba]
 have e4:X*Y*(4294967296*c')=X*(Y*4294967296)*c':=by simp only[xba]
 omega
theorem below_next{N X U q V:Nat}(hX:0<X)(hU:N/X=U)(h:U<(q+1)*V):N<X*(q*V)+X*V:=by
 have h1:N<X*(U+1):=by
  have:=xfi N X
  have:=xdr N hX
  rw[hU]at *
  rw[xcb,xda]
  omega
 have h2:X*(U+1)≤X*((q+1)*V):=xcp _ h
 have e:X*((q+1)*V)=X*(q*V)+X*V:=by rw[xfy,xcb]
 omega
theorem floor_le{N X U Y:Nat}(hU:N/X=U)(h:Y≤U):X*Y≤N:=by
 have:=xfi N X
 rw[hU]at this
 have h2:X*Y≤X*U:=xcp _ h
 omega
set_option maxHeartbeats 1000000 in
theorem d269_eq{u v:List Int}(hu:IsL u)(hv:IsL v){m k:Nat}(hm:v.length=m+2)(hk:u.length=k+(m+2))(lu:u.length≤1073741825)(hh:v.getD (m+1) 0≠0)(hlt:nv u<nv v*4294967296^k) :
  ∃q r,d269 u v=some (q,r)∧IsL q∧IsL r∧q.length=k∧r.length=u.length∧nv q=nv u/nv v∧nv r=nv u%nv v:=by
 have hV0:0<nv v:=by
  rcases xch (nv v)with h0|h0
  ·rw[h0,xed]at hlt;omega
  ·exact h0
 have hVB:=zsg hv
 unfold d269
 have i1:w ((u.length:Int)-(v.length:Int))=(k:Int):=by rw[zbj (by omega) (by omega)];omega
 have i2:w ((v.length:Int)+1)=((m+3:Nat):Int):=by rw[zbj (by omega) (by omega)];omega
 have i3:w ((k:Int)-1)=(k:Int)-1:=zbj (by omega) (by omega)
 simp only[i1,xaq,d0le,zbq (n:=k) (by omega),xad,cond_true,tn,i3]
 refine zqc (Q:=fun r=>∃q r',r=some (q,r')∧IsL q∧IsL r'∧q.length=k∧r'.length=u.length∧nv q=nv u/nv v∧nv r'=nv u%nv v) (fun(i:Nat) (st:(List Int)×(List Int)×Int×(List Int)×Int)=>∃(u' out:List Int),st=(u',v,(v.length:Int),out,(i:Int)-1)∧i≤k∧IsL u'∧u'.length=u.length∧IsL out∧out.length=k∧(∀t,t<i→out.getD t 0=0)∧nv u=nv u'+nv out*nv v∧nv u'<nv v*4294967296^i) k ?_ ?_ ?_
 ·exact⟨u,_,rfl,Nat.le_refl _,hu,rfl,IsL.zeros _,by simp,fun t _=>zqs _ t,by rw[zea];omega,hlt⟩
 ·rintro i st hi ⟨u',out,rfl,hik,hu',hlu,hL,hlo,hz,hv1,hv2⟩
  obtain⟨X,hX⟩:∃X,4294967296^i=X:=⟨_,rfl⟩
  have hX0:0<X:=by rw[←hX];exact zrj i
  rw[xbo,hX]at hv2
  have hB3:nv u'<4294967296^(i+m+3):=by
   refine xap hv2 ?_
   rw[show i+m+3=(m+2)+(i+1) by omega,xdk,xbo _ i,hX,←hm]
   exact xaj _ (xfz hVB)
  have hUV:nv u'/4294967296^i<4294967296*nv v:=by
   rw[hX]
   refine xet ?_
   rw[←xba,xbk]
   exact hv2
  obtain⟨q,hq0,hq1,hq2,hq3⟩:=d296_eq hu' hv (j:=i) hm (by omega) (by omega) hB3 hh hUV
  have j1:((i+1:Nat):Int)-1=(i:Int):=by omega
  have wi1:w ((i:Int)-1)=(i:Int)-1:=zbj (by omega) (by omega)
  rw[hX]at hq2 hq3
  simp only[j1,d0le,cond_true,hq0,Option.bind_some,i2]
  refine zbv (Q:=fun(r:Option (((List Int)×(List Int)×Int×(List Int)×Int)⊕((List Int)×(List Int))))=>∃a',r=some (.inl a')∧∃(u' out:List Int),a'=(u',v,(v.length:Int),out,(i:Int)-1)∧i≤k∧IsL u'∧u'.length=u.length∧IsL out∧out.length=k∧(∀t,t<i→out.getD t 0=0)∧nv u=nv u'+nv out*nv v∧nv u'<nv v*4294967296^i)
   (fun(d:Nat) (st:(List Int)×(List Int)×Int×(List Int)×Int×Int×Int×Int×Int×Int)=>∃(z:List Int) (bo ca:Nat),st=(z,v,(v.length:Int),out,(i:Int),(q:Int),(bo:Int),(ca:Int),((m+3:Nat):Int),(d:Int))∧IsL z∧z.length=u.length∧bo≤1∧ca<4294967296∧(d≤m+2∨ca=0)∧nv z+X*(q*nv (v.take d))=nv u'+X*4294967296^d*(bo+ca)∧nv z<4294967296^(i+m+3)) (m+3) ?_ ?_ ?_
  ·exact⟨u',0,0,rfl,hu',hlu,by omega,by omega,.inl (by omega),by simp[nv],hB3⟩
  ·rintro d st hd ⟨z,bo,ca,rfl,hzL,hzl,hbo,hca,hor,heq,hzb⟩
   obtain⟨y,hy1,hy2,hy3⟩:=zed hv d
   have hx:=hzL.getD (d+i)
   obtain⟨x,hx1⟩:∃x:Nat,z.getD (d+i) 0=(x:Int):=⟨_,(xgz hx.1).symm⟩
   rw[hx1]at hx
   obtain⟨qy,hqy⟩:∃p,q*y=p:=⟨_,rfl⟩
   have hpl:qy≤4294967295*4294967295:=by rw[←hqy];exact Nat.mul_le_mul (by omega) (by omega)
   have hqi:(q:Int)*(y:Int)=(qy:Int):=by rw[←hqy];simp
   have s1:wu64 ((qy:Int)+(ca:Int))=((qy+ca:Nat):Int):=by rw[zbo (by omega) (by omega)];omega
   obtain⟨p,hp⟩:∃p,qy+ca=p:=⟨_,rfl⟩
   obtain⟨lo,hlo'⟩:∃lo,p%4294967296=lo:=⟨_,rfl⟩
   have s2:wu64 (4294967296+(x:Int))=4294967296+(x:Int):=zbo (by omega) (by omega)
   have s3:wu64 (4294967296+(x:Int)-(lo:Int))=4294967296+(x:Int)-lo:=zbo (by omega) (by omega)
   obtain⟨s,hs⟩:∃s,4294967296+x-lo-bo=s:=⟨_,rfl⟩
   have s4:wu64 (4294967296+(x:Int)-(lo:Int)-(bo:Int))=(s:Int):=by rw[zbo (by omega) (by omega)];omega
   have s5:wu64 (1-((s/4294967296:Nat):Int))=((1-s/4294967296:Nat):Int):=by rw[zbo (by omega) (by omega)];omega
   simp only[dlt hd,zhl hv,hy1,Option.bind_some,wadd (show d+i≤9223372036854775807 by omega),d0le,dlt (show d+i<z.length by omega),cond_true,xad,tn,hx1,hqi,zaz (show qy<18446744073709551616 by omega),s1,hp,and_low (show p<18446744073709551616 by omega),hlo',zaz (show x<18446744073709551616 by omega),s2,s3,s4,shr32,zaz (show s/4294967296<18446744073709551616 by omega),s5,zaz (show p/4294967296<18446744073709551616 by omega),zdh,zav (show d<9223372036854775807 by omega)]
   have e1:=zjy z (d+i) (((s%4294967296:Nat):Int)) (by omega)
   rw[hx1,Int.toNat_natCast,Int.toNat_natCast,xgk d i,xdk,hX,xgk i d]at e1
   refine⟨_,rfl,_,_,_,rfl,hzL.set _ (by omega) (by omega),by simpa using hzl,by omega,by omega,?_,?_,zjx hzL (by omega) (by omega) (by omega) hzb⟩
   ·by_cases hdm:d+1≤m+2
    ·exact .inl hdm
    ·right
     have hy0:y=0:=by
      have:v.getD d 0=0:=by rw[xab,xcf (by omega)];rfl
      omega
     rw[hy0,xhe]at hqy
     omega
   ·rw[hy3,xbo]
    exact sub_step heq e1 (by rw[hqy];exact hp) (show p=lo+4294967296*(p/4294967296) by omega) (s:=s) (by omega) (h:=s/4294967296) (by omega) (by omega)
  ·rintro st ⟨z,bo,ca,rfl,hzL,hzl,hbo,hca,hor,heq,hzb⟩
   have hca0:ca=0:=by omega
   subst hca0
   rw[xav (by omega),xco]at heq
   have hX3:X*4294967296^(m+3)=4294967296^(i+m+3):=by rw[←hX,←xdk];rfl
   rw[hX3]at heq
   refine⟨_,by simp only[nlt (Nat.le_refl (m+3)),xac];rfl,?_⟩
   obtain⟨TT,hTT⟩:∃TT,4294967296^(i+m+3)=TT:=⟨_,rfl⟩
   rw[hTT]at heq hzb hX3
   rcases xch bo with hb0|hb0
   ·subst hb0
    simp only[show decide ((0:Int)<((0:Nat):Int))=false from rfl,xac,zal,d0le,dlt (show i<out.length by omega),xad,cond_true,tn,zdh,xcw hq1,wi1]
    have e1:=zjy out i (q:Int) (by omega)
    rw[hz i (by omega),Int.toNat_natCast,hX]at e1
    have e2:nv (out.set i (q:Int))=nv out+X*q:=by simpa using e1
    refine⟨_,rfl,_,_,rfl,by omega,hzL,hzl,hL.set _ (by omega) (by omega),by simpa using hlo,fun t ht=>by rw[getD_set_ne _ _ (by omega)];exact hz t (by omega),?_,?_⟩
    ·rw[e2,hv1,xbp,xba];omega
    ·have:=below_next hX0 rfl hq2
     rw[hX,xbk (nv v) X]
     omega
   ·have hb1:bo=1:=by omega
    subst hb1
    rw[xda]at heq
    have hqV:nv u'<X*(q*nv v):=by omega
    have hq0':0<q:=by
     rcases xch q with h0|h0
     ·subst h0;rw[xed,xhe]at hqV;omega
     ·exact h0
    obtain⟨q',rfl⟩:∃q',q=q'+1:=⟨q-1,by omega⟩
    have hqm:wu64 (((q'+1:Nat):Int)-1)=(q':Int):=by rw[zbo (by omega) (by omega)];omega
    simp only[show decide ((0:Int)<((1:Nat):Int))=true from rfl,cond_true,hqm,i2]
    refine zbv (Q:=fun(r:Option (((List Int)×(List Int)×Int×(List Int)×Int)⊕((List Int)×(List Int))))=>∃a',r=some (.inl a')∧∃(u' out:List Int),a'=(u',v,(v.length:Int),out,(i:Int)-1)∧i≤k∧IsL u'∧u'.length=u.length∧IsL out∧out.length=k∧(∀t,t<i→out.getD t 0=0)∧nv u=nv u'+nv out*nv v∧nv u'<nv v*4294967296^i)
     (fun(d:Nat) (st:(List Int)×(List Int)×Int×(List Int)×Int×Int×Int×Int×Int)=>∃(z2:List Int) (c:Nat),st=(z2,v,(v.length:Int),out,(i:Int),(q':Int),(c:Int),((m+3:Nat):Int),(d:Int))∧IsL z2∧z2.length=u.length∧c≤1∧nv z2+X*4294967296^d*c=nv z+X*nv (v.take d)∧nv z2<4294967296^(i+m+3)) (m+3) ?_ ?_ ?_
    ·exact⟨z,0,rfl,hzL,hzl,by omega,by simp[nv],by rw[hTT];exact hzb⟩
    ·rintro d st hd ⟨z2,c,rfl,hzL2,hzl2,hc,heq2,hzb2⟩
     obtain⟨y,hy1,hy2,hy3⟩:=zed hv d
     have hx:=hzL2.getD (d+i)
     obtain⟨x,hx1⟩:∃x:Nat,z2.getD (d+i) 0=(x:Int):=⟨_,(xgz hx.1).symm⟩
     rw[hx1]at hx
     have s1:wu64 ((x:Int)+(y:Int))=((x+y:Nat):Int):=by rw[zbo (by omega) (by omega)];omega
     have s2:wu64 (((x+y:Nat):Int)+(c:Int))=((x+y+c:Nat):Int):=by rw[zbo (by omega) (by omega)];omega
     obtain⟨s,hs⟩:∃s,x+y+c=s:=⟨_,rfl⟩
     simp only[dlt hd,zhl hv,hy1,Option.bind_some,wadd (show d+i≤9223372036854775807 by omega),d0le,dlt (show d+i<z2.length by omega),cond_true,xad,tn,hx1,zaz (show x<18446744073709551616 by omega),s1,s2,hs,shr32,zaz (show s/4294967296<18446744073709551616 by omega),zdh,zav (show d<9223372036854775807 by omega)]
     have e1:=zjy z2 (d+i) (((s%4294967296:Nat):Int)) (by omega)
     rw[hx1,Int.toNat_natCast,Int.toNat_natCast,xgk d i,xdk,hX,xgk i d]at e1
     refine⟨_,rfl,_,_,rfl,hzL2.set _ (by omega) (by omega),by simpa using hzl2,by omega,?_,zjx hzL2 (by omega) (by omega) (by omega) hzb2⟩
     rw[hy3,xbo]
     exact add_step heq2 e1 hs (by omega)
    ·rintro st ⟨z2,c,rfl,hzL2,hzl2,hc,heq2,hzb2⟩
     rw[xav (by omega),hX3]at heq2
     rw[hTT]at hzb2
     refine⟨_,by simp only[nlt (Nat.le_refl (m+3)),xac];rfl,?_⟩
     simp only[zal,d0le,dlt (show i<out.length by omega),xad,cond_true,tn,zdh,xcw (show q'<4294967296 by omega),wi1]
     have e1:=zjy out i (q':Int) (by omega)
     rw[hz i (by omega),Int.toNat_natCast,hX]at e1
     have e2:nv (out.set i (q':Int))=nv out+X*q':=by simpa using e1
     have hfl:X*(q'*nv v)≤nv u':=by
      refine floor_le rfl ?_
      rw[xfy]at hq3
      omega
     rw[xfy,xcb]at hqV heq
     have hc1:c=1:=by
      rcases xch c with h0|h0
      ·subst h0;rw[xhe]at heq2;omega
      ·omega
     subst hc1
     rw[xda]at heq2
     refine⟨_,rfl,_,_,rfl,by omega,hzL2,hzl2,hL.set _ (by omega) (by omega),by simpa using hlo,fun t ht=>by rw[getD_set_ne _ _ (by omega)];exact hz t (by omega),?_,?_⟩
     ·rw[e2,hv1,xbp,xba];omega
     ·rw[hX,xbk (nv v) X]
      omega
 ·rintro st ⟨u',out,rfl,hik,hu',hlu,hL,hlo,hz,hv1,hv2⟩
  rw[xhz,xda]at hv2
  refine⟨(u',out),rfl,out,u',rfl,hL,hu',hlo,hlu,?_,?_⟩
  ·rw[hv1,xbk,xie _ _ hV0,xfa hv2,Nat.zero_add]
  ·rw[hv1,xbk,Nat.add_mul_mod_self_left,xcw hv2]
end Go.Proofs.YtamgmpngdmnadaaGreat
namespace Go.Proofs.YtamgmpngdmnadaaGreat
open Go Go.X
theorem bl_zero(f:Nat):Lib.bitLenAux f 0=0:=by cases f<;>simp[Lib.bitLenAux]
theorem bl_bounds:∀(f x:Nat),x<2^f→x≠0→1≤Lib.bitLenAux f x∧Lib.bitLenAux f x≤f∧x<2^Lib.bitLenAux f x
 | 0,x,h,h0=>by rw[xhz]at h;omega
 |f+1,x,h,h0=>by
  have e:Lib.bitLenAux (f+1) x=1+Lib.bitLenAux f (x/2):=by simp[Lib.bitLenAux,h0]
  rw[e]
  by_cases h2:x/2=0
  ·rw[h2,bl_zero]
   exact⟨by omega,by omega,by rw[xco,Nat.pow_one];omega⟩
  ·obtain⟨q1,q2,q3⟩:=bl_bounds f (x/2) (by rw[xbo]at h;omega) h2
   refine⟨by omega,by omega,?_⟩
   rw[xgk,xbo];omega
theorem bl_more:∀(f x:Nat),x<2^f→∀g,f≤g→Lib.bitLenAux g x=Lib.bitLenAux f x
 | 0,x,h,g,_=>by
  rw[xhz]at h
  obtain rfl:x=0:=by omega
  rw[bl_zero,bl_zero]
 |f+1,x,h,g,hg=>by
  obtain⟨g',rfl⟩:∃g',g=g'+1:=⟨g-1,by omega⟩
  simp only[Lib.bitLenAux]
  by_cases h0:x=0
  ·rw[if_pos h0,if_pos h0]
  ·rw[if_neg h0,if_neg h0,bl_more f (x/2) (by rw[xbo]at h;omega) g' (by omega)]
theorem d245_eq{x:Nat}(h0:0<x)(h1:x<4294967296):∃L:Nat,d245 (x:Int)=some (L:Int)∧1≤L∧L≤32∧x<2^L:=by
 have hx:x<2^32:=h1
 have e:Lib.bitLen x=Lib.bitLenAux 32 x:=bl_more 32 x hx 64 (by decide)
 refine⟨Lib.bitLen x,rfl,?_⟩
 rw[e]
 exact bl_bounds 32 x hx (by omega)
theorem zrm{v:List Int}(hv:NF v){m:Nat}(hm:v.length=m+1):∃h:Nat,v.getD m 0=(h:Int)∧0<h∧h<4294967296:=by
 have g:=hv.1.getD m
 refine⟨(v.getD m 0).toNat,by omega,?_,by omega⟩
 have:v.getD m 0≠0:=by
  intro e
  refine hv.2 ?_
  rw[List.getLast?_eq_getElem?,hm,Nat.add_sub_cancel,xae (by omega)]
  rw[xab,xae (by omega)]at e
  simpa using e
 omega
set_option maxHeartbeats 1000000 in
theorem d225_eq{a b:List Int}(ha:IsL a)(hb:IsL b)(la:a.length≤1073741823)(lb:b.length≤1073741823)(h0:nv b≠0):d225 a b=some (zas (nv a/nv b),zas (nv a%nv b),true):=by
 unfold d225
 rw[zbq (by omega),zbq (by omega)]
 simp only[cond_true,Option.bind_some,zcg ha,zcg hb]
 have hla:=zbm ha
 have hlb:=zbm hb
 have hNA:=zkx (nv a)
 have hNB:=zkx (nv b)
 have hA:=zak (nv a)
 have hB:=zak (nv b)
 have eA:=zaq (nv a)
 have eB:=zaq (nv b)
 have hm:=@zdz (nv b) (nv a)
 have hBl:=zay (nv b)
 have hAl:=zay (nv a)
 have hBp:=@zhe (nv b)
 have hxA:zas (nv a)=zas (nv a):=rfl
 have hxB:zas (nv b)=zas (nv b):=rfl
 generalize hyA:zas (nv a)=A at *
 generalize hyB:zas (nv b)=B at *
 have hB0:0<B.length:=hBp.2 (xfe h0)
 rw[show decide ((B.length:Int)=0)=false from decide_eq_false (by omega),d265_eq hA hB (by omega) (by omega),eA,eB]
 simp only[xac,Option.bind_some,cmpN_lt]
 by_cases hlt:nv a<nv b
 ·rw[decide_eq_true hlt,cond_true,zsv (by omega),xfa hlt,xcw hlt,zdn,hyA]
  rfl
 rw[decide_eq_false hlt,xac]
 have hBA:=hm (by omega)
 by_cases h1:B.length=1
 ·have q1:decide ((B.length:Int)=1)=true:=decide_eq_true (by omega)
  have q2:decide ((0:Int)<(B.length:Int))=true:=decide_eq_true (by omega)
  obtain⟨h,hh1,hh2,hh3⟩:=zrm hNB (m:=0) h1
  have hbv:nv b=h:=by
   rw[←eB]
   obtain⟨y,rfl⟩:=xei.1 h1
   simp only[xef]at hh1
   simp only[nv,hh1];omega
  obtain⟨q,r1,r2,r3,r4⟩:=d266_eq hA (by omega) hh2 hh3
  have hml:nv A%h<h:=xdr _ hh2
  rw[eA]at r1 r4 hml
  have q3:d166 ((nv a%h:Nat):Int)=some (zas (nv a%h)):=by rw[zpl (by omega) (by omega)];rfl
  simp only[q1,q2,q3,xaq,Int.le_refl,xad,cond_true,hh1,zaz (show h<18446744073709551616 by omega),r1,Option.bind_some,zhm r2 (show q.length≤4294967296 by omega),r4,hbv]
  rfl
 ·obtain⟨m,hmB⟩:∃m,B.length=m+2:=⟨B.length-2,by omega⟩
  have q1:decide (((m+2:Nat):Int)=1)=false:=decide_eq_false (by omega)
  have i1:w (((m+2:Nat):Int)-1)=((m+1:Nat):Int):=by rw[zbj (by omega) (by omega)];omega
  obtain⟨h,hh1,hh2,hh3⟩:=zrm hNB (m:=m+1) hmB
  obtain⟨L,hL0,hL1,hL2,hL3⟩:=d245_eq hh2 hh3
  have e203:d267 (h:Int)=some ((32-L:Nat):Int):=by
   unfold d267
   rw[hL0]
   simp only[Option.bind_some]
   rw[zbj (by omega) (by omega)]
   congr 1;omega
  have hn:32-L≤31:=by omega
  have hpow:2^L*2^(32-L)=4294967296:=by rw[←xdk,show L+(32-L)=32 by omega]
  obtain⟨n,hnn⟩:∃n,32-L=n:=⟨_,rfl⟩
  rw[hnn]at e203 hn hpow
  have hT0:0<2^n:=xfv (by decide)
  obtain⟨u,u1,u2,u3,u4⟩:=d268_eq hA (by omega) hn
  obtain⟨v0,v1,v2,v3,v4⟩:=d268_eq hB (by omega) hn
  rw[eA]at u4
  rw[eB]at v4
  simp only[hmB,q1,xac,i1,d0le,dlt (show m+1<m+2 by omega),xad,cond_true,tn,hh1,e203,Option.bind_some,u1,v1,zbq (n:=v0.length) (by omega),zcg v2]
  have hbl:4294967296^(m+1)≤nv b:=by
   refine Nat.not_lt.1 fun hc=>?_
   have:=(hBl (m+1)).2 hc
   omega
  have hbu:nv b<2^L*4294967296^(m+1):=by
   have g:=zfz hB (m+1)
   rw[hh1,eB]at g
   have hlt2:=(hBl (m+2)).1 (by omega)
   have hd:nv b/4294967296^(m+1)<4294967296:=xet (by rw[←xbo];exact hlt2)
   rw[xcw hd]at g
   have:nv b/4294967296^(m+1)<2^L:=by omega
   exact(xdq (zrj _)).1 this
  have hvu:nv v0<4294967296^(m+2):=by
   have e:4294967296^(m+2)=2^L*4294967296^(m+1)*2^n:=by
    rw[show m+2=(m+1)+1 by omega,xbo,Nat.mul_right_comm,hpow,xbk]
   rw[v4,e]
   exact xfg hbu hT0
  have hvl:4294967296^(m+1)≤nv v0:=by
   rw[v4]
   exact Nat.le_trans hbl (Nat.le_mul_of_pos_right _ hT0)
  have hV:=zak (nv v0)
  have eV:=zaq (nv v0)
  have hVlen:(zas (nv v0)).length=m+2:=by
   have r1:=(zay (nv v0) (m+2)).2 hvu
   have r2:¬(zas (nv v0)).length≤m+1:=fun hc=>by
    have:=(zay (nv v0) (m+1)).1 hc
    omega
   omega
  obtain⟨hv,w1,w2,_⟩:=zrm (zkx (nv v0)) (m:=m+1) hVlen
  obtain⟨k,hk⟩:∃k,A.length=k+(m+1):=⟨A.length-(m+1),by omega⟩
  have hal:nv a<4294967296^(k+(m+1)):=(hAl _).1 (by omega)
  have hkey:nv u<nv (zas (nv v0))*4294967296^k:=by
   rw[eV,u4,v4,Nat.mul_right_comm]
   refine xfg ?_ hT0
   rw[xdk,xbk]at hal
   exact xap hal (xaj _ hbl)
  obtain⟨q,r,z1,z2,z3,z4,z5,z6,z7⟩:=d269_eq u2 hV hVlen (k:=k) (by omega) (by omega) (by omega) hkey
  rw[eV,u4,v4,Nat.mul_div_mul_right _ _ hT0]at z6
  rw[eV,u4,v4,Nat.mul_mod_mul_right]at z7
  obtain⟨o,o1,o2,o3,o4⟩:=d270_eq z3 (by omega) hn
  rw[z7,Nat.mul_div_cancel _ hT0]at o4
  simp only[z1,Option.bind_some,zhm z2 (show q.length≤4294967296 by omega),z6,o1,zhm o2 (show o.length≤4294967296 by omega),o4]
theorem d224_eq{a b:List Int}(ha:IsL a)(hb:IsL b)(la:a.length≤1073741823)(lb:b.length≤1073741823):d224 a b=some (zas (Nat.gcd (nv a) (nv b))):=by
 unfold d224
 rw[zhm ha (by omega),zhm hb (by omega)]
 simp only[Option.bind_some]
 have hla:=zbm ha
 have hlb:=zbm hb
 refine zes (Q:=fun r=>r=some (zas (Nat.gcd (nv a) (nv b)))) (fun(M:Nat) (st:(List Int)×(List Int))=>∃x:Nat,st=(zas x,zas M)∧(zas x).length≤1073741823∧(zas M).length≤1073741823∧Nat.gcd x M=Nat.gcd (nv a) (nv b)) (nv b) ⟨nv a,rfl,by omega,by omega,rfl⟩ ?_
 rintro M st ⟨x,rfl,h1,h2,h3⟩
 rcases xch M with h0|h0
 ·subst h0
  refine .inr ⟨zas x,by simp[zdn],?_⟩
  rw[Nat.gcd_zero_right]at h3
  rw[h3]
 ·have hp:=zhe.2 h0
  have hd:=d225_eq (zak x) (zak M) h1 h2 (by rw[zaq];omega)
  rw[zaq,zaq]at hd
  refine .inl ⟨(zas M,zas (x%M)),x%M,?_,xdr _ h0,M,rfl,h2,?_,?_⟩
  ·rw[show decide ((0:Int)<((zas M).length:Int))=true from decide_eq_true (by omega),cond_true,hd];rfl
  ·have:=zdz (xfz (xdr x h0));omega
  ·rw[←h3,Nat.gcd_comm x M,Nat.gcd_rec M x,Nat.gcd_comm]
theorem d222_eq{a:List Int}(ha:IsL a)(la:a.length≤1073741824):∃k:Int,d222 a=some k∧decide (k=0)=decide (nv a=0):=by
 unfold d222
 rw[zbq (by omega)]
 simp only[cond_true,Option.bind_some,zcg ha]
 have hla:=zbm ha
 have hNA:=zkx (nv a)
 have hp:=@zhe (nv a)
 generalize hyA:zas (nv a)=A at *
 rcases xch A.length with h0|h0
 ·refine⟨0,by rw[decide_eq_true (show(A.length:Int)=0 by omega)];rfl,?_⟩
  rw[decide_eq_true rfl,decide_eq_true (show nv a=0 by omega)]
 ·obtain⟨m,hm⟩:∃m,A.length=m+1:=⟨A.length-1,by omega⟩
  obtain⟨h,hh1,hh2,hh3⟩:=zrm hNA hm
  obtain⟨L,hL0,hL1,hL2,hL3⟩:=d245_eq hh2 hh3
  have i1:w (((m+1:Nat):Int)-1)=(m:Int):=zrl (by omega)
  have i2:w (32*(m:Int))=32*(m:Int):=zbj (by omega) (by omega)
  have i3:w (32*(m:Int)+(L:Int))=32*(m:Int)+L:=zbj (by omega) (by omega)
  refine⟨32*(m:Int)+L,?_,?_⟩
  ·rw[hm,decide_eq_false (show ¬(((m+1:Nat):Int)=0) by omega)]
   simp only[xac,i1,d0le,dlt (show m<m+1 by omega),xad,cond_true,tn,hh1,hL0,Option.bind_some,i2,i3]
  ·rw[decide_eq_false (by omega),decide_eq_false (by omega)]
end Go.Proofs.YtamgmpngdmnadaaGreat
namespace Go.Proofs.YtamgmpngdmnadaaGreat
open Go Go.X
abbrev Rt:=Bool×(List Int×List Int)
def sgnN(neg:Bool)(n:Nat):Int:=if neg then -(n:Int)else n
theorem sgnN_abs(neg:Bool)(n:Nat):(sgnN neg n).natAbs=n:=by unfold sgnN;split<;>simp
theorem sgnN_zero(neg:Bool):sgnN neg 0=0:=by cases neg<;>rfl
theorem sgnN_not(neg:Bool)(n:Nat):sgnN (!neg) n=- sgnN neg n:=by cases neg<;>simp[sgnN]
def rv(r:Rt):Rat:=mkRat (sgnN r.1 (nv r.2.1)) (nv r.2.2)
def rr(q:Rat):Rt:=(decide (q.num<0),zas q.num.natAbs,zas q.den)
def RtOK(r:Rt):Prop:=IsL r.2.1∧IsL r.2.2
theorem rr_ok(q:Rat):RtOK (rr q):=⟨zak _,zak _⟩
theorem zrv(q:Rat):sgnN (decide (q.num<0)) q.num.natAbs=q.num:=by
 unfold sgnN
 by_cases h:q.num<0
 ·simp only[h,xaq,if_true];omega
 ·simp only[h,xbt];simp;omega
theorem zpy(q:Rat):rv (rr q)=q:=by
 unfold rv rr
 simp only[zaq,zrv,xfp]
theorem rr_inj{p q:Rat}(h:rr p=rr q):p=q:=by rw[←zpy p,h,zpy]
theorem rr_zero:rr 0=(false,[],[1]):=by
 unfold rr
 simp only[Rat.zero_num,Rat.zero_den]
 rw[zkh (n:=1) (by omega)]
 simp[zdn]
theorem rr_make(neg:Bool){a b:Nat}(ha:a≠0)(hb:b≠0):rr (mkRat (sgnN neg a) b)=(neg,zas (a/Nat.gcd a b),zas (b/Nat.gcd a b)):=by
 unfold rr
 rw[Rat.num_mkRat,Rat.den_mkRat,if_neg hb,if_neg hb,sgnN_abs,Nat.gcd_comm b a]
 obtain⟨g,hg⟩:∃g,Nat.gcd a b=g:=⟨_,rfl⟩
 have hd:g∣a:=by rw[←hg];exact Nat.gcd_dvd_left a b
 have hgp:0<g:=by rw[←hg];exact Nat.gcd_pos_of_pos_left b (xfe ha)
 rw[hg]
 obtain⟨c,rfl⟩:=hd
 have hc:0<c:=xfe fun e=>ha (by rw[e,xhe])
 rw[Nat.mul_div_cancel_left c hgp]
 have h1:sgnN neg (g*c)/(g:Int)=sgnN neg c:=by
  unfold sgnN
  cases neg
  ·simp only[xax,if_false,xfl]
   exact Int.mul_ediv_cancel_left _ (by omega)
  ·simp only[if_true,xfl]
   rw[←Int.mul_neg]
   exact Int.mul_ediv_cancel_left _ (by omega)
 rw[h1,sgnN_abs]
 have h2:decide (sgnN neg c<0)=neg:=by
  unfold sgnN
  cases neg
  ·simp
  ·simp;omega
 rw[h2]
theorem zli(q:Rat):(rr q).2.1=[]↔q=0:=by
 unfold rr
 rw[limbs_nil,Int.natAbs_eq_zero,Rat.num_eq_zero]
theorem rr_neg(q:Rat):(rr q).1=decide (q<0):=by
 unfold rr
 have:q.num<0↔q<0:=by
  have h:=Rat.num_nonneg (q:=q)
  rw[←Rat.not_le,←h];omega
 simp only[this]
theorem sgnN_mul(x y:Bool)(a b:Nat):sgnN (!(x == y)) (a*b)=sgnN x a*sgnN y b:=by
 unfold sgnN
 cases x<;>cases y<;>simp[xfl,Int.neg_mul,Int.mul_neg]
def Sz(k:Nat)(r:Rt):Prop:=r.2.1.length≤k∧r.2.2.length≤k
theorem d223_eq:d223=some (rr 0):=by
 unfold d223
 rw[zpl (by omega) (by omega),rr_zero,show(1:Int).toNat=1 from rfl,zkh (n:=1) (by omega)]
 simp[zdn]
theorem zlx(neg:Bool){a b:List Int}(ha:IsL a)(hb:IsL b)(la:a.length≤1073741823)(lb:b.length≤1073741823):d164 neg a b=some (rr (mkRat (sgnN neg (nv a)) (nv b))):=by
 unfold d164
 obtain⟨k,k1,k2⟩:=d222_eq ha (by omega)
 obtain⟨l,l1,l2⟩:=d222_eq hb (by omega)
 rw[zal,k1,l1]
 simp only[Option.bind_some,k2,l2]
 by_cases ha0:nv a=0
 ·rw[ha0,decide_eq_true rfl]
  simp only[xam,xac,cond_true,d223_eq,sgnN_zero,Rat.zero_mkRat,Option.bind_some]
 ·rw[decide_eq_false ha0]
  by_cases hb0:nv b=0
  ·rw[hb0,decide_eq_true rfl,Rat.mkRat_zero]
   simp only[xak,cond_true,d223_eq,Option.bind_some]
  ·rw[decide_eq_false hb0,rr_make neg ha0 hb0]
   have hg:Nat.gcd (nv a) (nv b)≠0:=fun e=>ha0 (Nat.eq_zero_of_gcd_eq_zero_left e)
   have hgl:(zas (Nat.gcd (nv a) (nv b))).length≤1073741823:=by
    have:=zdz (Nat.le_of_dvd (xfe ha0) (Nat.gcd_dvd_left (nv a) (nv b)))
    have:=zbm ha
    omega
   have e1:=d225_eq ha (zak (Nat.gcd (nv a) (nv b))) la hgl (by rw[zaq];exact hg)
   have e2:=d225_eq hb (zak (Nat.gcd (nv a) (nv b))) lb hgl (by rw[zaq];exact hg)
   rw[zaq]at e1 e2
   simp only[xak,cond_true,xac,d224_eq ha hb la lb,e1,e2,Option.bind_some]
theorem rr_len(neg:Bool)(a b:Nat):(rr (mkRat (sgnN neg a) b)).2.1.length≤(zas a).length∧(rr (mkRat (sgnN neg a) b)).2.2.length≤max 1 (zas b).length:=by
 by_cases ha:a=0
 ·subst ha
  rw[sgnN_zero,Rat.zero_mkRat,rr_zero]
  exact⟨xbf _,xib _ _⟩
 ·by_cases hb:b=0
  ·subst hb
   rw[Rat.mkRat_zero,rr_zero]
   exact⟨xbf _,xib _ _⟩
  ·rw[rr_make neg ha hb]
   exact⟨zdz (xdl _ _),Nat.le_trans (zdz (xdl _ _)) (Nat.le_max_right _ _)⟩
theorem rr_sz{r:Rt}(h:RtOK r){k:Nat}(hk:Sz k r)(h1:1≤k):Sz k (rr (rv r)):=by
 obtain⟨q1,q2⟩:=rr_len r.1 (nv r.2.1) (nv r.2.2)
 have:=zbm h.1
 have:=zbm h.2
 have:=hk.1
 have:=hk.2
 exact⟨by show(rr (mkRat _ _)).2.1.length≤_;omega,by show(rr (mkRat _ _)).2.2.length≤_;omega⟩
theorem zik{r:Rt}(h:RtOK r)(hk:Sz 1073741823 r):d229 r=some (rr (rv r)):=by
 unfold d229
 rw[zlx r.1 h.1 h.2 hk.1 hk.2];rfl
theorem zcq(a b:Nat):(zas (a*b)).length≤(zas a).length+(zas b).length:=by
 rw[zay,xdk]
 exact Nat.mul_lt_mul'' ((zay a _).1 (Nat.le_refl _)) ((zay b _).1 (Nat.le_refl _))
theorem zsi(a b:Nat):(zas (a+b)).length≤max (zas a).length (zas b).length+1:=by
 rw[zay,xbo]
 have h1:=(zay a (max (zas a).length (zas b).length)).1 (xib _ _)
 have h2:=(zay b (max (zas a).length (zas b).length)).1 (Nat.le_max_right _ _)
 omega
theorem sum_eq(s t:Bool){a b:Nat}(la:(zas a).length≤1073741823)(lb:(zas b).length≤1073741823):∃(u:Bool) (c:Nat),d230 s (zas a) t (zas b)=some (u,zas c)∧sgnN u c=sgnN s a+sgnN t b∧c≤a+b:=by
 unfold d230
 have hA:=zak a
 have hB:=zak b
 by_cases h:s=t
 ·subst h
  rw[d271_eq hA hB (by omega) (by omega),zaq,zaq]
  refine⟨s,a+b,by simp,?_,Nat.le_refl _⟩
  unfold sgnN;split<;>omega
 ·rw[beq_eq_false_iff_ne.2 h,d272_eq hA hB (by omega) (by omega),d272_eq hB hA (by omega) (by omega),zaq,zaq]
  simp only[xac,Option.bind_some]
  by_cases hlt:a<b
  ·rw[if_pos hlt,if_neg (by omega)]
   refine⟨t,b-a,rfl,?_,by omega⟩
   unfold sgnN
   cases s<;>cases t<;>simp at h⊢ <;>omega
  ·rw[if_neg hlt]
   refine⟨s,a-b,rfl,?_,by omega⟩
   unfold sgnN
   cases s<;>cases t<;>simp at h⊢ <;>omega
theorem add_mk{x y:Rat}:mkRat (x.num*y.den+y.num*x.den) (x.den*y.den)=x+y:=by
 have:=Rat.mkRat_add_mkRat x.num y.num x.den_nz y.den_nz
 rw[xfp,xfp]at this
 exact this.symm
theorem zoa(x:Rat)(d:Nat):sgnN (decide (x.num<0)) (x.num.natAbs*d)=x.num*d:=by
 have h:=zrv x
 unfold sgnN at h ⊢
 split
 ·rename_i h1
  rw[if_pos h1]at h
  rw[←h]
  simp[Int.neg_mul]
 ·rename_i h1
  rw[if_neg h1]at h
  rw[←h]
  simp
theorem d175_rr{x y:Rat}(hx:Sz 268435456 (rr x))(hy:Sz 268435456 (rr y)):d175 (rr x) (rr y)=some (rr (x+y)):=by
 unfold d175
 rw[zik (rr_ok x) ⟨by have:=hx.1;omega,by have:=hx.2;omega⟩,zik (rr_ok y) ⟨by have:=hy.1;omega,by have:=hy.2;omega⟩,zpy,zpy]
 simp only[Option.bind_some]
 obtain⟨a1,a2⟩:=hx
 obtain⟨b1,b2⟩:=hy
 simp only[rr]at a1 a2 b1 b2 ⊢
 rw[zjl (zak _) (zak _) (by omega) (by omega),zjl (zak _) (zak _) (by omega) (by omega),zjl (zak _) (zak _) (by omega) (by omega)]
 simp only[Option.bind_some,zaq]
 have m1:=zcq x.num.natAbs y.den
 have m2:=zcq y.num.natAbs x.den
 have m3:=zcq x.den y.den
 obtain⟨u,c,e1,e2,e3⟩:=sum_eq (decide (x.num<0)) (decide (y.num<0)) (a:=x.num.natAbs*y.den) (b:=y.num.natAbs*x.den) (by omega) (by omega)
 have m4:=zsi (x.num.natAbs*y.den) (y.num.natAbs*x.den)
 have m5:=zdz e3
 rw[e1]
 simp only[Option.bind_some]
 rw[zlx u (zak c) (zak _) (by omega) (by omega),zaq,zaq,e2,zoa,zoa,add_mk]
 rfl
theorem rv_not(r:Rt):rv (!r.1,r.2)=- rv r:=by
 unfold rv
 rw[sgnN_not,Rat.neg_mkRat]
theorem d175_gen{a b:Rt}(ha:RtOK a)(hb:RtOK b)(ka:Sz 268435456 a)(kb:Sz 268435456 b):d175 a b=some (rr (rv a+rv b)):=by
 have ha':=rr_sz ha ka (by omega)
 have hb':=rr_sz hb kb (by omega)
 rw[←d175_rr ha' hb']
 unfold d175
 rw[zik ha ⟨by have:=ka.1;omega,by have:=ka.2;omega⟩,zik hb ⟨by have:=kb.1;omega,by have:=kb.2;omega⟩,zik (rr_ok _) ⟨by have:=ha'.1;omega,by have:=ha'.2;omega⟩,zik (rr_ok _) ⟨by have:=hb'.1;omega,by have:=hb'.2;omega⟩,zpy,zpy]
theorem zpk{x y:Rat}(hx:Sz 268435456 (rr x))(hy:Sz 268435456 (rr y)):d169 (rr x) (rr y)=some (rr (x-y)):=by
 unfold d169
 rw[d175_gen (rr_ok x) (b:=(!(rr y).1,(rr y).2)) (rr_ok y) hx hy,rv_not,zpy,zpy,Rat.sub_eq_add_neg]
 rfl
def cmpQ(x y:Rat):Int:=if x<y then -1 else if x=y then 0 else 1
theorem zmf{x y:Rat}:x-y=0↔x=y:=by
 constructor
 ·intro h;grind
 ·intro h;grind
theorem znv{x y:Rat}:x-y<0↔x<y:=by
 constructor
 ·intro h;grind
 ·intro h;grind
theorem d174_rr{x y:Rat}(hx:Sz 268435456 (rr x))(hy:Sz 268435456 (rr y)):d174 (rr x) (rr y)=some (cmpQ x y):=by
 unfold d174
 rw[zpk hx hy]
 simp only[Option.bind_some]
 rw[rr_neg]
 unfold cmpQ
 by_cases h:x<y
 ·rw[decide_eq_true (znv.2 h),if_pos h];rfl
 ·rw[decide_eq_false (fun hc=>h (znv.1 hc)),if_neg h]
  by_cases h2:x=y
  ·rw[if_pos h2,(zli (x-y)).2 (zmf.2 h2)];rfl
  ·have:(rr (x-y)).2.1≠ []:=fun hc=>h2 (zmf.1 ((zli _).1 hc))
   have:=xce.2 this
   rw[if_neg h2,decide_eq_false (by omega)];rfl
theorem mul_mk{x y:Rat}:mkRat (x.num*y.num) (x.den*y.den)=x*y:=by
 have:=Rat.mkRat_mul_mkRat x.num y.num x.den y.den
 rw[xfp,xfp]at this
 exact this.symm
theorem sgn_prod(x y:Rat):sgnN (!(decide (x.num<0) == decide (y.num<0))) (x.num.natAbs*y.num.natAbs)=x.num*y.num:=by
 rw[sgnN_mul,zrv,zrv]
theorem d227_rr{x y:Rat}(hx:Sz 268435456 (rr x))(hy:Sz 268435456 (rr y)):d227 (rr x) (rr y)=some (rr (x*y)):=by
 unfold d227
 obtain⟨a1,a2⟩:=hx
 obtain⟨b1,b2⟩:=hy
 simp only[rr]at a1 a2 b1 b2 ⊢
 rw[zjl (zak _) (zak _) (by omega) (by omega),zjl (zak _) (zak _) (by omega) (by omega)]
 simp only[Option.bind_some,zaq]
 have m1:=zcq x.num.natAbs y.num.natAbs
 have m3:=zcq x.den y.den
 rw[zlx _ (zak _) (zak _) (by omega) (by omega),zaq,zaq,sgn_prod,mul_mk]
 rfl
theorem num_pos'{y:Rat}(h:0<y):0<y.num:=by
 have h1:=(Rat.num_nonneg (q:=y)).2 (Rat.le_of_lt h)
 have h2:y.num≠0:=fun e=>by
  rw[Rat.num_eq_zero]at e
  rw[e]at h
  exact absurd h (by decide)
 omega
theorem div_mk{x y:Rat}(hy:0<y):mkRat (x.num*y.den) (x.den*y.num.natAbs)=x/y:=by
 have hn:0<y.num:=num_pos' hy
 have e1:mkRat (x.num*y.den) (x.den*y.num.natAbs)*y=x:=by
  conv=>lhs;rhs;rw[←xfp y]
  rw[Rat.mkRat_mul_mkRat]
  conv=>rhs;rw[←xfp x]
  have h0:x.den*y.num.natAbs*y.den≠0:=xgb (xgb x.den_nz (by omega)) y.den_nz
  rw[Rat.mkRat_eq_iff h0 x.den_nz]
  have:((y.num.natAbs:Nat):Int)=y.num:=by omega
  simp only[xfl,this]
  grind
 have hy0:y≠0:=by intro h;rw[h]at hy;exact absurd hy (by decide)
 generalize mkRat (x.num*y.den) (x.den*y.num.natAbs)=z at e1 ⊢
 rw[←e1,Rat.mul_div_cancel hy0]
theorem d233_rr{x y:Rat}(hx:Sz 268435456 (rr x))(hy:Sz 268435456 (rr y))(hp:0<y):d233 (rr x) (rr y)=some (rr (x/y),true):=by
 unfold d233
 rw[zik (rr_ok x) ⟨by have:=hx.1;omega,by have:=hx.2;omega⟩,zik (rr_ok y) ⟨by have:=hy.1;omega,by have:=hy.2;omega⟩,zpy,zpy]
 simp only[Option.bind_some]
 have hy0:y≠0:=by intro h;rw[h]at hp;exact absurd hp (by decide)
 have hnn:(rr y).2.1≠ []:=fun hc=>hy0 ((zli _).1 hc)
 have:=xce.2 hnn
 rw[decide_eq_false (by omega)]
 obtain⟨a1,a2⟩:=hx
 obtain⟨b1,b2⟩:=hy
 have hn:0<y.num:=num_pos' hp
 simp only[rr,xac]at a1 a2 b1 b2 ⊢
 rw[zjl (zak _) (zak _) (by omega) (by omega),zjl (zak _) (zak _) (by omega) (by omega)]
 simp only[Option.bind_some,zaq]
 have m1:=zcq x.num.natAbs y.den
 have m3:=zcq x.den y.num.natAbs
 rw[zlx _ (zak _) (zak _) (by omega) (by omega),zaq,zaq]
 have hs:(!(decide (x.num<0) == decide (y.num<0)))=decide (x.num<0):=by
  rw[decide_eq_false (show ¬y.num<0 by omega)]
  cases decide (x.num<0)<;>rfl
 rw[hs,zoa,div_mk hp]
 rfl
theorem d165_eq{n:Int}(h0:-9223372036854775807≤n)(h1:n≤9223372036854775807):d165 n=some (zas n.natAbs):=by
 unfold d165
 by_cases h:n<0
 ·have e:wu64 (0-wu64 n)=-n:=by
   rw[wu64_mod,wu64_mod];omega
  rw[decide_eq_true h,cond_true,e,zpl (by omega) (by omega),show(-n).toNat=n.natAbs by omega];rfl
 ·rw[decide_eq_false h,xac,zbo (by omega) (by omega),zpl (by omega) (by omega),show n.toNat=n.natAbs by omega];rfl
theorem mk_int(n:Int):mkRat (sgnN (decide (n<0)) n.natAbs) 1=(n:Rat):=by
 have:sgnN (decide (n<0)) n.natAbs=n:=by
  unfold sgnN
  by_cases h:n<0
  ·simp only[h,xaq,if_true];omega
  ·simp only[h,xbt];simp;omega
 rw[this,Rat.mkRat_one]
theorem zhd{n:Nat}(h:n<18446744073709551616):(zas n).length≤2:=(zay n 2).2 h
theorem zqy{n:Int}(h0:-9223372036854775807≤n)(h1:n≤9223372036854775807):d93 n=some (rr (n:Rat)):=by
 unfold d93
 have:=zhd (n:=n.natAbs) (by omega)
 have:=zhd (n:=1) (by omega)
 rw[d165_eq h0 h1,zpl (by omega) (by omega)]
 simp only[Option.bind_some,show(1:Int).toNat=1 from rfl]
 rw[zlx _ (zak _) (zak _) (by omega) (by omega),zaq,zaq,mk_int]
 rfl
end Go.Proofs.YtamgmpngdmnadaaGreat
namespace Go.Proofs.YtamgmpngdmnadaaGreat
open Go Go.X
theorem P2_pos(i:Nat):0<2^i:=xfv (by decide)
end Go.Proofs.YtamgmpngdmnadaaGreat
namespace Go.Proofs.YtamgmpngdmnadaaGreat
open Go Go.X
theorem B_pow(i:Nat):4294967296^i=2^(32*i):=by rw[Nat.pow_mul]
def Bz(k:Nat)(q:Rat):Prop:=q.num.natAbs<2^k∧q.den<2^k
theorem Bz.sz{k:Nat}{q:Rat}(h:Bz (32*k) q):Sz k (rr q):=by
 refine⟨(zay _ _).2 ?_,(zay _ _).2 ?_⟩
 ·rw[B_pow];exact h.1
 ·rw[B_pow];exact h.2
theorem d235_eq(a b:List Int)(la:a.length≤4294967296):d235 a b=some (decide (a=b)):=by
 unfold d235
 by_cases hl:a.length=b.length
 ·have e:decide ((a.length:Int)=(b.length:Int))=true:=decide_eq_true (by omega)
  simp only[e,xam,xac]
  refine zes (Q:=fun r=>r=some (decide (a=b))) (fun(M:Nat) (st:(List Int)×(List Int)×Int)=>∃i:Nat,st=(a,b,(i:Int))∧i+M=a.length∧a.take i=b.take i) a.length ⟨0,rfl,by omega,rfl⟩ ?_
  rintro M st ⟨i,rfl,hM,ht⟩
  rcases xch M with h0|h0
  ·refine .inr ⟨.inl (),by simp only[nlt (show a.length≤i by omega),xac],?_⟩
   rw[xav (by omega),xav (by omega)]at ht
   rw[decide_eq_true ht]
  ·simp only[dlt (show i<a.length by omega),dlt (show i<b.length by omega),d0le,xad,cond_true,tn]
   by_cases hg:a.getD i 0=b.getD i 0
   ·rw[decide_eq_true hg,xam,xac]
    refine .inl ⟨_,M-1,rfl,by omega,i+1,by rw[zav (by omega)],by omega,?_⟩
    rw[zjs a (by omega),zjs b (by omega),ht,hg]
   ·rw[decide_eq_false hg,xak,cond_true]
    refine .inr ⟨.inr false,rfl,?_⟩
    rw[decide_eq_false fun hc=>hg (by rw[hc])]
 ·have e:decide ((a.length:Int)=(b.length:Int))=false:=decide_eq_false (by omega)
  simp only[e,xak,cond_true]
  rw[decide_eq_false fun hc=>hl (by rw[hc])]
theorem zsw{x y:Rat}(hx:Sz 268435456 (rr x)):d179 (rr x) (rr y)=some (decide (x=y)):=by
 unfold d179
 rw[d235_eq _ _ (by have:=hx.1;omega),d235_eq _ _ (by have:=hx.2;omega)]
 simp only[Option.bind_some]
 by_cases h:x=y
 ·subst h;simp
 ·rw[decide_eq_false h]
  by_cases h1:(rr x).1=(rr y).1
  ·rw[h1,BEq.rfl,cond_true]
   by_cases h2:(rr x).2.1=(rr y).2.1
   ·rw[decide_eq_true h2,cond_true,decide_eq_false fun h3=>h (rr_inj (Prod.ext h1 (Prod.ext h2 h3)))]
   ·rw[decide_eq_false h2,xac]
  ·rw[beq_eq_false_iff_ne.2 h1,xac]
end Go.Proofs.YtamgmpngdmnadaaGreat
namespace Go.Proofs.YtamgmpngdmnadaaGreat
open Go Go.X
def lst{α:Type}(f:Nat→α)(n:Nat):List α:=(List.range n).map f
theorem zaf{α:Type}(f:Nat→α)(n:Nat):(lst f n).length=n:=by simp[lst]
theorem zan{α:Type}(f:Nat→α){n i:Nat}(h:i<n)(d:α):(lst f n).getD i d=f i:=by
 simp[lst,xab,xbr,List.getElem?_range h]
theorem lst_get? {α:Type}(f:Nat→α){n i:Nat}(h:i<n):(lst f n)[i]?=some (f i):=by
 simp[lst,xbr,List.getElem?_range h]
theorem zet{α:Type}(f:Nat→α)(n:Nat):lst f (n+1)=lst f n++[f n]:=by simp[lst,xeu]
theorem zax{α:Type}{f g:Nat→α}{n:Nat}(h:∀i,i<n→f i=g i):lst f n=lst g n:=by
 unfold lst
 exact xey fun i hi=>h i (List.mem_range.1 hi)
def upd{α:Type}(f:Nat→α)(i:Nat)(x:α):Nat→α:=fun j=>if j=i then x else f j
theorem zbw{α:Type}(f:Nat→α)(i:Nat)(x:α):upd f i x i=x:=if_pos rfl
theorem zee{α:Type}(f:Nat→α){i j:Nat}(x:α)(h:j≠i):upd f i x j=f j:=if_neg h
theorem zdl{α:Type}(f:Nat→α)(n i:Nat)(x:α):(lst f n).set i x=lst (upd f i x) n:=by
 refine xhn fun j=>?_
 by_cases hj:j<n
 ·rw[lst_get? _ hj]
  by_cases h:i=j
  ·subst h
   rw[List.getElem?_set_self (by rw[zaf];exact hj),zbw]
  ·rw[xig h,lst_get? _ hj,zee _ _ (fun e=>h e.symm)]
 ·rw[xcf (by rw[List.length_set,zaf];omega),xcf (by rw[zaf];omega)]
theorem zom{α β:Type}(f:Nat→α)(g:α→β)(n:Nat):(lst f n).map g=lst (fun i=>g (f i)) n:=by simp[lst]
theorem zol{α:Type}(x:α)(n:Nat):List.replicate n x=lst (fun _=>x) n:=by
 induction n with
 |zero=>rfl
 |succ n ih=>rw[zet,List.replicate_succ',ih]
theorem zhc{α:Type}{f:Nat→α}{n:Nat}{x:α}:x∈lst f n↔∃i,i<n∧f i=x:=by simp[lst]
def sumN(f:Nat→Nat):Nat→Nat
 | 0=>0
 |n+1=>sumN f n+f n
theorem zam{f g:Nat→Nat}:∀{n:Nat},(∀i,i<n→f i=g i)→sumN f n=sumN g n
 | 0,_=>rfl
 |n+1,h=>by rw[sumN,sumN,zam fun i hi=>h i (by omega),h n (by omega)]
theorem zdk{f g:Nat→Nat}:∀{n:Nat},(∀i,i<n→f i≤g i)→sumN f n≤sumN g n
 | 0,_=>Nat.le_refl _
 |n+1,h=>Nat.add_le_add (zdk fun i hi=>h i (by omega)) (h n (by omega))
theorem zbr(f g:Nat→Nat):∀n:Nat,sumN (fun i=>f i+g i) n=sumN f n+sumN g n
 | 0=>rfl
 |n+1=>by rw[sumN,sumN,sumN,zbr f g n];omega
theorem zfs(f:Nat→Nat)(c:Nat):∀n:Nat,sumN (fun i=>f i*c) n=sumN f n*c
 | 0=>by rw[sumN,sumN,xed]
 |n+1=>by rw[sumN,sumN,zfs f c n,xbp]
theorem zcs:∀n:Nat,sumN (fun _=>0) n=0
 | 0=>rfl
 |n+1=>by rw[sumN,zcs n]
theorem zjt(f:Nat→Nat→Nat)(n:Nat):∀m:Nat,sumN (fun i=>sumN (f i) n) m=sumN (fun j=>sumN (fun i=>f i j) m) n
 | 0=>by simp only[sumN,zcs]
 |m+1=>by
  simp only[sumN]
  rw[zjt f n m,←zbr]
theorem sumN_pos{f:Nat→Nat}:∀{n:Nat},0<sumN f n→∃i,i<n∧0<f i
 | 0,h=>absurd h (by simp[sumN])
 |n+1,h=>by
  rw[sumN]at h
  by_cases h0:0<f n
  ·exact⟨n,by omega,h0⟩
  ·obtain⟨i,h1,h2⟩:=sumN_pos (show 0<sumN f n by omega)
   exact⟨i,by omega,h2⟩
theorem zrq(c v:Nat):∀n:Nat,sumN (fun i=>if i=c then v else 0) n=if c<n then v else 0
 | 0=>rfl
 |n+1=>by
  rw[sumN,zrq c v n]
  by_cases h:c<n
  ·rw[if_pos h,if_neg (show n≠c by omega),if_pos (show c<n+1 by omega)];rfl
  ·rw[if_neg h]
   by_cases h2:n=c
   ·rw[if_pos h2,if_pos (by omega)];omega
   ·rw[if_neg h2,if_neg (by omega)]
theorem zfe{f:Nat→Nat}{n i:Nat}(h:i<n):f i≤sumN f n:=by
 induction n with
 |zero=>omega
 |succ n ih=>
  rw[sumN]
  by_cases h2:i=n
  ·subst h2;omega
  ·have:=ih (by omega);omega
theorem sumN_upd{f g:Nat→Nat}{n c:Nat}(hc:c<n)(h:∀i,i<n→i≠c→f i=g i):sumN f n+g c=sumN g n+f c:=by
 induction n with
 |zero=>omega
 |succ n ih=>
  rw[sumN,sumN]
  by_cases h2:c=n
  ·subst h2
   rw[zam fun i hi=>h i (by omega) (by omega)];omega
  ·have:=ih (by omega) fun i hi hn=>h i (by omega) hn
   have:=h n (by omega) (by omega)
   omega
def selN(p:Nat→Bool)(n:Nat):List Nat:=(List.range n).filter p
def selI(p:Nat→Bool)(n:Nat):List Int:=(selN p n).map Int.ofNat
def cntN(p:Nat→Bool)(n:Nat):Nat:=sumN (fun i=>if p i then 1 else 0) n
theorem zoc(p:Nat→Bool)(n:Nat):selN p (n+1)=selN p n++(if p n then [n]else []):=by
 unfold selN
 rw[xeu,xdv]
 congr 1
 cases h:p n<;>simp[xdx,h]
theorem zdg(p:Nat→Bool)(n:Nat):selI p (n+1)=selI p n++(if p n then [(n:Int)]else []):=by
 unfold selI
 rw[zoc,xcd]
 congr 1
 cases h:p n<;>rfl
theorem zby(p:Nat→Bool):∀n:Nat,(selN p n).length=cntN p n
 | 0=>rfl
 |n+1=>by
  rw[zoc,List.length_append,zby p n]
  show _=cntN p n+(if p n then 1 else 0)
  cases h:p n<;>rfl
theorem zao(p:Nat→Bool)(n:Nat):(selI p n).length=cntN p n:=by rw[selI,xau,zby]
theorem zbz{p:Nat→Bool}{n i:Nat}:i∈selN p n↔i<n∧p i=true:=by
 unfold selN;rw[List.mem_filter,List.mem_range]
theorem zap{p:Nat→Bool}{n:Nat}{x:Int}:x∈selI p n↔∃i:Nat,x=(i:Int)∧i<n∧p i=true:=by
 unfold selI
 rw[xcv]
 constructor
 ·rintro⟨i,h,rfl⟩;exact⟨i,rfl,zbz.1 h⟩
 ·rintro⟨i,rfl,h⟩;exact⟨i,zbz.2 h,rfl⟩
theorem selN_congr{p q:Nat→Bool}{n:Nat}(h:∀i,i<n→p i=q i):selN p n=selN q n:=by
 unfold selN
 exact xdn fun i hi=>h i (List.mem_range.1 hi)
theorem zgd{p q:Nat→Bool}{n:Nat}(h:∀i,i<n→p i=q i):selI p n=selI q n:=by
 unfold selI;rw[selN_congr h]
theorem zgm{p q:Nat→Bool}{n:Nat}(h:∀i,i<n→p i=q i):cntN p n=cntN q n:=zam fun i hi=>by rw[h i hi]
theorem zaw(p:Nat→Bool)(n:Nat):cntN p n≤n:=by
 rw[←zby]
 unfold selN
 exact Nat.le_trans (xfk _ _) (by simp)
theorem zni{p:Nat→Bool}{n:Nat}:0<cntN p n↔∃i,i<n∧p i=true:=by
 constructor
 ·intro h
  obtain⟨i,h1,h2⟩:=sumN_pos h
  refine⟨i,h1,?_⟩
  cases hp:p i
  ·rw[hp]at h2;simp at h2
  ·rfl
 ·rintro⟨i,h1,h2⟩
  have:=zfe (f:=fun i=>if p i then 1 else 0) h1
  simp only[h2]at this
  exact this
theorem selN_filter(p q:Nat→Bool)(n:Nat):(selN p n).filter q=selN (fun i=>p i&&q i) n:=by
 unfold selN
 rw[xhf]
 exact xdn fun i _=>by rw[Bool.and_comm]
def extr(least:Bool)(r:Int→Rat)(l:List Int):List Int:=l.filter fun i=>l.all fun k=>if least then decide (r i≤r k)else decide (r k≤r i)
def zcf(round:List Rat)(c:Int):Rat:=round.getD c.toNat 0
def zct(lots:List Int)(c:Int):Nat:=lots.idxOf c
def byLot(lots:List Int)(least:Bool)(l:List Int):Int:=l.tail.foldl (fun m c=>if least then(if zct lots m<zct lots c then c else m)else(if zct lots c<zct lots m then c else m)) (l.headD 0)
def zba(ties:Int)(earlier:List (List Rat)):List (List Rat):=if ties=3 then []else if ties=1 then earlier.reverse else earlier
def tieL(least:Bool)(rounds:List (List Rat))(tied:List Int):List Int:=rounds.foldl (fun l r=>if 1<l.length then extr least (zcf r) l else l) tied
def tieB(ties:Int)(earlier:List (List Rat))(tied lots:List Int)(least:Bool):Int:=
 let l:=tieL least (zba ties earlier) tied
 if l.length=1 then l.headD 0 else byLot lots least l
abbrev Gp:=List Int×Int
structure GP where
 gs:List Gp
 n:Nat
 seats:Nat
 q:Nat
 tot:Nat
 ties:Int
 lots:List Int
def GP.p(P:GP)(g:Nat):List Int:=(P.gs.getD g ([],0)).1
def GP.k(P:GP)(g:Nat):Nat:=(P.gs.getD g ([],0)).2.toNat
def GP.G(P:GP):Nat:=P.gs.length
structure GS where
 D:Nat
 num:Nat→Nat
 at_:Nat→Nat
 st:Nat→Nat
 keep:Nat→Rat
def GS.on(P:GP)(s:GS)(g c:Nat):Bool:=decide (s.at_ g<(P.p g).length)&&decide ((P.p g).getD (s.at_ g) 0=(c:Int))
def GS.lie(P:GP)(s:GS)(c:Nat):Nat:=sumN (fun g=>if s.on P g c then P.k g*s.num g else 0) P.G
def GS.bar(P:GP)(s:GS):Nat:=P.q*s.D
def GS.vt(P:GP)(s:GS)(c:Nat):Nat:=if s.st c=2 then s.bar P else if s.st c=3 then 0 else s.lie P c
def GS.el1(P:GP)(s:GS)(i:Nat):Bool:=decide (s.st i=0)&&decide (s.bar P≤s.vt P i)
def GS.st1(P:GP)(s:GS)(i:Nat):Nat:=if s.el1 P i then 1 else s.st i
def frac(a b:Nat):Rat:=(a:Rat)/(b:Rat)
structure Rd where
 votes:List Rat
 keep:List Rat
 quota:Rat
 exh:Rat
 sur:Rat
 el:List Int
 ex:List Int
 ti:List Int
def nxt(p:List Int)(st:Nat→Nat)(k:Nat):Nat:=k+((p.drop k).takeWhile fun c=>decide (st c.toNat≠0)).length
def GS.move(P:GP)(s:GS)(st:Nat→Nat)(keep:Nat→Rat)(x a b:Nat):GS:=
 {D:=s.D*b,num:=fun g=>if s.on P g x then s.num g*a else s.num g*b,at_:=fun g=>if s.on P g x then nxt (P.p g) st (s.at_ g+1)else s.at_ g,st:=st,keep:=keep}
def znr(P:GP)(v:Nat→Nat)(st:Nat→Nat)(c:Nat)(most:Bool)(i:Nat):Bool:=decide (st i=c)&&(List.range P.n).all fun k=>!decide (st k=c)||(if most then decide (v k≤v i)else decide (v i≤v k))
def GS.fin(P:GP)(s:GS):Bool:=decide (cntN (fun i=>decide (s.st1 P i=1)) P.n+cntN (fun i=>decide (s.st1 P i=2)) P.n=P.seats)||decide (cntN (fun i=>decide (s.st1 P i=1)) P.n+cntN (fun i=>decide (s.st1 P i=2)) P.n+cntN (fun i=>decide (s.st1 P i=0)) P.n≤P.seats)
def GS.most(P:GP)(s:GS):Bool:=decide (0<cntN (fun i=>decide (s.st1 P i=1)) P.n)
def GS.tied(P:GP)(s:GS):List Int:=selI (znr P (s.vt P) (s.st1 P) (if s.most P then 1 else 0) (s.most P)) P.n
def GS.pick(P:GP)(earlier:List (List Rat))(s:GS):Int:=if(s.tied P).length=1 then(s.tied P).headD 0 else tieB P.ties earlier (s.tied P) P.lots (!s.most P)
def GS.rd0(P:GP)(s:GS):Rd:=
 {votes:=lst (fun i=>frac (s.vt P i) s.D) P.n
  keep:=lst s.keep P.n
  quota:=(P.q:Rat)
  exh:=frac (P.tot*s.D-sumN (s.vt P) P.n) s.D
  sur:=frac (sumN (fun i=>if s.st1 P i=1 then s.vt P i-s.bar P else 0) P.n) s.D
  el:=selI (s.el1 P) P.n
  ex:=[]
  ti:=[]}
def GS.done(P:GP)(s:GS):Rd:={s.rd0 P with el:=if cntN (fun i=>decide (s.st1 P i=1)) P.n+cntN (fun i=>decide (s.st1 P i=2)) P.n<P.seats then selI (fun i=>s.el1 P i||decide (s.st1 P i=0)) P.n else selI (s.el1 P) P.n}
def GS.tiedR(P:GP)(s:GS):List Int:=if(s.tied P).length=1 then []else s.tied P
def GS.trans(P:GP)(earlier:List (List Rat))(s:GS):GS:=
 let x:=(s.pick P earlier).toNat
 s.move P (upd (s.st1 P) x 2) (upd s.keep x (frac (s.vt P x-s.bar P) (s.vt P x))) x (s.vt P x-s.bar P) (s.vt P x)
def GS.excl(P:GP)(earlier:List (List Rat))(s:GS):GS:=
 let x:=(s.pick P earlier).toNat
 s.move P (upd (s.st1 P) x 3) (upd s.keep x 0) x 1 1
def gstep(P:GP)(earlier:List (List Rat))(s:GS):Rd×Option GS:=
 if s.fin P then(s.done P,none)
 else if s.most P then({s.rd0 P with ti:=s.tiedR P},some (s.trans P earlier))
 else({s.rd0 P with ti:=s.tiedR P,ex:=[s.pick P earlier]},some (s.excl P earlier))
def grun(P:GP):Nat→List Rd→GS→List Rd
 | 0,rs,_=>rs
 |k+1,rs,s=>match gstep P (rs.map Rd.votes) s with
  |(r,none)=>rs++[r]
  |(r,some s')=>grun P k (rs++[r]) s'
def g0:GS:={D:=1,num:=fun _=>1,at_:=fun _=>0,st:=fun _=>0,keep:=fun _=>1}
def zgh(P:GP):List Rd:=grun P (P.n+1) [] g0
end Go.Proofs.YtamgmpngdmnadaaGreat
namespace Go.Proofs.YtamgmpngdmnadaaGreat
open Go Go.X
theorem zfv{α:Type}(f:α→Rat):∀{l:List α},l≠ []→∃i∈l,∀k∈l,f i≤f k
 | [],h=>absurd rfl h
 | [x],_=>⟨x,by simp,fun k hk=>by simp at hk;subst hk;exact xgh⟩
 |x::y::l,_=>by
  obtain⟨i,h1,h2⟩:=zfv f (l:=y::l) (by simp)
  rcases Rat.le_total (a:=f x) (b:=f i)with h|h
  ·refine⟨x,by simp,fun k hk=>?_⟩
   rcases xan.1 hk with rfl|hk
   ·exact xgh
   ·exact Rat.le_trans h (h2 k hk)
  ·refine⟨i,xah _ h1,fun k hk=>?_⟩
   rcases xan.1 hk with rfl|hk
   ·exact h
   ·exact h2 k hk
theorem zkp{α:Type}(f:α→Nat){l:List α}(h:l≠ []):∃i∈l,∀k∈l,f i≤f k:=by
 induction l with
 |nil=>exact absurd rfl h
 |cons x l ih=>
  by_cases hl:l=[]
  ·subst hl;exact⟨x,by simp,fun k hk=>by simp at hk;subst hk;exact Nat.le_refl _⟩
  ·obtain⟨i,h1,h2⟩:=ih hl
   by_cases hx:f x≤f i
   ·refine⟨x,by simp,fun k hk=>?_⟩
    rcases xan.1 hk with rfl|hk
    ·exact Nat.le_refl _
    ·exact Nat.le_trans hx (h2 k hk)
   ·refine⟨i,xah _ h1,fun k hk=>?_⟩
    rcases xan.1 hk with rfl|hk
    ·omega
    ·exact h2 k hk
theorem exists_mostN{α:Type}(f:α→Nat){l:List α}(h:l≠ []):∃i∈l,∀k∈l,f k≤f i:=by
 induction l with
 |nil=>exact absurd rfl h
 |cons x l ih=>
  by_cases hl:l=[]
  ·subst hl;exact⟨x,by simp,fun k hk=>by simp at hk;subst hk;exact Nat.le_refl _⟩
  ·obtain⟨i,h1,h2⟩:=ih hl
   by_cases hx:f i≤f x
   ·refine⟨x,by simp,fun k hk=>?_⟩
    rcases xan.1 hk with rfl|hk
    ·exact Nat.le_refl _
    ·exact Nat.le_trans (h2 k hk) hx
   ·refine⟨i,xah _ h1,fun k hk=>?_⟩
    rcases xan.1 hk with rfl|hk
    ·omega
    ·exact h2 k hk
theorem extr_ne{least:Bool}{r:Int→Rat}{l:List Int}(h:l≠ []):extr least r l≠ []:=by
 cases least
 ·obtain⟨i,h1,h2⟩:=zfv (fun i=>- r i) h
  have:i∈extr false r l:=List.mem_filter.2 ⟨h1,xbi.2 fun k hk=>by
   have:=h2 k hk
   simp only[xax,if_false,xag]
   grind⟩
  exact xdu this
 ·obtain⟨i,h1,h2⟩:=zfv r h
  have:i∈extr true r l:=List.mem_filter.2 ⟨h1,xbi.2 fun k hk=>by
   simp only[if_true,xag]
   exact h2 k hk⟩
  exact xdu this
theorem extr_sub{least:Bool}{r:Int→Rat}{l:List Int}{x:Int}(h:x∈extr least r l):x∈l:=(List.mem_filter.1 h).1
theorem zjr:∀{least:Bool} {rounds:List (List Rat)} {l:List Int} {x:Int},x∈tieL least rounds l→x∈l
 |_,[],_,_,h=>h
 |least,r::rounds,l,x,h=>by
  have h':x∈tieL least rounds (if 1<l.length then extr least (zcf r) l else l):=h
  have:=zjr h'
  split at this
  ·exact extr_sub this
  ·exact this
theorem tieL_ne:∀{least:Bool} {rounds:List (List Rat)} {l:List Int},l≠ []→tieL least rounds l≠ []
 |_,[],_,h=>h
 |least,r::rounds,l,h=>by
  show tieL least rounds (if 1<l.length then extr least (zcf r) l else l)≠ []
  refine tieL_ne ?_
  split
  ·exact extr_ne h
  ·exact h
theorem zkl{α:Type}(f:α→α→α)(hf:∀a b,f a b=a∨f a b=b):∀(l:List α) (x:α),l.foldl f x=x∨l.foldl f x∈l
 | [],x=>.inl rfl
 |y::l,x=>by
  rw[xeg]
  rcases zkl f hf l (f x y)with h|h
  ·rw[h]
   rcases hf x y with h1|h1
   ·exact .inl h1
   ·exact .inr (by rw[h1];simp)
  ·exact .inr (xah _ h)
theorem byLot_mem{lots:List Int}{least:Bool}{l:List Int}(h:l≠ []):byLot lots least l∈l:=by
 cases l with
 |nil=>exact absurd rfl h
 |cons x l=>
  unfold byLot
  simp only[List.tail_cons,xgc]
  rcases zkl (fun m c=>if least then(if zct lots m<zct lots c then c else m)else(if zct lots c<zct lots m then c else m)) (fun a b=>by cases least<;>simp only[if_true,xax,if_false]<;>split<;>simp) l x with h|h
  ·rw[h];simp
  ·exact xah _ h
theorem zfl{l:List Int}(h:l≠ []):l.headD 0∈l:=by
 cases l with
 |nil=>exact absurd rfl h
 |cons x l=>simp
theorem zro{ties:Int}{earlier:List (List Rat)}{tied lots:List Int}{least:Bool}(h:tied≠ []):tieB ties earlier tied lots least∈tied:=by
 unfold tieB
 have hn:=tieL_ne (least:=least) (rounds:=zba ties earlier) h
 simp only
 split
 ·exact zjr (zfl hn)
 ·exact zjr (byLot_mem hn)
theorem zmd{α:Type}(p:α→Bool):∀l:List α,(l.takeWhile p).length≤l.length
 | []=>Nat.le_refl _
 |x::l=>by
  rw[xee]
  split
  ·simp only[xat];have:=zmd p l;omega
  ·simp
theorem zme{α:Type}(p:α→Bool)(d:α):∀l:List α,(l.takeWhile p).length<l.length→p (l.getD (l.takeWhile p).length d)=false
 | [],h=>by simp at h
 |x::l,h=>by
  rw[xee]at h ⊢
  split at h
  ·rename_i hx
   rw[if_pos hx]
   simp only[xat,xgx]
   exact zme p d l (by simpa using h)
  ·rename_i hx
   rw[if_neg hx]
   simpa using hx
theorem zhq{α:Type}(p:α→Bool)(d:α):∀(l:List α) (i:Nat),i<(l.takeWhile p).length→p (l.getD i d)=true
 | [],i,h=>by simp at h
 |x::l,i,h=>by
  rw[xee]at h
  split at h
  ·rename_i hx
   cases i with
   |zero=>simpa using hx
   |succ i=>exact zhq p d l i (by simpa using h)
  ·simp at h
theorem nxt_ge(p:List Int)(st:Nat→Nat)(k:Nat):k≤nxt p st k:=Nat.le_add_right _ _
theorem nxt_le{p:List Int}(st:Nat→Nat){k:Nat}(h:k≤p.length):nxt p st k≤p.length:=by
 unfold nxt
 have:=zmd (fun c=>decide (st (Int.toNat c)≠0)) (p.drop k)
 rw[xdw]at this
 omega
theorem zki{α:Type}(l:List α)(k i:Nat)(d:α):(l.drop k).getD i d=l.getD (k+i) d:=by
 simp[xab,xin]
theorem nxt_at{p:List Int}{st:Nat→Nat}{k:Nat}(h:nxt p st k<p.length):st (p.getD (nxt p st k) 0).toNat=0:=by
 unfold nxt at h ⊢
 have:=zme (fun c=>decide (st (Int.toNat c)≠0)) 0 (p.drop k) (by rw[xdw];omega)
 rw[zki]at this
 simpa using this
theorem nxt_before{p:List Int}{st:Nat→Nat}{k i:Nat}(h1:k≤i)(h2:i<nxt p st k):st (p.getD i 0).toNat≠0:=by
 unfold nxt at h2
 have:=zhq (fun c=>decide (st (Int.toNat c)≠0)) 0 (p.drop k) (i-k) (by omega)
 rw[zki,show k+(i-k)=i by omega]at this
 simpa using this
def GP.mkd(P:GP):Nat:=sumN (fun g=>if P.p g=[]then 0 else P.k g) P.G
structure GP.OK(P:GP):Prop where
 n1:1≤P.n
 n7:P.n≤7
 seats1:1≤P.seats
 seats5:P.seats≤5
 prefs:∀g,g<P.G→∀c∈P.p g,∃i:Nat,c=(i:Int)∧i<P.n
 plen:∀g,g<P.G→(P.p g).length≤7
 total:sumN P.k P.G=P.tot
 tot5:P.tot≤100000
 q1:1≤P.q
 q5:P.q≤100001
 quota:P.mkd<P.q*(P.seats+1)
 ties1:1≤P.ties
 ties3:P.ties≤3
 lotn:P.lots.length=P.n
 lots:∀c∈P.lots,∃i:Nat,c=(i:Int)∧i<P.n
 lotd:P.lots.Nodup
def GS.c2(P:GP)(s:GS):Nat:=cntN (fun i=>decide (s.st i=2)) P.n
structure GI(P:GP)(s:GS):Prop where
 D0:0<s.D
 Db:s.D≤2^(17*(2^s.c2 P-1))
 num:∀g,g<P.G→s.num g≤s.D
 at_:∀g,g<P.G→s.at_ g≤(P.p g).length
 lies:∀g c,g<P.G→s.on P g c=true→s.st c=0∨s.st c=1
 st3:∀c,s.st c≤3
 blank:∀g,g<P.G→P.p g=[]→s.num g=s.D
 cons:sumN (fun g=>if P.p g=[]then 0 else P.k g*s.num g) P.G+s.bar P*s.c2 P=P.mkd*s.D
 pend:∀c,c<P.n→s.st c=1→s.bar P≤s.lie P c
variable {P:GP} {s:GS}
theorem GS.on_lt{g c:Nat}(h:s.on P g c=true):s.at_ g<(P.p g).length:=by
 unfold GS.on at h
 rw[xaf,xag]at h
 exact h.1
theorem GS.on_at{g c:Nat}(h:s.on P g c=true):(P.p g).getD (s.at_ g) 0=(c:Int):=by
 unfold GS.on at h
 rw[xaf,xag,xag]at h
 exact h.2
theorem GS.on_uniq{g c d:Nat}(h:s.on P g c=true)(h':s.on P g d=true):c=d:=by
 have h1:=GS.on_at h
 have h2:=GS.on_at h'
 omega
theorem GS.on_ne{g c:Nat}(h:s.on P g c=true):P.p g≠ []:=fun e=>by
 have:=GS.on_lt h
 rw[e]at this
 simp at this
theorem zca{l:List Int}{i:Nat}(h:i<l.length):l.getD i 0∈l:=by
 rw[xab,xae h]
 exact xbe h
theorem GS.on_ex(hP:P.OK){g:Nat}(hg:g<P.G)(h:s.at_ g<(P.p g).length):∃c,c<P.n∧s.on P g c=true:=by
 obtain⟨i,h1,h2⟩:=hP.prefs g hg _ (zca h)
 refine⟨i,h2,?_⟩
 unfold GS.on
 rw[xaf,xag,xag]
 exact⟨h,h1⟩
theorem lie_sum(hP:P.OK):sumN (s.lie P) P.n=sumN (fun g=>if s.at_ g<(P.p g).length then P.k g*s.num g else 0) P.G:=by
 unfold GS.lie
 rw[zjt (fun c g=>if s.on P g c then P.k g*s.num g else 0)]
 refine zam fun g hg=>?_
 by_cases h:s.at_ g<(P.p g).length
 ·obtain⟨c,h1,h2⟩:=GS.on_ex hP hg h
  rw[if_pos h]
  have:sumN (fun i=>if s.on P g i then P.k g*s.num g else 0) P.n=sumN (fun i=>if i=c then P.k g*s.num g else 0) P.n:=zam fun i hi=>by
   by_cases hic:i=c
   ·subst hic;rw[if_pos h2,if_pos rfl]
   ·rw[if_neg hic,if_neg fun h3=>hic (GS.on_uniq h3 h2)]
  rw[this,zrq,if_pos h1]
 ·rw[if_neg h]
  refine(zam fun i hi=>if_neg fun h3=>h (GS.on_lt h3)).trans (zcs _)
theorem zlo(hP:P.OK):sumN (s.lie P) P.n≤sumN (fun g=>if P.p g=[]then 0 else P.k g*s.num g) P.G:=by
 rw[lie_sum hP]
 refine zdk fun g hg=>?_
 by_cases h:P.p g=[]
 ·rw[if_neg (by rw[h];simp),if_pos h];exact Nat.le_refl _
 ·rw[if_neg h]
  split
  ·exact Nat.le_refl _
  ·exact xbf _
theorem zsj(hI:GI P s){c:Nat}(h:s.st c=2∨s.st c=3):s.lie P c=0:=by
 unfold GS.lie
 refine(zam fun g hg=>if_neg fun h3=>?_).trans (zcs _)
 have:=hI.lies g c hg h3
 omega
theorem vt_lie(hI:GI P s){c:Nat}(h:s.st c=0∨s.st c=1):s.vt P c=s.lie P c:=by
 unfold GS.vt;rw[if_neg (by omega),if_neg (by omega)]
theorem vt_eq(hI:GI P s)(c:Nat):s.vt P c=s.lie P c+if decide (s.st c=2)then s.bar P else 0:=by
 have h3:=hI.st3 c
 by_cases h2:s.st c=2
 ·unfold GS.vt;rw[if_pos h2,zsj hI (.inl h2),decide_eq_true h2];simp
 ·rw[decide_eq_false h2]
  by_cases h4:s.st c=3
  ·unfold GS.vt;rw[if_neg h2,if_pos h4,zsj hI (.inr h4)];rfl
  ·rw[vt_lie hI (by omega)];rfl
theorem zsz(p:Nat→Bool)(v:Nat):∀n:Nat,sumN (fun i=>if p i then v else 0) n=v*cntN p n
 | 0=>by simp[sumN,cntN]
 |n+1=>by
  show sumN _ n+(if p n then v else 0)=v*(cntN p n+(if p n then 1 else 0))
  rw[zsz p v n,xcb]
  cases p n<;>simp
theorem vt_sum(hP:P.OK)(hI:GI P s):sumN (s.vt P) P.n=sumN (s.lie P) P.n+s.bar P*s.c2 P:=by
 rw[zam fun i _=>vt_eq hI i,zbr,zsz];rfl
theorem vt_sum_le(hP:P.OK)(hI:GI P s):sumN (s.vt P) P.n≤P.mkd*s.D:=by
 rw[vt_sum hP hI]
 have:=zlo (s:=s) hP
 have:=hI.cons
 omega
theorem mk_le(hP:P.OK):P.mkd≤P.tot:=by
 rw[←hP.total]
 exact zdk fun g _=>by split<;>omega
theorem zky(hP:P.OK)(hI:GI P s):sumN (s.vt P) P.n≤P.tot*s.D:=Nat.le_trans (vt_sum_le hP hI) (xaj _ (mk_le hP))
theorem zpw(hP:P.OK)(hI:GI P s){c:Nat}(h:c<P.n):s.vt P c≤P.tot*s.D:=Nat.le_trans (zfe h) (zky hP hI)
theorem bar_pos(hP:P.OK)(hI:GI P s):0<s.bar P:=Nat.mul_pos hP.q1 hI.D0
theorem zbx(c:Nat):(s.el1 P c=true∧s.st c=0∧s.st1 P c=1∧s.bar P≤s.vt P c)∨(s.el1 P c=false∧s.st1 P c=s.st c):=by
 unfold GS.st1
 cases h:s.el1 P c
 ·exact .inr ⟨rfl,rfl⟩
 ·unfold GS.el1 at h
  rw[xaf,xag,xag]at h
  exact .inl ⟨rfl,h.1,rfl,h.2⟩
theorem znw(hI:GI P s){c:Nat}(hc:c<P.n)(h:s.st1 P c=1):(s.st c=0∨s.st c=1)∧s.vt P c=s.lie P c∧s.bar P≤s.vt P c:=by
 rcases zbx (P:=P) (s:=s) c with⟨_,h1,h2,h3⟩|⟨_,h2⟩
 ·exact⟨.inl h1,vt_lie hI (.inl h1),h3⟩
 ·have h1:s.st c=1:=by omega
  have:=hI.pend c hc h1
  rw[vt_lie hI (.inr h1)]
  exact⟨.inr h1,rfl,this⟩
theorem zrt(c:Nat):s.st1 P c=2↔s.st c=2:=by
 rcases zbx (P:=P) (s:=s) c with⟨_,h1,h2,h3⟩|⟨_,h2⟩<;>omega
def GS.e1(P:GP)(s:GS):Nat:=cntN (fun i=>decide (s.st1 P i=1)) P.n
def GS.e2(P:GP)(s:GS):Nat:=cntN (fun i=>decide (s.st1 P i=2)) P.n
def GS.e0(P:GP)(s:GS):Nat:=cntN (fun i=>decide (s.st1 P i=0)) P.n
theorem zlv(hP:P.OK)(hI:GI P s):s.e1 P+s.e2 P≤P.seats:=by
 have h1:s.bar P*(s.e1 P+s.e2 P)≤sumN (s.vt P) P.n:=by
  unfold GS.e1 GS.e2
  rw[xcb,←zsz,←zsz,←zbr]
  refine zdk fun i hi=>?_
  by_cases h:s.st1 P i=1
  ·rw[decide_eq_true h,decide_eq_false (by omega)]
   have:=(znw hI hi h).2.2
   simpa using this
  ·rw[decide_eq_false h]
   by_cases h2:s.st1 P i=2
   ·rw[decide_eq_true h2]
    have h3:=(zrt i).1 h2
    have:s.vt P i=s.bar P:=by unfold GS.vt;rw[if_pos h3]
    rw[this];simp
   ·rw[decide_eq_false h2];simp
 have h2:=vt_sum_le hP hI
 have h3:s.bar P*(s.e1 P+s.e2 P)<s.bar P*(P.seats+1):=by
  refine xdt (Nat.le_trans h1 h2) ?_
  have:P.mkd*s.D<P.q*(P.seats+1)*s.D:=xfg hP.quota hI.D0
  have e:s.bar P*(P.seats+1)=P.q*(P.seats+1)*s.D:=by unfold GS.bar;rw[Nat.mul_right_comm]
  omega
 have:=Nat.lt_of_mul_lt_mul_left h3
 omega
theorem fin_false(hP:P.OK)(hI:GI P s)(h:s.fin P=false):s.e1 P+s.e2 P<P.seats∧P.seats<s.e1 P+s.e2 P+s.e0 P:=by
 unfold GS.fin at h
 rw[xbw,xaw,xaw]at h
 have h1:¬s.e1 P+s.e2 P=P.seats:=h.1
 have h2:¬s.e1 P+s.e2 P+s.e0 P≤P.seats:=h.2
 have:=zlv hP hI
 omega
theorem tied_ne(hP:P.OK)(hI:GI P s)(h:s.fin P=false):s.tied P≠ []:=by
 obtain⟨h1,h2⟩:=fin_false hP hI h
 have hne:selN (fun i=>decide (s.st1 P i=if s.most P then 1 else 0)) P.n≠ []:=by
  have:0<cntN (fun i=>decide (s.st1 P i=if s.most P then 1 else 0)) P.n:=by
   cases hm:s.most P
   ·show 0<s.e0 P;omega
   ·unfold GS.most at hm
    exact of_decide_eq_true hm
  rw[←zby]at this
  exact xce.1 this
 unfold GS.tied
 generalize(if s.most P then 1 else 0)=c at hne ⊢
 have key:∃i,i<P.n∧znr P (s.vt P) (s.st1 P) c (s.most P) i=true:=by
  cases s.most P
  ·obtain⟨i,k1,k2⟩:=zkp (s.vt P) hne
   obtain⟨k3,k4⟩:=zbz.1 k1
   refine⟨i,k3,?_⟩
   unfold znr
   rw[k4,xbj,xbi]
   intro k hk
   by_cases h5:s.st1 P k=c
   ·have:=k2 k (zbz.2 ⟨List.mem_range.1 hk,decide_eq_true h5⟩)
    simp[this]
   ·simp[h5]
  ·obtain⟨i,k1,k2⟩:=exists_mostN (s.vt P) hne
   obtain⟨k3,k4⟩:=zbz.1 k1
   refine⟨i,k3,?_⟩
   unfold znr
   rw[k4,xbj,xbi]
   intro k hk
   by_cases h5:s.st1 P k=c
   ·have:=k2 k (zbz.2 ⟨List.mem_range.1 hk,decide_eq_true h5⟩)
    simp[this]
   ·simp[h5]
 obtain⟨i,k1,k2⟩:=key
 exact xdu (zap.2 ⟨i,rfl,k1,k2⟩)
theorem pick_mem{earlier:List (List Rat)}(h:s.tied P≠ []):s.pick P earlier∈s.tied P:=by
 unfold GS.pick
 split
 ·exact zfl h
 ·exact zro h
theorem zfg(hP:P.OK)(hI:GI P s)(h:s.fin P=false)(earlier:List (List Rat)):∃x:Nat,s.pick P earlier=(x:Int)∧x<P.n∧s.st1 P x=if s.most P then 1 else 0:=by
 have h1:=pick_mem (earlier:=earlier) (tied_ne hP hI h)
 obtain⟨i,h2,h3,h4⟩:=zap.1 h1
 refine⟨i,h2,h3,?_⟩
 unfold znr at h4
 rw[xaf,xag]at h4
 exact h4.1
theorem move_on{st:Nat→Nat}{keep:Nat→Rat}{x a b g c:Nat}(hx:s.on P g x=false):(s.move P st keep x a b).on P g c=s.on P g c:=by
 unfold GS.on GS.move
 simp only[hx,xax,if_false]
theorem move_lie{st:Nat→Nat}{keep:Nat→Rat}{x a b c:Nat}(hc:c≠x):s.lie P c*b≤(s.move P st keep x a b).lie P c:=by
 unfold GS.lie
 rw[←zfs]
 refine zdk fun g hg=>?_
 by_cases h:s.on P g c=true
 ·have hx:s.on P g x=false:=by
   cases hx:s.on P g x
   ·rfl
   ·exact absurd (GS.on_uniq h hx) hc
  rw[if_pos h,if_pos (by rw[move_on hx];exact h)]
  show _≤P.k g*(if s.on P g x then s.num g*a else s.num g*b)
  rw[hx,xba];exact Nat.le_refl _
 ·rw[if_neg h,xed];exact xbf _
theorem move_cons{st:Nat→Nat}{keep:Nat→Rat}{x a b:Nat}(hab:a≤b):sumN (fun g=>if P.p g=[]then 0 else P.k g*(s.move P st keep x a b).num g) P.G+(b-a)*s.lie P x=sumN (fun g=>if P.p g=[]then 0 else P.k g*s.num g) P.G*b:=by
 unfold GS.lie
 rw[←zfs,xbk (b-a),←zfs,←zbr]
 refine zam fun g hg=>?_
 show(if P.p g=[]then 0 else P.k g*(if s.on P g x then s.num g*a else s.num g*b))+_=_
 cases h:s.on P g x
 ·simp only[xax,if_false]
  split
  ·simp
  ·rw[xed,xco,xba]
 ·have:=GS.on_ne h
  simp only[if_neg this,if_true]
  rw[←xba,←xcb]
  congr 1
  omega
theorem zlz{p q:Nat→Bool}{n x:Nat}(hx:x<n)(h:∀i,i<n→i≠x→p i=q i)(h0:q x=false)(h1:p x=true):cntN p n=cntN q n+1:=by
 have:=sumN_upd (f:=fun i=>if p i then 1 else 0) (g:=fun i=>if q i then 1 else 0) hx fun i hi hne=>by rw[h i hi hne]
 simp only[h0,h1,if_true,xax,if_false]at this
 unfold cntN
 omega
theorem move_inv(hP:P.OK)(hI:GI P s){x a b y:Nat}{keep:Nat→Rat}(hx:x<P.n)(hy:y=2∨y=3)(hst:s.st1 P x=if y=2 then 1 else 0)(hab:a≤b)(hb0:0<b)
  (hd:y=2→(b-a)*s.lie P x=s.bar P*b) (hd3:y=3→a=b) (hb:s.D*b≤2^(17*(2^(s.c2 P+if y=2 then 1 else 0)-1))) :
  GI P (s.move P (upd (s.st1 P) x y) keep x a b):=by
 have hx2:s.st x≠2:=by
  have:=zrt (P:=P) (s:=s) x
  split at hst<;>omega
 have hc2:(s.move P (upd (s.st1 P) x y) keep x a b).c2 P=s.c2 P+if y=2 then 1 else 0:=by
  unfold GS.c2
  show cntN (fun i=>decide (upd (s.st1 P) x y i=2)) P.n=_
  by_cases h2:y=2
  ·subst h2
   rw[if_pos rfl]
   refine zlz hx (fun i hi hne=>?_) (decide_eq_false hx2) (by rw[zbw];rfl)
   rw[zee _ _ hne]
   exact xca.2 (zrt i)
  ·rw[if_neg h2,xco]
   refine zgm fun i hi=>?_
   by_cases hi:i=x
   ·subst hi;rw[zbw];exact xca.2 ⟨fun h=>absurd h h2,fun h=>absurd h hx2⟩
   ·rw[zee _ _ hi];exact xca.2 (zrt i)
 refine⟨Nat.mul_pos hI.D0 hb0,by rw[hc2];exact hb,fun g hg=>?_,fun g hg=>?_,fun g c hg hon=>?_,fun c=>?_,fun g hg hp=>?_,?_,fun c hc hc1=>?_⟩
 ·show(if s.on P g x then s.num g*a else s.num g*b)≤s.D*b
  have:=hI.num g hg
  split
  ·exact Nat.mul_le_mul this hab
  ·exact xaj _ this
 ·show(if s.on P g x then nxt (P.p g) _ (s.at_ g+1)else s.at_ g)≤_
  cases h:s.on P g x
  ·exact hI.at_ g hg
  ·exact nxt_le _ (GS.on_lt h)
 ·show upd (s.st1 P) x y c=0∨upd (s.st1 P) x y c=1
  cases h:s.on P g x
  ·rw[move_on h]at hon
   have hcx:c≠x:=fun e=>by rw[e]at hon;rw[h]at hon;cases hon
   rw[zee _ _ hcx]
   have:=hI.lies g c hg hon
   rcases zbx (P:=P) (s:=s) c with⟨_,h1,h2,_⟩|⟨_,h2⟩<;>omega
  ·have h1:=GS.on_lt hon
   have h2:=GS.on_at hon
   have e:(s.move P (upd (s.st1 P) x y) keep x a b).at_ g=nxt (P.p g) (upd (s.st1 P) x y) (s.at_ g+1):=by
    show(if s.on P g x then nxt (P.p g) _ (s.at_ g+1)else s.at_ g)=_
    rw[h];rfl
   rw[e]at h1 h2
   have h3:=nxt_at h1
   rw[h2,Int.toNat_natCast]at h3
   exact .inl h3
 ·show upd (s.st1 P) x y c≤3
  by_cases hi:c=x
  ·subst hi;rw[zbw];omega
  ·rw[zee _ _ hi]
   have:=hI.st3 c
   rcases zbx (P:=P) (s:=s) c with⟨_,h1,h2,_⟩|⟨_,h2⟩<;>omega
 ·show(if s.on P g x then s.num g*a else s.num g*b)=s.D*b
  rw[if_neg fun h=>GS.on_ne h hp,hI.blank g hg hp]
 ·have h1:=move_cons (P:=P) (s:=s) (st:=upd (s.st1 P) x y) (keep:=keep) (x:=x) hab
  have h2:=hI.cons
  rw[hc2]
  have e1:(s.move P (upd (s.st1 P) x y) keep x a b).bar P=s.bar P*b:=by
   show P.q*(s.D*b)=P.q*s.D*b
   rw[xba]
  have e2:P.mkd*(s.move P (upd (s.st1 P) x y) keep x a b).D=P.mkd*s.D*b:=by
   show P.mkd*(s.D*b)=_
   rw[xba]
  rw[e1,e2,←h2,xbp,←h1]
  rcases hy with h3|h3
  ·rw[hd h3,if_pos h3,xcb,xda,Nat.mul_right_comm (s.bar P) b]
   omega
  ·rw[hd3 h3,Nat.sub_self,xed,if_neg (by omega),xco,xco,Nat.mul_right_comm]
 ·have hc1':upd (s.st1 P) x y c=1:=hc1
  have hcx:c≠x:=fun e=>by rw[e,zbw]at hc1';omega
  rw[zee _ _ hcx]at hc1'
  obtain⟨_,k2,k3⟩:=znw hI hc hc1'
  have e1:(s.move P (upd (s.st1 P) x y) keep x a b).bar P=s.bar P*b:=by
   show P.q*(s.D*b)=P.q*s.D*b
   rw[xba]
  rw[e1]
  refine Nat.le_trans (xaj b ?_) (move_lie hcx)
  omega
theorem pow_next{D v t c:Nat}(hD:D≤2^(17*(2^c-1)))(hv:v≤t*D)(ht:t≤100000):D*v≤2^(17*(2^(c+1)-1)):=by
 have h1:D*v≤D*(100000*D):=xcp _ (Nat.le_trans hv (xaj _ ht))
 have h2:D*(100000*D)≤2^(17*(2^c-1))*(2^17*2^(17*(2^c-1))):=Nat.mul_le_mul hD (Nat.mul_le_mul (by decide) hD)
 have h3:17*(2^(c+1)-1)=17*(2^c-1)+(17+17*(2^c-1)):=by
  have:0<2^c:=P2_pos c
  rw[xbo];omega
 rw[h3,xdk,xdk]
 omega
theorem trans_inv(hP:P.OK)(hI:GI P s)(h:s.fin P=false)(hm:s.most P=true)(earlier:List (List Rat)):GI P (s.trans P earlier):=by
 obtain⟨x,h1,h2,h3⟩:=zfg hP hI h earlier
 rw[hm,if_pos rfl]at h3
 obtain⟨_,k2,k3⟩:=znw hI h2 h3
 have hb:=bar_pos hP hI
 unfold GS.trans
 simp only[h1,Int.toNat_natCast]
 refine move_inv hP hI h2 (.inl rfl) (by rw[h3];rfl) (Nat.sub_le _ _) (by omega) (fun _=>?_) (fun h=>by omega) ?_
 ·rw[←k2]
  congr 1
  omega
 ·rw[if_pos rfl]
  exact pow_next hI.Db (zpw hP hI h2) hP.tot5
theorem excl_inv(hP:P.OK)(hI:GI P s)(h:s.fin P=false)(hm:s.most P=false)(earlier:List (List Rat)):GI P (s.excl P earlier):=by
 obtain⟨x,h1,h2,h3⟩:=zfg hP hI h earlier
 rw[hm]at h3
 unfold GS.excl
 simp only[h1,Int.toNat_natCast]
 refine move_inv hP hI h2 (.inr rfl) (by rw[h3];rfl) (Nat.le_refl _) (by omega) (fun h=>by omega) (fun _=>rfl) ?_
 rw[xda]
 exact hI.Db
theorem g0_inv(hP:P.OK):GI P g0:=by
 have hc:g0.c2 P=0:=(zgm (q:=fun _=>false) fun i _=>rfl).trans (by unfold cntN;exact zcs _)
 refine⟨by decide,by rw[hc];exact Nat.le_refl 1,fun g hg=>Nat.le_refl 1,fun g hg=>xbf _,fun g c hg _=>.inl rfl,fun c=>xbf 3,fun g hg hp=>rfl,?_,fun c hc h=>by cases h⟩
 rw[hc,xhe,xco]
 show _=P.mkd*1
 rw[xda]
 unfold GP.mkd
 refine zam fun g hg=>?_
 show(if P.p g=[]then 0 else P.k g*1)=_
 rw[xda]
def GS.meas(P:GP)(s:GS):Nat:=cntN (fun i=>decide (s.st i=0∨s.st i=1)) P.n
theorem meas_move{x a b y:Nat}{keep:Nat→Rat}(hx:x<P.n)(hy:y=2∨y=3)(hst:s.st1 P x=0∨s.st1 P x=1):(s.move P (upd (s.st1 P) x y) keep x a b).meas P+1=s.meas P:=by
 unfold GS.meas
 refine(zlz (q:=fun i=>decide (upd (s.st1 P) x y i=0∨upd (s.st1 P) x y i=1)) hx (fun i hi hne=>?_) ?_ ?_).symm
 ·rw[zee _ _ hne]
  refine xca.2 ?_
  rcases zbx (P:=P) (s:=s) i with⟨_,h1,h2,_⟩|⟨_,h2⟩<;>omega
 ·rw[zbw];exact decide_eq_false (by omega)
 ·refine decide_eq_true ?_
  rcases zbx (P:=P) (s:=s) x with⟨_,h1,h2,_⟩|⟨_,h2⟩<;>omega
theorem zlc(hP:P.OK)(hI:GI P s)(h:s.fin P=false)(hm:s.most P=true)(earlier:List (List Rat)):(s.trans P earlier).meas P+1=s.meas P:=by
 obtain⟨x,h1,h2,h3⟩:=zfg hP hI h earlier
 rw[hm,if_pos rfl]at h3
 unfold GS.trans
 simp only[h1,Int.toNat_natCast]
 exact meas_move h2 (.inl rfl) (.inr h3)
theorem zpe(hP:P.OK)(hI:GI P s)(h:s.fin P=false)(hm:s.most P=false)(earlier:List (List Rat)):(s.excl P earlier).meas P+1=s.meas P:=by
 obtain⟨x,h1,h2,h3⟩:=zfg hP hI h earlier
 rw[hm]at h3
 unfold GS.excl
 simp only[h1,Int.toNat_natCast]
 exact meas_move h2 (.inr rfl) (.inl (by simpa using h3))
theorem meas_le(s:GS):s.meas P≤P.n:=zaw _ _
theorem c2_le(s:GS):s.c2 P≤P.n:=zaw _ _
def eD:Nat:=2159
def eB:Nat:=2208
theorem D_small(hP:P.OK)(hI:GI P s):s.D≤2^eD:=by
 refine Nat.le_trans hI.Db (xer (by decide) ?_)
 have h1:=c2_le (P:=P) s
 have h2:=hP.n7
 have:2^s.c2 P≤2^7:=xer (by decide) (by omega)
 show _≤2159
 omega
end Go.Proofs.YtamgmpngdmnadaaGreat
namespace Go.Proofs.YtamgmpngdmnadaaGreat
open Go Go.X
abbrev CT:=List Int×(List (List Int)×(Int×(Int×(Int×(Int×(Int×(Int×Int)))))))
abbrev RD:=List Rt×(List Rt×(Rt×(Rt×(Rt×(List Int×(List Int×List Int))))))
abbrev KT:=CT×(List Int×(Int×(Int×(List (List Int×(Int×(Int×Rt)))×(List Int×(List Rt×(Int×(List (List Rt)×(Int×(Int×(Int×(Int×(List RD×List Int)))))))))))))
theorem zbn{α:Type}{l:List α}{d:α}(h:l.length+1≤4294967296):decide ((l.length:Int)+(([d]:List α).length:Int)≤LIM)=true:=by
 have:(l.length:Int)+(([d]:List α).length:Int)=((l.length+1:Nat):Int):=by simp
 rw[this];exact zbq h
theorem zeu(a b:Nat):decide ((a:Int)=(b:Int))=decide (a=b):=xca.2 xec
theorem frac_nd(a b:Nat):(frac a b).num.natAbs≤a∧(frac a b).den≤max 1 b:=by
 have e:frac a b=mkRat a b:=by
  unfold frac
  rw[Rat.mkRat_eq_div]
  rfl
 rw[e]
 by_cases hb:b=0
 ·subst hb;rw[Rat.mkRat_zero];exact⟨xbf _,xib _ _⟩
 ·rw[Rat.num_mkRat,Rat.den_mkRat,if_neg hb,if_neg hb]
  refine⟨?_,Nat.le_trans (xdl _ _) (Nat.le_max_right _ _)⟩
  rw[xhg]
  have:((a:Int)/((b.gcd a:Nat):Int))=((a/b.gcd a:Nat):Int):=rfl
  rw[this,xhg]
  exact xdl _ _
theorem zjk{a b e:Nat}(ha:a<2^e)(hb:b<2^e)(he:1≤e):Bz e (frac a b):=by
 obtain⟨h1,h2⟩:=frac_nd a b
 have:1<2^e:=xhd (by omega)
 exact⟨by omega,by omega⟩
theorem zsn(a:Nat):frac a 1=(a:Rat):=by unfold frac;grind
theorem zso{a b D:Nat}(hD:0<D):frac a D+frac b D=frac (a+b) D:=by
 unfold frac
 rw[Rat.div_def,Rat.div_def,Rat.div_def,←Rat.add_mul]
 simp only[Rat.natCast_add]
theorem zng{a b D:Nat}(hD:0<D)(h:b≤a):frac a D-frac b D=frac (a-b) D:=by
 have:=zso (a:=a-b) (b:=b) hD
 rw[Nat.sub_add_cancel h]at this
 rw[←this];grind
theorem frac_mul_nat(a D k:Nat):frac a D*(k:Rat)=frac (k*a) D:=by
 unfold frac
 simp only[xhy]
 rw[Rat.div_def,Rat.div_def]
 grind
theorem zkj{q D:Nat}(hD:0<D):frac (q*D) D=(q:Rat):=by
 unfold frac
 have:(D:Rat)≠0:=by simp;omega
 rw[xhy,Rat.mul_div_cancel this]
theorem zhg{a b D:Nat}(hD:0<D):frac a D≤frac b D↔a≤b:=by
 unfold frac
 have:(0:Rat)<(D:Rat):=by exact_mod_cast hD
 rw[Rat.div_def,Rat.div_def]
 have hi:(0:Rat)<(D:Rat)⁻¹:=Rat.inv_pos.2 this
 constructor
 ·intro h
  have:=Rat.le_of_mul_le_mul_right h hi
  exact_mod_cast this
 ·intro h
  exact Rat.mul_le_mul_of_nonneg_right (by exact_mod_cast h) (Rat.le_of_lt hi)
theorem frac_lt{a b D:Nat}(hD:0<D):frac a D<frac b D↔a<b:=by
 rw[←Rat.not_le,zhg hD];omega
theorem frac_inj{a b D:Nat}(hD:0<D):frac a D=frac b D↔a=b:=by
 constructor
 ·intro h
  have h1:a≤b:=(zhg hD).1 (by rw[h];exact xgh)
  have h2:b≤a:=(zhg hD).1 (by rw[h];exact xgh)
  omega
 ·intro h;rw[h]
theorem Bz.sz2{q:Rat}(h:Bz eB q):Sz 268435456 (rr q):=by
 have h':Bz (32*69) q:=h
 have:=Bz.sz (k:=69) h'
 exact⟨by have:=this.1;omega,by have:=this.2;omega⟩
theorem zin{n:Nat}(h:n<2^64):Bz eB (n:Rat):=by
 rw[←zsn]
 exact zjk (Nat.lt_trans h (xeq (by decide) (by decide))) (xhd (by decide)) (by decide)
theorem zgb{n:Nat}(h:n≤9223372036854775807):d93 (n:Int)=some (rr (n:Rat)):=by
 rw[zqy (by omega) (by omega)];rfl
theorem zft{p:Nat→Bool}{n j:Nat}(h:j<(selN p n).length):(selN p n).getD j 0<n∧p ((selN p n).getD j 0)=true:=by
 rw[xab,xae h]
 exact zbz.1 (xbe h)
theorem zhx{p:Nat→Bool}{n j:Nat}(h:j<(selN p n).length):(selI p n).getD j 0=(((selN p n).getD j 0:Nat):Int):=by
 unfold selI
 rw[xab,xbr,xae h,xab,xae h];rfl
theorem zbc{α:Type}(l:List α)(d:α){n:Nat}(h:n<l.length):l.take (n+1)=l.take n++[l.getD n d]:=by
 rw[xfm,xab,xae h];rfl
def zdf{α:Type}(f:Nat→α)(L:List Nat)(x:α):Nat→α:=fun c=>if c∈L then x else f c
theorem zjj{α:Type}(f:Nat→α)(L:List Nat)(c:Nat)(x:α):upd (zdf f L x) c x=zdf f (L++[c]) x:=by
 funext d
 unfold upd zdf
 by_cases h:d=c
 ·subst h;simp
 ·simp[h]
theorem zla{α:Type}(f:Nat→α)(x:α):zdf f [] x=f:=by funext d;simp[zdf]
theorem zlw{k:KT}{st:Nat→Nat}{n:Nat}(hk:k.2.2.2.2.2.1=lst (fun i=>(st i:Int)) n)(hn:n≤1000)(x:Nat):d172 k (x:Int)=some (selI (fun i=>decide (st i=x)) n):=by
 unfold d172
 rw[hk,zaf]
 refine zac (fun i=>((x:Int),selI (fun i=>decide (st i=x)) i,lst (fun i=>(st i:Int)) n,(n:Int),(i:Int))) n rfl (fun i hi=>?_) ?_ rfl
 ·have hl:(selI (fun i=>decide (st i=x)) i).length+1≤4294967296:=by
   rw[zao];have:=zaw (fun i=>decide (st i=x)) i;omega
  rw[zdg]
  simp only[dlt hi,d0le,zaf,xad,cond_true,tn,zan _ hi,zal,zeu,zav (show i<9223372036854775807 by omega)]
  by_cases h:st i=x
  ·rw[decide_eq_true h,cond_true,zbn hl,cond_true];rfl
  ·rw[decide_eq_false h,xac];simp
 ·simp only[nlt (Nat.le_refl n),xac]
theorem d168_eq{f:Nat→Rat}{n:Nat}(hn:n≤1000)(hf:∀i,i<n→Bz eB (f i)):d168 (lst (fun i=>rr (f i)) n)=some (lst (fun i=>rr (f i)) n):=by
 unfold d168
 rw[zaf]
 refine zac (fun i=>(lst (fun i=>rr (f i)) i,lst (fun i=>rr (f i)) n,(n:Int),(i:Int))) n rfl (fun i hi=>?_) ?_ rfl
 ·have hs:=(hf i hi).sz2
  simp only[dlt hi,d0le,zaf,xad,cond_true,tn,zan _ hi,zav (show i<9223372036854775807 by omega),zsv (show(rr (f i)).2.1.length≤4294967296 by have:=hs.1;omega),zsv (show(rr (f i)).2.2.length≤4294967296 by have:=hs.2;omega),Option.bind_some]
  have hl:=zbn (l:=lst (fun i=>rr (f i)) i) (d:=((rr (f i)).1,(rr (f i)).2.1,(rr (f i)).2.2)) (by rw[zaf];omega)
  rw[zaf]at hl
  rw[hl,cond_true,zet]
 ·simp only[nlt (Nat.le_refl n),xac]
def GS.lieU(P:GP)(s:GS)(m c:Nat):Nat:=sumN (fun g=>if s.on P g c then P.k g*s.num g else 0) m
def parc(P:GP)(s:GS)(g:Nat):List Int×(Int×(Int×Rt)):=(P.p g,(P.k g:Int),(s.at_ g:Int),rr (frac (s.num g) s.D))
variable {P:GP} {s:GS}
theorem lieU_le(m c:Nat)(h:m≤P.G):s.lieU P m c≤s.lie P c:=by
 have key:∀(f:Nat→Nat) (m n:Nat),m≤n→sumN f m≤sumN f n:=by
  intro f m n
  induction n with
  |zero=>intro h;rw[show m=0 by omega];exact Nat.le_refl _
  |succ n ih=>
   intro h
   by_cases hm:m=n+1
   ·rw[hm];exact Nat.le_refl _
   ·rw[sumN];have:=ih (by omega);omega
 exact key _ _ _ h
theorem zio{a:Nat}(hP:P.OK)(hI:GI P s)(h:a≤P.tot*s.D):a<2^eB:=by
 have h1:=D_small hP hI
 have h2:P.tot*s.D≤100000*2^eD:=Nat.mul_le_mul hP.tot5 h1
 have h3:100000*2^eD≤2^17*2^eD:=xaj _ (by decide)
 have h4:2^17*2^eD<2^eB:=by rw[←xdk];exact xeq (by decide) (by decide)
 omega
theorem D_lt(hP:P.OK)(hI:GI P s):s.D<2^eB:=xdt (D_small hP hI) (xeq (by decide) (by decide))
theorem zbh(hP:P.OK)(hI:GI P s){a:Nat}(h:a≤P.tot*s.D):Bz eB (frac a s.D):=zjk (zio hP hI h) (D_lt hP hI) (by decide)
theorem k_le(hP:P.OK){g:Nat}(h:g<P.G):P.k g≤P.tot:=by rw[←hP.total];exact zfe h
theorem knum_le(hP:P.OK)(hI:GI P s){g:Nat}(h:g<P.G):P.k g*s.num g≤P.tot*s.D:=Nat.mul_le_mul (k_le hP h) (hI.num g h)
theorem lie_le(hP:P.OK)(hI:GI P s){c:Nat}(h:c<P.n):s.lie P c≤P.tot*s.D:=by
 have h1:=zfe (f:=s.lie P) h
 have h2:=zlo (s:=s) hP
 have h3:=hI.cons
 have h4:=xaj s.D (mk_le hP)
 omega
theorem num_small(hP:P.OK)(hI:GI P s){g:Nat}(h:g<P.G):Bz eB (frac (s.num g) s.D):=zjk (xdt (hI.num g h) (D_lt hP hI)) (D_lt hP hI) (by decide)
theorem zjv(hP:P.OK):Bz eB (P.q:Rat):=zin (by have:=hP.q5;omega)
theorem d167_eq(hP:P.OK)(hI:GI P s)(hG:P.G≤1000000){k:KT}(h1:k.2.2.2.2.1=lst (parc P s) P.G)(h2:k.2.2.2.2.2.1=lst (fun i=>(s.st i:Int)) P.n)(h3:k.2.2.2.1=(P.q:Int)) :
  d167 k=some (lst (fun i=>rr (frac (s.vt P i) s.D)) P.n):=by
 have hn:=hP.n7
 unfold d167
 rw[h2,zaf]
 refine zac (fun i=>(k,lst (fun _=>rr 0) i,(P.n:Int),(i:Int))) P.n rfl (fun i hi=>?_) (b:=(k,lst (fun _=>rr 0) P.n)) ?_ ?_
 ·have hl:=zbn (l:=lst (fun _=>rr 0) i) (d:=rr 0) (by rw[zaf];omega)
  simp only[dlt hi,cond_true,show d93 0=some (rr 0)from zqy (n:=0) (by omega) (by omega),Option.bind_some,hl,zav (show i<9223372036854775807 by omega),←zet]
 ·simp only[nlt (Nat.le_refl P.n),xac]
 simp only[h1,zaf]
 refine zac (fun m=>(k,lst (fun c=>rr (frac (s.lieU P m c) s.D)) P.n,lst (parc P s) P.G,(P.G:Int),(m:Int))) P.G ?_ (fun g hg=>?_) (b:=(k,lst (fun c=>rr (frac (s.lie P c) s.D)) P.n)) ?_ ?_
 ·simp only[GS.lieU,sumN,show frac 0 s.D=0 by unfold frac;rw[Rat.div_def];simp];rfl
 ·simp only[dlt hg,d0le,zaf,xad,cond_true,tn,zan (parc P s) hg,parc,zal,zav (show g<9223372036854775807 by omega)]
  by_cases ha:s.at_ g<(P.p g).length
  ·obtain⟨c,c1,c2⟩:=GS.on_ex hP hg ha
   have c3:=GS.on_at c2
   have hU:=lieU_le (P:=P) (s:=s) g c (by omega)
   have hL:=lie_le hP hI c1
   have hk:=k_le hP hg
   have ht:=hP.tot5
   have hk2:=knum_le hP hI hg
   rw[dlt ha]
   simp only[cond_true,d0le,xad,tn,c3,dlt c1,zan (fun c=>rr (frac (s.lieU P g c) s.D)) c1,zaf]
   rw[zgb (by omega),Option.bind_some,d227_rr (num_small hP hI hg).sz2 (zin (by omega)).sz2,Option.bind_some,frac_mul_nat,d175_rr (zbh hP hI (by omega)).sz2 (zbh hP hI hk2).sz2,Option.bind_some,zso hI.D0,zdl]
   have e:lst (upd (fun c=>rr (frac (s.lieU P g c) s.D)) c (rr (frac (s.lieU P g c+P.k g*s.num g) s.D))) P.n=lst (fun c=>rr (frac (s.lieU P (g+1) c) s.D)) P.n:=zax fun i hi=>by
    unfold upd GS.lieU
    by_cases h:i=c
    ·subst h;rw[if_pos rfl,sumN,if_pos c2]
    ·rw[if_neg h,sumN,if_neg fun h4=>h (GS.on_uniq h4 c2),xco]
   rw[e]
  ·rw[nlt (by omega),xac]
   have e:lst (fun c=>rr (frac (s.lieU P g c) s.D)) P.n=lst (fun c=>rr (frac (s.lieU P (g+1) c) s.D)) P.n:=zax fun i hi=>by
    unfold GS.lieU
    rw[sumN,if_neg fun h4=>ha (GS.on_lt h4),xco]
   rw[e]
 ·simp only[nlt (Nat.le_refl P.G),xac];rfl
 have e2:=zlw (k:=k) h2 (by omega) 2
 simp only[show d172 k 2=some (selI (fun i=>decide (s.st i=2)) P.n)from e2,Option.bind_some]
 obtain⟨L,hL⟩:∃L,selN (fun i=>decide (s.st i=2)) P.n=L:=⟨_,rfl⟩
 have hLi:(selI (fun i=>decide (s.st i=2)) P.n).length=L.length:=by rw[←hL,selI,xau]
 have hLl:L.length≤7:=by rw[←hL,zby];have:=zaw (fun i=>decide (s.st i=2)) P.n;omega
 rw[hLi]
 refine zac (fun j=>(k,lst (zdf (fun c=>rr (frac (s.lie P c) s.D)) (L.take j) (rr (P.q:Rat))) P.n,selI (fun i=>decide (s.st i=2)) P.n,(L.length:Int),(j:Int))) L.length ?_ (fun j hj=>?_) (b:=lst (zdf (fun c=>rr (frac (s.lie P c) s.D)) L (rr (P.q:Rat))) P.n) ?_ ?_
 ·rw[xcz,zla];rfl
 ·have hj':j<(selN (fun i=>decide (s.st i=2)) P.n).length:=by rw[hL];exact hj
  have hg:=zft hj'
  rw[hL]at hg
  have hq:=hP.q5
  simp only[dlt hj,d0le,hLi,xad,cond_true,tn,zhx hj',h3,zgb (show P.q≤9223372036854775807 by omega),Option.bind_some,zaf,dlt hg.1,zav (show j<9223372036854775807 by omega),zdl,zjj,hL]
  rw[zbc L 0 hj]
 ·simp only[nlt (Nat.le_refl L.length),xac,xay]
 ·congr 1
  refine zax fun i hi=>?_
  unfold zdf
  rw[vt_eq hI]
  by_cases h:s.st i=2
  ·rw[if_pos (by rw[←hL];exact zbz.2 ⟨hi,decide_eq_true h⟩),decide_eq_true h,zsj hI (.inl h),if_pos rfl,Nat.zero_add]
   unfold GS.bar
   rw[zkj hI.D0]
  ·rw[if_neg (by rw[←hL];intro hm;exact h (of_decide_eq_true (zbz.1 hm).2)),decide_eq_false h]
   simp
end Go.Proofs.YtamgmpngdmnadaaGreat
namespace Go.Proofs.YtamgmpngdmnadaaGreat
open Go Go.X
theorem zrp{α:Type}(l:List α)(x:α){i:Nat}(h:i<l.length):(l.set i x).take (i+1)=l.take i++[x]:=by
 refine xhn fun j=>?_
 by_cases hj:j<i+1
 ·rw[xhm hj]
  by_cases h2:i=j
  ·subst h2
   rw[List.getElem?_set_self h,xcg (by rw[xao];omega),xao,xfh (by omega),Nat.sub_self];rfl
  ·rw[xig h2,xdh (by rw[xao];omega),xhm (by omega)]
 ·rw[xcf (by rw[xao,List.length_set];omega),xcf (by rw[List.length_append,xao];simp;omega)]
theorem zep(g:Int→Bool)(s:List Int){j:Nat}(h:j<s.length):(s.take (j+1)).filter g=(s.take j).filter g++(if g (s.getD j 0)then [s.getD j 0]else []):=by
 rw[zbc s 0 h,xdv]
 congr 1
 rw[xdx]
 cases hg:g (s.getD j 0)<;>rfl
theorem getD_of_drop{s t:List Int}{j:Nat}(h:s.drop j=t.drop j):s.getD j 0=t.getD j 0:=by
 have h1:=zki s j 0 0
 have h2:=zki t j 0 0
 rw[xco]at h1 h2
 rw[←h1,←h2,h]
theorem zmo{s t:List Int}{j:Nat}(h:s.drop j=t.drop j):s.drop (j+1)=t.drop (j+1):=by
 rw[←xii,←xii,h]
theorem d171_eq{s:List Int}{f:Int→Option Bool}{g:Int→Bool}(hf:∀c∈s,f c=some (g c))(hs:s.length≤1000000):d171 s f=some (s.filter fun c=>!g c):=by
 unfold d171
 rw[d84_on hf (by omega)]
 have hle:=zgi g s
 by_cases h:zai g s<s.length
 ·rw[if_pos h,Option.bind_some,decide_eq_false (show ¬((zai g s:Nat):Int)=-1 by omega),xac]
  obtain⟨i0,hi0⟩:∃i0,zai g s=i0:=⟨_,rfl⟩
  have hat:=zfa g s h
  have hlt:=zdo g s
  rw[hi0]at h hat hlt
  rw[hi0,zav (by omega)]
  refine zbv (Q:=fun r=>r=some (s.filter fun c=>!g c)) (fun(m:Nat) (st:(List Int)×(Int→Option Bool)×Int×Int)=>∃(s':List Int) (i:Nat),st=(s',f,(i:Int),((i0+1+m:Nat):Int))∧s'.length=s.length∧i≤i0+m∧i0+1+m≤s.length∧s'.take i=(s.take (i0+1+m)).filter (fun c=>!g c)∧s'.drop (i0+1+m)=s.drop (i0+1+m)) (s.length-(i0+1)) ?_ ?_ ?_
  ·refine⟨s,i0,rfl,rfl,by omega,by omega,?_,rfl⟩
   rw[zep _ s h,hat,show(!true)=false from rfl]
   simp only[xax,if_false,xbq]
   refine(xgy.2 fun x hx=>?_).symm
   obtain⟨k,hk,hkx⟩:=xci hx
   rw[xao]at hk
   have:=hlt k (by omega)
   rw[xab,xae (by omega)]at this
   rw[xfn]at hkx
   rw[←hkx]
   simpa using this
  ·rintro m st hm ⟨s',i,rfl,hl,hi,hmle,ht,hd⟩
   have hj:i0+1+m<s.length:=by omega
   have hgd:=getD_of_drop hd
   have hmem:s.getD (i0+1+m) 0∈s:=zca hj
   simp only[hl,dlt hj,d0le,xad,cond_true,tn,zal,hgd,hf _ hmem,Option.bind_some]
   rw[show i0+1+(m+1)=i0+1+m+1 by omega]
   cases hg:g (s.getD (i0+1+m) 0)with
   |true=>
    refine⟨_,by rw[xam,xac,zav (by omega)],s',i,rfl,hl,by omega,by omega,?_,zmo hd⟩
    rw[zep _ s hj,hg,ht];simp
   |false=>
    refine⟨_,by simp only[xak,cond_true,dlt (show i<s.length by omega),zav (show i<9223372036854775807 by omega),zav (show i0+1+m<9223372036854775807 by omega),xad],s'.set i (s.getD (i0+1+m) 0),i+1,rfl,by simpa using hl,by omega,by omega,?_,?_⟩
    ·rw[zrp _ _ (by omega),zep _ s hj,hg,ht];simp
    ·rw[List.drop_set_of_lt (by omega)];exact zmo hd
  ·rintro st ⟨s',i,rfl,hl,hi,hmle,ht,hd⟩
   have e:i0+1+(s.length-(i0+1))=s.length:=by omega
   rw[e]at ht hd ⊢
   rw[xay]at ht
   refine⟨(s',(i:Int)),by simp only[hl,nlt (Nat.le_refl s.length),xac],?_⟩
   have hil:i≤s'.length:=by omega
   have hlen:(List.take i s'++List.replicate (s'.length-i) 0).length=s'.length:=by simp;omega
   have c1:zck (i:Int) (s'.length:Int) s'.length=true:=by
    unfold zck
    simp only[xaf,xag]
    omega
   have c2:zck 0 (i:Int) s'.length=true:=by
    unfold zck
    simp only[xaf,xag]
    omega
   simp only[c1,cond_true,tn,hlen,c2]
   rw[List.take_append_of_le_length (by rw[xao];omega),List.take_take,Nat.min_self,ht]
 ·rw[if_neg h,Option.bind_some]
  have hall:∀x∈s,g x=false:=fun x hx=>by
   cases hg:g x
   ·rfl
   ·exact absurd ((zhh g s).2 ⟨x,hx,hg⟩) h
  rw[xgy.2 fun x hx=>by rw[hall x hx];rfl]
  rfl
theorem d170_eq {c:CT} {lots:List Int} {tot q:Int} {pc:List (List Int × (Int × (Int × Rt)))} {st:Nat→Nat} {n:Nat} {kp:List Rt} {filled:Nat} {rest:List (List Rt) × (Int × (Int × (Int × (Int × (List RD × List Int)))))}
    {v kk:List Rt} {qu ex su:Rt} {el ex2 ti:List Int} {p:Nat→Bool} (hn:n≤7) (hf:filled≤1000) (hel:el.length≤1000) :
    d170 (c,lots,tot,q,pc,lst (fun i=>(st i:Int)) n,kp,(filled:Int),rest) (v,kk,qu,ex,su,el,ex2,ti) (selI p n)
      =some ((c,lots,tot,q,pc,lst (fun i=>((if p i then 1 else st i:Nat):Int)) n,kp,((filled+cntN p n:Nat):Int),rest),(v,kk,qu,ex,su,zch (el++selI p n),ex2,ti)):=by
  unfold d170
  obtain⟨L,hL⟩:∃L,selN p n=L:=⟨_,rfl⟩
  have hLi:(selI p n).length=L.length:=by rw[←hL,selI,xau]
  have hLc:cntN p n=L.length:=by rw[←hL,zby]
  have hLl:L.length≤7:=by rw[←hLc];have:=zaw p n;omega
  rw[hLi]
  refine zac (fun j=>((c,lots,tot,q,pc,lst (fun i=>((zdf st (L.take j) 1 i:Nat):Int)) n,kp,((filled+j:Nat):Int),rest),(v,kk,qu,ex,su,el++(selI p n).take j,ex2,ti),selI p n,(L.length:Int),(j:Int))) L.length ?_ (fun j hj=>?_) (b:=((c,lots,tot,q,pc,lst (fun i=>((zdf st L 1 i:Nat):Int)) n,kp,((filled+L.length:Nat):Int),rest),(v,kk,qu,ex,su,el++selI p n,ex2,ti))) ?_ ?_
  · rw[xcz,zla,xcz,xbq];rfl
  · have hj':j<(selN p n).length:=by rw[hL];exact hj
    have hg:=zft hj'
    have hsg:=zhx hj'
    rw[hL]at hg hsg
    have hll:(el++(selI p n).take j).length+1≤4294967296:=by rw[List.length_append,xao];omega
    simp only[dlt hj,d0le,hLi,xad,cond_true,tn,hsg,zaf,dlt hg.1,zbn hll,zav (show j<9223372036854775807 by omega),zav (show filled+j<9223372036854775807 by omega),zdl]
    have e:lst (upd (fun i=>((zdf st (L.take j) 1 i:Nat):Int)) (L.getD j 0) 1) n=lst (fun i=>((zdf st (L.take (j+1)) 1 i:Nat):Int)) n:=zax fun i hi=>by
      rw[zbc L 0 hj,←zjj]
      unfold upd
      split<;>rfl
    rw[e,zbc (selI p n) 0 (by rw[hLi];exact hj),hsg,xcj]
    rfl
  · simp only[nlt (Nat.le_refl L.length),xac,xay]
    rw[←hLi,xay]
  · have hd:d98 (el++selI p n)=some (zch (el++selI p n)):=by
      unfold d98
      rw[zbq (by rw[List.length_append];omega)];rfl
    simp only[hd,Option.bind_some,hLc]
    have e:lst (fun i=>((zdf st L 1 i:Nat):Int)) n=lst (fun i=>((if p i then 1 else st i:Nat):Int)) n:=zax fun i hi=>by
     unfold zdf
     congr 1
     by_cases h:p i=true
     · rw[if_pos (by rw[←hL];exact zbz.2 ⟨hi,h⟩),if_pos h]
     · rw[if_neg (by rw[←hL];exact fun hm=>h (zbz.1 hm).2),if_neg h]
    rw[e]
theorem zco(p:Nat→Bool):∀n:Nat,(selI p n).Pairwise (·< ·)
 | 0=>List.Pairwise.nil
 |n+1=>by
  rw[zdg,xcq]
  refine⟨zco p n,by split<;>simp,fun x hx y hy=>?_⟩
  obtain⟨i,rfl,h1,_⟩:=zap.1 hx
  split at hy
  ·simp at hy;subst hy;omega
  ·simp at hy
theorem zru{l m:List Int}(hp:l.Perm m)(hs:m.Pairwise (·≤·)):zch l=m:=by
 unfold zch
 have h1:=xij l fun x y=>decide (x≤y)
 have h2:(l.mergeSort fun x y=>decide (x≤y)).Pairwise (·≤·):=by
  have:=List.pairwise_mergeSort (le:=fun x y:Int=>decide (x≤y)) (fun a b c h1 h2=>decide_eq_true (Int.le_trans (of_decide_eq_true h1) (of_decide_eq_true h2))) (fun a b=>by simp only[xcy,xag];omega) l
  exact this.imp fun h=>of_decide_eq_true h
 exact(h1.trans hp).eq_of_pairwise (fun a b _ _ h3 h4=>Int.le_antisymm h3 h4) h2 hs
theorem sortI_selI(p:Nat→Bool)(n:Nat):zch (selI p n)=selI p n:=zru (xfr _) ((zco p n).imp fun h=>Int.le_of_lt h)
theorem sel_perm{p q:Nat→Bool}(h:∀i,p i=true→q i=false):∀n:Nat,(selI p n++selI q n).Perm (selI (fun i=>p i||q i) n)
 | 0=>xfr _
 |n+1=>by
  have ih:=sel_perm h n
  rw[zdg,zdg,zdg]
  cases hp:p n
  ·simp only[xax,if_false,xbq,xbg]
   cases hq:q n
   ·simp only[xax,if_false,xbq];exact ih
   ·simp only[if_true]
    rw[←xcj]
    exact ih.append_right _
  ·rw[h n hp]
   simp only[xax,if_false,xbq,xbz,if_true]
   refine List.Perm.trans ?_ (ih.append_right [(n:Int)])
   rw[xcj,xcj]
   exact List.Perm.append_left _ xgl
theorem sortI_two{p q:Nat→Bool}(h:∀i,p i=true→q i=false)(n:Nat):zch (selI p n++selI q n)=selI (fun i=>p i||q i) n:=
 zru (sel_perm h n) ((zco _ n).imp fun h=>Int.le_of_lt h)
def ext0(ρ:Int→Rat)(l:List Int):List Int:=l.filter fun i=>l.all fun k=>decide (ρ i≤ρ k)
def sgR(least:Bool)(r:Int→Rat)(c:Int):Rat:=if least then r c else-r c
theorem extr_ext0(least:Bool)(r:Int→Rat)(l:List Int):extr least r l=ext0 (sgR least r) l:=by
 unfold extr ext0 sgR
 refine xdn fun i _=>?_
 congr 1
 funext k
 cases least
 ·simp only[xax,if_false]
  exact xca.2 ⟨fun h=>by grind,fun h=>by grind⟩
 ·rfl
theorem zkn{ρ:Int→Rat}{l:List Int}{x:Int}:x∈ext0 ρ l↔x∈l∧∀k∈l,ρ x≤ρ k:=by
 unfold ext0
 rw[List.mem_filter,xbi]
 simp only[xag]
theorem zpd{ρ:Int→Rat}{l:List Int}(h:l≠ []):ext0 ρ l≠ []:=by
 obtain⟨i,h1,h2⟩:=zfv ρ h
 exact xdu (zkn.2 ⟨h1,h2⟩)
theorem zsr(ρ:Int→Rat):ext0 ρ []=[]:=rfl
theorem zpc(ρ:Int→Rat){l:List Int}(x:Int)(hl:l≠ []):ext0 ρ (l++[x])=if ρ x<ρ ((ext0 ρ l).headD 0)then [x]else if ρ x=ρ ((ext0 ρ l).headD 0)then ext0 ρ l++[x]else ext0 ρ l:=by
 have hy:=zfl (zpd (ρ:=ρ) hl)
 generalize(ext0 ρ l).headD 0=y at hy ⊢
 obtain⟨h1,h2⟩:=zkn.1 hy
 have e:ext0 ρ (l++[x])=l.filter (fun i=>(l.all fun k=>decide (ρ i≤ρ k))&&decide (ρ i≤ρ x))++if(l.all fun k=>decide (ρ x≤ρ k))then [x]else []:=by
  unfold ext0
  rw[xdv]
  congr 1
  ·refine xdn fun i _=>?_
   rw[List.all_append];simp
  ·rw[xdx,List.all_append]
   have:ρ x≤ρ x:=xgh
   simp[this]
 rw[e]
 by_cases c1:ρ x<ρ y
 ·rw[if_pos c1]
  have a1:l.filter (fun i=>(l.all fun k=>decide (ρ i≤ρ k))&&decide (ρ i≤ρ x))=[]:=by
   refine xgg.2 fun i hi hc=>?_
   simp only[xaf,xag]at hc
   have:=h2 i hi
   grind
  have a2:(l.all fun k=>decide (ρ x≤ρ k))=true:=xbi.2 fun k hk=>decide_eq_true (by have:=h2 k hk;grind)
  rw[a1,a2];rfl
 ·rw[if_neg c1]
  have a1:l.filter (fun i=>(l.all fun k=>decide (ρ i≤ρ k))&&decide (ρ i≤ρ x))=ext0 ρ l:=by
   unfold ext0
   refine xdn fun i hi=>?_
   cases hall:(l.all fun k=>decide (ρ i≤ρ k))
   ·rfl
   ·have:=of_decide_eq_true (xbi.1 hall y h1)
    rw[xbj]
    exact decide_eq_true (by grind)
  rw[a1]
  by_cases c2:ρ x=ρ y
  ·rw[if_pos c2]
   have a2:(l.all fun k=>decide (ρ x≤ρ k))=true:=xbi.2 fun k hk=>decide_eq_true (by have:=h2 k hk;grind)
   rw[a2];rfl
  ·rw[if_neg c2]
   have a2:(l.all fun k=>decide (ρ x≤ρ k))=false:=by
    rw[List.all_eq_false]
    exact⟨y,h1,by simp only[xag];grind⟩
   rw[a2];simp
def ordQ(least:Bool)(a b:Rat):Int:=if least then cmpQ a b else 0-cmpQ a b
theorem ordQ_lt(least:Bool)(r:Int→Rat)(x y:Int):decide (ordQ least (r x) (r y)<0)=decide (sgR least r x<sgR least r y):=by
 refine xca.2 ?_
 unfold ordQ sgR cmpQ
 cases least<;>simp only[xax,if_false,if_true]
 ·by_cases h1:r x<r y
  ·rw[if_pos h1];constructor
   ·intro h;omega
   ·intro h;grind
  ·rw[if_neg h1]
   by_cases h2:r x=r y
   ·rw[if_pos h2];constructor
    ·intro h;omega
    ·intro h;grind
   ·rw[if_neg h2];constructor
    ·intro _;grind
    ·intro _;omega
 ·by_cases h1:r x<r y
  ·rw[if_pos h1];constructor
   ·intro h;exact h1
   ·intro h;omega
  ·rw[if_neg h1];constructor
   ·intro h;split at h<;>omega
   ·intro h;exact absurd h h1
theorem ordQ_eq(least:Bool)(r:Int→Rat)(x y:Int):decide (ordQ least (r x) (r y)=0)=decide (sgR least r x=sgR least r y):=by
 refine xca.2 ?_
 unfold ordQ sgR cmpQ
 cases least<;>simp only[xax,if_false,if_true]
 ·by_cases h1:r x<r y
  ·rw[if_pos h1];constructor
   ·intro h;omega
   ·intro h;grind
  ·rw[if_neg h1]
   by_cases h2:r x=r y
   ·rw[if_pos h2];constructor
    ·intro h;grind
    ·intro h;omega
   ·rw[if_neg h2];constructor
    ·intro _;omega
    ·intro _;grind
 ·by_cases h1:r x<r y
  ·rw[if_pos h1];constructor
   ·intro h;omega
   ·intro h;grind
  ·rw[if_neg h1];constructor
   ·intro h;split at h
    ·assumption
    ·omega
   ·intro h;rw[if_pos h]
theorem cmpQ_bounds(a b:Rat):-1≤cmpQ a b∧cmpQ a b≤1:=by
 unfold cmpQ;(repeat' split)<;>omega
end Go.Proofs.YtamgmpngdmnadaaGreat
namespace Go.Proofs.YtamgmpngdmnadaaGreat
open Go Go.X
theorem zhi(v:Int):∀l:List Int,zai (fun x=>decide (v=x)) l=l.idxOf v
 | []=>rfl
 |x::l=>by
  unfold zai
  rw[List.idxOf_cons,zhi v l]
  by_cases h:v=x
  ·subst h;simp
  ·have:(x == v)=false:=by simp;exact fun e=>h e.symm
   rw[this];simp[h]
theorem d210_eq{lots:List Int}(hl:lots.length≤1000){a b:Int}(ha:a∈lots)(hb:b∈lots):d210 a b lots=some ((zct lots a:Int)-(zct lots b:Int)):=by
 unfold d210
 have h1:=List.idxOf_lt_length_iff.2 ha
 have h2:=List.idxOf_lt_length_iff.2 hb
 rw[zpj a (by omega),zpj b (by omega),zhi,zhi,if_pos h1,if_pos h2]
 simp only[Option.bind_some]
 unfold zct
 rw[zbj (by omega) (by omega)]
theorem d211_eq{x:List Int}{cmp:Int→Int→Option Int}{g:Int→Int→Int}(hx:x≠ [])(hl:x.length≤1000)(hc:∀a∈x,∀b∈x,cmp a b=some (g a b)):d211 x cmp=some (x.tail.foldl (fun m c=>if 0<g c m then c else m) (x.headD 0)):=by
 have hp:=xce.2 hx
 unfold d211
 rw[decide_eq_false (show ¬((x.length:Int)<1) by omega),xac,show(decide (0≤0)&&decide ((0:Int)<(x.length:Int)))=true by rw[decide_eq_true (show(0:Int)<(x.length:Int) by omega)];rfl,cond_true]
 have hmem:∀i,(x.tail.take i).foldl (fun m c=>if 0<g c m then c else m) (x.headD 0)∈x:=fun i=>by
  cases x with
  |nil=>exact absurd rfl hx
  |cons y x=>
   simp only[List.tail_cons,xgc]
   rcases zkl (fun m c=>if 0<g c m then c else m) (fun a b=>by split<;>simp) (x.take i) y with h|h
   ·rw[h];simp
   ·exact xah _ (xbv h)
 refine zac (fun i=>(x,cmp,(x.tail.take i).foldl (fun m c=>if 0<g c m then c else m) (x.headD 0),((i+1:Nat):Int))) (x.length-1) ?_ (fun i hi=>?_) (b:=x.tail.foldl (fun m c=>if 0<g c m then c else m) (x.headD 0)) ?_ rfl
 ·rw[xcz,xgj]
  cases x with
  |nil=>exact absurd rfl hx
  |cons y x=>rfl
 ·have hlt:i+1<x.length:=by omega
  have hxm:x.getD (i+1) 0∈x:=zca hlt
  have ht:x.tail.getD i 0=x.getD (i+1) 0:=by
   cases x with
   |nil=>exact absurd rfl hx
   |cons y x=>rfl
  have hs:x.tail.take (i+1)=x.tail.take i++[x.getD (i+1) 0]:=by rw[zbc x.tail 0 (by rw[xhu];omega),ht]
  simp only[dlt hlt,d0le,xad,cond_true,tn,zal,hc _ hxm _ (hmem i),Option.bind_some,zav (show i+1<9223372036854775807 by omega),hs,List.foldl_append,xeg,xgj]
  generalize(x.tail.take i).foldl (fun m c=>if 0<g c m then c else m) (x.headD 0)=m
  by_cases h:0<g (x.getD (i+1) 0) m
  ·rw[decide_eq_true h,cond_true,if_pos h]
  ·rw[decide_eq_false h,xac,if_neg h]
 ·have e:x.length-1+1=x.length:=by omega
  rw[e]
  simp only[nlt (Nat.le_refl x.length),xac]
  rw[xav (by rw[xhu];omega)]
theorem d212_eq{x:List Int}{cmp:Int→Int→Option Int}{g:Int→Int→Int}(hx:x≠ [])(hl:x.length≤1000)(hc:∀a∈x,∀b∈x,cmp a b=some (g a b)):d212 x cmp=some (x.tail.foldl (fun m c=>if g c m<0 then c else m) (x.headD 0)):=by
 have hp:=xce.2 hx
 unfold d212
 rw[decide_eq_false (show ¬((x.length:Int)<1) by omega),xac,show(decide (0≤0)&&decide ((0:Int)<(x.length:Int)))=true by rw[decide_eq_true (show(0:Int)<(x.length:Int) by omega)];rfl,cond_true]
 have hmem:∀i,(x.tail.take i).foldl (fun m c=>if g c m<0 then c else m) (x.headD 0)∈x:=fun i=>by
  cases x with
  |nil=>exact absurd rfl hx
  |cons y x=>
   simp only[List.tail_cons,xgc]
   rcases zkl (fun m c=>if g c m<0 then c else m) (fun a b=>by split<;>simp) (x.take i) y with h|h
   ·rw[h];simp
   ·exact xah _ (xbv h)
 refine zac (fun i=>(x,cmp,(x.tail.take i).foldl (fun m c=>if g c m<0 then c else m) (x.headD 0),((i+1:Nat):Int))) (x.length-1) ?_ (fun i hi=>?_) (b:=x.tail.foldl (fun m c=>if g c m<0 then c else m) (x.headD 0)) ?_ rfl
 ·rw[xcz,xgj]
  cases x with
  |nil=>exact absurd rfl hx
  |cons y x=>rfl
 ·have hlt:i+1<x.length:=by omega
  have hxm:x.getD (i+1) 0∈x:=zca hlt
  have ht:x.tail.getD i 0=x.getD (i+1) 0:=by
   cases x with
   |nil=>exact absurd rfl hx
   |cons y x=>rfl
  have hs:x.tail.take (i+1)=x.tail.take i++[x.getD (i+1) 0]:=by rw[zbc x.tail 0 (by rw[xhu];omega),ht]
  simp only[dlt hlt,d0le,xad,cond_true,tn,zal,hc _ hxm _ (hmem i),Option.bind_some,zav (show i+1<9223372036854775807 by omega),hs,List.foldl_append,xeg,xgj]
  generalize(x.tail.take i).foldl (fun m c=>if g c m<0 then c else m) (x.headD 0)=m
  by_cases h:g (x.getD (i+1) 0) m<0
  ·rw[decide_eq_true h,cond_true,if_pos h]
  ·rw[decide_eq_false h,xac,if_neg h]
 ·have e:x.length-1+1=x.length:=by omega
  rw[e]
  simp only[nlt (Nat.le_refl x.length),xac]
  rw[xav (by rw[xhu];omega)]
structure LotsOK(n:Nat)(lots:List Int):Prop where
 n1:1≤n
 n7:n≤7
 len:lots.length=n
 within:∀c∈lots,∃i:Nat,c=(i:Int)∧i<n
 nodup:lots.Nodup
theorem LotsOK.mem{n:Nat}{lots:List Int}(h:LotsOK n lots){i:Nat}(hi:i<n):(i:Int)∈lots:=by
 refine xep fun hni=>?_
 have:=zka (n:=n) ((i:Int)::lots) (xfj.2 ⟨hni,h.nodup⟩) (fun x hx=>by
  rcases xan.1 hx with rfl|hx
  ·omega
  ·obtain⟨j,rfl,hj⟩:=h.within x hx;omega)
 rw[xat,h.len]at this
 omega
theorem d208_eq{n:Nat}{ties:Int}{tied lots:List Int}(h1:1≤ties)(h3:ties≤3)(hl:LotsOK n lots)(ht:tied≠ [])(hts:tied.Pairwise (·< ·))(htb:∀c∈tied,∃i:Nat,c=(i:Int)∧i<n)(htl:tied.length≤1000):d208 ties tied lots=some true:=by
 have hn1:=hl.n1
 have hn7:=hl.n7
 have hp:=xce.2 ht
 unfold d208
 rw[zal]
 simp only[hl.len,decide_eq_false (show ¬ties<1 by omega),decide_eq_false (show ¬3<ties by omega),decide_eq_false (show ¬(n:Int)<1 by omega),decide_eq_false (show ¬7<(n:Int) by omega),decide_eq_false (show ¬(tied.length:Int)=0 by omega),xak,cond_true,xac]
 refine zac (fun i=>(tied,(n:Int),lst (fun v=>decide ((v:Int)∈lots.take i)) 7,lots,(n:Int),(i:Int))) n ?_ (fun i hi=>?_) (b:=.inl (tied,(n:Int))) ?_ ?_
 ·simp only[xcz,List.not_mem_nil,xbt];rfl
 ·have hil:i<lots.length:=by rw[hl.len];exact hi
  obtain⟨c,hc,hcn⟩:=hl.within _ (zca hil)
  have hnot:decide ((c:Int)∈lots.take i)=false:=decide_eq_false fun hm=>by
   have:=hl.nodup.sublist (xhk (i+1) lots)
   rw[zbc lots 0 hil,hc,xew]at this
   exact this.2.2 _ hm _ (by simp) rfl
  simp only[dlt hi,hl.len,d0le,xad,cond_true,tn,zal,hc,decide_eq_false (show ¬(c:Int)<0 by omega),decide_eq_false (show ¬(n:Int)≤(c:Int) by omega),xak,show decide ((c:Int)<7)=true from decide_eq_true (by omega),zan (fun v=>decide ((v:Int)∈lots.take i)) (show c<7 by omega),hnot,xac,zdl,zav (show i<9223372036854775807 by omega)]
  have e:lst (upd (fun v=>decide ((v:Int)∈lots.take i)) c true) 7=lst (fun v=>decide ((v:Int)∈lots.take (i+1))) 7:=zax fun v hv=>by
   rw[zbc lots 0 hil,hc]
   unfold upd
   by_cases hvc:v=c
   ·subst hvc;simp
   ·rw[if_neg hvc]
    refine xca.2 ?_
    rw[List.mem_append,xbm]
    exact⟨.inl,fun hm=>hm.resolve_right fun e=>hvc (xec.1 e)⟩
  rw[e]
 ·simp only[nlt (Nat.le_refl n),xac]
 ·simp only
  refine zac (fun i=>(tied,(n:Int),tied,(tied.length:Int),(i:Int))) tied.length rfl (fun i hi=>?_) (b:=.inl ()) ?_ rfl
  ·obtain⟨c,hc,hcn⟩:=htb _ (zca hi)
   simp only[dlt hi,d0le,xad,cond_true,tn,zal,hc,decide_eq_false (show ¬(c:Int)<0 by omega),decide_eq_false (show ¬(n:Int)≤(c:Int) by omega),xak,zav (show i<9223372036854775807 by omega)]
   cases i with
   |zero=>rfl
   |succ i=>
    have hlt:tied.getD i 0<tied.getD (i+1) 0:=by
     rw[xab,xae (by omega),xab,xae hi]
     exact xeo.1 hts i (i+1) (by omega) hi (by omega)
    rw[hc]at hlt
    simp only[show decide ((0:Int)<((i+1:Nat):Int))=true from decide_eq_true (by omega),cond_true,zrl (show i<9223372036854775807 by omega),d0le,dlt (show i<tied.length by omega),xad,tn,decide_eq_false (show ¬(c:Int)≤tied.getD i 0 by omega),xac]
  ·simp only[nlt (Nat.le_refl tied.length),xac]
def RndOK(n:Nat)(r:List Rat):Prop:=r.length=n∧∀q∈r,Bz eB q
theorem map_getD_rr{r:List Rat}{c:Nat}(h:c<r.length):(r.map rr).getD c (false,[],[])=rr (r.getD c 0):=by
 rw[xab,xbr,xae h,xab,xae h];rfl
theorem zbi{α:Type}{l:List α}{d:α}{i:Nat}(h:i<l.length):l.getD i d∈l:=by
 rw[xab,xae h]
 exact xbe h
theorem RndOK.bz{n:Nat}{r:List Rat}(h:RndOK n r){c:Nat}(hc:c<n):Bz eB (zcf r (c:Int)):=h.2 _ (zbi (by rw[h.1];exact hc))
theorem d262_eq{n:Nat}{r:List Rat}(h:RndOK n r){c:Nat}(hc:c<n):d262 (r.map rr) (c:Int)=some (rr (zcf r (c:Int))):=by
 have hc':c<r.length:=by rw[h.1];exact hc
 unfold d262
 rw[xau,dlt hc']
 simp only[cond_true,d0le,xad,tn,map_getD_rr hc']
 rfl
theorem w_ord(least:Bool)(a b:Rat):(bif !least then w (0-cmpQ a b)else cmpQ a b)=ordQ least a b:=by
 have:=cmpQ_bounds a b
 unfold ordQ
 cases least
 ·rw[xak,cond_true,zbj (by omega) (by omega)];rfl
 ·rfl
theorem zix(l:List Int):l.getD 0 0=l.headD 0:=by cases l<;>rfl
theorem znh(ρ:Int→Rat)(l:List Int):(ext0 ρ l).length≤l.length:=xfk _ _
theorem d209_eq{n:Nat}{r:List Rat}(h:RndOK n r){l:List Int}(hl:∀c∈l,∃i:Nat,c=(i:Int)∧i<n)(hll:l.length≤1000)(least:Bool):d209 l (r.map rr) least=some (extr least (zcf r) l):=by
 rw[extr_ext0]
 unfold d209
 refine zac (fun i=>(r.map rr,least,ext0 (sgR least (zcf r)) (l.take i),l,(l.length:Int),(i:Int))) l.length rfl (fun i hi=>?_) (b:=ext0 (sgR least (zcf r)) l) ?_ rfl
 ·obtain⟨c,hc,hcn⟩:=hl _ (zca hi)
  have hol:=znh (sgR least (zcf r)) (l.take i)
  rw[xao]at hol
  simp only[dlt hi,d0le,xad,cond_true,tn,zal,hc,zav (show i<9223372036854775807 by omega)]
  rw[zbc l 0 hi,hc]
  by_cases hi0:l.take i=[]
  ·rw[hi0,zsr]
   have e:ext0 (sgR least (zcf r)) ([]++[(c:Int)])=[(c:Int)]:=by
    have:sgR least (zcf r) (c:Int)≤sgR least (zcf r) (c:Int):=xgh
    simp[ext0,xdx,this]
   rw[e]
   simp only[show decide ((0:Int)<(([]:List Int).length:Int))=false from rfl,xac,show decide ((-1:Int)≤0)=true from rfl,cond_true,zbn (l:=([]:List Int)) (d:=(c:Int)) (by simp)]
   rfl
  ·have hne:=zpd (ρ:=sgR least (zcf r)) hi0
   have hpos:=xce.2 hne
   obtain⟨y,hy⟩:∃y,(ext0 (sgR least (zcf r)) (l.take i)).headD 0=y:=⟨_,rfl⟩
   have hym:y∈l:=by
    have:=zfl hne
    rw[hy]at this
    exact xbv (zkn.1 this).1
   obtain⟨d,rfl,hdn⟩:=hl _ hym
   rw[zpc _ _ hi0,hy]
   generalize ext0 (sgR least (zcf r)) (l.take i)=out at *
   have hlt1:=ordQ_lt least (zcf r) (c:Int) (d:Int)
   have heq1:=ordQ_eq least (zcf r) (c:Int) (d:Int)
   have hg0:(decide (0≤0)&&decide ((0:Int)<(out.length:Int)))=true:=by
    rw[decide_eq_true (show(0:Int)<(out.length:Int) by omega)];rfl
   have hg1:decide ((0:Int)<(out.length:Int))=true:=decide_eq_true (by omega)
   have hcut:zck 0 0 out.length=true:=by
    unfold zck
    simp only[xaf,xag]
    omega
   have hb:=w_ord least (zcf r (c:Int)) (zcf r (d:Int))
   rw[hg0]
   simp only[hg1,cond_true,zix,hy,d262_eq h hcn,d262_eq h hdn,Option.bind_some,d174_rr (h.bz hcn).sz2 (h.bz hdn).sz2,hcut,xcz]
   have hcl:decide ((([]:List Int).length:Int)+(([(c:Int)]:List Int).length:Int)≤LIM)=true:=zbn (l:=([]:List Int)) (d:=(c:Int)) (by simp)
   have hol2:=zbn (l:=out) (d:=(c:Int)) (by omega)
   have key:∀o:Int,o=ordQ least (zcf r (c:Int)) (zcf r (d:Int))→(bif decide (o<0)then
     bif decide (o≤0)then
      bif decide ((([]:List Int).length:Int)+(([(c:Int)]:List Int).length:Int)≤LIM)then(some (Sum.inl (r.map rr,least,([]:List Int)++[(c:Int)],l,(l.length:Int),((i+1:Nat):Int))):Option ((List Rt×Bool×List Int×List Int×Int×Int)⊕List Int))else none
     else some (Sum.inl (r.map rr,least,([]:List Int),l,(l.length:Int),((i+1:Nat):Int)))
    else
     bif decide (o≤0)then
      bif decide ((out.length:Int)+(([(c:Int)]:List Int).length:Int)≤LIM)then some (Sum.inl (r.map rr,least,out++[(c:Int)],l,(l.length:Int),((i+1:Nat):Int)))else none
     else some (Sum.inl (r.map rr,least,out,l,(l.length:Int),((i+1:Nat):Int))))=some (.inl (r.map rr,least,if sgR least (zcf r) (c:Int)<sgR least (zcf r) (d:Int)then [(c:Int)]else if sgR least (zcf r) (c:Int)=sgR least (zcf r) (d:Int)then out++[(c:Int)]else out,l,(l.length:Int),((i+1:Nat):Int))):=by
    intro o ho
    rw[←ho]at hlt1 heq1
    rw[hcl,hol2]
    by_cases c1:o<0
    ·rw[decide_eq_true c1]at hlt1
     rw[if_pos (of_decide_eq_true hlt1.symm),decide_eq_true c1,decide_eq_true (show o≤0 by omega)];rfl
    ·rw[decide_eq_false c1]at hlt1
     rw[if_neg (xdf hlt1.symm),decide_eq_false c1]
     by_cases c2:o=0
     ·rw[decide_eq_true c2]at heq1
      rw[if_pos (of_decide_eq_true heq1.symm),decide_eq_true (show o≤0 by omega)];rfl
     ·rw[decide_eq_false c2]at heq1
      rw[if_neg (xdf heq1.symm),decide_eq_false (show ¬o≤0 by omega)];rfl
   cases least
   ·rw[xak,cond_true]at hb ⊢
    exact key _ hb
   ·rw[xam,xac]at hb ⊢
    exact key _ hb
 ·simp only[nlt (Nat.le_refl l.length),xac,xay]
theorem zqf:∀{least:Bool} {rs:List (List Rat)} {l:List Int},l.length≤1→tieL least rs l=l
 |_,[],_,_=>rfl
 |least,r::rs,l,h=>by
  show tieL least rs (if 1<l.length then extr least (zcf r) l else l)=l
  rw[if_neg (by omega)]
  exact zqf h
theorem tieL_snoc(least:Bool)(rs:List (List Rat))(r:List Rat)(l:List Int):tieL least (rs++[r]) l=if 1<(tieL least rs l).length then extr least (zcf r) (tieL least rs l)else tieL least rs l:=by
 unfold tieL
 rw[List.foldl_append];rfl
theorem tieL_append(least:Bool)(rs rs':List (List Rat))(l:List Int):tieL least (rs++rs') l=tieL least rs' (tieL least rs l):=by
 unfold tieL
 rw[List.foldl_append]
theorem extr_len(least:Bool)(r:Int→Rat)(l:List Int):(extr least r l).length≤l.length:=xfk _ _
theorem zrn:∀(least:Bool) (rs:List (List Rat)) (l:List Int),(tieL least rs l).length≤l.length
 |_,[],_=>Nat.le_refl _
 |least,r::rs,l=>by
  show(tieL least rs (if 1<l.length then extr least (zcf r) l else l)).length≤_
  refine Nat.le_trans (zrn least rs _) ?_
  split
  ·exact extr_len _ _ _
  ·exact Nat.le_refl _
theorem d150_eq{n:Nat}{ties:Int}{E:List (List Rat)}{tied lots:List Int}{least:Bool}(h1:1≤ties)(h3:ties≤3)(hl:LotsOK n lots)(hE:∀r∈E,RndOK n r)(hEl:E.length≤1000000)(ht:tied≠ [])(hts:tied.Pairwise (·< ·))(htb:∀c∈tied,∃i:Nat,c=(i:Int)∧i<n)(htl:tied.length≤1000) :
  ∃b,d150 ties (E.map (List.map rr)) tied lots least=some (tieB ties E tied lots least,b,E.map (List.map rr)):=by
 have hcl:d78 tied=some tied:=by unfold d78;rw[zbq (by omega)];rfl
 unfold d150
 rw[d208_eq h1 h3 hl ht hts htb htl]
 simp only[Option.bind_some,xam,xac,hcl]
 have hfin:∀left:List Int,left=tieL least (zba ties E) tied→∃b,(bif (decide ((left.length:Int)=1))then
   bif (decide (0≤0)&&decide (0<(left.length:Int)))then
    some ((List.getD left 0 0),false,E.map (List.map rr))
   else none
  else
   bif least then
    (d211 left (fun a a_1=>d210 a a_1 lots)).bind fun r_3=>
    some (r_3,true,E.map (List.map rr))
   else
    (d212 left (fun a_2 a_3=>d210 a_2 a_3 lots)).bind fun r_4=>
    some (r_4,true,E.map (List.map rr)))=some (tieB ties E tied lots least,b,E.map (List.map rr)):=by
  intro left hleft
  have hne:left≠ []:=by rw[hleft];exact tieL_ne ht
  have hlen:left.length≤tied.length:=by rw[hleft];exact zrn _ _ _
  have hlot:∀a∈left,a∈lots:=fun a ha=>by
   rw[hleft]at ha
   obtain⟨i,rfl,hi⟩:=htb _ (zjr ha)
   exact hl.mem hi
  have hll:=hl.len
  have hn7:=hl.n7
  unfold tieB
  simp only[←hleft]
  by_cases hone:left.length=1
  ·refine⟨false,?_⟩
   rw[if_pos hone,hone,zix];rfl
  ·refine⟨true,?_⟩
   rw[if_neg hone,decide_eq_false (show ¬(left.length:Int)=1 by omega),xac]
   have hc:∀a∈left,∀b∈left,d210 a b lots=some ((zct lots a:Int)-(zct lots b:Int)):=fun a ha b hb=>d210_eq (by omega) (hlot a ha) (hlot b hb)
   cases least
   ·rw[xac,d212_eq hne (by omega) hc,Option.bind_some]
    unfold byLot
    simp only[xax,if_false]
    congr 3
    funext m c
    by_cases h:zct lots c<zct lots m
    ·rw[if_pos h,if_pos (by omega)]
    ·rw[if_neg h,if_neg (by omega)]
   ·rw[cond_true,d211_eq hne (by omega) hc,Option.bind_some]
    unfold byLot
    simp only[if_true]
    congr 3
    funext m c
    by_cases h:zct lots m<zct lots c
    ·rw[if_pos h,if_pos (by omega)]
    ·rw[if_neg h,if_neg (by omega)]
 refine zes (Q:=fun r=>∃b,r=some (tieB ties E tied lots least,b,E.map (List.map rr))) (fun(M:Nat) (st:Int×(List (List Rt))×Bool×(List Int)×(List Int)×Int)=>∃i:Nat,st=(ties,E.map (List.map rr),least,lots,tieL least ((zba ties E).take i) tied,(i:Int))∧i+M=E.length) E.length ⟨0,by rw[xcz];rfl,by omega⟩ ?_
 rintro M st ⟨i,rfl,hM⟩
 have hsub:∀c∈tieL least ((zba ties E).take i) tied,∃j:Nat,c=(j:Int)∧j<n:=fun c hc=>htb c (zjr hc)
 have hlen:=zrn least ((zba ties E).take i) tied
 obtain⟨left,hleft⟩:∃left,tieL least ((zba ties E).take i) tied=left:=⟨_,rfl⟩
 rw[hleft]at hsub hlen
 have hEm:(E.map (List.map rr)).length=E.length:=xau ..
 simp only[hleft,hEm,zal]
 by_cases c3:ties=3
 ·have hr:zba ties E=[]:=by unfold zba;rw[if_pos c3]
  have hq:left=tieL least (zba ties E) tied:=by rw[←hleft,hr,List.take_nil]
  have hd3:(!decide (ties=3))=false:=by rw[decide_eq_true c3];rfl
  refine .inr ⟨(E.map (List.map rr),least,lots,left),?_,hfin left hq⟩
  rw[hd3]
  simp only[xac]
  cases decide ((i:Int)<(E.length:Int))<;>cases decide (1<(left.length:Int))<;>rfl
 ·have hd3:(!decide (ties=3))=true:=by rw[decide_eq_false c3];rfl
  have hrl:(zba ties E).length=E.length:=by
   unfold zba
   rw[if_neg c3]
   split
   ·exact List.length_reverse
   ·rfl
  rw[hd3]
  rcases xch M with h0|h0
  ·have hq:left=tieL least (zba ties E) tied:=by rw[←hleft,xav (by omega)]
   refine .inr ⟨(E.map (List.map rr),least,lots,left),?_,hfin left hq⟩
   simp only[nlt (show E.length≤i by omega),xac]
  ·have hiE:i<E.length:=by omega
   by_cases hl1:1<left.length
   ·have hg:decide ((1:Int)<(left.length:Int))=true:=decide_eq_true (by omega)
    have key:∀(r:List Rat) (z:List Rt),r∈E→(zba ties E).getD i []=r→z=r.map rr→d209 left z least=some (tieL least ((zba ties E).take (i+1)) tied):=by
     rintro r z hr hri rfl
     rw[d209_eq (hE r hr) hsub (by omega),zbc (zba ties E) [] (by omega),tieL_snoc,hleft,hri,if_pos hl1]
    refine .inl ⟨(ties,E.map (List.map rr),least,lots,tieL least ((zba ties E).take (i+1)) tied,((i+1:Nat):Int)),M-1,?_,by omega,i+1,rfl,by omega⟩
    simp only[dlt hiE,hg,cond_true,d0le,xad,tn,zav (show i<9223372036854775807 by omega)]
    by_cases c1:ties=1
    ·have i1:w (w ((E.length:Int)-1)-(i:Int))=((E.length-1-i:Nat):Int):=by
      rw[zbj (n:=(E.length:Int)-1) (by omega) (by omega),zbj (by omega) (by omega)];omega
     have hgr:(zba ties E).getD i []=E.getD (E.length-1-i) []:=by
      unfold zba
      rw[if_neg c3,if_pos c1]
      rw[xab,List.getElem?_reverse hiE,xab]
     have hz:(E.map (List.map rr)).getD (E.length-1-i) []=(E.getD (E.length-1-i) []).map rr:=by
      rw[xab,xbr,xae (by omega),xab,xae (by omega)];rfl
     simp only[decide_eq_true c1,cond_true,i1,d0le,dlt (show E.length-1-i<E.length by omega),xad,tn]
     rw[key _ _ (zbi (by omega)) hgr hz];rfl
    ·have hgr:(zba ties E).getD i []=E.getD i []:=by
      unfold zba
      rw[if_neg c3,if_neg c1]
     have hz:(E.map (List.map rr)).getD i []=(E.getD i []).map rr:=by
      rw[xab,xbr,xae hiE,xab,xae hiE];rfl
     simp only[decide_eq_false c1,xac]
     rw[key _ _ (zbi (by omega)) hgr hz];rfl
   ·have hg:decide ((1:Int)<(left.length:Int))=false:=decide_eq_false (by omega)
    have hq:left=tieL least (zba ties E) tied:=by
     have e:=tieL_append least ((zba ties E).take i) ((zba ties E).drop i) tied
     rw[xcx,hleft,zqf (l:=left) (by omega)]at e
     exact e.symm
    refine .inr ⟨(E.map (List.map rr),least,lots,left),?_,hfin left hq⟩
    simp only[dlt hiE,hg,cond_true,xac]
end Go.Proofs.YtamgmpngdmnadaaGreat
namespace Go.Proofs.YtamgmpngdmnadaaGreat
open Go Go.X
set_option maxHeartbeats 1000000 in
theorem d232_eq{c:CT}{lots:List Int}{tot q:Int}{pc:List (List Int×(Int×(Int×Rt)))}{stl:List Int}{kp:List Rt}{filled:Int}{E:List (List Rat)}{rest:Int×(Int×(Int×(Int×(List RD×List Int))))}
  {n:Nat} {v:Nat→Rat} {kk:List Rt} {qu ex su:Rt} {el ex2 ti cls:List Int} {ties:Int} {least:Bool} (hties:c.2.2.2.2.2.2.1=ties) (h1:1≤ties) (h3:ties≤3) (hl:LotsOK n lots) (hE:∀r∈E,RndOK n r) (hEl:E.length≤1000000)
  (hv:∀i,i<n→Bz eB (v i)) (hcn:cls≠ []) (hcs:cls.Pairwise (·< ·)) (hcb:∀x∈cls,∃i:Nat,x=(i:Int)∧i<n) (hcl:cls.length≤1000) :
  d232 (c,lots,tot,q,pc,stl,kp,filled,E.map (List.map rr),rest) (lst (fun i=>rr (v i)) n,kk,qu,ex,su,el,ex2,ti) cls least
   =some (if(extr least (fun x=>v x.toNat) cls).length=1 then(extr least (fun x=>v x.toNat) cls).headD 0 else tieB ties E (extr least (fun x=>v x.toNat) cls) lots least,(c,lots,tot,q,pc,stl,kp,filled,E.map (List.map rr),rest),(lst (fun i=>rr (v i)) n,kk,qu,ex,su,el,ex2,if(extr least (fun x=>v x.toNat) cls).length=1 then ti else extr least (fun x=>v x.toNat) cls)):=by
 unfold d232
 obtain⟨K,hK⟩:∃K:KT,(c,lots,tot,q,pc,stl,kp,filled,E.map (List.map rr),rest)=K:=⟨_,rfl⟩
 obtain⟨R,hR⟩:∃R:RD,(lst (fun i=>rr (v i)) n,kk,qu,ex,su,el,ex2,ti)=R:=⟨_,rfl⟩
 have hR1:R.1=lst (fun i=>rr (v i)) n:=by rw[←hR]
 rw[hK,hR]
 refine zac (fun i=>(K,R,least,ext0 (sgR least (fun x=>v x.toNat)) (cls.take i),cls,(cls.length:Int),(i:Int))) cls.length rfl (fun i hi=>?_) (b:=(K,R,least,ext0 (sgR least (fun x=>v x.toNat)) cls)) ?_ ?_
 ·obtain⟨c,hc,hcn⟩:=hcb _ (zca hi)
  have hol:=znh (sgR least (fun x=>v x.toNat)) (cls.take i)
  rw[xao]at hol
  simp only[dlt hi,d0le,xad,cond_true,tn,zal,hc,zav (show i<9223372036854775807 by omega)]
  rw[zbc cls 0 hi,hc]
  by_cases hi0:cls.take i=[]
  ·rw[hi0,zsr]
   have e:ext0 (sgR least (fun x=>v x.toNat)) ([]++[(c:Int)])=[(c:Int)]:=by
    have:sgR least (fun x=>v x.toNat) (c:Int)≤sgR least (fun x=>v x.toNat) (c:Int):=xgh
    simp[ext0,xdx,this]
   rw[e]
   rfl
  ·have hne:=zpd (ρ:=sgR least (fun x=>v x.toNat)) hi0
   have hpos:=xce.2 hne
   obtain⟨y,hy⟩:∃y,(ext0 (sgR least (fun x=>v x.toNat)) (cls.take i)).headD 0=y:=⟨_,rfl⟩
   have hym:y∈cls:=by
    have:=zfl hne
    rw[hy]at this
    exact xbv (zkn.1 this).1
   obtain⟨d,rfl,hdn⟩:=hcb _ hym
   rw[zpc _ _ hi0,hy]
   generalize ext0 (sgR least (fun x=>v x.toNat)) (cls.take i)=out at *
   have hlt1:ordQ least (v c) (v d)<0↔sgR least (fun x=>v x.toNat) (c:Int)<sgR least (fun x=>v x.toNat) (d:Int):=xca.1 (ordQ_lt least (fun x=>v x.toNat) (c:Int) (d:Int))
   have heq1:ordQ least (v c) (v d)=0↔sgR least (fun x=>v x.toNat) (c:Int)=sgR least (fun x=>v x.toNat) (d:Int):=xca.1 (ordQ_eq least (fun x=>v x.toNat) (c:Int) (d:Int))
   have hg0:(decide (0≤0)&&decide ((0:Int)<(out.length:Int)))=true:=by
    rw[decide_eq_true (show(0:Int)<(out.length:Int) by omega)];rfl
   have hg1:decide ((0:Int)<(out.length:Int))=true:=decide_eq_true (by omega)
   have hb:=w_ord least (v c) (v d)
   rw[hg0]
   have hol2:=zbn (l:=out) (d:=(c:Int)) (by omega)
   simp only[hg1,cond_true,zix,hy,d0le,tn,hR1,zaf,dlt hcn,dlt hdn,xad,zan (fun i=>rr (v i)) hcn,zan (fun i=>rr (v i)) hdn,d174_rr (hv c hcn).sz2 (hv d hdn).sz2,Option.bind_some,hol2]
   have key:∀o:Int,o=ordQ least (v c) (v d)→(bif decide (o<0)then
     (some (Sum.inl (K,R,least,[(c:Int)],cls,(cls.length:Int),((i+1:Nat):Int))):Option ((KT×RD×Bool×List Int×List Int×Int×Int)⊕(KT×RD×Bool×List Int)))
    else
     bif decide (o=0)then some (Sum.inl (K,R,least,out++[(c:Int)],cls,(cls.length:Int),((i+1:Nat):Int)))
     else some (Sum.inl (K,R,least,out,cls,(cls.length:Int),((i+1:Nat):Int))))=some (.inl (K,R,least,if sgR least (fun x=>v x.toNat) (c:Int)<sgR least (fun x=>v x.toNat) (d:Int)then [(c:Int)]else if sgR least (fun x=>v x.toNat) (c:Int)=sgR least (fun x=>v x.toNat) (d:Int)then out++[(c:Int)]else out,cls,(cls.length:Int),((i+1:Nat):Int))):=by
    intro o ho
    rw[←ho]at hlt1 heq1
    by_cases c1:o<0
    ·rw[if_pos (hlt1.1 c1),decide_eq_true c1];rfl
    ·rw[if_neg fun h=>c1 (hlt1.2 h),decide_eq_false c1]
     by_cases c2:o=0
     ·rw[if_pos (heq1.1 c2),decide_eq_true c2];rfl
     ·rw[if_neg fun h=>c2 (heq1.2 h),decide_eq_false c2];rfl
   cases least
   ·rw[xak,cond_true]at hb ⊢
    exact key _ hb
   ·rw[xam,xac]at hb ⊢
    exact key _ hb
 ·simp only[nlt (Nat.le_refl cls.length),xac,xay]
 ·rw[←extr_ext0]
  have htne:extr least (fun x=>v x.toNat) cls≠ []:=extr_ne hcn
  have htl:=extr_len least (fun x=>v x.toNat) cls
  have hts:(extr least (fun x=>v x.toNat) cls).Pairwise (·< ·):=hcs.sublist List.filter_sublist
  have htb:∀x∈extr least (fun x=>v x.toNat) cls,∃i:Nat,x=(i:Int)∧i<n:=fun x hx=>hcb x (extr_sub hx)
  generalize extr least (fun x=>v x.toNat) cls=tied at *
  by_cases hone:tied.length=1
  ·simp only[if_pos hone]
   rw[hone,zix,←hR];rfl
  ·simp only[if_neg hone]
   rw[decide_eq_false (show ¬(tied.length:Int)=1 by omega),xac]
   obtain⟨b,hb⟩:=d150_eq (least:=least) h1 h3 hl hE hEl htne hts htb (by omega)
   simp only[←hK,←hR,hties,hb,Option.bind_some]
theorem zkk{a b c d:Nat}(hb:0<b)(hd:0<d):frac a b*frac c d=frac (a*c) (b*d):=by
 unfold frac
 have h1:(b:Rat)≠0:=by
  have:(0:Rat)<(b:Rat):=by exact_mod_cast hb
  intro e
  rw[e]at this
  exact absurd this (by decide)
 have h2:(d:Rat)≠0:=by
  have:(0:Rat)<(d:Rat):=by exact_mod_cast hd
  intro e
  rw[e]at this
  exact absurd this (by decide)
 rw[xhy,xhy]
 grind
theorem frac_cancel{a b c:Nat}(hb:0<b)(hc:0<c):frac (a*c) (b*c)=frac a b:=by
 rw[←zkk hb hc]
 have:frac c c=1:=by
  have:=zkj (q:=1) hc
  rw[Nat.one_mul]at this
  exact this
 rw[this,Rat.mul_one]
theorem nxt_congr{p:List Int}{st st':Nat→Nat}(h:∀i,st i=0↔st' i=0)(k:Nat):nxt p st k=nxt p st' k:=by
 unfold nxt
 congr 3
 funext c
 exact xca.2 (not_congr (h _))
theorem upd_upd{α:Type}(f:Nat→α)(i:Nat)(x y:α):upd (upd f i x) i y=upd f i y:=by
 funext j;unfold upd;split<;>rfl
variable {P:GP} {s:GS}
set_option maxHeartbeats 1000000 in
theorem d234_eq(hP:P.OK)(hI:GI P s)(hG:P.G≤1000000){c:CT}{lots:List Int}{tot q:Int}{kp:List Rt}{filled:Int}{rest:List (List Rt)×(Int×(Int×(Int×(Int×(List RD×List Int)))))}
  {st st':Nat→Nat} {keep:Nat→Rat} {x a b:Nat} (hst:∀i,st i=0↔st' i=0) (hb:0<b) (hab:Bz eB (frac a b)) :
  d234 (c,lots,tot,q,lst (parc P s) P.G,lst (fun i=>(st i:Int)) P.n,kp,filled,rest) (x:Int) (rr (frac a b))
   =some (c,lots,tot,q,lst (parc P (s.move P st' keep x a b)) P.G,lst (fun i=>(st i:Int)) P.n,kp,filled,rest):=by
 unfold d234
 simp only[zaf]
 refine zac (fun g=>((c,lots,tot,q,lst (fun j=>if j<g then parc P (s.move P st' keep x a b) j else parc P s j) P.G,lst (fun i=>(st i:Int)) P.n,kp,filled,rest),(x:Int),rr (frac a b),(P.G:Int),(g:Int))) P.G ?_ (fun g hg=>?_) (b:=(c,lots,tot,q,lst (parc P (s.move P st' keep x a b)) P.G,lst (fun i=>(st i:Int)) P.n,kp,filled,rest)) ?_ rfl
 ·rfl
 ·have hgF:(fun j=>if j<g then parc P (s.move P st' keep x a b) j else parc P s j) g=parc P s g:=by simp
  have hnext:upd (fun j=>if j<g then parc P (s.move P st' keep x a b) j else parc P s j) g (parc P (s.move P st' keep x a b) g)=fun j=>if j<g+1 then parc P (s.move P st' keep x a b) j else parc P s j:=by
   funext j
   unfold upd
   by_cases h:j=g
   ·subst h;rw[if_pos rfl,if_pos (by omega)]
   ·rw[if_neg h]
    show(if j<g then parc P (s.move P st' keep x a b) j else parc P s j)=_
    by_cases h2:j<g
    ·rw[if_pos h2,if_pos (by omega)]
    ·rw[if_neg h2,if_neg (by omega)]
  have hplen:=hP.plen g hg
  generalize(fun j=>if j<g then parc P (s.move P st' keep x a b) j else parc P s j)=F at hgF hnext ⊢
  have hw:w ((g:Int)+1)=((g+1:Nat):Int):=by rw[zbj (by omega) (by omega)];omega
  have stay:s.on P g x=false→lst F P.G=lst (fun j=>if j<g+1 then parc P (s.move P st' keep x a b) j else parc P s j) P.G:=fun h=>by
   rw[←hnext]
   refine zax fun i hi=>?_
   unfold upd
   by_cases hig:i=g
   ·subst hig
    rw[if_pos rfl,hgF]
    unfold parc
    have e1:(s.move P st' keep x a b).at_ i=s.at_ i:=by
     show(if s.on P i x then _ else s.at_ i)=_
     rw[h];rfl
    have e2:(s.move P st' keep x a b).num i=s.num i*b:=by
     show(if s.on P i x then _ else s.num i*b)=_
     rw[h];rfl
    have e3:(s.move P st' keep x a b).D=s.D*b:=rfl
    rw[e1,e2,e3,frac_cancel hI.D0 hb]
   ·rw[if_neg hig]
  simp only[dlt hg,d0le,zaf,xad,cond_true,tn,zal,zan F hg,hgF,parc,Int.toNat_natCast,hw]
  by_cases ha:s.at_ g<(P.p g).length
  ·obtain⟨d,d1,d2⟩:=GS.on_ex hP hg ha
   have d3:=GS.on_at d2
   rw[show decide (((P.p g).length:Int)≤(s.at_ g:Int))=false from decide_eq_false (by omega)]
   simp only[xak,cond_true,dlt ha,d0le,xad,d3,zeu,tn]
   by_cases hdx:d=x
   ·subst hdx
    simp only[xaq,xam,xac]
    rw[d227_rr (num_small hP hI hg).sz2 hab.sz2,Option.bind_some,zkk hI.D0 hb]
    simp only[zdl,zan (upd F g _) hg,zbw,upd_upd,zav (show s.at_ g<9223372036854775807 by omega)]
    have hn1:=nxt_ge (P.p g) st (s.at_ g+1)
    have hn2:=nxt_le st (show s.at_ g+1≤(P.p g).length by omega)
    refine zac (fun m=>((c,lots,tot,q,lst (upd F g (P.p g,(P.k g:Int),((s.at_ g+1+m:Nat):Int),rr (frac (s.num g*a) (s.D*b)))) P.G,lst (fun i=>(st i:Int)) P.n,kp,filled,rest),(d:Int),rr (frac a b),(g:Int),(P.G:Int),(g:Int))) (nxt (P.p g) st (s.at_ g+1)-(s.at_ g+1)) ?_ (fun m hm=>?_) (b:=((c,lots,tot,q,lst (upd F g (P.p g,(P.k g:Int),((nxt (P.p g) st (s.at_ g+1):Nat):Int),rr (frac (s.num g*a) (s.D*b)))) P.G,lst (fun i=>(st i:Int)) P.n,kp,filled,rest),(d:Int),rr (frac a b),(P.G:Int),(g:Int))) ?_ ?_
    ·rfl
    ·have hlt:s.at_ g+1+m<(P.p g).length:=by omega
     obtain⟨e,e1,e2⟩:=hP.prefs g hg _ (zca hlt)
     have hbf:=nxt_before (p:=P.p g) (st:=st) (k:=s.at_ g+1) (i:=s.at_ g+1+m) (by omega) (by omega)
     rw[e1,Int.toNat_natCast]at hbf
     have hd0:decide ((st e:Int)=0)=false:=decide_eq_false (by omega)
     simp only[zan (upd F g _) hg,zbw,dlt hlt,d0le,xad,cond_true,tn,e1,zaf,dlt e2,zan (fun i=>(st i:Int)) e2,hd0,xak,zdl,upd_upd,zav (show s.at_ g+1+m<9223372036854775807 by omega)]
     rfl
    ·obtain⟨N,hN⟩:∃N,nxt (P.p g) st (s.at_ g+1)=N:=⟨_,rfl⟩
     rw[hN]at hn1 hn2 ⊢
     rw[show s.at_ g+1+(N-(s.at_ g+1))=N by omega]
     by_cases hlt:N<(P.p g).length
     ·obtain⟨e,e1,e2⟩:=hP.prefs g hg _ (zca hlt)
      have hat:=nxt_at (p:=P.p g) (st:=st) (k:=s.at_ g+1) (by rw[hN];exact hlt)
      rw[hN,e1,Int.toNat_natCast]at hat
      have hd0:decide ((st e:Int)=0)=true:=decide_eq_true (by omega)
      simp only[zan (upd F g _) hg,zbw,dlt hlt,d0le,xad,cond_true,xac,tn,e1,zaf,dlt e2,zan (fun i=>(st i:Int)) e2,hd0,xam]
     ·simp only[zan (upd F g _) hg,zbw,tn,nlt (show(P.p g).length≤N by omega),xac]
    ·have e:(P.p g,(P.k g:Int),((nxt (P.p g) st (s.at_ g+1):Nat):Int),rr (frac (s.num g*a) (s.D*b)))=parc P (s.move P st' keep d a b) g:=by
      unfold parc
      have e1:(s.move P st' keep d a b).at_ g=nxt (P.p g) st (s.at_ g+1):=by
       show(if s.on P g d then _ else s.at_ g)=_
       rw[d2,nxt_congr hst];rfl
      have e2:(s.move P st' keep d a b).num g=s.num g*a:=by
       show(if s.on P g d then s.num g*a else _)=_
       rw[d2];rfl
      have e3:(s.move P st' keep d a b).D=s.D*b:=rfl
      rw[e1,e2,e3]
     rw[e,hnext]
     simp only[hw]
     rfl
   ·have hoff:s.on P g x=false:=by
     cases h:s.on P g x
     ·rfl
     ·exact absurd (GS.on_uniq d2 h) hdx
    simp only[decide_eq_false hdx,xak,cond_true]
    rw[stay hoff]
    rfl
  ·have hoff:s.on P g x=false:=by
    cases h:s.on P g x
    ·rfl
    ·exact absurd (GS.on_lt h) ha
   rw[show decide (((P.p g).length:Int)≤(s.at_ g:Int))=true from decide_eq_true (by omega)]
   simp only[xam,xac,cond_true]
   rw[stay hoff]
   rfl
 ·have e:lst (fun j=>if j<P.G then parc P (s.move P st' keep x a b) j else parc P s j) P.G=lst (parc P (s.move P st' keep x a b)) P.G:=zax fun i hi=>if_pos hi
  simp only[nlt (Nat.le_refl P.G),xac,e]
end Go.Proofs.YtamgmpngdmnadaaGreat
namespace Go.Proofs.YtamgmpngdmnadaaGreat
open Go Go.X
def rdT(r:Rd):RD:=(r.votes.map rr,r.keep.map rr,rr r.quota,rr r.exh,rr r.sur,r.el,r.ex,r.ti)
def KTof(P:GP)(c:CT)(s:GS)(st:Nat→Nat)(fl:Nat)(rs:List Rd):KT:=
 (c,P.lots,(P.tot:Int),(P.q:Int),lst (parc P s) P.G,lst (fun i=>(st i:Int)) P.n,lst (fun i=>rr (s.keep i)) P.n,(fl:Int),(rs.map Rd.votes).map (List.map rr),3,(P.seats:Int),0,(P.n:Int),rs.map rdT,rs.flatMap Rd.el)
variable {P:GP} {s:GS}
theorem zff(p:Nat→Bool)(g:Int→Bool)(n:Nat):(selI p n).filter g=selI (fun i=>p i&&g (i:Int)) n:=by
 unfold selI
 rw[List.filter_map,←selN_filter]
 rfl
theorem sum_sel(p:Nat→Bool)(f:Nat→Nat):∀n:Nat,((selN p n).map f).sum=sumN (fun i=>if p i then f i else 0) n
 | 0=>rfl
 |n+1=>by
  rw[zoc,xcd,xic,sum_sel p f n,sumN]
  congr 1
  cases p n<;>simp
theorem znt(l:List Nat)(j:Nat):(l.take j).sum≤l.sum:=by
 conv=>rhs;rw[←xcx j l]
 rw[xic]
 omega
theorem zpn(hI:GI P s):cntN (fun i=>decide (s.st i=1)) P.n+cntN (fun i=>decide (s.st i=2)) P.n+cntN (s.el1 P) P.n=s.e1 P+s.e2 P:=by
 unfold cntN GS.e1 GS.e2 cntN
 rw[←zbr,←zbr,←zbr]
 refine zam fun i hi=>?_
 rcases zbx (P:=P) (s:=s) i with⟨h0,h1,h2,_⟩|⟨h0,h2⟩
 ·simp[h0,h1,h2]
 ·simp[h2,h0]
theorem tied_eq(hI:GI P s)(st:Nat→Nat)(c:Nat)(most:Bool):extr (!most) (fun x=>frac (s.vt P x.toNat) s.D) (selI (fun i=>decide (st i=c)) P.n)=selI (znr P (s.vt P) st c most) P.n:=by
 unfold extr
 rw[zff]
 refine zgd fun i hi=>?_
 unfold znr
 congr 1
 rw[xgd,xbi,xbi]
 constructor
 ·intro h k hk
  by_cases hc:st k=c
  ·have:=h (k:Int) (zap.2 ⟨k,rfl,List.mem_range.1 hk,decide_eq_true hc⟩)
   cases most
   ·simpa[hc,zhg hI.D0]using this
   ·simpa[hc,zhg hI.D0]using this
  ·simp[hc]
 ·intro h x hx
  obtain⟨k,rfl,hk,hc⟩:=zap.1 hx
  have:=h k (List.mem_range.2 hk)
  rw[hc]at this
  cases most
  ·simpa[zhg hI.D0]using this
  ·simpa[zhg hI.D0]using this
theorem frac_div(hD:0<s.D){a b:Nat}(hb:0<b):frac a s.D/frac b s.D=frac a b:=by
 unfold frac
 have h1:(s.D:Rat)≠0:=by
  have:(0:Rat)<(s.D:Rat):=by exact_mod_cast hD
  intro e
  rw[e]at this
  exact absurd this (by decide)
 have h2:(b:Rat)≠0:=by
  have:(0:Rat)<(b:Rat):=by exact_mod_cast hb
  intro e
  rw[e]at this
  exact absurd this (by decide)
 grind
theorem frac_pos{a b:Nat}(ha:0<a)(hb:0<b):0<frac a b:=by
 have:=(frac_lt (a:=0) (b:=a) hb).2 ha
 have e:frac 0 b=0:=by unfold frac;rw[Rat.div_def];simp
 rwa[e]at this
structure RsOK(P:GP)(s:GS)(rs:List Rd):Prop where
 rnd:∀r∈rs,RndOK P.n r.votes∧r.el.length≤7
 len:rs.length≤7
 keep:∀i,i<P.n→Bz eB (s.keep i)
theorem zon(hP:P.OK):LotsOK P.n P.lots:=⟨hP.n1,hP.n7,hP.lotn,hP.lots,hP.lotd⟩
theorem zsp:∀{rs:List Rd},(∀r∈rs,r.el.length≤7)→(rs.flatMap Rd.el).length≤7*rs.length
 | [],_=>by simp
 |r::rs,h=>by
  rw[xdj,List.length_append,xat]
  have:=zsp (rs:=rs) fun x hx=>h x (xah _ hx)
  have:=h r (by simp)
  omega
theorem votes_rnd(hP:P.OK)(hI:GI P s):RndOK P.n (lst (fun i=>frac (s.vt P i) s.D) P.n):=⟨zaf _ _,fun q hq=>by
 obtain⟨i,hi,rfl⟩:=zhc.1 hq
 exact zbh hP hI (zpw hP hI hi)⟩
theorem bz_zero:Bz eB (0:Rat):=by
 have:=zin (n:=0) (by decide)
 exact this
def zda(P:GP)(s:GS)(el:List Int):RD:=(lst (fun i=>rr (frac (s.vt P i) s.D)) P.n,lst (fun i=>rr (s.keep i)) P.n,rr (P.q:Rat),rr (frac (P.tot*s.D-sumN (s.vt P) P.n) s.D),rr (frac (sumN (fun i=>if s.st1 P i=1 then s.vt P i-s.bar P else 0) P.n) s.D),el,[],[])
theorem sur_le(hP:P.OK)(hI:GI P s):sumN (fun i=>if s.st1 P i=1 then s.vt P i-s.bar P else 0) P.n≤P.tot*s.D:=
 Nat.le_trans (zdk fun i _=>by split<;>omega) (zky hP hI)
theorem q_frac(hI:GI P s):(P.q:Rat)=frac (s.bar P) s.D:=(zkj hI.D0).symm
theorem bar_le(hP:P.OK)(hI:GI P s):Bz eB (frac (s.bar P) s.D):=by rw[←q_frac hI];exact zjv hP
theorem d173_eq(hP:P.OK)(hI:GI P s){c:Nat}(hc:c<P.n){r:RD}(h1:r.1=lst (fun i=>rr (frac (s.vt P i) s.D)) P.n)(h2:r.2.2.1=rr (P.q:Rat)):d173 (c:Int) r=some (decide (s.vt P c<s.bar P)):=by
 unfold d173
 simp only[h1,h2,zaf,d0le,dlt hc,xad,cond_true,tn,zan (fun i=>rr (frac (s.vt P i) s.D)) hc]
 rw[d174_rr (zbh hP hI (zpw hP hI hc)).sz2 (zjv hP).sz2,Option.bind_some,q_frac hI]
 congr 1
 refine xca.2 ?_
 rw[←frac_lt hI.D0]
 unfold cmpQ
 by_cases h:frac (s.vt P c) s.D<frac (s.bar P) s.D
 ·rw[if_pos h];exact⟨fun _=>h,fun _=>by omega⟩
 ·rw[if_neg h];exact⟨fun hc=>by split at hc<;>omega,fun hc=>absurd hc h⟩
set_option maxHeartbeats 1000000 in
theorem d176_eq(hP:P.OK)(hI:GI P s)(hG:P.G≤1000000){rs:List Rd}(hR:RsOK P s rs){c:CT}(hc:c.2.2.2.2.2.2.1=P.ties)(fl:Nat)(hf:s.fin P=false)(hm:s.most P=true)(el:List Int) :
  d176 (KTof P c s (s.st1 P) fl rs) (zda P s el)=some (KTof P c (s.trans P (rs.map Rd.votes)) (s.trans P (rs.map Rd.votes)).st fl rs,(zda P s el).1,(zda P s el).2.1,(zda P s el).2.2.1,(zda P s el).2.2.2.1,(zda P s el).2.2.2.2.1,el,[],s.tiedR P):=by
 have hn7:=hP.n7
 have hq5:=hP.q5
 obtain⟨x,x1,x2,x3⟩:=zfg hP hI hf (rs.map Rd.votes)
 rw[hm,if_pos rfl]at x3
 obtain⟨_,k2,k3⟩:=znw hI x2 x3
 have hb:=bar_pos hP hI
 have hvx:=zpw hP hI x2
 have htie:extr false (fun x=>frac (s.vt P x.toNat) s.D) (selI (fun i=>decide (s.st1 P i=1)) P.n)=s.tied P:=by
  have:=tied_eq hI (s.st1 P) 1 true
  unfold GS.tied
  rw[hm]
  exact this
 have hcls:selI (fun i=>decide (s.st1 P i=1)) P.n≠ []:=xdu (zap.2 ⟨x,rfl,x2,decide_eq_true x3⟩)
 have hcl:(selI (fun i=>decide (s.st1 P i=1)) P.n).length≤1000:=by rw[zao];have:=zaw (fun i=>decide (s.st1 P i=1)) P.n;omega
 unfold d176
 rw[show d172 (KTof P c s (s.st1 P) fl rs) 1=some (selI (fun i=>decide (s.st1 P i=1)) P.n)from zlw (k:=KTof P c s (s.st1 P) fl rs) rfl (by omega) 1]
 have hd:=d232_eq (c:=c) (lots:=P.lots) (tot:=(P.tot:Int)) (q:=(P.q:Int)) (pc:=lst (parc P s) P.G) (stl:=lst (fun i=>(s.st1 P i:Int)) P.n) (kp:=lst (fun i=>rr (s.keep i)) P.n) (filled:=(fl:Int)) (E:=rs.map Rd.votes) (rest:=(3,(P.seats:Int),0,(P.n:Int),rs.map rdT,rs.flatMap Rd.el)) (v:=fun i=>frac (s.vt P i) s.D) (kk:=(zda P s el).2.1) (qu:=(zda P s el).2.2.1) (ex:=(zda P s el).2.2.2.1) (su:=(zda P s el).2.2.2.2.1) (el:=el) (ex2:=[]) (ti:=[]) (least:=false) hc (by have:=hP.ties1;omega) hP.ties3 (zon hP) (fun r hr=>by
   obtain⟨r',h1,rfl⟩:=xcv.1 hr
   exact(hR.rnd r' h1).1) (by rw[xau];have:=hR.len;omega) (fun i hi=>zbh hP hI (zpw hP hI hi)) hcls (zco _ _) (fun y hy=>by
   obtain⟨i,h1,h2,_⟩:=zap.1 hy
   exact⟨i,h1,h2⟩) hcl
 rw[htie]at hd
 have hpick:(if(s.tied P).length=1 then(s.tied P).headD 0 else tieB P.ties (rs.map Rd.votes) (s.tied P) P.lots false)=(x:Int):=by
  rw[←x1];unfold GS.pick;rw[hm];rfl
 rw[hpick]at hd
 rw[Option.bind_some,show d232 (KTof P c s (s.st1 P) fl rs) (zda P s el) (selI (fun i=>decide (s.st1 P i=1)) P.n) false=_ from hd,Option.bind_some]
 have hbz:Bz eB (frac (s.vt P x-s.bar P) (s.vt P x)):=zjk (zio hP hI (by omega)) (zio hP hI hvx) (by decide)
 have h180:=d234_eq (keep:=upd s.keep x (frac (s.vt P x-s.bar P) (s.vt P x))) hP hI hG (c:=c) (lots:=P.lots) (tot:=(P.tot:Int)) (q:=(P.q:Int)) (kp:=lst (fun i=>rr (s.keep i)) P.n) (filled:=(fl:Int)) (rest:=((rs.map Rd.votes).map (List.map rr),3,(P.seats:Int),0,(P.n:Int),rs.map rdT,rs.flatMap Rd.el)) (st:=s.st1 P) (st':=upd (s.st1 P) x 2) (x:=x) (a:=s.vt P x-s.bar P) (b:=s.vt P x) (fun i=>by
  unfold upd
  by_cases h:i=x
  ·subst h;rw[if_pos rfl,x3];omega
  ·rw[if_neg h]) (by omega) hbz
 simp only[d0le,zaf,dlt x2,xad,cond_true,tn,zan (fun i=>rr (frac (s.vt P i) s.D)) x2,zgb (show P.q≤9223372036854775807 by omega),Option.bind_some,zpk (zbh hP hI hvx).sz2 (zjv hP).sz2,q_frac hI,zng hI.D0 k3]
 have hdiv:d233 (rr (frac (s.vt P x-s.bar P) s.D)) (rr (frac (s.vt P x) s.D))=some (rr (frac (s.vt P x-s.bar P) (s.vt P x)),true):=by
  rw[d233_rr (zbh hP hI (by omega)).sz2 (zbh hP hI hvx).sz2 (frac_pos (by omega) hI.D0),frac_div hI.D0 (by omega)]
 have hd132:d169 (rr (frac (s.vt P x) s.D)) (rr (frac (s.bar P) s.D))=some (rr (frac (s.vt P x-s.bar P) s.D)):=by
  rw[zpk (zbh hP hI hvx).sz2 (bar_le hP hI).sz2,zng hI.D0 k3]
 rw[hd132,Option.bind_some,hdiv,Option.bind_some]
 simp only[h180,Option.bind_some,zaf,dlt x2,cond_true,zdl]
 have hxn:(s.pick P (rs.map Rd.votes)).toNat=x:=by rw[x1];rfl
 congr 1
 unfold KTof GS.trans GS.tiedR zda
 simp only[hxn]
 have e1:lst (upd (fun i=>(s.st1 P i:Int)) x 2) P.n=lst (fun i=>((s.move P (upd (s.st1 P) x 2) (upd s.keep x (frac (s.vt P x-s.bar P) (s.vt P x))) x (s.vt P x-s.bar P) (s.vt P x)).st i:Int)) P.n:=zax fun i hi=>by
  show upd (fun i=>(s.st1 P i:Int)) x 2 i=((upd (s.st1 P) x 2 i:Nat):Int)
  unfold upd;split<;>rfl
 have e2:lst (upd (fun i=>rr (s.keep i)) x (rr (frac (s.vt P x-s.bar P) (s.vt P x)))) P.n=lst (fun i=>rr ((s.move P (upd (s.st1 P) x 2) (upd s.keep x (frac (s.vt P x-s.bar P) (s.vt P x))) x (s.vt P x-s.bar P) (s.vt P x)).keep i)) P.n:=zax fun i hi=>by
  show upd (fun i=>rr (s.keep i)) x _ i=rr (upd s.keep x _ i)
  unfold upd;split<;>rfl
 rw[e1,e2,q_frac hI]
 rfl
set_option maxHeartbeats 1000000 in
theorem d177_eq(hP:P.OK)(hI:GI P s)(hG:P.G≤1000000){rs:List Rd}(hR:RsOK P s rs){c:CT}(hc:c.2.2.2.2.2.2.1=P.ties)(fl:Nat)(hf:s.fin P=false)(hm:s.most P=false)(el:List Int) :
  d177 (KTof P c s (s.st1 P) fl rs) (zda P s el)=some (KTof P c (s.excl P (rs.map Rd.votes)) (s.excl P (rs.map Rd.votes)).st fl rs,(zda P s el).1,(zda P s el).2.1,(zda P s el).2.2.1,(zda P s el).2.2.2.1,(zda P s el).2.2.2.2.1,el,[s.pick P (rs.map Rd.votes)],s.tiedR P):=by
 have hn7:=hP.n7
 obtain⟨x,x1,x2,x3⟩:=zfg hP hI hf (rs.map Rd.votes)
 rw[hm]at x3
 have x3':s.st1 P x=0:=by simpa using x3
 have htie:extr true (fun x=>frac (s.vt P x.toNat) s.D) (selI (fun i=>decide (s.st1 P i=0)) P.n)=s.tied P:=by
  have:=tied_eq hI (s.st1 P) 0 false
  unfold GS.tied
  rw[hm]
  exact this
 have hcls:selI (fun i=>decide (s.st1 P i=0)) P.n≠ []:=xdu (zap.2 ⟨x,rfl,x2,decide_eq_true x3'⟩)
 have hcl:(selI (fun i=>decide (s.st1 P i=0)) P.n).length≤1000:=by rw[zao];have:=zaw (fun i=>decide (s.st1 P i=0)) P.n;omega
 unfold d177
 rw[show d172 (KTof P c s (s.st1 P) fl rs) 0=some (selI (fun i=>decide (s.st1 P i=0)) P.n)from zlw (k:=KTof P c s (s.st1 P) fl rs) rfl (by omega) 0]
 have hd:=d232_eq (c:=c) (lots:=P.lots) (tot:=(P.tot:Int)) (q:=(P.q:Int)) (pc:=lst (parc P s) P.G) (stl:=lst (fun i=>(s.st1 P i:Int)) P.n) (kp:=lst (fun i=>rr (s.keep i)) P.n) (filled:=(fl:Int)) (E:=rs.map Rd.votes) (rest:=(3,(P.seats:Int),0,(P.n:Int),rs.map rdT,rs.flatMap Rd.el)) (v:=fun i=>frac (s.vt P i) s.D) (kk:=(zda P s el).2.1) (qu:=(zda P s el).2.2.1) (ex:=(zda P s el).2.2.2.1) (su:=(zda P s el).2.2.2.2.1) (el:=el) (ex2:=[]) (ti:=[]) (least:=true) hc (by have:=hP.ties1;omega) hP.ties3 (zon hP) (fun r hr=>by
   obtain⟨r',h1,rfl⟩:=xcv.1 hr
   exact(hR.rnd r' h1).1) (by rw[xau];have:=hR.len;omega) (fun i hi=>zbh hP hI (zpw hP hI hi)) hcls (zco _ _) (fun y hy=>by
   obtain⟨i,h1,h2,_⟩:=zap.1 hy
   exact⟨i,h1,h2⟩) hcl
 rw[htie]at hd
 have hpick:(if(s.tied P).length=1 then(s.tied P).headD 0 else tieB P.ties (rs.map Rd.votes) (s.tied P) P.lots true)=(x:Int):=by
  rw[←x1];unfold GS.pick;rw[hm];rfl
 rw[hpick]at hd
 rw[Option.bind_some,show d232 (KTof P c s (s.st1 P) fl rs) (zda P s el) (selI (fun i=>decide (s.st1 P i=0)) P.n) true=_ from hd,Option.bind_some]
 have h180:=d234_eq (keep:=upd s.keep x 0) hP hI hG (c:=c) (lots:=P.lots) (tot:=(P.tot:Int)) (q:=(P.q:Int)) (kp:=lst (fun i=>rr (upd s.keep x 0 i)) P.n) (filled:=(fl:Int)) (rest:=((rs.map Rd.votes).map (List.map rr),3,(P.seats:Int),0,(P.n:Int),rs.map rdT,rs.flatMap Rd.el)) (st:=upd (s.st1 P) x 3) (st':=upd (s.st1 P) x 3) (x:=x) (a:=1) (b:=1) (fun i=>Iff.rfl) (by omega) (zjk (xhd (by decide)) (xhd (by decide)) (by decide))
 have hone:rr (frac 1 1)=rr (1:Rat):=by rw[zsn];rfl
 have e1:lst (upd (fun i=>(s.st1 P i:Int)) x 3) P.n=lst (fun i=>((upd (s.st1 P) x 3 i:Nat):Int)) P.n:=zax fun i hi=>by
  unfold upd;split<;>rfl
 have e2:lst (upd (fun i=>rr (s.keep i)) x (rr 0)) P.n=lst (fun i=>rr (upd s.keep x 0 i)) P.n:=zax fun i hi=>by
  unfold upd;split<;>rfl
 have hz0:d93 0=some (rr 0):=zqy (n:=0) (by omega) (by omega)
 have hz1:d93 1=some (rr 1):=zqy (n:=1) (by omega) (by omega)
 rw[hone]at h180
 simp only[d0le,zaf,dlt x2,xad,cond_true,tn,hz0,hz1,Option.bind_some,zdl,e1,e2,h180]
 have hxn:(s.pick P (rs.map Rd.votes)).toNat=x:=by rw[x1];rfl
 unfold KTof GS.excl GS.tiedR zda
 simp only[hxn,x1]
 rfl
end Go.Proofs.YtamgmpngdmnadaaGreat
namespace Go.Proofs.YtamgmpngdmnadaaGreat
open Go Go.X
variable {P:GP} {s:GS}
theorem zln{α:Type}{l m:List α}(h:l.length+m.length≤4294967296):decide ((l.length:Int)+(m.length:Int)≤LIM)=true:=by
 rw[show(l.length:Int)+(m.length:Int)=((l.length+m.length:Nat):Int) by omega];exact zbq h
theorem zsc{c:CT}{s:GS}{st:Nat→Nat}{fl:Nat}{rs:List Rd}{r:Rd}{T:RD}{b:Bool}(hT:T=rdT r)(hr:∀x∈rs,x.el.length≤7)(hl:rs.length≤7)(he:r.el.length≤7) :
  (bif (decide (((KTof P c s st fl rs).2.2.2.2.2.2.2.2.1.length:Int)+(([T.1]:List (List Rt)).length:Int)≤LIM))then
    bif (decide (((KTof P c s st fl rs).2.2.2.2.2.2.2.2.2.2.2.2.2.1.length:Int)+(([T]:List RD).length:Int)≤LIM))then
     bif (decide (((KTof P c s st fl rs).2.2.2.2.2.2.2.2.2.2.2.2.2.2.length:Int)+(T.2.2.2.2.2.1.length:Int)≤LIM))then
      some (!b,((KTof P c s st fl rs).1,(KTof P c s st fl rs).2.1,(KTof P c s st fl rs).2.2.1,(KTof P c s st fl rs).2.2.2.1,(KTof P c s st fl rs).2.2.2.2.1,(KTof P c s st fl rs).2.2.2.2.2.1,(KTof P c s st fl rs).2.2.2.2.2.2.1,(KTof P c s st fl rs).2.2.2.2.2.2.2.1,((KTof P c s st fl rs).2.2.2.2.2.2.2.2.1++[T.1]),(KTof P c s st fl rs).2.2.2.2.2.2.2.2.2.1,(KTof P c s st fl rs).2.2.2.2.2.2.2.2.2.2.1,(KTof P c s st fl rs).2.2.2.2.2.2.2.2.2.2.2.1,(KTof P c s st fl rs).2.2.2.2.2.2.2.2.2.2.2.2.1,((KTof P c s st fl rs).2.2.2.2.2.2.2.2.2.2.2.2.2.1++[T]),((KTof P c s st fl rs).2.2.2.2.2.2.2.2.2.2.2.2.2.2++T.2.2.2.2.2.1)))
     else none
    else none
   else none:Option (Bool×KT))=some (!b,KTof P c s st fl (rs++[r])):=by
 subst hT
 have h1:=zsp hr
 have e1:(KTof P c s st fl rs).2.2.2.2.2.2.2.2.1.length=rs.length:=by simp[KTof]
 have e2:(KTof P c s st fl rs).2.2.2.2.2.2.2.2.2.2.2.2.2.1.length=rs.length:=by simp[KTof]
 have e3:(KTof P c s st fl rs).2.2.2.2.2.2.2.2.2.2.2.2.2.2.length=(rs.flatMap Rd.el).length:=rfl
 rw[zln (by rw[e1];simp;omega),zln (by rw[e2];simp;omega),zln (by rw[e3];show(rs.flatMap Rd.el).length+r.el.length≤_;omega)]
 simp only[cond_true,KTof,xcd,xfx,xdd,xga,xdj,xft,xbq]
 rfl
theorem znk(P:GP)(s:GS)(el ex ti:List Int):((zda P s el).1,(zda P s el).2.1,(zda P s el).2.2.1,(zda P s el).2.2.2.1,(zda P s el).2.2.2.2.1,el,ex,ti)=rdT {s.rd0 P with el:=el,ex:=ex,ti:=ti}:=by
 unfold zda rdT GS.rd0
 simp only[zom]
set_option maxHeartbeats 2000000 in
theorem d94_eq(hP:P.OK)(hI:GI P s)(hG:P.G≤1000000){rs:List Rd}(hR:RsOK P s rs){c:CT}(hc:c.2.2.2.2.2.2.1=P.ties)(hcs:c.2.2.2.1=(P.seats:Int)){fl:Nat}(hfl:fl=cntN (fun i=>decide (s.st i=1)) P.n+cntN (fun i=>decide (s.st i=2)) P.n) :
  (s.fin P=true∧∃st' fl',d94 (KTof P c s s.st fl rs)=some (false,KTof P c s st' fl' (rs++[s.done P]))) ∨
  (s.fin P=false∧s.most P=true∧d94 (KTof P c s s.st fl rs)=some (true,KTof P c (s.trans P (rs.map Rd.votes)) (s.trans P (rs.map Rd.votes)).st (s.e1 P+s.e2 P) (rs++[{s.rd0 P with ti:=s.tiedR P}]))) ∨
  (s.fin P=false∧s.most P=false∧d94 (KTof P c s s.st fl rs)=some (true,KTof P c (s.excl P (rs.map Rd.votes)) (s.excl P (rs.map Rd.votes)).st (s.e1 P+s.e2 P) (rs++[{s.rd0 P with ti:=s.tiedR P,ex:=[s.pick P (rs.map Rd.votes)]}]))):=by
 have hn7:=hP.n7
 have hq5:=hP.q5
 have ht5:=hP.tot5
 have hs5:=hP.seats5
 have hsum:=zky hP hI
 have hz0:d93 0=some (rr 0):=zqy (n:=0) (by omega) (by omega)
 unfold d94
 rw[d167_eq hP hI hG (k:=KTof P c s s.st fl rs) rfl rfl rfl,Option.bind_some,show d168 (KTof P c s s.st fl rs).2.2.2.2.2.2.1=some (lst (fun i=>rr (s.keep i)) P.n)from d168_eq (by omega) hR.keep,Option.bind_some,
  show d93 (KTof P c s s.st fl rs).2.2.2.1=some (rr (P.q:Rat))from zgb (by omega),Option.bind_some,show d93 (KTof P c s s.st fl rs).2.2.1=some (rr (P.tot:Rat))from zgb (by omega),Option.bind_some,zaf]
 obtain⟨K,hK⟩:∃K:KT,KTof P c s s.st fl rs=K:=⟨_,rfl⟩
 rw[hK]
 have partial_le:∀i,i≤P.n→sumN (s.vt P) i≤sumN (s.vt P) P.n:=fun i hi=>by
  have key:∀(f:Nat→Nat) (m n:Nat),m≤n→sumN f m≤sumN f n:=by
   intro f m n
   induction n with
   |zero=>intro h;rw[show m=0 by omega];exact Nat.le_refl _
   |succ n ih=>
    intro h
    by_cases hm:m=n+1
    ·rw[hm];exact Nat.le_refl _
    ·rw[sumN];have:=ih (by omega);omega
  exact key _ _ _ hi
 have sumS:∀i,sumN (s.vt P) (i+1)=sumN (s.vt P) i+s.vt P i:=fun i=>rfl
 obtain⟨R0,hR0⟩:∃R0:Nat→RD,(fun i=>((lst (fun i=>rr (frac (s.vt P i) s.D)) P.n,lst (fun i=>rr (s.keep i)) P.n,rr (P.q:Rat),rr (frac (P.tot*s.D-sumN (s.vt P) i) s.D),(false,[],[]),[],[],[]):RD))=R0:=⟨_,rfl⟩
 have goalA:∀X:Option (Bool×KT)→Prop,∀Kf:KT×RD→Option (Bool×KT),X (Kf (K,R0 P.n))→X ((zae (β:=(KT×RD)) (fun((t0,t3,t29,t30,t31):KT×RD×(List Rt)×Int×Int)=>
   bif (decide (t31<t30))then
    bif (decide (0≤t31)&&decide (t31<(t29.length:Int)))then
     (d169 t3.2.2.2.1 (List.getD t29 (Int.toNat t31) (false,[],[]))).bind fun r_4=>
     some (Sum.inl (t0,(t3.1,t3.2.1,t3.2.2.1,r_4,t3.2.2.2.2),t29,t30,(w (t31+1))))
    else none
   else
    some (Sum.inr (t0,t3))) (K,(lst (fun i=>rr (frac (s.vt P i) s.D)) P.n,lst (fun i=>rr (s.keep i)) P.n,rr (P.q:Rat),rr (P.tot:Rat),(false,[],[]),[],[],[]),lst (fun i=>rr (frac (s.vt P i) s.D)) P.n,(P.n:Int),0)).bind Kf):=by
  intro X Kf hX
  refine Eq.mpr (xbb X ?_) hX
  refine zac (fun i=>(K,R0 i,lst (fun i=>rr (frac (s.vt P i) s.D)) P.n,(P.n:Int),(i:Int))) P.n (b:=(K,R0 P.n)) ?_ (fun i hi=>?_) ?_ rfl
  ·rw[←hR0]
   simp only[sumN,Nat.sub_zero,zkj hI.D0];rfl
  ·have h1:=partial_le i (by omega)
   have h2:=partial_le (i+1) (by omega)
   rw[sumS]at h2
   have hv:=zpw hP hI hi
   have hd:d169 (rr (frac (P.tot*s.D-sumN (s.vt P) i) s.D)) (rr (frac (s.vt P i) s.D))=some (rr (frac (P.tot*s.D-sumN (s.vt P) (i+1)) s.D)):=by
    rw[zpk (zbh hP hI (by omega)).sz2 (zbh hP hI hv).sz2,zng hI.D0 (by omega),sumS,Nat.sub_sub]
   rw[←hR0]
   simp only[dlt hi,d0le,zaf,xad,cond_true,tn,zan (fun i=>rr (frac (s.vt P i) s.D)) hi,hd,Option.bind_some,zav (show i<9223372036854775807 by omega)]
  ·simp only[nlt (Nat.le_refl P.n),xac]
 refine goalA (fun z=>(s.fin P=true∧∃st' fl',z=some (false,KTof P c s st' fl' (rs++[s.done P]))) ∨
  (s.fin P=false∧s.most P=true∧z=some (true,KTof P c (s.trans P (rs.map Rd.votes)) (s.trans P (rs.map Rd.votes)).st (s.e1 P+s.e2 P) (rs++[{s.rd0 P with ti:=s.tiedR P}]))) ∨
  (s.fin P=false∧s.most P=false∧z=some (true,KTof P c (s.excl P (rs.map Rd.votes)) (s.excl P (rs.map Rd.votes)).st (s.e1 P+s.e2 P) (rs++[{s.rd0 P with ti:=s.tiedR P,ex:=[s.pick P (rs.map Rd.votes)]}])))) _ ?_
 clear goalA
 simp only
 have h5:d172 K 0=some (selI (fun i=>decide (s.st i=0)) P.n):=zlw (k:=K) (by rw[←hK];rfl) (by omega) 0
 rw[h5,Option.bind_some]
 have h6:d171 (selI (fun i=>decide (s.st i=0)) P.n) (fun a=>d173 a (R0 P.n))=some (selI (s.el1 P) P.n):=by
  have hl:(selI (fun i=>decide (s.st i=0)) P.n).length≤1000000:=by rw[zao];have:=zaw (fun i=>decide (s.st i=0)) P.n;omega
  rw[d171_eq (g:=fun c=>decide (s.vt P c.toNat<s.bar P)) (fun x hx=>by
   obtain⟨i,rfl,hi,_⟩:=zap.1 hx
   exact d173_eq hP hI hi (by rw[←hR0]) (by rw[←hR0])) hl,zff]
  congr 1
  refine zgd fun i hi=>?_
  unfold GS.el1
  simp only[Int.toNat_natCast]
  congr 1
  by_cases h:s.vt P i<s.bar P
  ·rw[decide_eq_true h,decide_eq_false (by omega)];rfl
  ·rw[decide_eq_false h,decide_eq_true (by omega)];rfl
 rw[h6,Option.bind_some]
 have hKfl:fl≤1000:=by
  have h1:=zaw (fun i=>decide (s.st i=1)) P.n
  have h2:=zaw (fun i=>decide (s.st i=2)) P.n
  omega
 have hcs2:=zpn hI
 have h7:d170 K (R0 P.n) (selI (s.el1 P) P.n)=some (KTof P c s (s.st1 P) (s.e1 P+s.e2 P) rs,lst (fun i=>rr (frac (s.vt P i) s.D)) P.n,lst (fun i=>rr (s.keep i)) P.n,rr (P.q:Rat),rr (frac (P.tot*s.D-sumN (s.vt P) P.n) s.D),(false,[],[]),selI (s.el1 P) P.n,[],[]):=by
  rw[←hK,←hR0]
  unfold KTof
  simp only
  rw[d170_eq hn7 hKfl (by simp),xby,sortI_selI,hfl,hcs2]
  rfl
 rw[h7,Option.bind_some,hz0,Option.bind_some]
 simp only
 have h9:d172 (KTof P c s (s.st1 P) (s.e1 P+s.e2 P) rs) 1=some (selI (fun i=>decide (s.st1 P i=1)) P.n):=zlw (k:=KTof P c s (s.st1 P) (s.e1 P+s.e2 P) rs) rfl (by omega) 1
 have h10:d172 (KTof P c s (s.st1 P) (s.e1 P+s.e2 P) rs) 0=some (selI (fun i=>decide (s.st1 P i=0)) P.n):=zlw (k:=KTof P c s (s.st1 P) (s.e1 P+s.e2 P) rs) rfl (by omega) 0
 rw[h9,Option.bind_some]
 obtain⟨L,hL⟩:∃L,selN (fun i=>decide (s.st1 P i=1)) P.n=L:=⟨_,rfl⟩
 have hLi:(selI (fun i=>decide (s.st1 P i=1)) P.n).length=L.length:=by rw[←hL,selI,xau]
 have hLl:L.length≤7:=by rw[←hL,zby];have:=zaw (fun i=>decide (s.st1 P i=1)) P.n;omega
 have hLs:(L.map fun i=>s.vt P i-s.bar P).sum=sumN (fun i=>if s.st1 P i=1 then s.vt P i-s.bar P else 0) P.n:=by
  rw[←hL,sum_sel]
  refine zam fun i hi=>?_
  by_cases h:s.st1 P i=1
  ·simp[h]
  ·simp[h]
 have hLt:(L.map fun i=>s.vt P i-s.bar P).sum≤P.tot*s.D:=by rw[hLs];exact sur_le hP hI
 rw[hLi]
 obtain⟨K1,hK1⟩:∃K1:KT,KTof P c s (s.st1 P) (s.e1 P+s.e2 P) rs=K1:=⟨_,rfl⟩
 rw[hK1]
 obtain⟨T,hT⟩:∃T:Nat→RD,(fun j=>((lst (fun i=>rr (frac (s.vt P i) s.D)) P.n,lst (fun i=>rr (s.keep i)) P.n,rr (P.q:Rat),rr (frac (P.tot*s.D-sumN (s.vt P) P.n) s.D),rr (frac ((L.take j).map fun i=>s.vt P i-s.bar P).sum s.D),selI (s.el1 P) P.n,[],[]):RD))=T:=⟨_,rfl⟩
 have hTb:T L.length=zda P s (selI (s.el1 P) P.n):=by
  rw[←hT]
  simp only[xay,hLs]
  rfl
 have goalB:∀X:Option (Bool×KT)→Prop,∀Kf:KT×RD→Option (Bool×KT),X (Kf (K1,zda P s (selI (s.el1 P) P.n)))→X ((zae (β:=(KT×RD)) (fun((t0_2,t3_2,t50,t51,t52):KT×RD×(List Int)×Int×Int)=>
   bif (decide (t52<t51))then
    bif (decide (0≤t52)&&decide (t52<(t50.length:Int)))then
     bif (decide (0≤(List.getD t50 (Int.toNat t52) 0))&&decide ((List.getD t50 (Int.toNat t52) 0)<(t3_2.1.length:Int)))then
      (d169 (List.getD t3_2.1 (Int.toNat (List.getD t50 (Int.toNat t52) 0)) (false,[],[])) t3_2.2.2.1).bind fun r_10=>
      (d175 t3_2.2.2.2.2.1 r_10).bind fun r_11=>
      some (Sum.inl (t0_2,(t3_2.1,t3_2.2.1,t3_2.2.2.1,t3_2.2.2.2.1,r_11,t3_2.2.2.2.2.2),t50,t51,(w (t52+1))))
     else none
    else none
   else
    some (Sum.inr (t0_2,t3_2))) (K1,(lst (fun i=>rr (frac (s.vt P i) s.D)) P.n,lst (fun i=>rr (s.keep i)) P.n,rr (P.q:Rat),rr (frac (P.tot*s.D-sumN (s.vt P) P.n) s.D),rr 0,selI (s.el1 P) P.n,[],[]),selI (fun i=>decide (s.st1 P i=1)) P.n,(L.length:Int),0)).bind Kf):=by
  intro X Kf hX
  refine Eq.mpr (xbb X ?_) hX
  refine zac (fun j=>(K1,T j,selI (fun i=>decide (s.st1 P i=1)) P.n,(L.length:Int),(j:Int))) L.length (b:=(K1,zda P s (selI (s.el1 P) P.n))) ?_ (fun j hj=>?_) ?_ rfl
  ·rw[←hT]
   simp only[xcz,xga,List.sum_nil]
   have:frac 0 s.D=0:=by unfold frac;rw[Rat.div_def];simp
   rw[this];rfl
  ·have hj':j<(selN (fun i=>decide (s.st1 P i=1)) P.n).length:=by rw[hL];exact hj
   have hg:=zft hj'
   have hsg:=zhx hj'
   rw[hL]at hg hsg
   obtain⟨x,hx⟩:∃x,L.getD j 0=x:=⟨_,rfl⟩
   rw[hx]at hg hsg
   obtain⟨_,_,k3⟩:=znw hI hg.1 (of_decide_eq_true hg.2)
   have hv:=zpw hP hI hg.1
   have hd1:d169 (rr (frac (s.vt P x) s.D)) (rr (P.q:Rat))=some (rr (frac (s.vt P x-s.bar P) s.D)):=by
    rw[q_frac hI,zpk (zbh hP hI hv).sz2 (bar_le hP hI).sz2,zng hI.D0 k3]
   have hst:((L.take (j+1)).map fun i=>s.vt P i-s.bar P).sum=((L.take j).map fun i=>s.vt P i-s.bar P).sum+(s.vt P x-s.bar P):=by
    rw[zbc L 0 hj,hx,xcd,xic];simp
   have hle1:((L.take j).map fun i=>s.vt P i-s.bar P).sum≤P.tot*s.D:=by
    rw[List.map_take];exact Nat.le_trans (znt _ _) hLt
   have hd2:d175 (rr (frac ((L.take j).map fun i=>s.vt P i-s.bar P).sum s.D)) (rr (frac (s.vt P x-s.bar P) s.D))=some (rr (frac ((L.take (j+1)).map fun i=>s.vt P i-s.bar P).sum s.D)):=by
    rw[d175_rr (zbh hP hI hle1).sz2 (zbh hP hI (by omega)).sz2,zso hI.D0,hst]
   rw[←hT]
   simp only[dlt hj,d0le,hLi,xad,cond_true,tn,hsg,zaf,dlt hg.1,zan (fun i=>rr (frac (s.vt P i) s.D)) hg.1,hd1,hd2,Option.bind_some,zav (show j<9223372036854775807 by omega)]
  ·simp only[nlt (Nat.le_refl L.length),xac,hTb]
 refine goalB (fun z=>(s.fin P=true∧∃st' fl',z=some (false,KTof P c s st' fl' (rs++[s.done P]))) ∨
  (s.fin P=false∧s.most P=true∧z=some (true,KTof P c (s.trans P (rs.map Rd.votes)) (s.trans P (rs.map Rd.votes)).st (s.e1 P+s.e2 P) (rs++[{s.rd0 P with ti:=s.tiedR P}]))) ∨
  (s.fin P=false∧s.most P=false∧z=some (true,KTof P c (s.excl P (rs.map Rd.votes)) (s.excl P (rs.map Rd.votes)).st (s.e1 P+s.e2 P) (rs++[{s.rd0 P with ti:=s.tiedR P,ex:=[s.pick P (rs.map Rd.votes)]}])))) _ ?_
 clear goalB hT hTb
 subst hK1
 clear hK h5 h6 h7
 have hel:(selI (s.el1 P) P.n).length≤7:=by rw[zao];have:=zaw (s.el1 P) P.n;omega
 have hrl:=hR.len
 have hre:∀x∈rs,x.el.length≤7:=fun x hx=>(hR.rnd x hx).2
 simp only[zal]
 have hfs:(KTof P c s (s.st1 P) (s.e1 P+s.e2 P) rs).2.2.2.2.2.2.2.1=((s.e1 P+s.e2 P:Nat):Int):=rfl
 have hss:(KTof P c s (s.st1 P) (s.e1 P+s.e2 P) rs).1.2.2.2.1=(P.seats:Int):=hcs
 have helec:=zlv hP hI
 simp only[hfs,hss,zeu]
 by_cases hq:s.e1 P+s.e2 P=P.seats
 ·have hfin:s.fin P=true:=by
   unfold GS.fin
   rw[xcy]
   exact .inl (decide_eq_true hq)
  refine .inl ⟨hfin,s.st1 P,s.e1 P+s.e2 P,?_⟩
  simp only[decide_eq_true hq,cond_true]
  have hdone:s.done P={s.rd0 P with el:=selI (s.el1 P) P.n,ex:=[],ti:=[]}:=by
   unfold GS.done
   have h':¬(cntN (fun i=>decide (s.st1 P i=1)) P.n+cntN (fun i=>decide (s.st1 P i=2)) P.n<P.seats):=by
    show ¬(s.e1 P+s.e2 P<P.seats);omega
   simp only[if_neg h']
   rfl
  rw[hdone]
  exact zsc (b:=true) (znk P s (selI (s.el1 P) P.n) [] []) hre (by omega) hel
 ·simp only[decide_eq_false hq,xac,h10,Option.bind_some]
  have hlen0:(selI (fun i=>decide (s.st1 P i=0)) P.n).length=s.e0 P:=zao _ _
  have he0:s.e0 P≤7:=by unfold GS.e0;have:=zaw (fun i=>decide (s.st1 P i=0)) P.n;omega
  rw[hlen0,wadd (by omega)]
  by_cases hq2:s.e1 P+s.e2 P+s.e0 P≤P.seats
  ·have hfin:s.fin P=true:=by
    unfold GS.fin
    rw[xcy]
    exact .inr (decide_eq_true hq2)
   rw[show decide (((s.e1 P+s.e2 P+s.e0 P:Nat):Int)≤(P.seats:Int))=true from decide_eq_true (by omega),cond_true]
   have h14:d170 (KTof P c s (s.st1 P) (s.e1 P+s.e2 P) rs) (zda P s (selI (s.el1 P) P.n)) (selI (fun i=>decide (s.st1 P i=0)) P.n)=some (KTof P c s (fun i=>if decide (s.st1 P i=0)then 1 else s.st1 P i) (s.e1 P+s.e2 P+s.e0 P) rs,zda P s (selI (fun i=>s.el1 P i||decide (s.st1 P i=0)) P.n)):=by
    unfold KTof zda
    rw[d170_eq (st:=s.st1 P) hn7 (by omega) (by omega),sortI_two fun i hi=>?_]
    ·rfl
    ·rcases zbx (P:=P) (s:=s) i with⟨_,_,h2,_⟩|⟨h0,_⟩
     ·rw[h2];rfl
     ·rw[h0]at hi;cases hi
   rw[h14,Option.bind_some]
   refine .inl ⟨hfin,fun i=>if decide (s.st1 P i=0)then 1 else s.st1 P i,s.e1 P+s.e2 P+s.e0 P,?_⟩
   have hdone:s.done P={s.rd0 P with el:=selI (fun i=>s.el1 P i||decide (s.st1 P i=0)) P.n,ex:=[],ti:=[]}:=by
    unfold GS.done
    have h':cntN (fun i=>decide (s.st1 P i=1)) P.n+cntN (fun i=>decide (s.st1 P i=2)) P.n<P.seats:=by
     show s.e1 P+s.e2 P<P.seats;omega
    simp only[if_pos h']
    rfl
   rw[hdone]
   exact zsc (b:=true) (znk P s (selI (fun i=>s.el1 P i||decide (s.st1 P i=0)) P.n) [] []) hre (by omega) (by
    show(selI _ _).length≤7
    rw[zao];have:=zaw (fun i=>s.el1 P i||decide (s.st1 P i=0)) P.n;omega)
  ·have hfin:s.fin P=false:=by
    unfold GS.fin
    rw[xbw]
    exact⟨decide_eq_false hq,decide_eq_false hq2⟩
   rw[show decide (((s.e1 P+s.e2 P+s.e0 P:Nat):Int)≤(P.seats:Int))=false from decide_eq_false (by omega),xac,h9,Option.bind_some]
   have hlen1:(selI (fun i=>decide (s.st1 P i=1)) P.n).length=s.e1 P:=zao _ _
   rw[hlen1]
   refine .inr ?_
   cases hm:s.most P with
   |true=>
    refine .inl ⟨hfin,rfl,?_⟩
    have h0:0<s.e1 P:=of_decide_eq_true hm
    rw[show decide ((0:Int)<(s.e1 P:Int))=true from decide_eq_true (by omega),cond_true,d176_eq hP hI hG hR hc _ hfin hm,Option.bind_some]
    exact zsc (b:=false) (znk P s (selI (s.el1 P) P.n) [] (s.tiedR P)) hre (by omega) hel
   |false=>
    refine .inr ⟨hfin,rfl,?_⟩
    have h0:¬0<s.e1 P:=xdf hm
    rw[show decide ((0:Int)<(s.e1 P:Int))=false from decide_eq_false (by omega),xac,d177_eq hP hI hG hR hc _ hfin hm,Option.bind_some]
    exact zsc (b:=false) (znk P s (selI (s.el1 P) P.n) [s.pick P (rs.map Rd.votes)] (s.tiedR P)) hre (by omega) hel
end Go.Proofs.YtamgmpngdmnadaaGreat
