/- Part 18 of what stands below the statement. -/
import Derived.Test.YtamgmpngdmnadaaGreatRows
import Derived.ProofKit
import Derived.Test.YtamgmpngdmnadaaGreatE17
set_option linter.unusedSimpArgs false
set_option linter.unusedVariables false
namespace Go.Proofs.YtamgmpngdmnadaaGreat
open Go Go.X
section
variable {α:Type} (z:α)
theorem swapA(A:List α)(y x:α)(T:List α):((A++y::x::T).set (A.length+1) y).set A.length x=A++x::y::T:=by
 rw[xek _ _ (by omega),show A.length+1-A.length=1 by omega]
 rw[xek _ _ (by omega),Nat.sub_self]
 rfl
theorem getA_mid(A:List α)(y:α)(T:List α):(A++y::T).getD A.length z=y:=by
 rw[xab,xcg (Nat.le_refl _),Nat.sub_self];rfl
theorem getA_mid1(A:List α)(y x:α)(T:List α):(A++y::x::T).getD (A.length+1) z=x:=by
 rw[xab,xcg (by omega),show A.length+1-A.length=1 by omega];rfl
noncomputable def insA:(List α) × Int × Int × (α→α→Option Int) × Int × Int→Option (((List α) × Int × Int × (α→α→Option Int) × Int × Int) ⊕ ((List α) × Int × Int × (α→α→Option Int) × Int)):=fun ((data_2,a_2,b_2,cmp_2,i_1,j_):(List α) × Int × Int × (α→α→Option Int) × Int × Int) =>
            letJ (fun ((data_3,a_3,b_3,cmp_3,i_2,j__1,t34):(List α) × Int × Int × (α→α→Option Int) × Int × Int × Bool) =>
                bif t34 then
                  bif (decide (0≤(w (j__1-1)))&&decide ((w (j__1-1))<(data_3.length:Int)))then
                    bif (decide (0≤j__1)&&decide (j__1<(data_3.length:Int)))then
                      bif (decide (0≤j__1)&&decide (j__1<(data_3.length:Int)))then
                        bif (decide (0≤(w (j__1-1)))&&decide ((w (j__1-1))<((List.set data_3 (Int.toNat j__1) (List.getD data_3 (Int.toNat (w (j__1-1))) z)).length:Int)))then
                          some (Sum.inl ((List.set (List.set data_3 (Int.toNat j__1) (List.getD data_3 (Int.toNat (w (j__1-1))) z)) (Int.toNat (w (j__1-1))) (List.getD data_3 (Int.toNat j__1) z)),a_3,b_3,cmp_3,i_2,(w (j__1-1))))
                        else none
                      else none
                    else none
                  else none
                else
                  some (Sum.inr (data_3,a_3,b_3,cmp_3,i_2))) fun j__2=>
            bif (decide (a_2<j_))then
              bif (decide (0≤j_)&&decide (j_<(data_2.length:Int)))then
                bif (decide (0≤(w (j_-1)))&&decide ((w (j_-1))<(data_2.length:Int)))then
                  (cmp_2 (List.getD data_2 (Int.toNat j_) z) (List.getD data_2 (Int.toNat (w (j_-1))) z)).bind fun r=>
                  j__2 (data_2,a_2,b_2,cmp_2,i_1,j_,(decide (r<0)))
                else none
              else none
            else
              j__2 (data_2,a_2,b_2,cmp_2,i_1,j_,false)
noncomputable def insO:(List α) × Int × Int × (α→α→Option Int) × Int→Option (((List α) × Int × Int × (α→α→Option Int) × Int) ⊕ (List α)):=fun ((data_1,a_1,b_1,cmp_1,i):(List α) × Int × Int × (α→α→Option Int) × Int) =>
      bif (decide (i<b_1))then
        (zae (insA z) (data_1,a_1,b_1,cmp_1,i,i)).bind fun((data_4,a_4,b_4,cmp_4,i_3):(List α)×Int×Int×(α→α→Option Int)×Int)=>
        some (Sum.inl (data_4,a_4,b_4,cmp_4,(w (i_3+1))))
      else
        some (Sum.inr data_1)
theorem insS_ex{l:List α}{cmp:α→α→Option Int}{g:α→α→Int}(hl:l.length≤1000)(hc:∀a∈l,∀b∈l,cmp a b=some (g a b))(has:∀a∈l,∀b∈l,g a b<0→¬g b a<0)(htr:∀a∈l,∀b∈l,∀c∈l,¬g b a<0→¬g c b<0→¬g c a<0) :
  ∃L,(zae (insO z) (l,0,(l.length:Int),cmp,w (0+1))).bind some=some L∧L.Perm l∧L.Pairwise fun a b=>¬g b a<0:=by
 cases l with
 |nil=>
  refine⟨[],?_,xfr _,by simp⟩
  refine zac (fun i=>([],0,(([]:List α).length:Int),cmp,w (0+1))) 0 rfl (fun i hi=>by omega) (b:=([]:List α)) ?_ rfl
  rfl
 |cons x0 l0=>
 generalize hll:x0::l0=l at *
 have hpos:1≤l.length:=by rw[←hll];simp
 refine zbv (Q:=fun(r:Option (List α))=>∃L:List α,r=some L∧L.Perm l∧L.Pairwise fun a b=>¬g b a<0) (fun(i:Nat) (st:(List α)×Int×Int×(α→α→Option Int)×Int)=>∃S:List α,st=(S++l.drop (i+1),0,(l.length:Int),cmp,((i+1:Nat):Int))∧S.Perm (l.take (i+1))∧(S.Pairwise fun a b=>¬g b a<0)) (l.length-1) ?_ ?_ ?_
 ·refine⟨l.take 1,by rw[xcx];rfl,xfr _,?_⟩
  rw[←hll];simp
 ·rintro i st hi ⟨S,rfl,hS,hs⟩
  have hi1:i+1<l.length:=by omega
  obtain⟨x,hx⟩:∃x,l.getD (i+1) z=x:=⟨_,rfl⟩
  have hdrop:l.drop (i+1)=x::l.drop (i+2):=by rw[←hx];exact drop_getD z hi1
  have hSl:S.length=i+1:=by rw[hS.length_eq,xao];omega
  have hmS:∀a∈S,a∈l:=fun a ha=>xbv (hS.mem_iff.1 ha)
  have hxm:x∈l:=by rw[←hx,xab,xae hi1];exact xbe hi1
  have htk:l.take (i+2)=l.take (i+1)++[x]:=by rw[←hx];exact zbc l z hi1
  rw[hdrop]
  generalize l.drop (i+2)=T at *
  have hdlen:∀A B:List α,S=A++B→(A++x::(B++T)).length=(S++x::T).length:=fun A B e=>by rw[e];simp;omega
  have htot:(S++x::T).length≤1000:=by
   rw[←hdrop,List.length_append,hSl,xdw]
   omega
  have hin:∃S':List α,zae (insA z) (S++x::T,0,(l.length:Int),cmp,((i+1:Nat):Int),((i+1:Nat):Int))=some (S'++T,0,(l.length:Int),cmp,((i+1:Nat):Int))∧S'.Perm (l.take (i+2))∧(S'.Pairwise fun a b=>¬g b a<0):=by
   have key:=zes (γ:=(List α)×Int×Int×(α→α→Option Int)×Int) (k:=some) (Q:=fun r=>∃S':List α,r=some (S'++T,0,(l.length:Int),cmp,((i+1:Nat):Int))∧S'.Perm (l.take (i+2))∧(S'.Pairwise fun a b=>¬g b a<0))
    (f:=insA z) (a0:=(S++x::T,0,(l.length:Int),cmp,((i+1:Nat):Int),((i+1:Nat):Int)))
    (fun(m:Nat) (st:(List α)×Int×Int×(α→α→Option Int)×Int×Int)=>∃A B:List α,st=(A++x::(B++T),0,(l.length:Int),cmp,((i+1:Nat):Int),(m:Int))∧S=A++B∧A.length=m∧∀b∈B,g x b<0) (i+1) ⟨S,[],rfl,by simp,hSl,by simp⟩ (fun m st hst=>?_)
   ·obtain⟨S',h1,h2,h3⟩:=key
    refine⟨S',?_,h2,h3⟩
    rw[xaz]at h1
    obtain⟨b,h4,h5⟩:=h1
    exact h4.trans h5
   ·obtain⟨A,B,rfl,hAB,hAm,hB⟩:=hst
    have hstop:(∀a∈A,¬g x a<0)→∃S':List α,some (A++x::(B++T),(0:Int),(l.length:Int),cmp,((i+1:Nat):Int))=some (S'++T,0,(l.length:Int),cmp,((i+1:Nat):Int))∧S'.Perm (l.take (i+2))∧(S'.Pairwise fun a b=>¬g b a<0):=fun hA=>by
     refine⟨A++x::B,by rw[xcj,xbn],?_,?_⟩
     ·rw[htk]
      refine List.perm_middle.trans ?_
      rw[←hAB]
      exact(xgl (l₁:=[x]) (l₂:=S)).trans (xhx _ hS)
     ·rw[hAB,xcq]at hs
      rw[xcq,xcc]
      refine⟨hs.1,⟨fun b hb=>has x hxm b (hmS b (by rw[hAB];simp[hb])) (hB b hb),hs.2.1⟩,fun a ha b hb=>?_⟩
      rcases xan.1 hb with rfl|hb
      ·exact hA a ha
      ·exact hs.2.2 a ha b hb
    cases m with
    |zero=>
     have hA0:A=[]:=xde.1 hAm
     refine .inr ⟨(A++x::(B++T),0,(l.length:Int),cmp,((i+1:Nat):Int)),?_,hstop (by rw[hA0];simp)⟩
     unfold insA
     simp only[zal,show decide ((0:Int)<((0:Nat):Int))=false from rfl,xac]
    |succ m=>
     obtain⟨A',y,rfl⟩:∃A' y,A=A'++[y]:=by
      rcases xel A with rfl|⟨A',y,h⟩
      ·simp at hAm
      ·exact⟨A',y,by rw[h,xen]⟩
     have hA'm:A'.length=m:=by simpa using hAm
     subst hA'm
     have hym:y∈S:=by rw[hAB];simp
     have hyl:=hmS y hym
     have hlen:=hdlen _ B hAB
     have e0:A'++[y]++x::(B++T)=A'++y::x::(B++T):=by simp
     rw[e0]at hlen ⊢
     have hlA:(A'++y::x::(B++T)).length≤1000:=by omega
     have hm1:A'.length+1<(A'++y::x::(B++T)).length:=by simp
     have hm0:A'.length<(A'++y::x::(B++T)).length:=by simp
     have hgx:=getA_mid1 z A' y x (B++T)
     have hgy:=getA_mid z A' y (x::(B++T))
     have hsw:=swapA A' y x (B++T)
     by_cases hlt:g x y<0
     ·refine .inl ⟨(A'++x::y::(B++T),0,(l.length:Int),cmp,((i+1:Nat):Int),(A'.length:Int)),A'.length,?_,by omega,A',y::B,rfl,by rw[hAB];simp,rfl,fun b hb=>?_⟩
      ·unfold insA
       simp only[zal,decide_eq_true (show(0:Int)<((A'.length+1:Nat):Int) by omega),cond_true,d0le,dlt hm1,dlt hm0,xad,tn,zrl (show A'.length<9223372036854775807 by omega),hgx,hgy,hc x hxm y hyl,Option.bind_some,decide_eq_true hlt,List.length_set,hsw]
      ·rcases xan.1 hb with rfl|hb
       ·exact hlt
       ·exact hB b hb
     ·have hst:=hstop (fun a ha=>by
       rcases List.mem_append.1 ha with ha|ha
       ·refine htr a (hmS a (by rw[hAB];simp[ha])) y hyl x hxm ?_ hlt
        rw[hAB,xcq,xcq]at hs
        exact hs.1.2.2 a ha y (by simp)
       ·rw[xbm.1 ha];exact hlt)
      rw[e0]at hst
      refine .inr ⟨(A'++y::x::(B++T),0,(l.length:Int),cmp,((i+1:Nat):Int)),?_,hst⟩
      unfold insA
      simp only[zal,decide_eq_true (show(0:Int)<((A'.length+1:Nat):Int) by omega),cond_true,d0le,dlt hm1,dlt hm0,xad,tn,zrl (show A'.length<9223372036854775807 by omega),hgx,hgy,hc x hxm y hyl,Option.bind_some,decide_eq_false hlt,xac]
  obtain⟨S',h1,h2,h3⟩:=hin
  refine⟨(S'++T,0,(l.length:Int),cmp,((i+1+1:Nat):Int)),?_,S',rfl,h2,h3⟩
  show(bif decide (((i+1:Nat):Int)<(l.length:Int))then(zae (insA z) (S++x::T,(0:Int),(l.length:Int),cmp,((i+1:Nat):Int),((i+1:Nat):Int))).bind (fun p=>some (Sum.inl (p.1,p.2.1,p.2.2.1,p.2.2.2.1,w (p.2.2.2.2+1))))else some (Sum.inr (S++x::T)))=_
  rw[dlt hi1,cond_true,h1,Option.bind_some,zav (show i+1<9223372036854775807 by omega)]
 ·rintro st ⟨S,rfl,hS,hs⟩
  rw[show l.length-1+1=l.length by omega,xay]at hS
  refine⟨S++l.drop (l.length-1+1),?_,S,?_,hS,hs⟩
  ·show(bif decide (((l.length-1+1:Nat):Int)<(l.length:Int))then _ else some (Sum.inr (S++l.drop (l.length-1+1))))=_
   rw[nlt (show l.length≤l.length-1+1 by omega),xac]
  ·rw[List.drop_of_length_le (by omega),xbq]
end
end Go.Proofs.YtamgmpngdmnadaaGreat
namespace Go.Proofs.YtamgmpngdmnadaaGreat
open Go Go.X
def isP(p q:List Int):Int:=if q=p then 1 else 0
theorem zcn(p:List Int):∀{gs:List Grp},(∀g∈gs,g.1≠p)→wsum (isP p) gs=0
 | [],_=>rfl
 |g::gs,h=>by
  have h1:=zcn p (gs:=gs) fun x hx=>h x (xah _ hx)
  show g.2*isP p g.1+wsum (isP p) gs=0
  rw[h1,isP,if_neg (h g (by simp))]
  omega
theorem ziq{g:Grp}{gs:List Grp}(h:zdr (g::gs)):(∀x∈gs,g.1<x.1)∧zdr gs:=xcc.1 h
theorem zsd:∀{a b:List Grp},zdr a→zdr b→(∀g∈a,1≤g.2)→(∀g∈b,1≤g.2)→(∀f,wsum f a=wsum f b)→a=b
 | [],[],_,_,_,_,_=>rfl
 | [],g::b,_,hb,_,wb,h=>by
  exfalso
  have h1:=h (isP g.1)
  have h2:=zcn g.1 (gs:=b) fun x hx e=>zbu _ (e▸(ziq hb).1 x hx:g.1<g.1)
  have h3:wsum (isP g.1) (g::b)=g.2*isP g.1 g.1+wsum (isP g.1) b:=rfl
  rw[h3,h2,isP,if_pos rfl]at h1
  have h4:=wb g (by simp)
  have h5:wsum (isP g.1) []=0:=rfl
  omega
 |g::a,[],ha,_,wa,_,h=>by
  exfalso
  have h1:=h (isP g.1)
  have h2:=zcn g.1 (gs:=a) fun x hx e=>zbu _ (e▸(ziq ha).1 x hx:g.1<g.1)
  have h3:wsum (isP g.1) (g::a)=g.2*isP g.1 g.1+wsum (isP g.1) a:=rfl
  rw[h3,h2,isP,if_pos rfl]at h1
  have h4:=wa g (by simp)
  have h5:wsum (isP g.1) []=0:=rfl
  omega
 |g::a,k::b,ha,hb,wa,wb,h=>by
  obtain⟨la,sa⟩:=ziq ha
  obtain⟨lb,sb⟩:=ziq hb
  have key:∀{g k:Grp} {a b:List Grp},(∀x∈a,g.1<x.1)→(∀x∈b,k.1<x.1)→1≤g.2→(∀f,wsum f (g::a)=wsum f (k::b))→¬g.1<k.1:=fun{g k a b} la lb w h hlt=>by
   have h1:=h (isP g.1)
   have h2:=zcn g.1 (gs:=a) fun x hx e=>zbu _ (e▸la x hx:g.1<g.1)
   have h3:=zcn g.1 (gs:=k::b) fun x hx e=>by
    rcases xan.1 hx with rfl|hx
    ·rw[e]at hlt;exact zbu _ hlt
    ·have:=zfk hlt (lb x hx);rw[e]at this;exact zbu _ this
   have h4:wsum (isP g.1) (g::a)=g.2*isP g.1 g.1+wsum (isP g.1) a:=rfl
   rw[h3,h4,h2,isP,if_pos rfl]at h1
   omega
  have n1:=key la lb (wa g (by simp)) h
  have n2:=key lb la (wb k (by simp)) fun f=>(h f).symm
  have e1:g.1=k.1:=by
   rcases zlp g.1 k.1 with h|h|h
   ·exact absurd h n1
   ·exact h
   ·exact absurd h n2
  have za:=zcn g.1 (gs:=a) fun x hx e=>zbu _ (e▸la x hx:g.1<g.1)
  have zb:=zcn g.1 (gs:=b) fun x hx e=>zbu k.1 (by have:=lb x hx;rw[e,e1]at this;exact this)
  have e2:g.2=k.2:=by
   have h1:=h (isP g.1)
   have h4:wsum (isP g.1) (g::a)=g.2*isP g.1 g.1+wsum (isP g.1) a:=rfl
   have h5:wsum (isP g.1) (k::b)=k.2*isP g.1 k.1+wsum (isP g.1) b:=rfl
   rw[h4,h5,za,zb,isP,isP,if_pos rfl,if_pos e1.symm]at h1
   omega
  have e3:g=k:=Prod.ext e1 e2
  subst e3
  congr 1
  refine zsd sa sb (fun x hx=>wa x (xah _ hx)) (fun x hx=>wb x (xah _ hx)) fun f=>?_
  have h1:=h f
  have h4:∀c,wsum f (g::c)=g.2*f g.1+wsum f c:=fun _=>rfl
  rw[h4,h4]at h1
  omega
theorem bsum_perm(f:List Int→Int){a b:List (List Int)}(h:a.Perm b):bsum f a=bsum f b:=by
 induction h with
 |nil=>rfl
 |cons x h ih=>exact xbb (f x+·) ih
 |swap x y l=>
  show f y+(f x+bsum f l)=f x+(f y+bsum f l)
  omega
 |trans _ _ h1 h2=>exact h1.trans h2
theorem pileOf_perm{n:Int}{a b:List (List Int)}(ha:∀x∈a,isB n x)(hl:a.length≤100000)(h:a.Perm b):zdx a=zdx b:=by
 obtain⟨p1,w1⟩:=zib a ha hl
 obtain⟨p2,w2⟩:=zib b (fun x hx=>ha x (h.mem_iff.2 hx)) (by rw[←h.length_eq];exact hl)
 exact zsd p1.2 p2.2 (fun g hg=>(p1.1 g hg).2) (fun g hg=>(p2.1 g hg).2) fun f=>by rw[w1,w2,bsum_perm f h]
end Go.Proofs.YtamgmpngdmnadaaGreat
namespace Go.Proofs.YtamgmpngdmnadaaGreat
open Go Go.X
def mrg1(out:List Grp)(g:Grp):List Grp:=
 if 0<out.length∧(out.getD (out.length-1) ([],0)).1=g.1 then out.set (out.length-1) ((out.getD (out.length-1) ([],0)).1,(out.getD (out.length-1) ([],0)).2+g.2)else out++[g]
theorem zna(g:Grp):mrg1 [] g=[g]:=rfl
theorem zkd(A:List Grp)(l g:Grp):mrg1 (A++[l]) g=if l.1=g.1 then A++[(l.1,l.2+g.2)]else A++[l,g]:=by
 have e:(A++[l]).length-1=A.length:=by simp
 have e2:(A++[l]).getD A.length ([],0)=l:=by rw[xab,xcg (Nat.le_refl _),Nat.sub_self];rfl
 unfold mrg1
 rw[e,e2]
 by_cases h:l.1=g.1
 ·rw[if_pos ⟨by simp,h⟩,if_pos h,xek _ _ (Nat.le_refl _),Nat.sub_self];rfl
 ·rw[if_neg (fun q=>h q.2),if_neg h];simp
theorem zrk(f:List Int→Int)(g:Grp):wsum f [g]=g.2*f g.1:=by show g.2*f g.1+0=_;omega
theorem wsum_mrg1(f:List Int→Int)(out:List Grp)(g:Grp):wsum f (mrg1 out g)=wsum f out+g.2*f g.1:=by
 rcases xel out with rfl|⟨A,l,h⟩
 ·rw[zna,zrk];show _=0+_;omega
 ·rw[xen]at h
  subst h
  rw[zkd,zfr,zrk]
  by_cases h:l.1=g.1
  ·rw[if_pos h,zfr,zrk,←h]
   show _+(l.2+g.2)*f l.1=_
   rw[Int.add_mul];omega
  ·rw[if_neg h,zfr]
   show _+(l.2*f l.1+(g.2*f g.1+0))=_
   omega
theorem mrg1_mem{out:List Grp}{g x:Grp}(h:x∈mrg1 out g):x∈out∨x=g∨∃l∈out,l.1=g.1∧x=(l.1,l.2+g.2):=by
 rcases xel out with rfl|⟨A,l,e⟩
 ·rw[zna]at h;exact .inr (.inl (xbm.1 h))
 ·rw[xen]at e
  subst e
  rw[zkd]at h
  by_cases he:l.1=g.1
  ·rw[if_pos he]at h
   rcases List.mem_append.1 h with h|h
   ·exact .inl (xcr _ h)
   ·exact .inr (.inr ⟨l,by simp,he,xbm.1 h⟩)
  ·rw[if_neg he]at h
   rcases List.mem_append.1 h with h|h
   ·exact .inl (xcr _ h)
   ·rcases xan.1 h with h|h
    ·exact .inl (by rw[h];simp)
    ·exact .inr (.inl (xbm.1 h))
theorem mrg1_len(out:List Grp)(g:Grp):(mrg1 out g).length≤out.length+1:=by
 unfold mrg1
 split
 ·rw[List.length_set];omega
 ·simp
theorem mrg1_sorted{out:List Grp}{g:Grp}(h:zdr out)(hg:∀x∈out,¬g.1<x.1):zdr (mrg1 out g):=by
 rcases xel out with rfl|⟨A,l,e⟩
 ·rw[zna];exact xhq _ _
 ·rw[xen]at e
  subst e
  rw[zkd]
  have h':=xcq.1 h
  by_cases he:l.1=g.1
  ·rw[if_pos he]
   exact xcq.2 ⟨h'.1,xhq _ _,fun a ha b hb=>by
    rw[xbm.1 hb]
    exact h'.2.2 a ha l (by simp)⟩
  ·rw[if_neg he]
   have hlg:l.1<g.1:=by
    rcases zlp l.1 g.1 with q|q|q
    ·exact q
    ·exact absurd q he
    ·exact absurd q (hg l (by simp))
   refine xcq.2 ⟨h'.1,xcc.2 ⟨fun b hb=>by rw[xbm.1 hb];exact hlg,xhq _ _⟩,fun a ha b hb=>?_⟩
   have hal:=h'.2.2 a ha l (by simp)
   rcases xan.1 hb with rfl|hb
   ·exact hal
   ·rw[xbm.1 hb]
    exact zfk hal hlg
structure MrgOK(gs R:List Grp):Prop where
 sorted:zdr R
 sum:∀f,wsum f R=wsum f gs
 mem:∀r∈R,∃g∈gs,r.1=g.1
 pos:(∀g∈gs,1≤g.2)→∀r∈R,1≤r.2
 len:R.length≤gs.length
theorem mrg_all:∀{gs out:List Grp},zdr out→(∀x∈out,∀g∈gs,¬g.1<x.1)→(gs.Pairwise fun a b=>¬b.1<a.1)→zdr (gs.foldl mrg1 out)∧(∀f,wsum f (gs.foldl mrg1 out)=wsum f out+wsum f gs)∧(∀r∈gs.foldl mrg1 out,∃g∈out++gs,r.1=g.1) ∧
  ((∀g∈out++gs,1≤g.2)→∀r∈gs.foldl mrg1 out,1≤r.2)∧(gs.foldl mrg1 out).length≤out.length+gs.length
 | [],out,h1,_,_=>⟨h1,fun f=>by show _=_+0;rw[xgj];omega,fun r hr=>⟨r,by simpa using hr,rfl⟩,fun h r hr=>h r (by simpa using hr),by simp⟩
 |g::gs,out,h1,h2,h3=>by
  rw[xeg]
  obtain⟨p1,p2⟩:=xcc.1 h3
  have hm:∀{x:Grp},x∈mrg1 out g→(∃y∈out++[g],x.1=y.1):=fun{x} hx=>by
   rcases mrg1_mem hx with h|h|⟨l,hl,_,h⟩
   ·exact⟨x,by simp[h],rfl⟩
   ·exact⟨g,by simp,by rw[h]⟩
   ·exact⟨l,by simp[hl],by rw[h]⟩
  obtain⟨q1,q2,q3,q4,q5⟩:=mrg_all (gs:=gs) (out:=mrg1 out g) (mrg1_sorted h1 fun x hx=>h2 x hx g (by simp)) (fun x hx k hk=>by
   obtain⟨y,hy,e⟩:=hm hx
   rw[e]
   rcases List.mem_append.1 hy with hy|hy
   ·exact h2 y hy k (xah _ hk)
   ·rw[xbm.1 hy];exact p1 k hk) p2
  refine⟨q1,fun f=>?_,fun r hr=>?_,fun h r hr=>q4 (fun x hx=>?_) r hr,?_⟩
  ·rw[q2,wsum_mrg1]
   show _=_+(g.2*f g.1+wsum f gs)
   omega
  ·obtain⟨x,hx,e⟩:=q3 r hr
   rcases List.mem_append.1 hx with hx|hx
   ·obtain⟨y,hy,e2⟩:=hm hx
    refine⟨y,?_,e.trans e2⟩
    rcases List.mem_append.1 hy with hy|hy
    ·exact xcr _ hy
    ·rw[xbm.1 hy];simp
   ·exact⟨x,by simp[hx],e⟩
  ·rcases List.mem_append.1 hx with hx|hx
   ·rcases mrg1_mem hx with h5|h5|⟨l,hl,_,h5⟩
    ·exact h x (by simp[h5])
    ·rw[h5];exact h g (by simp)
    ·have a1:=h l (by simp[hl]);have a2:=h g (by simp)
     rw[h5]
     show 1≤l.2+g.2
     omega
   ·exact h x (by simp[hx])
  ·have:=mrg1_len out g
   simp only[xat]
   omega
theorem mrg_ok{gs:List Grp}(h:gs.Pairwise fun a b=>¬b.1<a.1):MrgOK gs (gs.foldl mrg1 []):=by
 obtain⟨q1,q2,q3,q4,q5⟩:=mrg_all (out:=[]) List.Pairwise.nil (fun x hx=>by simp at hx) h
 exact⟨q1,fun f=>by rw[q2];show 0+_=_;omega,by simpa using q3,by simpa using q4,by simpa using q5⟩
theorem wsum_perm(f:List Int→Int){a b:List Grp}(h:a.Perm b):wsum f a=wsum f b:=by
 induction h with
 |nil=>rfl
 |cons x h ih=>exact xbb (x.2*f x.1+·) ih
 |swap x y l=>
  show y.2*f y.1+(x.2*f x.1+wsum f l)=x.2*f x.1+(y.2*f y.1+wsum f l)
  omega
 |trans _ _ h1 h2=>exact h1.trans h2
theorem zpq(f:List Int→Int):∀bs:List (List Int),wsum f (bs.map fun b=>(b,(1:Int)))=bsum f bs
 | []=>rfl
 |b::bs=>by
  have:=zpq f bs
  show 1*f b+wsum f (bs.map fun b=>(b,(1:Int)))=f b+bsum f bs
  omega
theorem merge_pile{n:Int}{bs:List (List Int)}(hb:∀b∈bs,isB n b)(hl:bs.length≤100000){L:List Grp}(hp:L.Perm (bs.map fun b=>(b,(1:Int))))(hs:L.Pairwise fun a b=>¬b.1<a.1):L.foldl mrg1 []=zdx bs:=by
 have m:=mrg_ok hs
 obtain⟨p1,w1⟩:=zib bs hb hl
 refine zsd m.sorted p1.2 (m.pos fun g hg=>?_) (fun g hg=>(p1.1 g hg).2) fun f=>by rw[m.sum,w1,wsum_perm f hp,zpq]
 obtain⟨b,_,rfl⟩:=xcv.1 (hp.mem_iff.1 hg)
 exact Int.le_refl _
end Go.Proofs.YtamgmpngdmnadaaGreat
namespace Go.Proofs.YtamgmpngdmnadaaGreat
open Go Go.X
theorem list_eqD{a b:List Int}(hl:a.length=b.length)(h:∀i,i<a.length→a.getD i 0=b.getD i 0):a=b:=by
 refine xfb hl fun i h1 h2=>?_
 have:=h i h1
 rw[xab,xab,xae h1,xae h2]at this
 exact this
theorem d56_eq{a b:List Int}(ha:a.length≤281474976710656):d56 a b=some (decide (a=b)):=by
 unfold d56
 by_cases hl:a.length=b.length
 ·rw[decide_eq_true (show(a.length:Int)=(b.length:Int) by omega),xam,xac]
  refine zhu (fun i=>(a,b,(a.length:Int),(i:Int))) (fun i=>!decide (a.getD i 0=b.getD i 0)) a.length (fun _=>Sum.inr false) (Sum.inl ()) rfl (fun i hi _=>?_) (fun _=>?_) (fun i hi hp _=>?_) (fun h=>?_)
  ·simp only[dlt hi,d0le,xad,cond_true,tn,dlt (show i<b.length by omega),zav (show i<9223372036854775807 by omega)]
   cases(!decide (a.getD i 0=b.getD i 0))<;>rfl
  ·simp only[nlt (Nat.le_refl a.length),xac]
  ·have hne:a.getD i 0≠b.getD i 0:=by simpa using hp
   show some false=some (decide (a=b))
   rw[decide_eq_false (fun e=>hne (by rw[e]))]
  ·show some true=some (decide (a=b))
   rw[decide_eq_true (list_eqD hl fun i hi=>by simpa using h i hi)]
 ·rw[decide_eq_false (show ¬(a.length:Int)=(b.length:Int) by omega),xak,cond_true,decide_eq_false (fun e=>hl (by rw[e]))]
theorem d144_eq{a b:Grp}(ha:a.1.length≤281474976710656)(hb:b.1.length≤281474976710656):d144 a b=some (cmpL a.1 b.1):=by
 unfold d144
 rw[d145_eq ha hb];rfl
theorem zta{a b:List Int}:cmpL a b<0↔a<b:=by
 unfold cmpL
 by_cases h:a<b
 ·rw[if_pos h];exact⟨fun _=>h,fun _=>by omega⟩
 ·rw[if_neg h]
  constructor
  ·intro h2
   split at h2<;>omega
  ·exact fun h2=>absurd h2 h
theorem le_trans_lex{a b c:List Int}(h1:¬b<a)(h2:¬c<b):¬c<a:=fun h3=>by
 rcases zlp a b with h|h|h
 ·exact h2 (zfk h3 h)
 ·rw[h]at h3;exact h2 h3
 ·exact h1 h
theorem d143_eq{gs:List Grp}(hl:gs.length≤12)(hp:∀g∈gs,g.1.length≤281474976710656):∃L,d143 gs (fun a a_1=>d144 a a_1)=some L∧L.Perm gs∧L.Pairwise fun a b=>¬b.1<a.1:=by
 obtain⟨L,h1,h2,h3⟩:=insS_ex (([],0):Grp) (l:=gs) (cmp:=fun a a_1=>d144 a a_1) (g:=fun a b=>cmpL a.1 b.1) (by omega) (fun a ha b hb=>d144_eq (hp a ha) (hp b hb)) (fun a _ b _ h=>by
  rw[zta]at h ⊢;exact zoq h) (fun a _ b _ c _ h1 h2=>by
  rw[zta]at h1 h2 ⊢;exact le_trans_lex h1 h2)
 refine⟨L,?_,h2,h3.imp fun{a b} h=>by rw[zta]at h;exact h⟩
 have hins:d253 gs 0 (gs.length:Int) (fun a a_1=>d144 a a_1)=some L:=h1
 unfold d143
 have e183:∀x,d183 x=some (Lib.bitLen x.toNat:Int):=fun x=>rfl
 rw[e183,Option.bind_some]
 have hw:w ((gs.length:Int)-0)=(gs.length:Int):=zbj (by omega) (by omega)
 show((d206N 2 gs 0 (gs.length:Int) _ (fun a a_1=>d144 a a_1)).bind fun r_1=>some r_1)=_
 show((d206F (d206N 1) gs 0 (gs.length:Int) _ (fun a a_1=>d144 a a_1)).bind fun r_1=>some r_1)=_
 unfold d206F
 generalize((Lib.bitLen (wu64 (gs.length:Int)).toNat:Nat):Int)=t3
 refine xaz.2 ⟨L,?_,rfl⟩
 refine zac (fun _=>(gs,0,(gs.length:Int),t3,(fun a a_1=>d144 a a_1),true,true)) 0 rfl (fun i hi=>by omega) (b:=L) ?_ rfl
 simp only[hw,decide_eq_true (show(gs.length:Int)≤12 by omega),cond_true,hins,Option.bind_some]
theorem mrg_take{L:List Grp}(hs:L.Pairwise fun a b=>¬b.1<a.1)(hpos:∀g∈L,1≤g.2){N:Int}(hN:wsum (fun _=>1) L≤N)(i:Nat) :
  ((L.take i).foldl mrg1 []).length≤i∧∀x∈(L.take i).foldl mrg1 [],(1≤x.2∧∃g∈L,x.1=g.1)∧∀g∈L,x.2≤N∧(L.getD i ([],0)=g→i<L.length→x.2+g.2≤N):=by
 have m:=mrg_ok (hs.sublist (xhk i L))
 have hp:∀r∈(L.take i).foldl mrg1 [],1≤r.2:=m.pos fun g hg=>hpos g (xbv hg)
 refine⟨Nat.le_trans m.len (by rw[xao];omega),fun x hx=>⟨⟨hp x hx,by
  obtain⟨g,hg,e⟩:=m.mem x hx
  exact⟨g,xbv hg,e⟩⟩,fun g hg=>?_⟩⟩
 have h1:=(mem_le hp).2 x hx
 rw[m.sum]at h1
 have h2:wsum (fun _=>1) L=wsum (fun _=>1) (L.take i)+wsum (fun _=>1) (L.drop i):=by rw[←zfr,xcx]
 have hd:=mem_le (gs:=L.drop i) fun g hg=>hpos g (xfo hg)
 refine⟨by omega,fun e hi=>?_⟩
 have h3:=hd.2 g (by
  rw[←e,xab,xae hi]
  exact List.mem_drop_iff_getElem.2 ⟨0,by simpa using hi,by simp⟩)
 omega
theorem d79_eq{gs:List Grp}(hl:gs.length≤12)(hp:∀g∈gs,g.1.length≤281474976710656∧1≤g.2)(hs:wsum (fun _=>1) gs≤100000) :
  ∃L:List Grp,L.Perm gs∧(L.Pairwise fun a b=>¬b.1<a.1)∧d79 gs=some (L.foldl mrg1 []):=by
 obtain⟨L,h1,h2,h3⟩:=d143_eq hl fun g hg=>(hp g hg).1
 refine⟨L,h2,h3,?_⟩
 have hp':∀g∈L,g.1.length≤281474976710656∧1≤g.2:=fun g hg=>hp g (h2.mem_iff.1 hg)
 have hs':wsum (fun _=>1) L≤100000:=by rw[wsum_perm _ h2];exact hs
 have hl':L.length≤12:=by rw[h2.length_eq];exact hl
 unfold d79
 rw[h1,Option.bind_some]
 refine zac (fun i=>(L,(L.take i).foldl mrg1 [],(L.length:Int),(i:Int))) L.length rfl (fun i hi=>?_) (b:=L.foldl mrg1 []) ?_ rfl
 ·obtain⟨m1,m2⟩:=mrg_take h3 (fun g hg=>(hp' g hg).2) hs' i
  have hg:L.getD i ([],0)∈L:=by rw[xab,xae hi];exact xbe hi
  have htk:L.take (i+1)=L.take i++[L.getD i ([],0)]:=zgr L ([],0) hi
  rw[htk,List.foldl_append,xeg,xgj]
  generalize(L.take i).foldl mrg1 []=out at m1 m2
  generalize hge:L.getD i ([],0)=g at hg
  simp only[dlt hi,d0le,xad,cond_true,tn,zal,hge,zav (show i<9223372036854775807 by omega)]
  rcases xel out with rfl|⟨A,l,e⟩
  ·rw[zna]
   have e1:decide (0≤w (((([]:List Grp).length:Nat):Int)-1))=false:=by decide
   simp only[e1,xac]
   rw[lim_ok' (by simp)]
   rfl
  ·rw[xen]at e
   subst e
   rw[zkd]
   have hlen:(A++[l]).length=A.length+1:=by simp
   have e0:w (((A++[l]).length:Int)-1)=(A.length:Int):=by rw[hlen];exact zrl (by omega)
   have hgl:(A++[l]).getD A.length ([],0)=l:=by rw[xab,xcg (Nat.le_refl _),Nat.sub_self];rfl
   obtain⟨⟨l1,k,hk,ek⟩,l2⟩:=m2 l (by simp)
   have hlp:l.1.length≤281474976710656:=by rw[ek];exact(hp' k hk).1
   obtain⟨l3,l4⟩:=l2 g hg
   have l5:=l4 hge hi
   have g1:=(hp' g hg).2
   have hA:A.length+1≤12:=by rw[hlen]at m1;omega
   have hlt:A.length<(A++[l]).length:=by rw[hlen];omega
   have hset:∀y:Grp,(A++[l]).set A.length y=A++[y]:=fun y=>by rw[xek _ _ (Nat.le_refl _),Nat.sub_self];rfl
   simp only[e0,d0le,dlt hlt,xad,cond_true,tn,hgl,d56_eq hlp,Option.bind_some]
   by_cases he:l.1=g.1
   ·rw[decide_eq_true he,cond_true,if_pos he,hset,show w (l.2+g.2)=l.2+g.2 from zbj (by omega) (by omega)]
   ·rw[decide_eq_false he,xac,if_neg he,zbn (by rw[hlen];omega),cond_true]
    simp
 ·simp only[nlt (Nat.le_refl L.length),xac,xay]
theorem d47_eq{n:Int}(h1:1≤n)(h7:n≤7){bs:List (List Int)}(hb:∀b∈bs,isB n b)(hl:bs.length≤12):d47 n bs=some (zdx bs,0):=by
 unfold d47
 simp only[zal,decide_eq_false (show ¬n<1 by omega),xak,cond_true,decide_eq_false (show ¬7<n by omega),xac,decide_eq_false (show ¬(100000:Int)<(bs.length:Int) by omega)]
 obtain⟨L,hp,hs,hm⟩:=d79_eq (gs:=bs.map fun b=>(b,(1:Int))) (by simpa using hl) (fun g hg=>by
  obtain⟨b,hb',rfl⟩:=xcv.1 hg
  exact⟨Nat.le_trans (zga (hb b hb') h7) (by omega),Int.le_refl _⟩) (by
  have:∀l:List (List Int),bsum (fun _=>1) l=(l.length:Int):=fun l=>by
   induction l with
   |nil=>rfl
   |cons x l ih=>show 1+bsum (fun _=>1) l=_;rw[ih,xat];omega
  rw[zpq,this];omega)
 have hmp:=merge_pile hb (by omega) hp hs
 refine zac (fun i=>(n,(bs.take i).map fun b=>(b,(1:Int)),bs,(bs.length:Int),(i:Int))) bs.length rfl (fun i hi=>?_) (b:=Sum.inl (bs.map fun b=>(b,(1:Int)))) ?_ ?_
 ·have hg:bs.getD i []∈bs:=by rw[xab,xae hi];exact xbe hi
  have htk:bs.take (i+1)=bs.take i++[bs.getD i []]:=zgr bs [] hi
  rw[htk,xcd,xdd,xga]
  have hB:=hb _ hg
  generalize hge:bs.getD i []=b at hB hg
  have hlen:((bs.take i).map fun b=>(b,(1:Int))).length≤12:=by rw[xau,xao];omega
  have hbl:=zga hB h7
  have h78:d78 b=some b:=by
   show(bif decide ((b.length:Int)≤LIM)then some b else none)=some b
   rw[zbq (by omega)];rfl
  simp only[dlt hi,d0le,xad,cond_true,tn,hge,d77_eq h7 (show b.length≤281474976710656 by omega),decide_eq_true hB,Option.bind_some,xam,xac,h78,zav (show i<9223372036854775807 by omega)]
  rw[zbn (by omega),cond_true]
 ·simp only[nlt (Nat.le_refl bs.length),xac,xay]
 ·show((d79 (bs.map fun b=>(b,(1:Int)))).bind fun r_2=>some (r_2,(0:Int)))=_
  rw[hm,Option.bind_some,hmp]
def zdv(ps:List (Bool×List Int)):List (List Int):=(ps.filter fun p=>!p.1).map fun p=>p.2
theorem foundB_snoc(ps:List (Bool×List Int))(p:Bool×List Int):zdv (ps++[p])=zdv ps++(if p.1 then []else [p.2]):=by
 unfold zdv
 rw[xdv,xcd]
 congr 1
 cases h:p.1<;>simp[xdx,h]
theorem ziz(ps:List (Bool×List Int)):(zdv ps).length≤ps.length:=by
 unfold zdv
 rw[xau]
 exact xfk _ _
theorem zja{n:Int}{ps:List (Bool×List Int)}(h:∀p∈ps,isB n p.2):∀b∈zdv ps,isB n b:=fun b hb=>by
 obtain⟨p,hp,rfl⟩:=xcv.1 hb
 exact h p (List.mem_filter.1 hp).1
theorem foundB_perm{a b:List (Bool×List Int)}(h:a.Perm b):(zdv a).Perm (zdv b):=(h.filter _).map _
theorem d20_eq{c:CT}{n:Nat}{m:Int}(hc:ConOK c n m)(hm:c.2.2.1=m)(h1:1≤m)(h3:m≤3)(n1:1≤n)(n7:n≤7)(hn:c.2.1.length=n){ps:List (Bool×List Int)}(hp:∀p∈ps,isB (n:Int) p.2)(hl:ps.length≤12)(lots:List Int) :
  d20 c ps lots=if m=1 then d48 c (zdx (zdv ps)) lots else if m=2 then d49 c (zdx (zdv ps)) lots else d50 c (zdx (zdv ps)) lots:=by
 unfold d20
 simp only[zal,hm,decide_eq_false (show ¬m<1 by omega),xak,cond_true,decide_eq_false (show ¬3<m by omega),xac,decide_eq_false (show ¬(100000:Int)<(ps.length:Int) by omega)]
 refine zac (fun i=>(lots,c,((0,0,0,0,[],[]):Int×(Int×(Int×(Int×(List RD×List Int))))),zdv (ps.take i),ps,(ps.length:Int),(i:Int))) ps.length rfl (fun i hi=>?_) (b:=(lots,c,(0,0,0,0,[],[]),zdv ps)) ?_ ?_
 ·have htk:ps.take (i+1)=ps.take i++[ps.getD i (false,[])]:=zgr ps (false,[]) hi
  rw[htk,foundB_snoc]
  have hfl:=ziz (ps.take i)
  rw[xao]at hfl
  simp only[dlt hi,d0le,xad,cond_true,tn,zav (show i<9223372036854775807 by omega)]
  generalize ps.getD i (false,[])=p
  obtain⟨q,b⟩:=p
  cases q
  ·simp only[xak,cond_true]
   rw[zbn (by omega),cond_true]
   rfl
  ·simp
 ·simp only[nlt (Nat.le_refl ps.length),xac,xay]
 ·have hml:=d47_eq (n:=(n:Int)) (by omega) (by omega) (zja hp) (Nat.le_trans (ziz ps) hl)
  simp only[hn,hml,Option.bind_some,xaq,xam,xac,hm]
  by_cases e1:m=1
  ·simp only[decide_eq_true e1,cond_true,if_pos e1]
   cases d48 c (zdx (zdv ps)) lots<;>rfl
  ·by_cases e2:m=2
   ·simp only[decide_eq_false e1,xac,decide_eq_true e2,cond_true,if_neg e1,if_pos e2]
    cases d49 c (zdx (zdv ps)) lots<;>rfl
   ·simp only[decide_eq_false e1,xac,decide_eq_false e2,if_neg e1,if_neg e2]
    cases d50 c (zdx (zdv ps)) lots<;>rfl
end Go.Proofs.YtamgmpngdmnadaaGreat
namespace Go.Proofs.YtamgmpngdmnadaaGreat
open Go Go.X
theorem asc_ext:∀{a b:List Int},(a.Pairwise fun x y=>x<y)→(b.Pairwise fun x y=>x<y)→(∀x,x∈a↔x∈b)→a=b
 | [],[],_,_,_=>rfl
 | [],y::b,_,_,h=>by have:=(h y).2 (by simp);simp at this
 |x::a,[],_,_,h=>by have:=(h x).1 (by simp);simp at this
 |x::a,y::b,ha,hb,h=>by
  obtain⟨p1,p2⟩:=xcc.1 ha
  obtain⟨q1,q2⟩:=xcc.1 hb
  have hxy:x=y:=by
   have h1:=(h x).1 (by simp)
   have h2:=(h y).2 (by simp)
   rcases xan.1 h1 with e|e
   ·exact e
   ·rcases xan.1 h2 with e2|e2
    ·exact e2.symm
    ·have:=q1 x e;have:=p1 y e2;omega
  subst hxy
  congr 1
  refine asc_ext p2 q2 fun z=>⟨fun hz=>?_,fun hz=>?_⟩
  ·rcases xan.1 ((h z).1 (xah _ hz))with e|e
   ·have:=p1 z hz;omega
   ·exact e
  ·rcases xan.1 ((h z).2 (xah _ hz))with e|e
   ·have:=q1 z hz;omega
   ·exact e
def risI(k:Nat)(l:List Int):List Int:=((List.range k).map Int.ofNat).filter fun x=>decide (x∈l)
theorem risI_succ(k:Nat)(l:List Int):risI (k+1) l=risI k l++(if(k:Int)∈l then [(k:Int)]else []):=by
 unfold risI
 rw[xeu,xcd,xdv]
 congr 1
 by_cases h:(k:Int)∈l
 ·simp[h]
 ·simp[h]
theorem zir(k:Nat)(l:List Int):(risI k l).length≤k:=by
 unfold risI
 exact Nat.le_trans (xfk _ _) (by simp)
theorem risI_asc(k:Nat)(l:List Int):(risI k l).Pairwise fun x y=>x<y:=by
 unfold risI
 refine List.Pairwise.filter _ (List.pairwise_map.2 ?_)
 exact List.pairwise_lt_range.imp fun{a b} h=>by show(a:Int)<(b:Int);omega
theorem mem_risI{k:Nat}{l:List Int}{x:Int}:x∈risI k l↔x∈l∧0≤x∧x<(k:Int):=by
 unfold risI
 rw[List.mem_filter,xcv]
 constructor
 ·rintro⟨⟨i,hi,rfl⟩,h⟩
  have:=List.mem_range.1 hi
  exact⟨by simpa using h,by show(0:Int)≤(i:Int);omega,by show(i:Int)<(k:Int);omega⟩
 ·rintro⟨h1,h2,h3⟩
  exact⟨⟨x.toNat,List.mem_range.2 (by omega),by show((x.toNat:Nat):Int)=x;omega⟩,by simpa using h1⟩
theorem sortI_ris{k:Nat}{l:List Int}(h:isB (k:Int) l):zch l=risI k l:=by
 have hp:(zch l).Perm l:=xij _ _
 have hs:(zch l).Pairwise fun x y=>decide (x≤y)=true:=List.pairwise_mergeSort (fun a b c h1 h2=>by simp at h1 h2 ⊢;omega) (fun a b=>by simp;omega) _
 have hn:(zch l).Nodup:=hp.nodup_iff.2 h.1
 refine asc_ext ?_ (risI_asc k l) fun x=>?_
 ·refine List.Pairwise.imp₂ (R:=fun x y=>decide (x≤y)=true) (S:=fun x y=>x≠y) (fun a b h1 h2=>?_) hs hn
  have:a≤b:=of_decide_eq_true h1
  omega
 ·rw[hp.mem_iff,mem_risI]
  exact⟨fun hx=>⟨hx,h.2 x hx⟩,fun hx=>hx.1⟩
theorem ris_loop{F:(List Int)×(List Int)×Int→Option (((List Int)×(List Int)×Int)⊕List Int)}{k:Nat}(hk:k≤1000){l:List Int}
  (hs:∀(i:Nat) (o:List Int),o.length≤1000→i<k→F (l,o,(i:Int))=some (.inl (l,o++(if(i:Int)∈l then [(i:Int)]else []),((i+1:Nat):Int)))) (he:∀o,F (l,o,(k:Int))=some (.inr o)) :
  (zae F (l,[],0)).bind (fun o=>some o)=some (risI k l):=by
 refine zac (fun i=>(l,risI i l,(i:Int))) k rfl (fun i hi=>?_) (he _) rfl
 rw[hs i _ (by have:=zir i l;omega) hi,risI_succ]
theorem d57_eq{l:List Int}(hl:l.length≤281474976710656):d57 l=some (risI 7 l):=by
 unfold d57
 refine ris_loop (k:=7) (by omega) (fun i o ho hi=>?_) (fun o=>?_)
 ·simp only[decide_eq_true (show(i:Int)<7 by omega),cond_true,zal,d46_eq _ hl,Option.bind_some,zav (show i<9223372036854775807 by omega)]
  by_cases h:(i:Int)∈l
  ·rw[decide_eq_true h,cond_true,zbn (by omega),cond_true,if_pos h]
  ·rw[decide_eq_false h,xac,if_neg h,xbq]
 ·rfl
theorem selI_ris(l:List Int):∀k,selI (fun i=>decide ((i:Int)∈l)) k=risI k l
 | 0=>rfl
 |k+1=>by
  rw[zdg,risI_succ,selI_ris l k]
  by_cases h:(k:Int)∈l
  ·rw[decide_eq_true h,if_pos rfl,if_pos h]
  ·rw[decide_eq_false h,if_neg h];simp
theorem d23_ris{l:List Int}(hl:l.length≤281474976710656):d23 l=some (risI 12 l):=by rw[d23_eq hl,selI_ris]
theorem d96_eq{s:List Int}(v:Int)(hs:s.length≤281474976710656):d96 s v=some (decide (v∈s)):=by
 unfold d96
 rw[zpj v hs,Option.bind_some]
 have hm:=zhh (fun x=>decide (v=x)) s
 by_cases h:v∈s
 ·have h1:=hm.2 ⟨v,h,by simp⟩
  rw[if_pos h1,decide_eq_true h,decide_eq_true (show(0:Int)≤((zai (fun x=>decide (v=x)) s:Nat):Int) by omega)]
 ·have h1:¬zai (fun x=>decide (v=x)) s<s.length:=fun h2=>by
   obtain⟨x,hx,he⟩:=hm.1 h2
   have:=of_decide_eq_true he
   subst this;exact h hx
  rw[if_neg h1,decide_eq_false h];rfl
theorem d53_eq{l:List Int}(hl:l.length≤281474976710656):d53 l=some (decide (isB 7 l)):=by
 unfold d53
 refine zhu (fun i=>(l,l,(l.length:Int),(i:Int))) (fun i=>!(decide (0≤l.getD i 0∧l.getD i 0<7∧l.getD i 0∉l.take i))) l.length (fun _=>Sum.inr false) (Sum.inl ()) rfl (fun i hi _=>?_) (fun _=>?_) (fun i hi hp _=>?_) (fun h=>?_)
 ·have hcut:zck 0 (i:Int) l.length=true:=by unfold zck;simp;omega
  have htl:(l.take i).length≤281474976710656:=by rw[xao];omega
  simp only[dlt hi,d0le,xad,cond_true,tn,zal,zav (show i<9223372036854775807 by omega),hcut,xfc]
  by_cases h0:l.getD i 0<0
  ·rw[decide_eq_true h0,decide_eq_false (show ¬(0≤l.getD i 0∧l.getD i 0<7∧l.getD i 0∉l.take i) by omega)];rfl
  ·rw[decide_eq_false h0]
   by_cases h7:7≤l.getD i 0
   ·rw[decide_eq_true h7,decide_eq_false (show ¬(0≤l.getD i 0∧l.getD i 0<7∧l.getD i 0∉l.take i) by omega)];rfl
   ·rw[decide_eq_false h7]
    simp only[xak,cond_true]
    rw[d96_eq _ htl,Option.bind_some]
    by_cases hm:l.getD i 0∈l.take i
    ·rw[decide_eq_true hm,decide_eq_false (show ¬(0≤l.getD i 0∧l.getD i 0<7∧l.getD i 0∉l.take i)from fun h=>h.2.2 hm)];rfl
    ·rw[decide_eq_false hm,decide_eq_true (show 0≤l.getD i 0∧l.getD i 0<7∧l.getD i 0∉l.take i from⟨by omega,by omega,hm⟩)];rfl
 ·simp only[nlt (Nat.le_refl l.length),xac]
 ·have hne:¬(0≤l.getD i 0∧l.getD i 0<7∧l.getD i 0∉l.take i):=fun h=>absurd hp (by show(!decide _)≠true;rw[decide_eq_true h];decide)
  show some false=_
  rw[decide_eq_false (fun h=>hne ((zls 7 l).1 h i hi))]
 ·show some true=_
  rw[decide_eq_true ((zls 7 l).2 fun i hi=>of_decide_eq_true (by have:=h i hi;revert this;show(!decide _)=false→_;cases decide (0≤l.getD i 0∧l.getD i 0<7∧l.getD i 0∉l.take i)<;>decide))]
def zlh(s:Int)(a b:List Int):List Int×Bool×Int:=
 if s=1 then([],false,16)else if s=2∨s=3∨s=4 then(if isB 7 a∧isB 7 b then(if s=2 then(risI 7 a,false,0)else(risI 7 b,!decide (risI 7 a=risI 7 b),0))else([],false,8))else([],false,5)
end Go.Proofs.YtamgmpngdmnadaaGreat
namespace Go.Proofs.YtamgmpngdmnadaaGreat
open Go Go.X
variable {Q:MP} {s:MS}
def MS.act(Q:MP)(s:MS):Nat:=cntN (fun i=>decide (s.st i≠2)) Q.P.n
theorem zmc(hI:MI Q s):s.f1 Q+s.h1 Q=s.act Q:=by
 unfold MS.f1 MS.h1 MS.act cntN
 rw[←zbr]
 refine zam fun i hi=>?_
 have h3:=hI.st2 i
 rcases zbt (Q:=Q) (s:=s) i with⟨h0,h1,h2,_⟩|⟨h0,h2⟩
 ·simp[h1,h2]
 ·have:s.st i=0∨s.st i=1∨s.st i=2:=by omega
  rcases this with h|h|h<;>simp[h,h2]
theorem elM_hop{i:Nat}(h:s.el Q i=true):s.st i=0:=by
 unfold MS.el MS.reach at h
 rw[xaf,xaf,xag]at h
 exact h.1.1
structure WinM(Q:MP)(s:MS)(l:List Int):Prop where
 nodup:l.Nodup
 within:∀c∈l,∃i:Nat,c=(i:Int)∧i<Q.P.n∧s.st i=0
 num:l.length+s.fl Q=min Q.P.seats Q.P.n
theorem el_nil(h:s.some1 Q=false):selI (s.el Q) Q.P.n=[]:=by
 rw[←xde,zao]
 refine xge fun h0=>?_
 unfold MS.some1 at h
 exact absurd h0 (xdf h)
theorem cut_some1(h:s.cut Q=true):s.some1 Q=false:=by
 unfold MS.cut at h
 rw[xaf,xho]at h
 exact h.1
theorem winM_tr(hQ:Q.OK){rs rest:List Rd}(h:MTr Q s rs rest):min Q.P.seats Q.P.n≤s.act Q→WinM Q s (rest.flatMap Rd.el):=by
 induction h with
 | @fin s rs hR hf=>
  intro hact
  have hI:=hR.inv
  have hs:=zmc hI
  have hf1:=f1_le hQ hI
  have he:=f1_eq (Q:=Q) (s:=s)
  have hactn:s.act Q≤Q.P.n:=zaw _ _
  have hfill:=hI.fill
  rw[xdj,xft,xbq]
  unfold MS.done
  show WinM Q s (if s.f1 Q=Q.P.seats then selI (s.el Q) Q.P.n else selI (fun i=>s.el Q i||decide (s.st1 Q i=0)) Q.P.n)
  by_cases h:s.f1 Q=Q.P.seats
  ·rw[if_pos h]
   refine⟨zcw _ _,fun c hc=>?_,?_⟩
   ·obtain⟨i,rfl,h1,h2⟩:=zap.1 hc
    exact⟨i,rfl,h1,elM_hop h2⟩
   ·rw[zao];omega
  ·rw[if_neg h]
   have hq:s.f1 Q+s.h1 Q≤Q.P.seats:=by
    unfold MS.fin at hf
    rw[xcy,xag,xag]at hf
    omega
   refine⟨zcw _ _,fun c hc=>?_,?_⟩
   ·obtain⟨i,rfl,h1,h2⟩:=zap.1 hc
    refine⟨i,rfl,h1,?_⟩
    rcases zbt (Q:=Q) (s:=s) i with⟨h0,k1,k2,_⟩|⟨h0,k2⟩
    ·exact k1
    ·rw[h0,xbg,xag]at h2
     omega
   ·rw[zao]
    have e:cntN (fun i=>s.el Q i||decide (s.st1 Q i=0)) Q.P.n=cntN (s.el Q) Q.P.n+s.h1 Q:=by
     unfold MS.h1 cntN
     rw[←zbr]
     refine zam fun i hi=>?_
     rcases zbt (Q:=Q) (s:=s) i with⟨h0,k1,k2,_⟩|⟨h0,k2⟩
     ·simp[h0,k2]
     ·simp[h0]
    rw[e]
    omega
 | @excl s rs rest hR hf hc h ih=>
  intro hact
  have hI:=hR.inv
  have hff:=zjb hQ hI hf
  have hs:=zmc hI
  have hnil:=el_nil (cut_some1 hc)
  obtain⟨x,x1,x2,x3⟩:=zmy hI (rs.map Rd.votes)
  have hst:(s.excl Q (rs.map Rd.votes)).st=upd s.st x 2:=by
   unfold MS.excl
   rw[x1,Int.toNat_natCast]
  have hfl:(s.excl Q (rs.map Rd.votes)).fl Q=s.fl Q:=by
   unfold MS.fl
   rw[hst];exact fl_excl x2 x3
  have hac:(s.excl Q (rs.map Rd.votes)).act Q+1=s.act Q:=by
   unfold MS.act
   rw[hst]
   exact(zlz x2 (fun i hi hne=>by rw[zee _ _ hne]) (by rw[zbw];rfl) (by rw[x3];rfl)).symm
  have hw:=ih (by omega)
  rw[xdj]
  show WinM Q s (selI (s.el Q) Q.P.n++_)
  rw[hnil,xby]
  refine⟨hw.nodup,fun c hc=>?_,by rw[←hfl];exact hw.num⟩
  obtain⟨i,rfl,h1,h2⟩:=hw.within c hc
  rw[hst]at h2
  refine⟨i,rfl,h1,?_⟩
  unfold upd at h2
  split at h2
  ·omega
  ·exact h2
 | @redu s rs rest hR hf hc h ih=>
  intro hact
  have hI:=hR.inv
  have hff:=zjb hQ hI hf
  have hs:=zmc hI
  have he:=f1_eq (Q:=Q) (s:=s)
  have hac:(s.redu Q).act Q=s.act Q:=by
   refine zgm fun i hi=>?_
   show decide (s.st1 Q i≠2)=_
   refine xca.2 ?_
   rcases zbt (Q:=Q) (s:=s) i with⟨h0,h1,h2,_⟩|⟨h0,h2⟩<;>omega
  have hw:=ih (by omega)
  have hfl:(s.redu Q).fl Q=s.f1 Q:=rfl
  rw[xdj]
  show WinM Q s (selI (s.el Q) Q.P.n++_)
  have hwith:∀i,i<Q.P.n→s.st1 Q i=0→s.st i=0∧s.el Q i=false:=fun i hi h0=>by
   rcases zbt (Q:=Q) (s:=s) i with⟨k0,k1,k2,_⟩|⟨k0,k2⟩
   ·omega
   ·exact⟨by omega,k0⟩
  refine⟨xew.2 ⟨zcw _ _,hw.nodup,fun c hc d hd hcd=>?_⟩,fun c hc=>?_,?_⟩
  ·subst hcd
   obtain⟨i,rfl,h1,h2⟩:=zap.1 hc
   obtain⟨j,h3,h4,h5⟩:=hw.within _ hd
   have:=(hwith j h4 h5).2
   rw[←xec.1 h3,h2]at this
   cases this
  ·rcases List.mem_append.1 hc with hc|hc
   ·obtain⟨i,rfl,h1,h2⟩:=zap.1 hc
    exact⟨i,rfl,h1,elM_hop h2⟩
   ·obtain⟨j,h3,h4,h5⟩:=hw.within _ hc
    exact⟨j,h3,h4,(hwith j h4 h5).1⟩
  ·have h1:=hw.num
   rw[List.length_append,zao]
   omega
theorem winM_ok(hQ:Q.OK):WinM Q Q.s0 ((zhs Q).flatMap Rd.el):=by
 refine winM_tr hQ (zkg hQ) ?_
 have:Q.s0.act Q=Q.P.n:=by
  unfold MS.act cntN
  have key:∀n,sumN (fun _=>1) n=n:=fun n=>by
   induction n with
   |zero=>rfl
   |succ n ih=>rw[sumN,ih]
  exact(zam (g:=fun _=>1) fun i _=>rfl).trans (key _)
 rw[this]
 exact xht _ _
theorem winM_len(hQ:Q.OK):((zhs Q).flatMap Rd.el).length=min Q.P.seats Q.P.n:=by
 have h:=(winM_ok hQ).num
 have e1:Q.s0.fl Q=0:=by unfold MS.fl cntN;exact zcs _
 rw[e1]at h
 exact h
theorem MTr.ne{rs rest:List Rd}(h:MTr Q s rs rest):rest≠ []:=by cases h<;>simp
theorem mcount_ne(hQ:Q.OK):zhs Q≠ []:=(zkg hQ).ne
theorem MTr.len(hQ:Q.OK){rs rest:List Rd}(h:MTr Q s rs rest):rs.length+rest.length≤488:=by
 induction h with
 |fin hR hf=>have:=hR.len;simp;omega
 |excl hR hf hm h ih=>simp only[List.length_append,xat,xck]at ih ⊢;omega
 |redu hR hf hm h ih=>simp only[List.length_append,xat,xck]at ih ⊢;omega
theorem mcount_len(hQ:Q.OK):(zhs Q).length≤488:=by have:=(zkg hQ).len hQ;simpa using this
end Go.Proofs.YtamgmpngdmnadaaGreat
namespace Go.Proofs.YtamgmpngdmnadaaGreat
open Go Go.X
theorem d178_eq{l:List Rat}(hl:l.length≤1000)(h:∀q∈l,Sz 268435456 (rr q)):d178 (l.map rr) (l.map rr)=some true:=by
 unfold d178
 rw[decide_eq_true rfl,xam,xac]
 refine zac (fun i=>(l.map rr,l.map rr,(i:Int))) l.length rfl (fun i hi=>?_) (b:=(Sum.inl ():Unit⊕Bool)) ?_ rfl
 ·have hg:∀d,(l.map rr).getD i d=rr (l.getD i 0):=fun d=>by
   rw[xab,xbr,xae hi,xab,xae hi];rfl
  simp only[xau,dlt hi,d0le,xad,cond_true,tn,hg,zsw (h _ (zbi hi)),Option.bind_some,xaq,xam,xac,zav (show i<9223372036854775807 by omega)]
 ·simp only[xau,nlt (Nat.le_refl l.length),xac]
structure Rd.Sm(r:Rd):Prop where
 v:r.votes.length≤1000∧∀q∈r.votes,Sz 268435456 (rr q)
 k:r.keep.length≤1000∧∀q∈r.keep,Sz 268435456 (rr q)
 q:Sz 268435456 (rr r.quota)
 e:Sz 268435456 (rr r.exh)
 s:Sz 268435456 (rr r.sur)
 l:r.el.length≤1000∧r.ex.length≤1000∧r.ti.length≤1000
theorem d95_eq{r:Rd}(h:r.Sm):d95 (rdT r) (rdT r)=some true:=by
 unfold d95 rdT
 simp only[d178_eq h.v.1 h.v.2,d178_eq h.k.1 h.k.2,zsw h.q,zsw h.e,zsw h.s,Option.bind_some,cond_true,xaq]
 rw[zmp (by have:=h.l;omega) (by have:=h.l;omega),zmp (by have:=h.l;omega) (by have:=h.l;omega),zmp (by have:=h.l;omega) (by have:=h.l;omega)]
 simp
theorem d22_eq{m s d n:Int}{rs:List Rd}{w0:List Int}(h:∀r∈rs,r.Sm)(hl:rs.length≤1000)(hw:w0.length≤281474976710656):d22 (m,s,d,n,rs.map rdT,w0) (m,s,d,n,rs.map rdT,w0)=some true:=by
 unfold d22 d52
 simp only[zal,xaq,xam,xak,cond_true,zmp hw hw,Option.bind_some,xac]
 have e:∀X:Option Bool,X=some true→(X.bind fun r=>some r)=some true:=fun X h=>by rw[h];rfl
 refine e _ ?_
 refine zac (fun i=>((m,s,d,n,rs.map rdT,w0),(m,s,d,n,rs.map rdT,w0),(i:Int))) rs.length rfl (fun i hi=>?_) (b:=(Sum.inl ():Unit⊕Bool)) ?_ rfl
 ·have hg:∀d,(rs.map rdT).getD i d=rdT (rs.getD i ⟨[],[],0,0,0,[],[],[]⟩):=fun d=>by
   rw[xab,xbr,xae hi,xab,xae hi];rfl
  simp only[xau,dlt hi,d0le,xad,cond_true,tn,hg,d95_eq (h _ (zbi hi)),Option.bind_some,xam,xac,zav (show i<9223372036854775807 by omega)]
 ·simp only[xau,nlt (Nat.le_refl rs.length),xac]
section
variable {P:GP} {s:GS}
theorem tiedR_len(hP:P.OK):(s.tiedR P).length≤7:=by
 unfold GS.tiedR
 split
 ·simp
 ·unfold GS.tied
  rw[zao];exact Nat.le_trans (zaw _ _) hP.n7
theorem rd_sm(hP:P.OK)(hI:GI P s)(hk:∀i,i<P.n→Bz eB (s.keep i)){el ex ti:List Int}(h1:el.length≤7)(h2:ex.length≤7)(h3:ti.length≤7):Rd.Sm {s.rd0 P with el:=el,ex:=ex,ti:=ti}:=by
 have hn7:=hP.n7
 refine⟨⟨by show(lst _ P.n).length≤_;rw[zaf];omega,fun q hq=>?_⟩,⟨by show(lst _ P.n).length≤_;rw[zaf];omega,fun q hq=>?_⟩,(zjv hP).sz2,(zbh hP hI (Nat.sub_le _ _)).sz2,(zbh hP hI (sur_le hP hI)).sz2,⟨by show el.length≤_;omega,by show ex.length≤_;omega,by show ti.length≤_;omega⟩⟩
 ·obtain⟨i,hi,rfl⟩:=zhc.1 hq
  exact(zbh hP hI (zpw hP hI hi)).sz2
 ·obtain⟨i,hi,rfl⟩:=zhc.1 hq
  exact(hk i hi).sz2
theorem Tr.sm(hP:P.OK){rs rest:List Rd}(h:Tr P s rs rest):∀r∈rest,r.Sm:=by
 induction h with
 | @fin s rs hR hf=>
  intro r hr
  rw[xbm]at hr
  subst hr
  have:=rd_sm hP hR.inv hR.ok.keep (el:=(s.done P).el) (ex:=[]) (ti:=[]) (by
   show(if _ then _ else _:List Int).length≤7
   split
   ·rw[zao];exact Nat.le_trans (zaw _ _) hP.n7
   ·exact el_len hP) (by simp) (by simp)
  exact this
 | @trans s rs rest hR hf hm h ih=>
  intro r hr
  rcases xan.1 hr with rfl|hr
  ·exact rd_sm hP hR.inv hR.ok.keep (el_len hP) (by simp[GS.rd0]) (tiedR_len hP)
  ·exact ih r hr
 | @excl s rs rest hR hf hm h ih=>
  intro r hr
  rcases xan.1 hr with rfl|hr
  ·exact rd_sm hP hR.inv hR.ok.keep (el_len hP) (by simp) (tiedR_len hP)
  ·exact ih r hr
theorem gcount_sm(hP:P.OK):∀r∈zgh P,r.Sm:=(zov hP).sm hP
end
section
variable {Q:MP} {s:MS}
theorem tiedM_len(hQ:Q.OK):(s.tied Q).length≤7:=by
 unfold MS.tied
 rw[zao];exact Nat.le_trans (zaw _ _) hQ.P.n7
theorem rd_smM(hQ:Q.OK)(hI:MI Q s){el ex ti:List Int}(h1:el.length≤7)(h2:ex.length≤7)(h3:ti.length≤7):Rd.Sm {s.rd0 Q with el:=el,ex:=ex,ti:=ti}:=by
 have hn7:=hQ.P.n7
 have htl:=MS.tot_le hQ
 have hsum:=MS.sum_le hQ hI
 have ho6:=hQ.one6
 have hq:=MS.quo_le hQ hI
 have hsurS:s.sur Q≤sumN (s.v Q) Q.P.n:=zdk fun i _=>by split<;>omega
 refine⟨⟨by show(lst _ Q.P.n).length≤_;rw[zaf];omega,fun q hq=>?_⟩,⟨by show(lst _ Q.P.n).length≤_;rw[zaf];omega,fun q hq=>?_⟩,(bzM hQ (show s.quo Q≤1000000000000000000 by omega)).sz2,(bzM hQ (show s.rest Q≤1000000000000000000 by omega)).sz2,(bzM hQ (show s.sur Q≤1000000000000000000 by omega)).sz2,⟨by show el.length≤_;omega,by show ex.length≤_;omega,by show ti.length≤_;omega⟩⟩
 ·obtain⟨i,hi,rfl⟩:=zhc.1 hq
  have:=MS.v_le hQ hI hi
  exact(bzM hQ (by omega)).sz2
 ·obtain⟨i,hi,rfl⟩:=zhc.1 hq
  have:=hI.kp1 i
  exact(bzM hQ (by omega)).sz2
theorem MTr.sm(hQ:Q.OK){rs rest:List Rd}(h:MTr Q s rs rest):∀r∈rest,r.Sm:=by
 induction h with
 | @fin s rs hR hf=>
  intro r hr
  rw[xbm]at hr
  subst hr
  have:=rd_smM hQ hR.inv (el:=(s.done Q).el) (ex:=[]) (ti:=[]) (by
   show(if _ then _ else _:List Int).length≤7
   split
   ·exact zph hQ
   ·rw[zao];exact Nat.le_trans (zaw _ _) hQ.P.n7) (by simp) (by simp)
  exact this
 | @excl s rs rest hR hf hc h ih=>
  intro r hr
  rcases xan.1 hr with rfl|hr
  ·exact rd_smM hQ hR.inv (zph hQ) (by simp) (by
    split
    ·simp
    ·exact tiedM_len hQ)
  ·exact ih r hr
 | @redu s rs rest hR hf hc h ih=>
  intro r hr
  rcases xan.1 hr with rfl|hr
  ·exact rd_smM hQ hR.inv (zph hQ) (by simp) (by simp)
  ·exact ih r hr
theorem mcount_sm(hQ:Q.OK):∀r∈zhs Q,r.Sm:=(zkg hQ).sm hQ
end
section
variable {P:GP}
theorem iv_tot(hP:P.OK)(st:Nat→Nat){i:Nat}(hi:i<P.n):iv P st i≤100000:=by
 have h1:iv P st i≤ivsum P st:=zfe hi
 have h2:=zif hP st
 have h3:=mk_le hP
 have h4:=hP.tot5
 omega
theorem itied_len(hP:P.OK)(st:Nat→Nat):(zfq P st).length≤7:=by
 unfold zfq
 rw[zao];exact Nat.le_trans (zaw _ _) hP.n7
theorem ird_sm(hP:P.OK)(st:Nat→Nat){el ex ti:List Int}(h1:el.length≤7)(h2:ex.length≤7)(h3:ti.length≤7):Rd.Sm {ird0 P st with el:=el,ex:=ex,ti:=ti}:=by
 have hn7:=hP.n7
 have hq:iquo P st≤100001:=by
  have h2:=zif hP st
  have h3:=mk_le hP
  have h4:=hP.tot5
  unfold iquo;omega
 have he:iexh P st≤100000:=by
  have h5:iexh P st≤sumN P.k P.G:=zdk fun g _=>by show(if _ then _ else _:Nat)≤_;split<;>omega
  have h4:=hP.tot5
  have h6:=hP.total
  omega
 refine⟨⟨by show(lst _ P.n).length≤_;rw[zaf];omega,fun q hq=>?_⟩,⟨by show(lst _ P.n).length≤_;rw[zaf];omega,fun q hq=>?_⟩,(zin (show iquo P st<2^64 by omega)).sz2,(zin (show iexh P st<2^64 by omega)).sz2,(zin (show 0<2^64 by omega)).sz2,⟨by show el.length≤_;omega,by show ex.length≤_;omega,by show ti.length≤_;omega⟩⟩
 ·obtain⟨i,hi,rfl⟩:=zhc.1 hq
  have:=iv_tot hP st hi
  exact(zin (by omega)).sz2
 ·obtain⟨i,hi,rfl⟩:=zhc.1 hq
  show Sz _ (rr (if _ then _ else _))
  split
  ·exact(zin (show 1<2^64 by omega)).sz2
  ·exact(zin (show 0<2^64 by omega)).sz2
theorem irun_sm(hP:P.OK):∀(k:Nat) (rs:List Rd) (st:Nat→Nat),(∀r∈rs,r.Sm)→(∀r∈irun P k rs st,r.Sm)∧(irun P k rs st).length≤rs.length+k∧((irun P k rs st).flatMap Rd.el).length≤(rs.flatMap Rd.el).length+k
 | 0,rs,st,h=>⟨h,Nat.le_refl _,Nat.le_refl _⟩
 |k+1,rs,st,h=>by
  unfold irun
  split
  ·rename_i x hx
   refine⟨fun r hr=>?_,by simp,by simp[irdW]⟩
   rcases List.mem_append.1 hr with hr|hr
   ·exact h r hr
   ·rw[xbm.1 hr];exact ird_sm hP st (show([(x:Int)]:List Int).length≤7 by simp) (xbf 7) (xbf 7)
  ·have h1:(irdX P (rs.map Rd.votes) st).el=[]:=rfl
   obtain⟨a,b,c⟩:=irun_sm hP k (rs++[irdX P (rs.map Rd.votes) st]) (upd st (ipick P (rs.map Rd.votes) st).toNat 3) (fun r hr=>by
    rcases List.mem_append.1 hr with hr|hr
    ·exact h r hr
    ·rw[xbm.1 hr]
     refine ird_sm hP st (xbf 7) (show([ipick P (rs.map Rd.votes) st]:List Int).length≤7 by simp) ?_
     split
     ·simp
     ·exact itied_len hP st)
   refine⟨a,?_,?_⟩
   ·rw[List.length_append]at b;simp only[xat,xck]at b;omega
   ·rw[xfx,List.length_append]at c
    simp only[xdj,xft,xbq,h1,xck]at c
    omega
theorem icount_sm(hP:P.OK):(∀r∈zig P,r.Sm)∧(zig P).length≤7∧((zig P).flatMap Rd.el).length≤7:=by
 have h:=irun_sm hP P.n [] (fun _=>0) (by simp)
 have:=hP.n7
 simp only[xck,xft,Nat.zero_add]at h
 exact⟨h.1,by have:=h.2.1;unfold zig;omega,by have:=h.2.2;unfold zig;omega⟩
theorem irun_ne:∀(k:Nat) (rs:List Rd) (st:Nat→Nat),rs≠ []∨k≠0→irun P k rs st≠ []
 | 0,rs,st,h=>by rcases h with h | h;exact h;exact absurd rfl h
 |k+1,rs,st,h=>by
  unfold irun
  split
  ·simp
  ·exact irun_ne k _ _ (.inl (by simp))
theorem icount_ne(hP:P.OK):zig P≠ []:=irun_ne _ _ _ (.inr (by have:=hP.n1;omega))
end
end Go.Proofs.YtamgmpngdmnadaaGreat
namespace Go.Proofs.YtamgmpngdmnadaaGreat
open Go Go.X
theorem d59_gen{l:List Int}(hl:WT (.slice (.int .i64)) l)(k:Nat)(hk:k≤1000):d59 l (k:Int)=some (l.take k):=by
 have h:=wt_len hl
 unfold d59
 by_cases h9:k<l.length
 ·have h1:(k:Int)<(l.length:Int):=by omega
  simp only[h1,xaq,cond_true,zgj (xfz h9),Int.toNat_natCast,xfc]
 ·have h1:¬(k:Int)<(l.length:Int):=by omega
  simp only[h1,xbt,xac,zgj (Nat.le_refl _),cond_true,Int.toNat_natCast,xfc]
  rw[xav (by omega),xav (by omega)]
theorem d28_eq{n:Int}(hn:0<n)(hn':n≤7){l:List (List Int)}(hl:l.length≤281474976710656)(hw:∀x∈l,WT (.slice (.int .i64)) x)(ph:List Bool)(hph:ph.length≤281474976710656){most:Nat}(hm:most≤100):d28 n l ph (most:Int)=some (zen ph (bals n l most)):=by
 unfold d28
 rw[d60_eq hn hn' hl hw hm]
 simp only[Option.bind_some]
 have hbl:=ztb (n:=n) (l:=l) (most:=most)
 generalize bals n l most=bs at *
 refine zac (b:=zen ph bs) (fun i=>(ph,(List.range i).map (zml ph bs),bs,(i:Int))) bs.length rfl (fun i hi=>?_) ?_ rfl
 ·have h1:(i:Int)<(bs.length:Int):=by omega
  have h3:(0:Int)≤(i:Int):=by omega
  have hwi:w ((i:Int)+1)=((i+1:Nat):Int):=by rw[w_id (by omega) (by omega)];omega
  have hlim:∀z,((((List.range i).map (zml ph bs)).length:Int)+(([z]:List Itm).length:Int)≤LIM):=fun z=>zoo _ z (by simp;omega)
  have hr:(List.range (i+1)).map (zml ph bs)=(List.range i).map (zml ph bs)++[zml ph bs i]:=by rw[xeu,xcd];rfl
  simp only[h1,h3,hwi,letJ,xaq,cond_true,xad,Int.toNat_natCast,hlim,hr]
  unfold zml
  by_cases c:i<ph.length
  ·have c':(i:Int)<(ph.length:Int):=by omega
   simp only[c',xaq,cond_true]
   cases ph.getD i false<;>rfl
  ·have c':¬(i:Int)<(ph.length:Int):=by omega
   have:ph.getD i false=false:=by rw[xab,xcf (by omega)];rfl
   simp only[c',xbt,xac,this]
   rfl
 ·have h1:¬((bs.length:Int)<(bs.length:Int)):=by omega
  simp only[h1,xbt,xac,zen]
theorem d27_eq{n:Int}(hn:0<n)(hn':n≤7){items:List Itm}(hl:items.length≤100000){changed:List (List Int)}(hc:changed.length≤281474976710656)(hw:∀x∈changed,WT (.slice (.int .i64)) x){missing:List Bool}(hmi:missing.length≤281474976710656) :
  d27 n items changed missing=some (zgv n items changed missing):=by
 unfold d27
 refine zac (b:=zgv n items changed missing) (fun i=>(n,items,changed,missing,(List.range i).map (zgw n items changed missing),(i:Int))) items.length rfl (fun i hi=>?_) ?_ rfl
 ·have h1:(i:Int)<(items.length:Int):=by omega
  have h3:(0:Int)≤(i:Int):=by omega
  have hwi:w ((i:Int)+1)=((i+1:Nat):Int):=by rw[w_id (by omega) (by omega)];omega
  have hlim:∀z,((((List.range i).map (zgw n items changed missing)).length:Int)+(([z]:List (Bool×List Int)).length:Int)≤LIM):=fun z=>zoo _ z (by simp;omega)
  have hr:(List.range (i+1)).map (zgw n items changed missing)=(List.range i).map (zgw n items changed missing)++[zgw n items changed missing i]:=by rw[xeu,xcd];rfl
  have hmg:i<missing.length∨missing.getD i false=false:=by
   rcases xdb i missing.length with h|h
   ·exact .inl h
   ·exact .inr (by rw[xab,xcf h];rfl)
  have hcg:i<changed.length∨changed.getD i []=[]:=by
   rcases xdb i changed.length with h|h
   ·exact .inl h
   ·exact .inr (by rw[xab,xcf h];rfl)
  simp only[h1,h3,hwi,letJ,xaq,cond_true,xad,Int.toNat_natCast,hlim,hr]
  generalize(List.range i).map (zgw n items changed missing)=T
  unfold zgw
  rcases hcg with c|c
  ·have c':(i:Int)<(changed.length:Int):=by omega
   have hxw:=hw (changed.getD i []) (by rw[zbk changed [] c];exact xbe _)
   obtain⟨x,hxd⟩:∃x,changed.getD i []=x:=⟨_,rfl⟩
   simp only[hxd]at hxw ⊢
   by_cases c2:0<x.length
   ·have c2':(0:Int)<(x.length:Int):=by omega
    have hcut:zck 1 (x.length:Int) x.length=true:=by
     unfold zck
     simp only[xaf,xag]
     omega
    have ht:x.take x.length=x:=xay
    have h43:=d59_gen (wt_rest hxw 1) 8 (by omega)
    have h43':d59 (List.drop 1 x) 8=some ((x.drop 1).take 8):=h43
    have h29:=d19_eq (n:=n) hn (by omega) (wt_part (wt_rest hxw 1) 8)
    simp only[c',c2,c2',hcut,ht,h43',h29,if_true,xaq,cond_true,xad,Option.bind_some,Int.toNat_natCast]
    rcases hmg with m|m
    ·have m':(i:Int)<(missing.length:Int):=by omega
     simp only[m',xaq,cond_true,xad]
     cases missing.getD i false<;>rfl
    ·simp only[m]
     by_cases m2:(i:Int)<(missing.length:Int)
     ·simp only[m2,xaq,cond_true,xad,m];rfl
     ·simp only[m2,xbt,xac];rfl
   ·have c2':¬(0:Int)<(x.length:Int):=by omega
    simp only[c',c2,c2',if_false,xaq,xbt,cond_true,xac]
    rcases hmg with m|m
    ·have m':(i:Int)<(missing.length:Int):=by omega
     simp only[m',xaq,cond_true,xad]
     cases missing.getD i false<;>rfl
    ·simp only[m]
     by_cases m2:(i:Int)<(missing.length:Int)
     ·simp only[m2,xaq,cond_true,xad,m];rfl
     ·simp only[m2,xbt,xac];rfl
  ·simp only[c]
   by_cases c1:(i:Int)<(changed.length:Int)
   ·simp only[c1,xaq,cond_true,c,xck,Int.ofNat_zero,xil,if_false,show ¬((0:Int)<0) by omega,xbt,xac]
    rcases hmg with m|m
    ·have m':(i:Int)<(missing.length:Int):=by omega
     simp only[m',xaq,cond_true,xad]
     cases missing.getD i false<;>rfl
    ·simp only[m]
     by_cases m2:(i:Int)<(missing.length:Int)
     ·simp only[m2,xaq,cond_true,xad,m];rfl
     ·simp only[m2,xbt,xac];rfl
   ·simp only[c1,xbt,xac,xck,xil,if_false]
    rcases hmg with m|m
    ·have m':(i:Int)<(missing.length:Int):=by omega
     simp only[m',xaq,cond_true,xad]
     cases missing.getD i false<;>rfl
    ·simp only[m]
     by_cases m2:(i:Int)<(missing.length:Int)
     ·simp only[m2,xaq,cond_true,xad,m];rfl
     ·simp only[m2,xbt,xac];rfl
 ·have h1:¬((items.length:Int)<(items.length:Int)):=by omega
  simp only[h1,xbt,xac,zgv]
end Go.Proofs.YtamgmpngdmnadaaGreat
namespace Go.Proofs.YtamgmpngdmnadaaGreat
open Go Go.X
theorem zqb{α:Type}{p:Prop} [Decidable p](h:p)(x y:α):(bif decide p then x else y)=x:=by rw[decide_eq_true h];rfl
theorem bif_f{α:Type}{p:Prop} [Decidable p](h:¬p)(x y:α):(bif decide p then x else y)=y:=by rw[decide_eq_false h];rfl
theorem bif_nt{α:Type}{p:Prop} [Decidable p](h:p)(x y:α):(bif !decide p then x else y)=y:=by rw[decide_eq_true h];rfl
theorem bif_nf{α:Type}{p:Prop} [Decidable p](h:¬p)(x y:α):(bif !decide p then x else y)=x:=by rw[decide_eq_false h];rfl
theorem d24_eq{s:Int}{a b:List Int}(ha:a.length≤281474976710656)(hb:b.length≤281474976710656):d24 s a b=some (zlh s a b):=by
 unfold d24 zlh
 by_cases h1:s=1
 ·rw[zqb h1,if_pos h1]
 rw[bif_f h1,if_neg h1]
 simp only[zal,d53_eq ha,d53_eq hb,Option.bind_some,xhh]
 by_cases hs:s=2∨s=3∨s=4
 ·rw[if_pos hs]
  rcases hs with h|h|h
  all_goals
   subst h
   simp only[zqb rfl,bif_nt rfl,show decide ((3:Int)=2)=false from rfl,show decide ((4:Int)=2)=false from rfl,show decide ((4:Int)=3)=false from rfl,xaq,xam,xak,xac,cond_true]
   by_cases hA:isB 7 a
   ·rw[zqb hA]
    by_cases hB:isB 7 b
    ·have la:=zga hA (by omega)
     have lb:=zga hB (by omega)
     have s1:(zch a).length=a.length:=(xij _ _).length_eq
     have ra:zch a=risI 7 a:=sortI_ris (k:=7) hA
     have rb:zch b=risI 7 b:=sortI_ris (k:=7) hB
     rw[decide_eq_true hB,xam,xac,zqb (show(a.length:Int)≤LIM by rw[zfx];omega),Option.bind_some,zqb (show(b.length:Int)≤LIM by rw[zfx];omega),Option.bind_some,if_pos ⟨hA,hB⟩]
     first | (rw[ra];rfl) | (rw[d56_eq (by omega),Option.bind_some,ra,rb];rfl)
    ·rw[decide_eq_false hB,if_neg fun h=>hB h.2,xak,cond_true]
   ·rw[bif_f hA,if_neg fun h=>hA h.1]
 ·rw[if_neg hs,bif_nf (fun h=>hs (.inl h)),bif_nf (fun h=>hs (.inr (.inl h)))]
  simp only[decide_eq_false (show ¬s=4 from fun h=>hs (.inr (.inr h))),xak,cond_true]
theorem d25_eq{s:Int}{a b:List Int}(ha:a.length≤281474976710656)(hb:b.length≤281474976710656):d25 s a b=some (zlh s a b):=by
 unfold d25 zlh
 by_cases h1:s=1
 ·rw[zqb h1,if_pos h1]
 rw[bif_f h1,if_neg h1]
 have ra:=zir 7 a
 have rb:=zir 7 b
 simp only[zal,d41_eq 7 ha,d41_eq 7 hb,Option.bind_some,xhh,d57_eq ha,d57_eq hb,zmp (show(risI 7 a).length≤281474976710656 by omega) (show(risI 7 b).length≤281474976710656 by omega)]
 by_cases hs:s=2∨s=3∨s=4
 ·rw[if_pos hs]
  rcases hs with h|h|h
  all_goals
   subst h
   simp only[zqb rfl,bif_nt rfl,show decide ((3:Int)=2)=false from rfl,show decide ((4:Int)=2)=false from rfl,show decide ((4:Int)=3)=false from rfl,xaq,xam,xak,xac,cond_true]
   by_cases hA:isB 7 a
   ·rw[zqb hA]
    by_cases hB:isB 7 b
    ·rw[decide_eq_true hB,xam,xac,if_pos ⟨hA,hB⟩];rfl
    ·rw[decide_eq_false hB,if_neg fun h=>hB h.2,xak,cond_true]
   ·rw[bif_f hA,if_neg fun h=>hA h.1]
 ·rw[if_neg hs,bif_nf (fun h=>hs (.inl h)),bif_nf (fun h=>hs (.inr (.inl h)))]
  simp only[decide_eq_false (show ¬s=4 from fun h=>hs (.inr (.inr h))),xak,cond_true]
def awP:GP:={gs:=[([1],1),([1,0],1)],n:=2,seats:=1,q:=2,tot:=2,ties:=1,lots:=[0,1]}
theorem awP_pile:zdx (zdv [(false,[1]),(true,[]),(false,[1,0])])=[([1],1),([1,0],1)]:=by decide +kernel
theorem awP_count:(zig awP).flatMap Rd.el=[1]:=by decide +kernel
theorem awP_gp{c:CT}(h1:c.2.1.length=2)(h2:c.2.2.2.1=1)(h3:c.2.2.2.2.2.2.1=1):gpOf c [([1],1),([1,0],1)] [0,1]=awP:=by
 unfold gpOf awP
 rw[h1,h2,h3]
 have e1:(wsum zbb [([1],1),([1,0],1)]/(1+1)+1).toNat=2:=by decide +kernel
 have e2:(wsum (fun _=>1) [([1],1),([1,0],1)]).toNat=2:=by decide +kernel
 rw[e1,e2]
 rfl
theorem zqz:d15=some true:=by
 have k0:WT (.int .i64) 0:=zbj (by omega) (by omega)
 obtain⟨c,c1,c2,c3,c4⟩:=d17_eq (n:=2) (by omega) k0 k0 k0 k0
 have c1':d17 0 2 0 0 0=some c:=c1
 have hps:∀p∈[(false,[1]),(true,[]),(false,[1,0])],isB ((2:Nat):Int) p.2:=by decide
 have hpo:=zib (n:=((2:Nat):Int)) (zdv [(false,[1]),(true,[]),(false,[1,0])]) (zja hps) (by decide)
 have hfit:fitE 1 c _ _=0:=zoy (lots:=[0,1]) c2 (by decide) (by decide) (by omega) (by omega) hpo.1 rfl (by decide)
 have hgs:=gs_of (n:=2) (by omega) hpo.1
 have h20:=d20_eq c2 c2.method (by decide) (by decide) (by omega) (by omega) c2.names hps (by decide) [0,1]
 rw[if_pos (by decide),d48_eq hgs (by decide),if_pos hfit,awP_pile,awP_gp c2.names c3 c4]at h20
 unfold d15
 rw[c1',Option.bind_some,h20,Option.bind_some]
 have e1:(trI awP).2.2.2.2.2=[1]:=awP_count
 have e2:d24 3 [0] [1]=some ([1],true,0):=by
  rw[d24_eq (by decide) (by decide)]
  exact xbb some (by decide +kernel)
 simp only[e1,e2,Option.bind_some,zmp (a:=[1]) (b:=[1]) (by decide) (by decide),xaq,cond_true]
theorem risI_lim(k:Nat)(hk:k≤100)(l:List Int):(risI k l).length≤281474976710656:=by have:=zir k l;omega
theorem zqj(s:Int)(a b:List Int):(zlh s a b).1.length≤281474976710656:=by
 have h1:=zir 7 a
 have h2:=zir 7 b
 unfold zlh
 repeat' split
 all_goals (first | (show([]:List Int).length≤_;exact xbf _) | (show(risI 7 _).length≤_;omega))
theorem d4_true{p0:Int}{p1 p2:List Int}{p3:Bool}(h0:WT (.int .i64) p0)(h1:WT (.slice (.int .i64)) p1)(h2:WT (.slice (.int .i64)) p2):d4 p0 p1 p2 p3=some true:=by
  have l1:=wt_len h1
  have l2:=wt_len h2
  have fall:(d15.bind fun r=>some r)=some true:=by rw[zqz];rfl
  have same:∀ {s:Int} {a b:List Int},a.length≤281474976710656→b.length≤281474976710656→((d24 s a b).bind fun r_5 =>
            (d25 s a b).bind fun r_6=>
            (d15).bind fun r_7=>
            bif r_7 then
              bif (decide (r_5.2.2=r_6.2.2))then
                bif (r_5.2.1 == r_6.2.1)then
                  (d26 r_5.1 r_6.1).bind fun r_8=>
                  some r_8
                else
                  some false
              else
                some false
            else
              some false)=some true:=fun{s a b} ha hb=>by
    rw[d24_eq ha hb,d25_eq ha hb,zqz]
    simp only[Option.bind_some,cond_true,xaq,BEq.rfl,zmp (zqj s a b) (zqj s a b)]
  unfold d4
  simp only[zal]
  by_cases k1:(9:Int)<(p1.length:Int)
  · rw[bif_nt k1,cond_true];exact fall
  rw[bif_nf k1]
  by_cases k2:(9:Int)<(p2.length:Int)
  · rw[zqb k2];exact fall
  rw[bif_f k2]
  cases p3
  · have b1:=ztc (n:=7) (by omega) p1
    have b2:=ztc (n:=7) (by omega) p2
    have m1:=zga b1 (by omega)
    have m2:=zga b2 (by omega)
    rw[xak,cond_true,zjh h0 (by omega) (by omega),Option.bind_some,d19_eq (by omega) (by omega) h1,d19_eq (by omega) (by omega) h2,Option.bind_some,Option.bind_some,d23_ris (by omega),Option.bind_some]
    cases decide (w (Int.tmod ((bal 7 p1).length:Int) 2)=0)
    · exact same (by omega) (by omega)
    · exact same (by omega) (risI_lim 12 (by omega) _)
  · exact same l1 l2
end Go.Proofs.YtamgmpngdmnadaaGreat
namespace Go.Proofs.YtamgmpngdmnadaaGreat
open Go Go.X
theorem d20_t{c:CT}{n:Nat}{m:Int}(hc:ConOK c n m)(h1:1≤m)(h3:m≤3)(n1:1≤n)(n7:n≤7){lots:List Int}(hll:lots.length=n)(hlb:isB (n:Int) lots){gs:List Grp}{N:Int}(hp:PileOK (n:Int) gs N) :
  ∃t:Int×(Int×(Int×(Int×(List RD×List Int)))),(if m=1 then d48 c gs lots else if m=2 then d49 c gs lots else d50 c gs lots)=some (t,0)∧0<t.2.2.2.2.1.length∧d22 t t=some true:=by
 have hgs:=gs_of n7 hp
 have hl:lots.length≤281474976710656:=by omega
 have hfit:=zoy hc h1 h3 n1 n7 hp hll hlb
 by_cases e1:m=1
 ·subst e1
  have hP:=(znf hfit).1
  have hs:=icount_sm hP
  have hne:=icount_ne hP
  refine⟨trI (gpOf c gs lots),by rw[if_pos rfl,d48_eq hgs hl,if_pos hfit],?_,d22_eq hs.1 (by omega) (by omega)⟩
  show 0<((zig _).map rdT).length
  rw[xau];exact xce.2 hne
 by_cases e2:m=2
 ·subst e2
  have hQ:=(mqOf_ok hfit).1
  have hP:=hQ.P
  have hw:=winM_len hQ
  have hn:=hP.n7
  have hlen:=mcount_len hQ
  refine⟨trM c (mqOf c gs lots),by rw[if_neg e1,if_pos rfl,d49_eq hgs hl,if_pos hfit],?_,d22_eq (mcount_sm hQ) (by omega) (by rw[hw];omega)⟩
  show 0<((zhs _).map rdT).length
  rw[xau];exact xce.2 (mcount_ne hQ)
 ·have e3:m=3:=by omega
  subst e3
  have hP:=(znf hfit).1
  have hlen:=gcount_len hP
  have hw:=win_len hP
  have hn:=hP.n7
  refine⟨trT (gpOf c gs lots),by rw[if_neg e1,if_neg e2,d50_eq hgs hl,if_pos hfit],?_,d22_eq (gcount_sm hP) hlen (by rw[hw];omega)⟩
  show 0<((zgh _).map rdT).length
  rw[xau];exact xce.2 (gcount_ne hP)
theorem perm_papers{ps:List (Bool×List Int)}{l:List Int}(hl:l.length=ps.length)(hb:isB (ps.length:Int) l):(l.map fun k=>ps.getD k.toNat (false,[])).Perm ps:=by
 have hp:l.Perm ((List.range ps.length).map Int.ofNat):=zqp hb.1 (fun x hx=>by
  have:=hb.2 x hx
  exact xcv.2 ⟨x.toNat,List.mem_range.2 (by omega),by show((x.toNat:Nat):Int)=x;omega⟩) (by rw[xau,List.length_range];omega)
 have h2:=hp.map fun k=>ps.getD k.toNat (false,[])
 have e:((List.range ps.length).map Int.ofNat).map (fun k=>ps.getD k.toNat (false,[]))=ps:=by
  rw[List.map_map]
  refine xfb (by simp) fun i h1 h3=>?_
  rw[List.getElem_map,xim]
  show ps.getD ((i:Int)).toNat _=_
  rw[Int.toNat_natCast,xab,xae h3];rfl
 rw[e]at h2
 exact h2
theorem d5_true{p0 p1 p2 p3 p4 p5 p6:Int}{p7:List (List Int)}{p8:List Bool}(h0:WT (.int .i64) p0)(h1:WT (.int .i64) p1)(h2:WT (.int .i64) p2)(h3:WT (.int .i64) p3)(h4:WT (.int .i64) p4)(h5:WT (.int .i64) p5)(h6:WT (.int .i64) p6)(l7:p7.length≤281474976710656)(h7:∀x∈p7,WT (.slice (.int .i64)) x)(l8:p8.length≤281474976710656):d5 p0 p1 p2 p3 p4 p5 p6 p7 p8=some true:=by
 have k:∀x:Int,-9223372036854775808≤x→x≤9223372036854775807→WT (.int .i64) x:=fun x h0 h1=>zbj h0 h1
 have b0:=zez p0 (n:=5) (by omega)
 have b3:=zez p3 (n:=3) (by omega)
 have bm:=zez p1 (n:=3) (by omega)
 obtain⟨n,hn⟩:∃n:Nat,1+p0%5=(n:Int):=⟨(1+p0%5).toNat,by omega⟩
 have hw1:w (1+p0%5)=(n:Int):=by rw[w_id (by omega) (by omega)];exact hn
 obtain⟨c,c1,c2,c3,c4⟩:=d17_eq (n:=n) (by omega) h1 h2 (k (p3%3) (by omega) (by omega)) h4
 have e28:d28 (n:Int) p7 [] 12=some (zen [] (bals (n:Int) p7 12)):=d28_eq (n:=(n:Int)) (by omega) (by omega) l7 h7 [] (by simp) (most:=12) (by omega)
 have hib:=zot (ph:=[]) (bals_isB (n:=(n:Int)) (by omega) (l:=p7) (most:=12))
 have hlb:=@ztb (n:Int) p7 12
 have hli:=zos [] (bals (n:Int) p7 12)
 have e27:=d27_eq (n:=(n:Int)) (by omega) (by omega) (items:=zen [] (bals (n:Int) p7 12)) (by omega) (changed:=[]) (by simp) (by simp) l8
 have hpp:=zmj (n:=(n:Int)) (by omega) (changed:=[]) (missing:=p8) hib
 have hpl:=papersOf_len (n:Int) (zen [] (bals (n:Int) p7 12)) [] p8
 unfold d5
 rw[zjh h0 (by omega) (by omega),Option.bind_some,zjh h3 (by omega) (by omega),Option.bind_some,hw1,c1,Option.bind_some,e28,Option.bind_some,e27,Option.bind_some]
 generalize zgv (n:Int) (zen [] (bals (n:Int) p7 12)) [] p8=ps at hpp hpl ⊢
 obtain⟨l,q1,q2,q3⟩:=d18_eq (n:=ps.length) (by omega) h6
 obtain⟨lots,r1,r2,r3⟩:=d18_eq (n:=n) (by omega) h5
 rw[q1,Option.bind_some]
 refine zac (b:=((n:Int),p5,c,ps,l.map fun k=>ps.getD k.toNat (false,[]))) (fun i=>((n:Int),p5,c,ps,l,(l.take i).map (fun k=>ps.getD k.toNat (false,[])),(i:Int))) l.length rfl (fun i hi=>?_) ?_ ?_
 ·have hm:=q3.2 _ (zbi (d:=0) hi)
  have hx1:(0:Int)≤l.getD i 0:=hm.1
  have hx2:l.getD i 0<(ps.length:Int):=hm.2
  have hlim:=zbn (l:=(l.take i).map fun k=>ps.getD k.toNat (false,[])) (d:=ps.getD (l.getD i 0).toNat (false,[])) (by rw[xau,xao];omega)
  simp only[dlt hi,d0le,xad,cond_true,tn,zav (show i<9223372036854775807 by omega),decide_eq_true hx1,decide_eq_true hx2,hlim]
  rw[zgr l 0 hi,xcd];rfl
 ·simp only[nlt (Nat.le_refl l.length),xac,xay]
 ·have hper:=perm_papers q2 q3
  generalize(l.map fun k=>ps.getD k.toNat (false,[]))=ps' at hper ⊢
  have hpp':∀p∈ps',isB (n:Int) p.2:=fun p hp=>hpp p (hper.mem_iff.1 hp)
  have hle:=hper.length_eq
  have hpile:=pileOf_perm (zja hpp) (by have:=ziz ps;omega) (foundB_perm hper.symm)
  have hok:=(zib (zdv ps) (zja hpp) (by have:=ziz ps;omega)).1
  obtain⟨t,t1,t2,t3⟩:=d20_t c2 (by omega) (by omega) (by omega) (by omega) r2 r3 hok
  have a1:=d20_eq c2 c2.method (by omega) (by omega) (by omega) (by omega) c2.names hpp (by omega) lots
  have a2:=d20_eq c2 c2.method (by omega) (by omega) (by omega) (by omega) c2.names hpp' (by omega) lots
  rw[←hpile,t1]at a2
  rw[t1]at a1
  simp only[r1,a1,a2,zqz,Option.bind_some,cond_true,xaq,decide_eq_true (show(0:Int)<(t.2.2.2.2.1.length:Int) by omega),t3]
end Go.Proofs.YtamgmpngdmnadaaGreat
namespace Go.Proofs.YtamgmpngdmnadaaGreat
open Go Go.X
def cls(its:List Itm)(ps:List (Bool×List Int))(i:Nat):Nat:=
 if(ps.getD i (false,[])).1 then 2 else if(its.getD i ((0,0,0),false,[])).2.1=false∧(its.getD i ((0,0,0),false,[])).2.2=(ps.getD i (false,[])).2 then 0 else 1
def cqq(its:List Itm)(ps:List (Bool×List Int))(k m:Nat):Nat:=cntN (fun i=>decide (cls its ps i=k)) m
theorem zks(its:List Itm)(ps:List (Bool×List Int))(k m:Nat):cqq its ps k (m+1)=cqq its ps k m+if cls its ps m=k then 1 else 0:=by
 unfold cqq cntN
 show _+(if decide (cls its ps m=k)=true then 1 else 0)=_
 by_cases h:cls its ps m=k
 ·rw[decide_eq_true h,if_pos h,if_pos rfl]
 ·rw[decide_eq_false h,if_neg h];rfl
theorem zrc(its:List Itm)(ps:List (Bool×List Int))(k m:Nat):cqq its ps k m≤m:=zaw _ _
theorem cls_lt(its:List Itm)(ps:List (Bool×List Int))(i:Nat):cls its ps i=0∨cls its ps i=1∨cls its ps i=2:=by
 unfold cls
 split
 ·exact .inr (.inr rfl)
 ·split
  ·exact .inl rfl
  ·exact .inr (.inl rfl)
theorem cqq_sum(its:List Itm)(ps:List (Bool×List Int)):∀m,cqq its ps 0 m+cqq its ps 1 m+cqq its ps 2 m=m
 | 0=>rfl
 |m+1=>by
  have:=cqq_sum its ps m
  rw[zks,zks,zks]
  rcases cls_lt its ps m with h|h|h<;>rw[h]<;>simp<;>omega
def cmpP(its:List Itm)(ps:List (Bool×List Int)):Int×Int×Int×Int:=
 if ps.length=its.length∧its.length≤1024 then((cqq its ps 0 its.length:Int),(cqq its ps 1 its.length:Int),(cqq its ps 2 its.length:Int),0)else(0,0,0,7)
theorem d29_eq{its:List Itm}{ps:List (Bool×List Int)}(hi:∀x∈its,x.2.2.length≤281474976710656)(hp:∀p∈ps,p.2.length≤281474976710656):d29 its ps=some (cmpP its ps):=by
 unfold d29 cmpP
 simp only[zal]
 by_cases he:ps.length=its.length
 ·have he':(ps.length:Int)=(its.length:Int):=by omega
  rw[decide_eq_true he',xhh,cond_true]
  by_cases hl:its.length≤1024
  ·rw[decide_eq_false (show ¬(1024:Int)<(its.length:Int) by omega),if_pos ⟨he,hl⟩]
   refine zac (b:=((cqq its ps 0 its.length:Int),(cqq its ps 1 its.length:Int),(cqq its ps 2 its.length:Int))) (fun i=>(its,(cqq its ps 0 i:Int),(cqq its ps 1 i:Int),(cqq its ps 2 i:Int),ps,(ps.length:Int),(i:Int))) its.length rfl (fun i hi'=>?_) ?_ rfl
   ·have hip:i<ps.length:=by omega
    have h0:=zrc its ps 0 i
    have h1:=zrc its ps 1 i
    have h2:=zrc its ps 2 i
    have a1:=hi _ (zbi (d:=((0,0,0),false,[])) hi')
    have a2:=hp _ (zbi (d:=(false,[])) hip)
    simp only[dlt hi',dlt hip,d0le,xad,cond_true,tn,zav (show i<9223372036854775807 by omega),zav (show cqq its ps 0 i<9223372036854775807 by omega),zav (show cqq its ps 1 i<9223372036854775807 by omega),zav (show cqq its ps 2 i<9223372036854775807 by omega),zks]
    unfold cls
    generalize ps.getD i (false,[])=p at a2 ⊢
    generalize its.getD i ((0,0,0),false,[])=x at a1 ⊢
    obtain⟨m,b⟩:=p
    obtain⟨y,u,v⟩:=x
    cases m
    ·rw[xac]
     cases u
     ·rw[xak,cond_true,d56_eq a1,Option.bind_some]
      by_cases hq:v=b
      ·rw[decide_eq_true hq,xam,xac];simp[hq]
      ·rw[decide_eq_false hq,xak,cond_true];simp[hq]
     ·simp
    ·simp
   ·simp only[he,nlt (Nat.le_refl its.length),xac]
  ·rw[decide_eq_true (show(1024:Int)<(its.length:Int) by omega),if_neg fun h=>hl h.2];rfl
 ·have he':¬(ps.length:Int)=(its.length:Int):=by omega
  rw[decide_eq_false he',if_neg fun h=>he h.1];rfl
theorem d30_eq{its:List Itm}{ps:List (Bool×List Int)}(hi:∀x∈its,x.2.2.length≤281474976710656)(hp:∀p∈ps,p.2.length≤281474976710656):d30 its ps=some (cmpP its ps):=by
 unfold d30 cmpP
 simp only[zal]
 by_cases he:ps.length=its.length
 ·have he':(its.length:Int)=(ps.length:Int):=by omega
  rw[decide_eq_true he',xhh,cond_true]
  by_cases hl:its.length≤1024
  ·rw[decide_eq_false (show ¬(1024:Int)<(its.length:Int) by omega),if_pos ⟨he,hl⟩]
   refine zac (b:=((cqq its ps 0 its.length:Int),(cqq its ps 1 its.length:Int),(cqq its ps 2 its.length:Int))) (fun i=>(its,ps,(cqq its ps 0 i:Int),(cqq its ps 1 i:Int),(cqq its ps 2 i:Int),(i:Int))) its.length rfl (fun i hi'=>?_) ?_ rfl
   ·have hip:i<ps.length:=by omega
    have h0:=zrc its ps 0 i
    have h1:=zrc its ps 1 i
    have h2:=zrc its ps 2 i
    have a1:=hi _ (zbi (d:=((0,0,0),false,[])) hi')
    have a2:=hp _ (zbi (d:=(false,[])) hip)
    simp only[dlt hi',dlt hip,d0le,xad,cond_true,tn,zav (show i<9223372036854775807 by omega),zav (show cqq its ps 0 i<9223372036854775807 by omega),zav (show cqq its ps 1 i<9223372036854775807 by omega),zav (show cqq its ps 2 i<9223372036854775807 by omega),zks]
    unfold cls
    generalize ps.getD i (false,[])=p at a2 ⊢
    generalize its.getD i ((0,0,0),false,[])=x at a1 ⊢
    obtain⟨m,b⟩:=p
    obtain⟨y,u,v⟩:=x
    cases m
    ·rw[xac]
     cases u
     ·rw[xak,cond_true,zmp a1 a2,Option.bind_some]
      by_cases hq:v=b
      ·rw[decide_eq_true hq,xam,xac];simp[hq]
      ·rw[decide_eq_false hq,xak,cond_true];simp[hq]
     ·simp
    ·simp
   ·simp only[nlt (Nat.le_refl its.length),xac]
  ·rw[decide_eq_true (show(1024:Int)<(its.length:Int) by omega),if_neg fun h=>hl h.2];rfl
 ·have he':¬(its.length:Int)=(ps.length:Int):=by omega
  rw[decide_eq_false he',if_neg fun h=>he h.1];rfl
theorem d14_ex{l:List (Bool×List Int)}(hl:l.length≤281474976710656):∃b,d14 l=some b:=by
 unfold d14
 by_cases hb:∀i,i<l.length→decide (9<((l.getD i (false,[])).2.length:Int))=false
 ·refine⟨decide ((l.length:Int)≤30),?_⟩
  refine zac (b:=.inl l) (fun i=>(l,(i:Int))) l.length rfl (fun i hi=>?_) ?_ rfl
  ·simp only[dlt hi,d0le,zav (show i<9223372036854775807 by omega),cond_true,xad,tn,hb i hi,xac]
  ·simp only[nlt (Nat.le_refl l.length),xac]
 ·refine⟨false,?_⟩
  refine zdy (fun i=>(l,(i:Int))) (fun i=>decide (9<((l.getD i (false,[])).2.length:Int))) l.length (fun _=>.inr false) (.inl l) rfl (fun i hi=>?_) ?_ (fun i hi hp hj=>rfl) (fun hall=>absurd hall hb)
  ·simp only[dlt hi,d0le,zav (show i<9223372036854775807 by omega),cond_true,xad,tn]
   cases decide (9<((l.getD i (false,[])).2.length:Int))<;>rfl
  ·simp only[nlt (Nat.le_refl l.length),xac]
theorem d6_true {p0:List Itm} {p1:List (Bool × List Int)} {p2:Bool} {p3:Int} {p4 p5:List (List Int)} {p6 p7:List Bool} (l0:p0.length≤281474976710656) (h0:∀ x∈p0,x.2.2.length≤281474976710656) (l1:p1.length≤281474976710656) (h1:∀ p∈p1,p.2.length≤281474976710656)
    (h3:WT (.int .i64) p3) (l4:p4.length≤281474976710656) (h4:∀x∈p4,WT (.slice (.int .i64)) x) (l5:p5.length≤281474976710656) (h5:∀x∈p5,WT (.slice (.int .i64)) x) (l6:p6.length≤281474976710656) (l7:p7.length≤281474976710656):d6 p0 p1 p2 p3 p4 p5 p6 p7=some true:=by
  have fall:(d15.bind fun r=>some r)=some true:=by rw[zqz];rfl
  have same:∀ {its:List Itm} {ps:List (Bool × List Int)},(∀ x∈its,x.2.2.length≤281474976710656)→(∀ p∈ps,p.2.length≤281474976710656)→((d29 its ps).bind fun r_6 =>
              (d30 its ps).bind fun r_7=>
              (d15).bind fun r_8=>
              bif r_8 then
                bif (decide (r_6.1=r_7.1))then
                  bif (decide (r_6.2.1=r_7.2.1))then
                    bif (decide (r_6.2.2.1=r_7.2.2.1))then
                      bif (decide (r_6.2.2.2=r_7.2.2.2))then
                        bif !(!(decide (r_6.2.2.2=0)))then
                          some (decide ((w ((w (r_6.1+r_6.2.1))+r_6.2.2.1))=(its.length:Int)))
                        else
                          some true
                      else
                        some false
                    else
                      some false
                  else
                    some false
                else
                  some false
              else
                some false)=some true:=fun{its ps} hi hp=>by
    rw[d29_eq hi hp,d30_eq hi hp,zqz]
    simp only[Option.bind_some,cond_true,xaq]
    unfold cmpP
    by_cases h:ps.length=its.length∧its.length≤1024
    · have hs:=cqq_sum its ps its.length
      have hl:=h.2
      rw[if_pos h]
      simp only[xaq,xhh,cond_true]
      rw[w_id (n:=(cqq its ps 0 its.length:Int)+(cqq its ps 1 its.length:Int)) (by omega) (by omega),w_id (by omega) (by omega),decide_eq_true (by omega)]
    · rw[if_neg h];rfl
  have main:((zae (β:=((List ((Int × (Int × Int)) × (Bool × List Int))) × (List (Bool × List Int)) × Bool × Int × (List (List Int)) × (List (List Int)) × (List Bool) × (List Bool)) ⊕ Bool) (fun ((t0_1,t1_1,t2_1,t3_1,t4_1,t5_1,t6_1,t7_1,t17):(List ((Int × (Int × Int)) × (Bool × List Int))) × (List (Bool × List Int)) × Bool × Int × (List (List Int)) × (List (List Int)) × (List Bool) × (List Bool) × Int) =>
            bif (decide (t17<(t0_1.length:Int)))then
              bif (decide (0≤t17)&&decide (t17<(t0_1.length:Int)))then
                bif (decide (9<((((List.getD t0_1 (Int.toNat t17) ((0,0,0),false,[])).2).2).length:Int)))then
                  (d15).bind fun r_2=>
                  some (Sum.inr (Sum.inr r_2))
                else
                  some (Sum.inl (t0_1,t1_1,t2_1,t3_1,t4_1,t5_1,t6_1,t7_1,(w (t17+1))))
              else none
            else
              some (Sum.inr (Sum.inl (t0_1,t1_1,t2_1,t3_1,t4_1,t5_1,t6_1,t7_1)))) (p0,p1,p2,p3,p4,p5,p6,p7,0)).bind fun
        |Sum.inl (t0_2,t1_2,t2_2,t3_2,t4_2,t5_2,t6_2,t7_2)=>
          bif !t2_2 then
            (d16 t3_2 5).bind fun r_3=>
            (d28 (w (1+r_3)) t4_2 t6_2 20).bind fun r_4=>
            (d27 (w (1+r_3)) r_4 t5_2 t7_2).bind fun r_5=>
            (fun(t0_3:List ((Int×(Int×Int))×(Bool×List Int))) (t1_3:List (Bool×List Int))=>(d29 t0_3 t1_3).bind fun r_6=>
              (d30 t0_3 t1_3).bind fun r_7=>
              (d15).bind fun r_8=>
              bif r_8 then
                bif (decide (r_6.1=r_7.1))then
                  bif (decide (r_6.2.1=r_7.2.1))then
                    bif (decide (r_6.2.2.1=r_7.2.2.1))then
                      bif (decide (r_6.2.2.2=r_7.2.2.2))then
                        bif !(!(decide (r_6.2.2.2=0)))then
                          some (decide ((w ((w (r_6.1+r_6.2.1))+r_6.2.2.1))=(t0_3.length:Int)))
                        else
                          some true
                      else
                        some false
                    else
                      some false
                  else
                    some false
                else
                  some false
              else
                some false) r_4 r_5
          else
            (fun(t0_3:List ((Int×(Int×Int))×(Bool×List Int))) (t1_3:List (Bool×List Int))=>(d29 t0_3 t1_3).bind fun r_6=>
              (d30 t0_3 t1_3).bind fun r_7=>
              (d15).bind fun r_8=>
              bif r_8 then
                bif (decide (r_6.1=r_7.1))then
                  bif (decide (r_6.2.1=r_7.2.1))then
                    bif (decide (r_6.2.2.1=r_7.2.2.1))then
                      bif (decide (r_6.2.2.2=r_7.2.2.2))then
                        bif !(!(decide (r_6.2.2.2=0)))then
                          some (decide ((w ((w (r_6.1+r_6.2.1))+r_6.2.2.1))=(t0_3.length:Int)))
                        else
                          some true
                      else
                        some false
                    else
                      some false
                  else
                    some false
                else
                  some false
              else
                some false) t0_2 t1_2
        |Sum.inr t16=>
          some t16)=some true:=by
    refine zdy (fun i=>(p0,p1,p2,p3,p4,p5,p6,p7,(i:Int))) (fun i=>decide (9<((p0.getD i ((0,0,0),false,[])).2.2.length:Int))) p0.length (fun _=>.inr true) (.inl (p0,p1,p2,p3,p4,p5,p6,p7)) rfl (fun i hi=>?_) ?_ (fun i hi hp hj=>rfl) (fun hall=>?_)
    · simp only[dlt hi,d0le,zav (show i<9223372036854775807 by omega),cond_true,xad,tn,zqz,Option.bind_some]
      cases decide (9<((p0.getD i ((0,0,0),false,[])).2.2.length:Int))<;>rfl
    · simp only[nlt (Nat.le_refl p0.length),xac]
    · cases p2
      · have b:=zez p3 (n:=5) (by omega)
        obtain⟨n,hn⟩:∃n:Int,1+p3%5=n:=⟨_,rfl⟩
        have hw1:w (1+p3%5)=n:=by rw[w_id (by omega) (by omega)];exact hn
        have e28:d28 n p4 p6 20=some (zen p6 (bals n p4 20)):=d28_eq (n:=n) (by omega) (by omega) l4 h4 p6 l6 (most:=20) (by omega)
        have hb:=bals_isB (n:=n) (by omega) (l:=p4) (most:=20)
        have hi:=zot (ph:=p6) hb
        have hlb:=@ztb n p4 20
        have hli:=zos p6 (bals n p4 20)
        have e27:=d27_eq (n:=n) (by omega) (by omega) (items:=zen p6 (bals n p4 20)) (by omega) l5 h5 l7
        have hpp:=zmj (n:=n) (by omega) (changed:=p5) (missing:=p7) hi
        have e16:=zjh h3 (n:=5) (by omega) (by omega)
        show((d16 p3 5).bind fun r_3=>_)=_
        simp only[e16,Option.bind_some,hw1,e28,e27]
        refine same (fun x hx=>?_) (fun p hp=>?_)
        · have:=zga (hi x hx) (by omega);omega
        · have:=zga (hpp p hp) (by omega);omega
      · exact same h0 h1
  obtain⟨b1,hb1⟩:=d14_ex l1
  unfold d6
  simp only[zal]
  rw[hb1,Option.bind_some,xhh]
  cases b1
  · exact fall
  · rw[cond_true]
    by_cases h30:(30:Int)<(p0.length:Int)
    · rw[zqb h30];exact fall
    · rw[bif_f h30];exact main
end Go.Proofs.YtamgmpngdmnadaaGreat
