/- Part 15 of what stands below the statement. -/
import Derived.Test.YtmipjomnjkmdbaaGreatRows
import Derived.ProofKit
import Derived.Test.YtmipjomnjkmdbaaGreatV14
set_option linter.unusedSimpArgs false
set_option linter.unusedVariables false
namespace Go.Proofs.YtmipjomnjkmdbaaGreat
open Go Go.X
theorem swap_eq(A:List Int)(y x:Int)(T:List Int):((A++y::x::T).set (A.length+1) y).set A.length x=A++x::y::T:=by
 rw[List.set_append_right _ _ (by omega),show A.length+1-A.length=1 by omega]
 rw[List.set_append_right _ _ (by omega),Nat.sub_self]
 rfl
theorem getD_mid(A:List Int)(y:Int)(T:List Int):(A++y::T).getD A.length 0=y:=by
 rw[xac,xda (Nat.le_refl _),Nat.sub_self];rfl
theorem getD_mid1(A:List Int)(y x:Int)(T:List Int):(A++y::x::T).getD (A.length+1) 0=x:=by
 rw[xac,xda (by omega),show A.length+1-A.length=1 by omega];rfl
noncomputable def insF:(List Int) × Int × Int × (Int→Int→Option Int) × Int × Int→Option (((List Int) × Int × Int × (Int→Int→Option Int) × Int × Int) ⊕ ((List Int) × Int × Int × (Int→Int→Option Int) × Int)):=fun ((data_2,a_2,b_2,cmp_2,i_1,j_):(List Int) × Int × Int × (Int→Int→Option Int) × Int × Int) =>
            letJ (fun ((data_3,a_3,b_3,cmp_3,i_2,j__1,t34):(List Int) × Int × Int × (Int→Int→Option Int) × Int × Int × Bool) =>
                bif t34 then
                  bif (decide (0≤(w (j__1-1)))&&decide ((w (j__1-1))<(data_3.length:Int)))then
                    bif (decide (0≤j__1)&&decide (j__1<(data_3.length:Int)))then
                      bif (decide (0≤j__1)&&decide (j__1<(data_3.length:Int)))then
                        bif (decide (0≤(w (j__1-1)))&&decide ((w (j__1-1))<((List.set data_3 (Int.toNat j__1) (List.getD data_3 (Int.toNat (w (j__1-1))) 0)).length:Int)))then
                          some (Sum.inl ((List.set (List.set data_3 (Int.toNat j__1) (List.getD data_3 (Int.toNat (w (j__1-1))) 0)) (Int.toNat (w (j__1-1))) (List.getD data_3 (Int.toNat j__1) 0)),a_3,b_3,cmp_3,i_2,(w (j__1-1))))
                        else none
                      else none
                    else none
                  else none
                else
                  some (Sum.inr (data_3,a_3,b_3,cmp_3,i_2))) fun j__2=>
            bif (decide (a_2<j_))then
              bif (decide (0≤j_)&&decide (j_<(data_2.length:Int)))then
                bif (decide (0≤(w (j_-1)))&&decide ((w (j_-1))<(data_2.length:Int)))then
                  (cmp_2 (List.getD data_2 (Int.toNat j_) 0) (List.getD data_2 (Int.toNat (w (j_-1))) 0)).bind fun r=>
                  j__2 (data_2,a_2,b_2,cmp_2,i_1,j_,(decide (r<0)))
                else none
              else none
            else
              j__2 (data_2,a_2,b_2,cmp_2,i_1,j_,false)
theorem d228_ex{l:List Int}{cmp:Int→Int→Option Int}{g:Int→Int→Int}(hl:l.length≤1000)(hn:l.Nodup)(hc:∀a∈l,∀b∈l,cmp a b=some (g a b))(ht:∀a∈l,∀b∈l,a≠b→g a b<0∨g b a<0)(htr:∀a∈l,∀b∈l,∀c∈l,g a b<0→g b c<0→g a c<0) :
  ∃L,d228 l 0 (l.length:Int) cmp=some L∧L.Perm l∧L.Pairwise fun a b=>g a b<0:=by
 cases l with
 |nil=>
  refine⟨[],?_,xhw _,by simp⟩
  unfold d228
  refine zae (fun i=>([],0,(([]:List Int).length:Int),cmp,w (0+1))) 0 rfl (fun i hi=>by omega) (b:=([]:List Int)) ?_ rfl
  rfl
 |cons x0 l0=>
 generalize hll:x0::l0=l at *
 have hpos:1≤l.length:=by rw[←hll];simp
 unfold d228
 refine zbw (Q:=fun(r:Option (List Int))=>∃L:List Int,r=some L∧L.Perm l∧L.Pairwise fun a b=>g a b<0) (fun(i:Nat) (st:(List Int)×Int×Int×(Int→Int→Option Int)×Int)=>∃S:List Int,st=(S++l.drop (i+1),0,(l.length:Int),cmp,((i+1:Nat):Int))∧S.Perm (l.take (i+1))∧(S.Pairwise fun a b=>g a b<0)) (l.length-1) ?_ ?_ ?_
 ·refine⟨l.take 1,by rw[xdh];rfl,xhw _,?_⟩
  rw[←hll];simp
 ·rintro i st hi ⟨S,rfl,hS,hs⟩
  have hi1:i+1<l.length:=by omega
  obtain⟨x,hx⟩:∃x,l.getD (i+1) 0=x:=⟨_,rfl⟩
  have hdrop:l.drop (i+1)=x::l.drop (i+2):=by rw[←hx];exact drop_getD 0 hi1
  have hSl:S.length=i+1:=by rw[hS.length_eq,xau];omega
  have hmS:∀a∈S,a∈l:=fun a ha=>xcg (hS.mem_iff.1 ha)
  have hxm:x∈l:=by rw[←hx];exact zbv hi1
  have hxS:x∉S:=fun h=>by
   have h1:=hS.mem_iff.1 h
   have h2:l.take (i+1)++l.drop (i+1)=l:=xdh _ _
   have h3:(l.take (i+1)++l.drop (i+1)).Nodup:=by rw[h2];exact hn
   exact(xfb.1 h3).2.2 x h1 x (by rw[hdrop];simp) rfl
  have htk:l.take (i+2)=l.take (i+1)++[x]:=by rw[←hx];exact zbk l 0 hi1
  rw[hdrop]
  generalize l.drop (i+2)=T at *
  have hdlen:∀A B:List Int,S=A++B→(A++x::(B++T)).length=(S++x::T).length:=fun A B e=>by rw[e];simp;omega
  have htot:(S++x::T).length≤1000:=by
   rw[←hdrop,List.length_append,hSl,xeh]
   omega
  have hin:∃S':List Int,zaa insF (S++x::T,0,(l.length:Int),cmp,((i+1:Nat):Int),((i+1:Nat):Int))=some (S'++T,0,(l.length:Int),cmp,((i+1:Nat):Int))∧S'.Perm (l.take (i+2))∧(S'.Pairwise fun a b=>g a b<0):=by
   have key:=zfn (γ:=(List Int)×Int×Int×(Int→Int→Option Int)×Int) (k:=some) (Q:=fun r=>∃S':List Int,r=some (S'++T,0,(l.length:Int),cmp,((i+1:Nat):Int))∧S'.Perm (l.take (i+2))∧(S'.Pairwise fun a b=>g a b<0))
    (f:=insF) (a0:=(S++x::T,0,(l.length:Int),cmp,((i+1:Nat):Int),((i+1:Nat):Int)))
    (fun(m:Nat) (st:(List Int)×Int×Int×(Int→Int→Option Int)×Int×Int)=>∃A B:List Int,st=(A++x::(B++T),0,(l.length:Int),cmp,((i+1:Nat):Int),(m:Int))∧S=A++B∧A.length=m∧∀b∈B,g x b<0) (i+1) ⟨S,[],rfl,by simp,hSl,by simp⟩ (fun m st hst=>?_)
   ·obtain⟨S',h1,h2,h3⟩:=key
    refine⟨S',?_,h2,h3⟩
    rw[xbd]at h1
    obtain⟨b,h4,h5⟩:=h1
    exact h4.trans h5
   ·obtain⟨A,B,rfl,hAB,hAm,hB⟩:=hst
    have hstop:(∀a∈A,g a x<0)→∃S':List Int,some (A++x::(B++T),(0:Int),(l.length:Int),cmp,((i+1:Nat):Int))=some (S'++T,0,(l.length:Int),cmp,((i+1:Nat):Int))∧S'.Perm (l.take (i+2))∧(S'.Pairwise fun a b=>g a b<0):=fun hA=>by
     refine⟨A++x::B,by rw[xci,xbz],?_,?_⟩
     ·rw[htk]
      refine List.perm_middle.trans ?_
      rw[←hAB]
      exact(xhl (l₁:=[x]) (l₂:=S)).trans (List.Perm.append_right _ hS)
     ·rw[hAB,xfd]at hs
      rw[xfd,xcv]
      refine⟨hs.1,⟨hB,hs.2.1⟩,fun a ha b hb=>?_⟩
      rcases xat.1 hb with rfl|hb
      ·exact hA a ha
      ·exact hs.2.2 a ha b hb
    cases m with
    |zero=>
     have hA0:A=[]:=xcu.1 hAm
     refine .inr ⟨(A++x::(B++T),0,(l.length:Int),cmp,((i+1:Nat):Int)),?_,hstop (by rw[hA0];simp)⟩
     unfold insF
     simp only[zan,show decide ((0:Int)<((0:Nat):Int))=false from rfl,xaf]
    |succ m=>
     obtain⟨A',y,rfl⟩:∃A' y,A=A'++[y]:=by
      rcases List.eq_nil_or_concat A with rfl|⟨A',y,h⟩
      ·simp at hAm
      ·exact⟨A',y,by rw[h,List.concat_eq_append]⟩
     have hA'm:A'.length=m:=by simpa using hAm
     subst hA'm
     have hym:y∈S:=by rw[hAB];simp
     have hyl:=hmS y hym
     have hlen:=hdlen _ B hAB
     have e0:A'++[y]++x::(B++T)=A'++y::x::(B++T):=by simp
     rw[e0]at hlen ⊢
     have hlA:(A'++y::x::(B++T)).length≤1000:=by omega
     have hm1:A'.length+1<(A'++y::x::(B++T)).length:=by simp
     have hm0:A'.length<(A'++y::x::(B++T)).length:=by simp
     have hgx:=getD_mid1 A' y x (B++T)
     have hgy:=getD_mid A' y (x::(B++T))
     have hsw:=swap_eq A' y x (B++T)
     by_cases hlt:g x y<0
     ·refine .inl ⟨(A'++x::y::(B++T),0,(l.length:Int),cmp,((i+1:Nat):Int),(A'.length:Int)),A'.length,?_,by omega,A',y::B,rfl,by rw[hAB];simp,rfl,fun b hb=>?_⟩
      ·unfold insF
       simp only[zan,decide_eq_true (show(0:Int)<((A'.length+1:Nat):Int) by omega),xad,d0le,dlt hm1,dlt hm0,xai,tn,wpred (show A'.length<9223372036854775807 by omega),hgx,hgy,hc x hxm y hyl,xab,decide_eq_true hlt,List.length_set,hsw]
      ·rcases xat.1 hb with rfl|hb
       ·exact hlt
       ·exact hB b hb
     ·have hyx:g y x<0:=(ht y hyl x hxm (fun e=>hxS (by rw[←e];exact hym))).resolve_right hlt
      have hst:=hstop (fun a ha=>by
       rcases List.mem_append.1 ha with ha|ha
       ·refine htr a (hmS a (by rw[hAB];simp[ha])) y hyl x hxm ?_ hyx
        rw[hAB,xfd,xfd]at hs
        exact hs.1.2.2 a ha y (by simp)
       ·rw[xdy.1 ha];exact hyx)
      rw[e0]at hst
      refine .inr ⟨(A'++y::x::(B++T),0,(l.length:Int),cmp,((i+1:Nat):Int)),?_,hst⟩
      unfold insF
      simp only[zan,decide_eq_true (show(0:Int)<((A'.length+1:Nat):Int) by omega),xad,d0le,dlt hm1,dlt hm0,xai,tn,wpred (show A'.length<9223372036854775807 by omega),hgx,hgy,hc x hxm y hyl,xab,decide_eq_false hlt,xaf]
  obtain⟨S',h1,h2,h3⟩:=hin
  refine⟨(S'++T,0,(l.length:Int),cmp,((i+1+1:Nat):Int)),?_,S',rfl,h2,h3⟩
  show(bif decide (((i+1:Nat):Int)<(l.length:Int))then(zaa insF (S++x::T,(0:Int),(l.length:Int),cmp,((i+1:Nat):Int),((i+1:Nat):Int))).bind (fun p=>some (Sum.inl (p.1,p.2.1,p.2.2.1,p.2.2.2.1,w (p.2.2.2.2+1))))else some (Sum.inr (S++x::T)))=_
  rw[dlt hi1,xad,h1,xab,zbm (show i+1<9223372036854775807 by omega)]
 ·rintro st ⟨S,rfl,hS,hs⟩
  rw[show l.length-1+1=l.length by omega,xbh]at hS
  refine⟨S++l.drop (l.length-1+1),?_,S,?_,hS,hs⟩
  ·simp only[show l.length-1+1=l.length by omega,nlt (Nat.le_refl l.length),xaf]
  ·rw[List.drop_of_length_le (by omega),xbw]
theorem d195_ex{l:List Int}{cmp:Int→Int→Option Int}{g:Int→Int→Int}(hl:l.length≤12)(hn:l.Nodup)(hc:∀a∈l,∀b∈l,cmp a b=some (g a b))(ht:∀a∈l,∀b∈l,a≠b→g a b<0∨g b a<0)(htr:∀a∈l,∀b∈l,∀c∈l,g a b<0→g b c<0→g a c<0) :
  ∃L,d195 l cmp=some L∧L.Perm l∧L.Pairwise fun a b=>g a b<0:=by
 obtain⟨L,h1,h2,h3⟩:=d228_ex (by omega) hn hc ht htr
 refine⟨L,?_,h2,h3⟩
 unfold d195
 have e208:∀x,d208 x=some (Lib.bitLen x.toNat:Int):=fun x=>rfl
 rw[e208,xab]
 have hw:w ((l.length:Int)-0)=(l.length:Int):=zbf (by omega) (by omega)
 show((d214N 2 l 0 (l.length:Int) _ cmp).bind fun r_1=>some r_1)=_
 show((d214F (d214N 1) l 0 (l.length:Int) _ cmp).bind fun r_1=>some r_1)=_
 unfold d214F
 generalize((Lib.bitLen (wu64 (l.length:Int)).toNat:Nat):Int)=t3
 refine xbd.2 ⟨L,?_,rfl⟩
 refine zae (fun _=>(l,0,(l.length:Int),t3,cmp,true,true)) 0 rfl (fun i hi=>by omega) (b:=L) ?_ rfl
 simp only[hw,decide_eq_true (show(l.length:Int)≤12 by omega),xad,h1,xab]
theorem zqq{a b:Nat}(ha:a≤9223372036854775807)(hb:b≤9223372036854775807)(hb0:0<b):d158 (a:Int) (b:Int)=some (rr (frac a b)):=by
 unfold d158
 have h1:=zgb (n:=a) (by omega)
 have h2:=zgb (n:=b) (by omega)
 rw[d128_eq (by omega) (by omega),d128_eq (by omega) (by omega),xab,xab,decide_eq_false (show ¬(a:Int)<0 by omega),decide_eq_false (show ¬(b:Int)<0 by omega),xgr,xgr,zqr _ (zal _) (zal _) (by omega) (by omega),zaw,zaw]
 show some (rr (mkRat (a:Int) b))=_
 rw[Rat.mkRat_eq_div]
 rfl
end Go.Proofs.YtmipjomnjkmdbaaGreat
namespace Go.Proofs.YtmipjomnjkmdbaaGreat
open Go Go.X
abbrev MT:=CT×(List Grp×(List Int×(Int×(List Int×(List Int×(Int×(List (List Rt)×(Int×(Int×(Int×(Int×(Int×(Int×(List RD×List Int))))))))))))))
theorem zke{k:MT}{st:Nat→Nat}{n:Nat}(hk:k.2.2.2.2.1=lst (fun i=>(st i:Int)) n)(hn:n≤1000)(x:Nat):d161 k (x:Int)=some (selI (fun i=>decide (st i=x)) n):=by
 unfold d161
 rw[hk,zak]
 refine zae (fun i=>((x:Int),selI (fun i=>decide (st i=x)) i,lst (fun i=>(st i:Int)) n,(n:Int),(i:Int))) n rfl (fun i hi=>?_) ?_ rfl
 ·have hl:(selI (fun i=>decide (st i=x)) i).length+1≤4294967296:=by
   rw[zay];have:=zcd (fun i=>decide (st i=x)) i;omega
  rw[zdd]
  simp only[dlt hi,d0le,zak,xai,xad,tn,zbb _ hi,zan,zhs,zbm (show i<9223372036854775807 by omega)]
  by_cases h:st i=x
  ·rw[decide_eq_true h,xad,zdh hl,xad];rfl
  ·rw[decide_eq_false h,xaf];simp
 ·simp only[nlt (Nat.le_refl n),xaf]
theorem d157_eq{k:MT}{v:Nat→Nat}{n one:Nat}(hk:k.2.2.2.1=(one:Int))(hn:n≤1000)(h1:0<one)(h6:one≤1000000)(hv:∀i,i<n→v i≤9223372036854775807):d157 k (lst (fun i=>(v i:Int)) n)=some (lst (fun i=>rr (frac (v i) one)) n):=by
 unfold d157
 rw[zak]
 refine zae (fun i=>(k,lst (fun i=>rr (frac (v i) one)) i,lst (fun i=>(v i:Int)) n,(n:Int),(i:Int))) n rfl (fun i hi=>?_) ?_ rfl
 ·have hl:=zdh (l:=lst (fun i=>rr (frac (v i) one)) i) (d:=rr (frac (v i) one)) (by rw[zak];omega)
  rw[zak]at hl
  simp only[dlt hi,d0le,zak,xai,xad,tn,zbb (fun i=>(v i:Int)) hi,hk,zqq (hv i hi) (show one≤9223372036854775807 by omega) h1,xab,zbm (show i<9223372036854775807 by omega),hl,zix]
 ·simp only[nlt (Nat.le_refl n),xaf]
theorem d159_eq{c:CT}{gs:List Grp}{lots:List Int}{one:Int}{st:Nat→Nat}{n:Nat}{kp:List Int}{filled:Nat}{rest:List (List Rt)×(Int×(Int×(Int×(Int×(Int×(Int×(List RD×List Int)))))))}
  {v kk:List Rt} {qu ex su:Rt} {el ex2 ti:List Int} {L:List Nat} (hn:n≤7) (hL:∀i∈L,i<n) (hLl:L.length≤7) (hf:filled≤1000) (hel:el.length≤1000) :
  d159 (c,gs,lots,one,lst (fun i=>(st i:Int)) n,kp,(filled:Int),rest) (v,kk,qu,ex,su,el,ex2,ti) (L.map Int.ofNat)
   =some ((c,gs,lots,one,lst (fun i=>((zfd st L 1 i:Nat):Int)) n,kp,((filled+L.length:Nat):Int),rest),(v,kk,qu,ex,su,zds (el++L.map Int.ofNat),ex2,ti)):=by
 unfold d159
 have hLi:(L.map Int.ofNat).length=L.length:=xba ..
 rw[hLi]
 refine zae (fun j=>((c,gs,lots,one,lst (fun i=>((zfd st (L.take j) 1 i:Nat):Int)) n,kp,((filled+j:Nat):Int),rest),(v,kk,qu,ex,su,el++(L.take j).map Int.ofNat,ex2,ti),L.map Int.ofNat,(L.length:Int),(j:Int))) L.length ?_ (fun j hj=>?_) (b:=((c,gs,lots,one,lst (fun i=>((zfd st L 1 i:Nat):Int)) n,kp,((filled+L.length:Nat):Int),rest),(v,kk,qu,ex,su,el++L.map Int.ofNat,ex2,ti))) ?_ ?_
 ·rw[xdr,updAll_nil,xgo,xbw];rfl
 ·have hm:L.getD j 0∈L:=by
   rw[xac,xak hj]
   exact xbf hj
  have hg:=hL _ hm
  have hsg:(L.map Int.ofNat).getD j 0=((L.getD j 0:Nat):Int):=by
   rw[xac,xbt,xak hj,xac,xak hj];rfl
  have hll:(el++(L.take j).map Int.ofNat).length+1≤4294967296:=by rw[List.length_append,xba,xau];omega
  simp only[dlt hj,d0le,hLi,xai,xad,tn,hsg,zak,dlt hg,zdh hll,zbm (show j<9223372036854775807 by omega),zbm (show filled+j<9223372036854775807 by omega),zhb]
  have e:lst (upd (fun i=>((zfd st (L.take j) 1 i:Nat):Int)) (L.getD j 0) 1) n=lst (fun i=>((zfd st (L.take (j+1)) 1 i:Nat):Int)) n:=zbi fun i hi=>by
   rw[zbk L 0 hj,←updAll_snoc]
   unfold upd
   split<;>rfl
  rw[e,zbk L 0 hj,xcb,xci]
  rfl
 ·simp only[nlt (Nat.le_refl L.length),xaf,xbh]
 ·have hd:d174 (el++L.map Int.ofNat)=some (zds (el++L.map Int.ofNat)):=by
   unfold d174
   rw[zbu (by rw[List.length_append,hLi];omega)];rfl
  simp only[hd,xab]
def cmpM(v:Nat→Nat)(lots:List Int)(a b:Int):Int:=if v a.toNat=v b.toNat then(zam lots a:Int)-(zam lots b:Int)else(v b.toNat:Int)-(v a.toNat:Int)
theorem zkg(v:Nat→Nat)(lots:List Int)(a b:Nat):cmpM v lots (a:Int) (b:Int)<0↔better v lots a b=true:=by
 unfold cmpM better
 rw[xaj,xaj]
 simp only[xdn,xae,xag]
 split<;>omega
theorem d196_eq{v:Nat→Nat}{n:Nat}{k:MT}{lots:List Int}(hk:k.2.2.1=lots)(hl:LotsOK n lots)(hv:∀i,i<n→v i≤1000000000000){a b:Nat}(ha:a<n)(hb:b<n):d196 (a:Int) (b:Int) (lst (fun i=>(v i:Int)) n) k=some (cmpM v lots (a:Int) (b:Int)):=by
 have h1:=hv a ha
 have h2:=hv b hb
 have h7:=hl.n7
 have hll:=hl.len
 have h3:=zqp (s:=lots) (a:Int) (by omega)
 have h4:=zqp (s:=lots) (b:Int) (by omega)
 rw[zgf]at h3 h4
 have p1:lots.idxOf (a:Int)<lots.length:=xex (hl.mem ha)
 have p2:lots.idxOf (b:Int)<lots.length:=xex (hl.mem hb)
 rw[if_pos p1]at h3
 rw[if_pos p2]at h4
 unfold d196 cmpM zam
 simp only[d0le,zak,dlt ha,dlt hb,xai,xad,tn,zbb (fun i=>(v i:Int)) ha,zbb (fun i=>(v i:Int)) hb,zhs,hk,h3,h4,xab]
 by_cases h:v a=v b
 ·rw[if_pos h,decide_eq_true h,xaq,xaf,zbf (by omega) (by omega)]
 ·rw[if_neg h,decide_eq_false h,xao,xad,zbf (by omega) (by omega)]
variable {Q:MP} {s:MS}
theorem d160_ex(hQ:Q.OK)(hI:MI Q s){k:MT}(hst:k.2.2.2.2.1=lst (fun i=>(s.st i:Int)) Q.P.n)(hlo:k.2.2.1=Q.P.lots)(hse:k.1.2.2.2.1=(Q.P.seats:Int))(hfl:k.2.2.2.2.2.2.1=(s.fl Q:Int)) :
  ∃L:List Nat,d160 k (lst (fun i=>((s.v Q i:Nat):Int)) Q.P.n) ((s.quo Q:Nat):Int)=some (L.map Int.ofNat)∧(L.map Int.ofNat).Perm (selI (s.el Q) Q.P.n):=by
 have hn7:=hQ.P.n7
 have hs5:=hQ.P.seats5
 have hfill:=hI.fill
 have hv:∀i,i<Q.P.n→s.v Q i≤1000000000000:=fun i hi=>by
  have h1:=MS.v_le hQ hI hi
  have h2:=MS.tot_le hQ
  omega
 have h134:=d134_eq (s:=selI (fun i=>decide (s.st i=0)) Q.P.n) (f:=fun a=>d194 a (lst (fun i=>((s.v Q i:Nat):Int)) Q.P.n) ((s.quo Q:Nat):Int)) (g:=fun x=>decide (s.v Q x.toNat<s.quo Q)) (fun x hx=>by
  obtain⟨i,rfl,hi,_⟩:=zax.1 hx
  unfold d194
  simp only[d0le,zak,dlt hi,xai,xad,tn,zbb (fun i=>((s.v Q i:Nat):Int)) hi,xaj]
  congr 1
  exact xcj.2 (by omega)) (by rw[zay];have:=zcd (fun i=>decide (s.st i=0)) Q.P.n;omega)
 have hre:(selI (fun i=>decide (s.st i=0)) Q.P.n).filter (fun c=>!decide (s.v Q c.toNat<s.quo Q))=selI (s.reach Q) Q.P.n:=by
  rw[zia]
  refine zeh fun i _=>?_
  unfold MS.reach
  congr 1
  rw[xaj]
  by_cases h:s.v Q i<s.quo Q
  ·rw[decide_eq_true h,decide_eq_false (by omega)];rfl
  ·rw[decide_eq_false h,decide_eq_true (by omega)];rfl
 rw[hre]at h134
 have hrl:(selI (s.reach Q) Q.P.n).length≤7:=by rw[zay];have:=zcd (s.reach Q) Q.P.n;omega
 have hin:∀a∈selI (s.reach Q) Q.P.n,∃i:Nat,a=(i:Int)∧i<Q.P.n:=fun a ha=>by
  obtain⟨i,h,hi,_⟩:=zax.1 ha
  exact⟨i,h,hi⟩
 obtain⟨L,h1,h2,h3⟩:=d195_ex (l:=selI (s.reach Q) Q.P.n) (cmp:=fun a_1 a_2=>d196 a_1 a_2 (lst (fun i=>((s.v Q i:Nat):Int)) Q.P.n) k) (g:=cmpM (s.v Q) Q.P.lots) (by omega) (zcq _ _) (fun a ha b hb=>by
  obtain⟨i,rfl,hi⟩:=hin a ha
  obtain⟨j,rfl,hj⟩:=hin b hb
  exact d196_eq hlo (zok hQ.P) hv hi hj) (fun a ha b hb hne=>by
  obtain⟨i,rfl,hi⟩:=hin a ha
  obtain⟨j,rfl,hj⟩:=hin b hb
  rw[zkg,zkg]
  exact zla ((zok hQ.P).mem hi) fun e=>hne (by rw[e])) (fun a ha b hb d hd=>by
  obtain⟨i,rfl,hi⟩:=hin a ha
  obtain⟨j,rfl,hj⟩:=hin b hb
  obtain⟨m,rfl,hm⟩:=hin d hd
  rw[zkg,zkg,zkg]
  exact zkz)
 have hLin:∀a∈L,∃i:Nat,a=(i:Int)∧i<Q.P.n:=fun a ha=>hin a (h2.mem_iff.1 ha)
 have hs:L.Pairwise fun a b=>znn (s.v Q) Q.P.lots a b=true:=h3.imp_of_mem fun{a b} ha hb hab=>by
  obtain⟨i,rfl,hi⟩:=hLin a ha
  obtain⟨j,rfl,hj⟩:=hLin b hb
  exact(zkg _ _ _ _).1 hab
 have hLl:L.length≤7:=by rw[h2.length_eq];exact hrl
 have hmap:((L.take (Q.P.seats-s.fl Q)).map Int.toNat).map Int.ofNat=L.take (Q.P.seats-s.fl Q):=by
  rw[List.map_map]
  refine(xdo fun a ha=>?_).trans (List.map_id _)
  obtain⟨i,rfl,_⟩:=hLin a (xcg ha)
  rfl
 refine⟨(L.take (Q.P.seats-s.fl Q)).map Int.toNat,?_,by rw[hmap];exact el_perm hQ h2 hs⟩
 rw[hmap]
 unfold d160
 rw[show d161 k 0=_ from zke hst (by omega) 0,xab,h134,xab,h1,xab,hse,hfl,wsubN (by omega) (by omega)]
 by_cases hc:((Q.P.seats-s.fl Q:Nat):Int)<(L.length:Int)
 ·rw[decide_eq_true hc,xad]
  have hcut:zck 0 ((Q.P.seats-s.fl Q:Nat):Int) L.length=true:=by
   unfold zck
   simp only[xae,xag]
   omega
  rw[hcut,xad,tn]
 ·rw[decide_eq_false hc,xaf]
  have hcut:zck 0 (L.length:Int) L.length=true:=by
   unfold zck
   simp only[xae,xag]
   omega
  rw[hcut,xad,tn,xbh,xaz (by omega)]
theorem d60_eq{d:Nat}(h1:1≤d)(h6:d≤6):d60 (d:Int)=some ((10^(d/2):Nat):Int):=by
 have e:w (Int.tdiv (d:Int) 2)=((d/2:Nat):Int):=by
  have:Int.tdiv (d:Int) 2=((d/2:Nat):Int):=by
   rw[xeg (by omega)];rfl
  rw[this,zbf (by omega) (by omega)]
 unfold d60
 simp only[zan,decide_eq_false (show ¬(d:Int)<1 by omega),decide_eq_false (show ¬(6:Int)<(d:Int) by omega),xao,xad,xaf,e,d111_eq (show d/2≤18 by omega),xab]
inductive Bef(rs:List Rd)(b:Option Nat)(sur:Nat):Prop
 |start:rs=[]→b=none→Bef rs b sur
 |kept (rs':List Rd) (r:Rd):rs=rs'++[r]→r.ex=[]→b=some sur→Bef rs b sur
 |excl (rs':List Rd) (r:Rd):rs=rs'++[r]→r.ex≠ []→b=none→Bef rs b sur
theorem d162_eq{k:MT}{rs:List Rd}{d sur:Nat}(h1:1≤d)(h6:d≤6)(hk:k.1.2.2.2.2.2.1=(d:Int))(hrs:k.2.2.2.2.2.2.2.2.2.2.2.2.2.2.1=rs.map rdT)(hl:rs.length≤1000)(hsi:s.since≤rs.length)(hev:k.2.2.2.2.2.2.2.2.1=(rs.length:Int)-(s.since:Int))(hsu:k.2.2.2.2.2.2.2.2.2.1=(sur:Int))(hb:Bef rs s.bef sur)(hom:Q.om=10^(d/2)) :
  d162 k ((s.sur Q:Nat):Int) ((rs.length+1:Nat):Int)=some (s.stall Q):=by
 unfold d162 MS.stall
 have hw1:w (((rs.length+1:Nat):Int)-((rs.length:Int)-(s.since:Int)))=((s.since+1:Nat):Int):=by rw[zbf (by omega) (by omega)];omega
 simp only[zan,hk,d60_eq h1 h6,xab,hev,hw1,hrs,xba,hsu,←hom]
 by_cases c1:s.sur Q<Q.om
 ·rw[decide_eq_true (show((s.sur Q:Nat):Int)<((Q.om:Nat):Int) by omega),decide_eq_true c1];rfl
 rw[decide_eq_false (show ¬((s.sur Q:Nat):Int)<((Q.om:Nat):Int) by omega),decide_eq_false c1,xao,xad,xbj]
 by_cases c2:60≤s.since+1
 ·rw[decide_eq_true (show(60:Int)≤((s.since+1:Nat):Int) by omega),decide_eq_true c2];rfl
 rw[decide_eq_false (show ¬(60:Int)≤((s.since+1:Nat):Int) by omega),decide_eq_false c2,xaf,xbj]
 have hget:∀(rs':List Rd) (r:Rd) (d0:RD),rs=rs'++[r]→(rs.map rdT).getD rs'.length d0=rdT r:=fun rs' r d0 e=>by
  rw[e,xcb,xac,xda (by simp),xba,Nat.sub_self];rfl
 cases hb with
 |start e1 e2=>
  rw[e2,e1]
  have:w (((([]:List Rd).length:Nat):Int)-1)=-1:=by
   show w (-1)=-1
   exact zbf (by omega) (by omega)
  rw[this];rfl
 |kept rs' r e1 e2 e3=>
  have hlen:rs.length=rs'.length+1:=by rw[e1];simp
  rw[e3,hlen,wpred (by omega)]
  have hx:(rdT r).2.2.2.2.2.2.1=[]:=e2
  rw[d0le,xad,tn,dlt (show rs'.length<rs'.length+1 by omega),xai,xad,hget rs' r _ e1,hx]
  show some (decide ((sur:Int)≤((s.sur Q:Nat):Int)))=some (decide (sur≤s.sur Q))
  congr 1
  exact xcj.2 (by omega)
 |excl rs' r e1 e2 e3=>
  have hlen:rs.length=rs'.length+1:=by rw[e1];simp
  rw[e3,hlen,wpred (by omega)]
  have hx:(rdT r).2.2.2.2.2.2.1=r.ex:=rfl
  have hpos:=xct.2 e2
  rw[d0le,xad,tn,dlt (show rs'.length<rs'.length+1 by omega),xai,xad,hget rs' r _ e1,hx,decide_eq_false (show ¬((r.ex.length:Nat):Int)=0 by omega)]
  rfl
end Go.Proofs.YtmipjomnjkmdbaaGreat
namespace Go.Proofs.YtmipjomnjkmdbaaGreat
open Go Go.X
variable {Q:MP} {s:MS}
theorem getD_in{l:List Int}{P:Int→Prop}(h:∀x∈l,P x){j:Nat}(hj:j<l.length):P (l.getD j 0):=h _ (zbv hj)
set_option maxHeartbeats 1000000 in
theorem d163_eq(hQ:Q.OK)(hI:MI Q s){c:CT}(hc:c.2.2.2.2.2.2.1=Q.P.ties){gs:List Grp}{one filled:Int}{E:List (List Rat)}{rest:Int×(Int×(Int×(Int×(Int×(Int×(List RD×List Int))))))}(hE:∀r∈E,RndOK Q.P.n r)(hEl:E.length≤1000)(v kk:List Rt)(qu ex su:Rt)(el ex2 ti:List Int) :
  ∃x:Nat,x<Q.P.n∧s.pick Q E=(x:Int)∧d163 (c,gs,Q.P.lots,one,lst (fun i=>(s.st i:Int)) Q.P.n,lst (fun i=>(s.kp i:Int)) Q.P.n,filled,E.map (List.map rr),rest) (v,kk,qu,ex,su,el,ex2,ti) (lst (fun i=>((s.v Q i:Nat):Int)) Q.P.n) ((s.sur Q:Nat):Int)
   =some ((c,gs,Q.P.lots,one,lst (fun i=>((upd s.st x 2 i:Nat):Int)) Q.P.n,lst (fun i=>((upd s.kp x 0 i:Nat):Int)) Q.P.n,filled,E.map (List.map rr),rest),(v,kk,qu,ex,su,el,[(x:Int)],if(s.tied Q).length=1 then ti else s.tied Q)):=by
 obtain⟨x,x1,x2,x3⟩:=zhk hI E
 refine⟨x,x2,x1,?_⟩
 have hn7:=hQ.P.n7
 have htl:=MS.tot_le hQ
 have hv:∀i,i<Q.P.n→s.v Q i≤100000000000:=fun i hi=>by
  have h1:=MS.v_le hQ hI hi
  omega
 have hsur:s.sur Q≤100000000000:=by
  have h1:=MS.sum_le hQ hI
  have h2:s.sur Q≤sumN (s.v Q) Q.P.n:=zfb fun i _=>by split<;>omega
  omega
 have hLn:∀y∈selI (fun i=>decide (s.st i=0)) Q.P.n,∃i:Nat,y=(i:Int)∧i<Q.P.n:=fun y hy=>by
  obtain⟨i,h,hi,_⟩:=zax.1 hy
  exact⟨i,h,hi⟩
 have hne:selI (fun i=>decide (s.st i=0)) Q.P.n≠ []:=xfk (zax.2 ⟨x,rfl,x2,decide_eq_true x3⟩)
 have hLl:(selI (fun i=>decide (s.st i=0)) Q.P.n).length≤7:=by
  rw[zay];have:=zcd (fun i=>decide (s.st i=0)) Q.P.n;omega
 have hmem:∀i,i<Q.P.n→(s.st i=0↔(i:Int)∈selI (fun i=>decide (s.st i=0)) Q.P.n):=fun i hi=>by
  rw[zax]
  constructor
  ·intro h;exact⟨i,rfl,hi,decide_eq_true h⟩
  ·rintro⟨k,e,_,h⟩
   rw[xcm.1 e]
   exact of_decide_eq_true h
 have hnear:∀m:Nat,(∃y,y<Q.P.n∧s.st y=0∧m=s.v Q y)→(∀k,k<Q.P.n→s.st k=0→m≤s.v Q k)→(selI (fun i=>decide (s.st i=0)) Q.P.n).filter (fun c=>!decide (m+s.sur Q<s.v Q c.toNat))=s.tied Q:=fun m ⟨y,y1,y2,y3⟩ hm=>by
  rw[zia]
  refine zeh fun i hi=>?_
  unfold MS.near
  congr 1
  rw[xaj,xez,xbk,xha,xav]
  constructor
  ·intro h k hk
   by_cases h5:s.st k=0
   ·have:=hm k (List.mem_range.1 hk) h5
    rw[xdn,xag]
    exact .inr (by omega)
   ·simp[h5]
  ·intro h
   have:=h y (List.mem_range.2 y1)
   rw[decide_eq_true y2,xaq,xbj,xag]at this
   omega
 have h134:∀m:Nat,m≤100000000000→d134 (selI (fun i=>decide (s.st i=0)) Q.P.n) (fun a=>d197 a (lst (fun i=>((s.v Q i:Nat):Int)) Q.P.n) (m:Int) ((s.sur Q:Nat):Int))=some ((selI (fun i=>decide (s.st i=0)) Q.P.n).filter fun c=>!decide (m+s.sur Q<s.v Q c.toNat)):=fun m hm=>d134_eq (g:=fun c=>decide (m+s.sur Q<s.v Q c.toNat)) (fun y hy=>by
  obtain⟨i,rfl,hi⟩:=hLn y hy
  unfold d197
  simp only[d0le,zak,dlt hi,xai,xad,tn,zbb (fun i=>((s.v Q i:Nat):Int)) hi,xaj,wadd (show m+s.sur Q≤9223372036854775807 by omega)]
  congr 1
  exact xcj.2 (by omega)) (by omega)
 unfold d163
 rw[show d161 (c,gs,Q.P.lots,one,lst (fun i=>(s.st i:Int)) Q.P.n,lst (fun i=>(s.kp i:Int)) Q.P.n,filled,E.map (List.map rr),rest) 0=_ from zke (st:=s.st) (n:=Q.P.n) rfl (by omega) 0,xab]
 simp only[show∀i,decide (s.st i=0)=decide (s.st i=0)from fun _=>rfl]
 generalize hLL:selI (fun i=>decide (s.st i=0)) Q.P.n=L at *
 have hpos:=xct.2 hne
 obtain⟨y0,hy0,hy0n⟩:=getD_in hLn hpos
 have hy0m:(y0:Int)∈L:=by rw[←hy0];exact zbv hpos
 simp only[decide_eq_true (show(0:Int)<(L.length:Int) by omega),show decide ((0:Nat)≤0)=true from rfl,xai,xad,hy0,d0le,zak,dlt hy0n,tn,zbb (fun i=>((s.v Q i:Nat):Int)) hy0n]
 refine zbw (Q:=fun z=>z=_) (fun(i:Nat) (st:MT×RD×(List Int)×Int×(List Int)×Int×Int×Int)=>∃m:Nat,st=((c,gs,Q.P.lots,one,lst (fun i=>(s.st i:Int)) Q.P.n,lst (fun i=>(s.kp i:Int)) Q.P.n,filled,E.map (List.map rr),rest),(v,kk,qu,ex,su,el,ex2,ti),lst (fun i=>((s.v Q i:Nat):Int)) Q.P.n,((s.sur Q:Nat):Int),L,(m:Int),(L.length:Int),(i:Int))∧(∃y,y<Q.P.n∧s.st y=0∧m=s.v Q y)∧∀j,j<i→∀y:Nat,L.getD j 0=(y:Int)→m≤s.v Q y) L.length ⟨s.v Q y0,rfl,⟨y0,hy0n,(hmem y0 hy0n).2 hy0m,rfl⟩,fun j hj=>by omega⟩ ?_ ?_
 ·rintro i st hi ⟨m,rfl,⟨y,y1,y2,y3⟩,hm⟩
  obtain⟨z,hz,hzn⟩:=getD_in hLn hi
  have hzm:(z:Int)∈L:=by rw[←hz];exact zbv hi
  refine⟨_,by simp only[dlt hi,d0le,xai,xad,tn,hz,zak,dlt hzn,zbb (fun i=>((s.v Q i:Nat):Int)) hzn,zbm (show i<9223372036854775807 by omega)];rfl,?_⟩
  by_cases hlt:s.v Q z<m
  ·refine⟨s.v Q z,by rw[dlt hlt];rfl,⟨z,hzn,(hmem z hzn).2 hzm,rfl⟩,fun j hj y' hy'=>?_⟩
   by_cases hji:j=i
   ·subst hji
    rw[hz]at hy'
    rw[xcm.1 hy']
    exact Nat.le_refl _
   ·have:=hm j (by omega) y' hy'
    omega
  ·refine⟨m,by rw[nlt (by omega)];rfl,⟨y,y1,y2,y3⟩,fun j hj y' hy'=>?_⟩
   by_cases hji:j=i
   ·subst hji
    rw[hz]at hy'
    rw[←xcm.1 hy']
    omega
   ·exact hm j (by omega) y' hy'
 ·rintro st ⟨m,rfl,hy,hm⟩
  refine⟨((c,gs,Q.P.lots,one,lst (fun i=>(s.st i:Int)) Q.P.n,lst (fun i=>(s.kp i:Int)) Q.P.n,filled,E.map (List.map rr),rest),(v,kk,qu,ex,su,el,ex2,ti),lst (fun i=>((s.v Q i:Nat):Int)) Q.P.n,((s.sur Q:Nat):Int),L,(m:Int)),by simp only[nlt (Nat.le_refl L.length),xaf],?_⟩
  have hm2:∀k,k<Q.P.n→s.st k=0→m≤s.v Q k:=fun k hk h0=>by
   obtain⟨j,hj,e⟩:=xbv ((hmem k hk).1 h0)
   exact hm j hj k (by rw[xac,xak hj,e];rfl)
  have hmb:m≤100000000000:=by
   obtain⟨y,y1,_,y3⟩:=hy
   rw[y3];exact hv y y1
  have ht:=hnear m hy hm2
  have h134:=h134 m hmb
  rw[ht]at h134
  have htne:s.tied Q≠ []:=near_ne hI
  have htin:∀y∈s.tied Q,∃i:Nat,y=(i:Int)∧i<Q.P.n:=fun y hy=>by
   obtain⟨i,h,hi,_⟩:=zax.1 hy
   exact⟨i,h,hi⟩
  have htl7:(s.tied Q).length≤7:=by
   unfold MS.tied
   rw[zay];have:=zcd (s.near Q) Q.P.n;omega
  have hset1:(lst (fun i=>(s.st i:Int)) Q.P.n).set x 2=lst (fun i=>((upd s.st x 2 i:Nat):Int)) Q.P.n:=by
   rw[zhb]
   refine zbi fun k _=>?_
   unfold upd
   split<;>rfl
  have hset2:(lst (fun i=>(s.kp i:Int)) Q.P.n).set x 0=lst (fun i=>((upd s.kp x 0 i:Nat):Int)) Q.P.n:=by
   rw[zhb]
   refine zbi fun k _=>?_
   unfold upd
   split<;>rfl
  obtain⟨b,hb155⟩:=d155_eq (n:=Q.P.n) (ties:=Q.P.ties) (E:=E) (tied:=s.tied Q) (lots:=Q.P.lots) (least:=true) hQ.P.ties1 hQ.P.ties3 (zok hQ.P) hE (by omega) htne (zdl _ _) htin (by omega)
  simp only[h134,xab]
  unfold MS.pick at x1
  generalize s.tied Q=T at htne htl7 x1 hb155 ⊢
  obtain⟨z,T',hT'⟩:=xgm htne
  subst hT'
  simp only[xay,decide_eq_true (show(0:Int)<((T'.length+1:Nat):Int) by omega),show decide ((0:Nat)≤0)=true from rfl,xai,xad,zan,hc,hb155,xab,xef]
  rw[xay]at x1
  by_cases hone:T'.length+1=1
  ·rw[if_pos hone,xek]at x1
   simp only[if_pos hone,decide_eq_false (show ¬(1:Int)<((T'.length+1:Nat):Int) by omega),xaf,x1,d0le,zak,dlt x2,xai,xad,tn,hset1,hset2]
  ·rw[if_neg hone]at x1
   simp only[if_neg hone,decide_eq_true (show(1:Int)<((T'.length+1:Nat):Int) by omega),xad,x1,d0le,zak,dlt x2,xai,tn,hset1,hset2]
theorem d164_eq(hQ:Q.OK)(hI:MI Q s){c:CT}{gs:List Grp}{lots:List Int}{filled:Int}{rest:List (List Rt)×(Int×(Int×(Int×(Int×(Int×(Int×(List RD×List Int)))))))} :
  d164 (c,gs,lots,(Q.one:Int),lst (fun i=>((s.st1 Q i:Nat):Int)) Q.P.n,lst (fun i=>(s.kp i:Int)) Q.P.n,filled,rest) (lst (fun i=>((s.v Q i:Nat):Int)) Q.P.n) ((s.quo Q:Nat):Int)
   =some (c,gs,lots,(Q.one:Int),lst (fun i=>((s.st1 Q i:Nat):Int)) Q.P.n,lst (fun i=>((s.kp1 Q i:Nat):Int)) Q.P.n,filled,rest):=by
 have hn7:=hQ.P.n7
 have htl:=MS.tot_le hQ
 have ho1:=hQ.one1
 have ho6:=hQ.one6
 have hv:∀i,i<Q.P.n→s.v Q i≤100000000000:=fun i hi=>by
  have h1:=MS.v_le hQ hI hi
  omega
 have hq:s.quo Q≤100000000001:=by
  have:=MS.quo_le hQ hI
  omega
 unfold d164
 rw[show d161 (c,gs,lots,(Q.one:Int),lst (fun i=>((s.st1 Q i:Nat):Int)) Q.P.n,lst (fun i=>(s.kp i:Int)) Q.P.n,filled,rest) 1=_ from zke (st:=s.st1 Q) (n:=Q.P.n) rfl (by omega) 1,xab]
 obtain⟨L,hL⟩:∃L,selN (fun i=>decide (s.st1 Q i=1)) Q.P.n=L:=⟨_,rfl⟩
 have hLi:selI (fun i=>decide (s.st1 Q i=1)) Q.P.n=L.map Int.ofNat:=by rw[←hL];rfl
 have hLn:∀i∈L,i<Q.P.n:=fun i hi=>(zcs.1 (by rw[hL];exact hi)).1
 have hLl:L.length≤7:=by rw[←hL,zcc];have:=zcd (fun i=>decide (s.st1 Q i=1)) Q.P.n;omega
 have hLd:L.Nodup:=by
  rw[←hL];unfold selN
  exact List.nodup_range.filter _
 have hmem:∀i,i<Q.P.n→(s.st1 Q i=1↔i∈L):=fun i hi=>by
  rw[←hL,zcs,xag]
  exact⟨fun h=>⟨hi,h⟩,fun h=>h.2⟩
 obtain⟨nw,hnw⟩:∃nw:Nat→Nat,(fun i=>min Q.one (mup (mup (s.kp i*s.quo Q) Q.one*Q.one) (s.v Q i)))=nw:=⟨_,rfl⟩
 have hnwi:∀i,min Q.one (mup (mup (s.kp i*s.quo Q) Q.one*Q.one) (s.v Q i))=nw i:=fun i=>by rw[←hnw]
 rw[hLi]
 have hLm:(L.map Int.ofNat).length=L.length:=xba ..
 simp only[show(L.map Int.ofNat).length=L.length from hLm]
 refine zae (fun j=>((c,gs,lots,(Q.one:Int),lst (fun i=>((s.st1 Q i:Nat):Int)) Q.P.n,lst (fun i=>((if i∈L.take j∧0<s.v Q i then nw i else s.kp i:Nat):Int)) Q.P.n,filled,rest),lst (fun i=>((s.v Q i:Nat):Int)) Q.P.n,((s.quo Q:Nat):Int),L.map Int.ofNat,(L.length:Int),(j:Int))) L.length ?_ (fun j hj=>?_) (b:=(c,gs,lots,(Q.one:Int),lst (fun i=>((s.st1 Q i:Nat):Int)) Q.P.n,lst (fun i=>((s.kp1 Q i:Nat):Int)) Q.P.n,filled,rest)) ?_ rfl
 ·simp only[xdr,List.not_mem_nil,false_and,if_false]
  rfl
 ·obtain⟨x,hx⟩:∃x,L.getD j 0=x:=⟨_,rfl⟩
  have hxm:x∈L:=by
   rw[←hx,xac,xak hj]
   exact xbf hj
  have hxn:=hLn x hxm
  have hsg:(L.map Int.ofNat).getD j 0=(x:Int):=by
   rw[xac,xbt,xak hj,←hx,xac,xak hj];rfl
  have htk:L.take (j+1)=L.take j++[x]:=by rw[zbk L 0 hj,hx]
  have hxt:x∉L.take j:=fun h=>by
   have h2:(L.take (j+1)).Nodup:=hLd.sublist (List.take_sublist _ _)
   rw[htk]at h2
   exact(xfb.1 h2).2.2 x h x (by simp) rfl
  have hkx:¬(x∈L.take j∧0<s.v Q x):=fun h=>hxt h.1
  have hvx:=hv x hxn
  have hk1:=hI.kp1 x
  have b1:s.kp x*s.quo Q≤1000000*100000000001:=Nat.mul_le_mul (by omega) hq
  have b2:mup (s.kp x*s.quo Q) Q.one≤s.quo Q:=mup_le ho1 (by rw[xbm];exact xco _ hk1)
  have b3:mup (s.kp x*s.quo Q) Q.one*Q.one≤100000000001*1000000:=Nat.mul_le_mul (by omega) ho6
  simp only[dlt hj,d0le,hLm,xai,xad,tn,hsg,zak,dlt hxn,zbb (fun i=>((s.v Q i:Nat):Int)) hxn,zan,zbm (show j<9223372036854775807 by omega),htk]
  by_cases h0:0<s.v Q x
  ·simp only[decide_eq_true (show(0:Int)<((s.v Q x:Nat):Int) by omega),xad,zbb (fun i=>((if i∈L.take j∧0<s.v Q i then nw i else s.kp i:Nat):Int)) hxn,if_neg hkx,wmul (show s.kp x*s.quo Q≤9223372036854775807 by omega),d121_eq ho1 (show s.kp x*s.quo Q+Q.one≤4611686018427387904 by omega),xab,wmul (show mup (s.kp x*s.quo Q) Q.one*Q.one≤9223372036854775807 by omega),d121_eq h0 (show mup (s.kp x*s.quo Q) Q.one*Q.one+s.v Q x≤4611686018427387904 by omega)]
   have hmin:(bif decide (((mup (mup (s.kp x*s.quo Q) Q.one*Q.one) (s.v Q x):Nat):Int)<(Q.one:Int))then((mup (mup (s.kp x*s.quo Q) Q.one*Q.one) (s.v Q x):Nat):Int)else(Q.one:Int))=((nw x:Nat):Int):=by
    rw[←hnwi]
    generalize mup (mup (s.kp x*s.quo Q) Q.one*Q.one) (s.v Q x)=y
    by_cases h:y<Q.one
    ·rw[dlt h,xad];omega
    ·rw[nlt (by omega),xaf];omega
   have e:lst (upd (fun i=>((if i∈L.take j∧0<s.v Q i then nw i else s.kp i:Nat):Int)) x ((nw x:Nat):Int)) Q.P.n=lst (fun i=>((if i∈L.take j++[x]∧0<s.v Q i then nw i else s.kp i:Nat):Int)) Q.P.n:=zbi fun i hi=>by
    unfold upd
    by_cases hix:i=x
    ·subst hix
     rw[if_pos rfl,if_pos ⟨by simp,h0⟩]
    ·rw[if_neg hix]
     have:(i∈L.take j++[x])↔i∈L.take j:=by simp[hix]
     simp only[this]
   rw[hmin,zhb,e]
  ·simp only[decide_eq_false (show ¬(0:Int)<((s.v Q x:Nat):Int) by omega),xaf]
   have e:lst (fun i=>((if i∈L.take j∧0<s.v Q i then nw i else s.kp i:Nat):Int)) Q.P.n=lst (fun i=>((if i∈L.take j++[x]∧0<s.v Q i then nw i else s.kp i:Nat):Int)) Q.P.n:=zbi fun i hi=>by
    by_cases hix:i=x
    ·subst hix
     rw[if_neg hkx,if_neg fun h=>h0 h.2]
    ·have:(i∈L.take j++[x])↔i∈L.take j:=by simp[hix]
     simp only[this]
   rw[e]
 ·simp only[nlt (Nat.le_refl L.length),xaf,xbh]
  have e:lst (fun i=>((if i∈L∧0<s.v Q i then nw i else s.kp i:Nat):Int)) Q.P.n=lst (fun i=>((s.kp1 Q i:Nat):Int)) Q.P.n:=zbi fun i hi=>by
   unfold MS.kp1
   rw[hnwi]
   by_cases h:s.st1 Q i=1
   ·have:=(hmem i hi).1 h
    simp only[h,this,true_and]
   ·have:¬i∈L:=fun hm=>h ((hmem i hi).2 hm)
    simp only[h,this,false_and]
  rw[e]
end Go.Proofs.YtmipjomnjkmdbaaGreat
namespace Go.Proofs.YtmipjomnjkmdbaaGreat
open Go Go.X
def pl(P:GP)(st:Nat→Nat):GS:={D:=1,num:=fun _=>1,at_:=fun g=>nxt (P.p g) st 0,st:=st,keep:=fun _=>1}
def iv(P:GP)(st:Nat→Nat)(c:Nat):Nat:=(pl P st).lie P c
def zhu(P:GP)(st:Nat→Nat):Nat:=sumN (iv P st) P.n
def iquo(P:GP)(st:Nat→Nat):Nat:=zhu P st/2+1
def zcj(P:GP)(st:Nat→Nat):List Nat:=selN (fun i=>decide (st i=0)) P.n
def iwin(P:GP)(st:Nat→Nat):Option Nat:=if(zcj P st).length=1 then(zcj P st).head? else(zcj P st).find? fun i=>decide (iquo P st≤iv P st i)
def zec(P:GP)(st:Nat→Nat):List Int:=selI (topsP P (iv P st) st 0 false) P.n
def zja(P:GP)(E:List (List Rat))(st:Nat→Nat):Int:=if(zec P st).length=1 then(zec P st).headD 0 else tieB P.ties E (zec P st) P.lots true
def iexh(P:GP)(st:Nat→Nat):Nat:=sumN (fun g=>if nxt (P.p g) st 0<(P.p g).length then 0 else P.k g) P.G
def ird0(P:GP)(st:Nat→Nat):Rd:=
 {votes:=lst (fun i=>(iv P st i:Rat)) P.n
  keep:=lst (fun i=>if st i=0 then 1 else 0) P.n
  quota:=(iquo P st:Rat)
  exh:=(iexh P st:Rat)
  sur:=0
  el:=[]
  ex:=[]
  ti:=[]}
def irdW(P:GP)(st:Nat→Nat)(x:Nat):Rd:={ird0 P st with el:=[(x:Int)]}
def irdX(P:GP)(E:List (List Rat))(st:Nat→Nat):Rd:={ird0 P st with ex:=[zja P E st],ti:=if(zec P st).length=1 then []else zec P st}
def irun(P:GP):Nat→List Rd→(Nat→Nat)→List Rd
 | 0,rs,_=>rs
 |k+1,rs,st=>match iwin P st with
  |some x=>rs++[irdW P st x]
  |none=>irun P k (rs++[irdX P (rs.map Rd.votes) st]) (upd st (zja P (rs.map Rd.votes) st).toNat 3)
def icount(P:GP):List Rd:=irun P P.n [] fun _=>0
theorem zlj{p:Nat→Bool}{x:Nat}:∀{n:Nat},x<n→p x=true→(∀i,i<n→p i=true→i=x)→selI p n=[(x:Int)]
 | 0,h,_,_=>by omega
 |n+1,h,hx,hu=>by
  rw[zdd]
  by_cases hn:x=n
  ·subst hn
   rw[if_pos hx]
   have:selI p x=[]:=by
    rw[←xcu,zay]
    refine xdc fun h=>?_
    obtain⟨i,h1,h2⟩:=zey.1 h
    have:=hu i (by omega) h2
    omega
   rw[this];rfl
  ·rw[zlj (x:=x) (by omega) hx fun i hi h=>hu i (by omega) h,if_neg]
   ·rfl
   ·intro h
    have:=hu n (by omega) h
    omega
theorem sum_two{f:Nat→Nat}{n x y:Nat}(hx:x<n)(hy:y<n)(hxy:x≠y):f x+f y≤sumN f n:=by
 have h1:=zgt (f:=fun i=>if i=x then 0 else f i) hy
 have h2:=sumN_upd (f:=f) (g:=fun i=>if i=x then 0 else f i) hx fun i hi hne=>by rw[if_neg hne]
 simp only[if_pos,if_neg (Ne.symm hxy)]at h1 h2
 omega
variable {P:GP} {s:GS}
theorem zmt(hP:P.OK)(st:Nat→Nat):zhu P st≤P.mkd:=by
 refine Nat.le_trans (lie_sum_le (s:=pl P st) hP) (zfb fun g _=>?_)
 show(if P.p g=[]then 0 else P.k g*1)≤_
 rw[xdk]
 exact Nat.le_refl _
structure Lead(P:GP)(s:GS)(x:Nat):Prop where
 lt:x<P.n
 st:s.st x=0
 how:(∀i,i<P.n→s.st i=0→i=x)∨zhu P s.st<2*iv P s.st x
theorem iwin_some(hP:P.OK){x:Nat}(h:iwin P s.st=some x):Lead P s x:=by
 unfold iwin at h
 split at h
 ·rename_i h1
  obtain⟨y,hy⟩:=xcp.1 h1
  rw[hy]at h
  cases h
  have hm:x∈zcj P s.st:=by rw[hy];simp
  obtain⟨m1,m2⟩:=zcs.1 hm
  refine⟨m1,of_decide_eq_true m2,.inl fun i hi hs=>?_⟩
  have:i∈zcj P s.st:=zcs.2 ⟨hi,decide_eq_true hs⟩
  rw[hy]at this
  simpa using this
 ·have hp:=List.find?_some h
  have hm:=List.mem_of_find?_eq_some h
  obtain⟨m1,m2⟩:=zcs.1 hm
  refine⟨m1,of_decide_eq_true m2,.inr ?_⟩
  have:=of_decide_eq_true hp
  unfold iquo at this
  omega
theorem iwin_none(h:iwin P s.st=none):(zcj P s.st).length≠1∧∀i,i<P.n→s.st i=0→iv P s.st i<iquo P s.st:=by
 unfold iwin at h
 split at h
 ·rename_i h1
  obtain⟨y,hy⟩:=xcp.1 h1
  rw[hy]at h
  cases h
 ·rename_i h1
  refine⟨h1,fun i hi hs=>?_⟩
  have:=List.find?_eq_none.1 h i (zcs.2 ⟨hi,decide_eq_true hs⟩)
  simpa using this
theorem left_upd{st:Nat→Nat}{x:Nat}(hx:x<P.n)(h:st x=0):(zcj P st).length=(zcj P (upd st x 3)).length+1:=by
 unfold zcj
 rw[zcc,zcc]
 refine cnt_upd hx (fun i hi hne=>by rw[zkj _ _ hne]) (by rw[zlg];rfl) (decide_eq_true h)
end Go.Proofs.YtmipjomnjkmdbaaGreat
namespace Go.Proofs.YtmipjomnjkmdbaaGreat
open Go Go.X
abbrev IT:=CT×(List Grp×(List Int×(List Bool×List (List Rt))))
theorem fit_any{m:Int}{c:CT}{gs:List Grp}{lots:List Int}(h:fitE m c gs lots=0):fitE 3 (c.1,c.2.1,3,c.2.2.2.1,c.2.2.2.2.1,0,c.2.2.2.2.2.2) gs lots=0:=by
 obtain⟨_,_,_,n1,n7,s1,s5,_,_,_,t1,t3,hp,ll,hB⟩:=zjd h
 exact zje (n:=c.2.1.length) ⟨rfl,rfl,s1,s5,fun h=>absurd h (by omega),fun h=>absurd h (by omega),fun _=>rfl,t1,t3⟩ (by omega) (by omega) n1 n7 hp ll hB
theorem gpOf_okM{m:Int}{c:CT}{gs:List Grp}{lots:List Int}(h:fitE m c gs lots=0):(gpOf c gs lots).OK∧(gpOf c gs lots).G≤1000000:=by
 have:=gpOf_ok (fit_any h)
 exact⟨this.1,this.2.1⟩
theorem zms{α:Type}{l:Nat}(h:l+1≤4294967296):decide ((l:Int)+((([]:List α).length+1:Nat):Int)≤LIM)=true:=zdh (l:=List.replicate l ()) (d:=()) (by simpa using h) |> fun h=>by simpa using h
theorem lim_inc{l:Nat}(h:l+1≤4294967296):decide ((l:Int)+1≤LIM)=true:=zdh (l:=List.replicate l ()) (d:=()) (by simpa using h) |> fun h=>by simpa using h
theorem d106_eq{c:CT}(gs:List Grp)(lots:List Int)(hn:c.2.1.length≤1000):d106 c gs lots=some (c,gs,lots,lst (fun _=>true) c.2.1.length,[]):=by
 unfold d106
 generalize hm:c.2.1.length=n at hn
 simp only[xax,d0le,zbu (n:=n) (by omega),xai,xad,tn,List.length_replicate]
 refine zae (fun i=>(gs,lots,c,lst (fun k=>decide (k<i)) n,(n:Int),(i:Int))) n ?_ (fun i hi=>?_) (b:=(gs,lots,c,lst (fun _=>true) n)) ?_ rfl
 ·have:lst (fun k=>decide (k<0)) n=List.replicate n false:=by
   rw[zpz]
   exact zbi fun k _=>decide_eq_false (by omega)
  rw[this];rfl
 ·have e:(lst (fun k=>decide (k<i)) n).set i true=lst (fun k=>decide (k<i+1)) n:=by
   rw[zhb]
   refine zbi fun k _=>?_
   unfold upd
   by_cases h:k=i
   ·rw[if_pos h];exact(decide_eq_true (by omega)).symm
   ·rw[if_neg h];exact xcj.2 (by omega)
  simp only[dlt hi,d0le,zak,xai,xad,tn,e,zbm (show i<9223372036854775807 by omega)]
 ·have e:lst (fun k=>decide (k<n)) n=lst (fun _=>true) n:=zbi fun k hk=>decide_eq_true hk
  simp only[nlt (Nat.le_refl n),xaf,e]
theorem d108_eq{k:IT}{st:Nat→Nat}{n:Nat}(hk:k.2.2.2.1=lst (fun i=>decide (st i=0)) n)(hn:n≤1000):d108 k=some (selI (fun i=>decide (st i=0)) n):=by
 unfold d108
 rw[hk,zak]
 refine zae (fun i=>(selI (fun i=>decide (st i=0)) i,lst (fun i=>decide (st i=0)) n,(n:Int),(i:Int))) n rfl (fun i hi=>?_) ?_ rfl
 ·have hl:(selI (fun i=>decide (st i=0)) i).length+1≤4294967296:=by
   rw[zay];have:=zcd (fun i=>decide (st i=0)) i;omega
  rw[zdd]
  simp only[dlt hi,d0le,zak,xai,xad,tn,zbb _ hi,zan,zbm (show i<9223372036854775807 by omega)]
  by_cases h:st i=0
  ·rw[decide_eq_true h,xad,zdh hl,xad];rfl
  ·rw[decide_eq_false h,xaf];simp
 ·simp only[nlt (Nat.le_refl n),xaf]
theorem d154_eq{v:Nat→Nat}{n:Nat}(hn:n≤1000)(hv:∀i,i<n→v i≤9223372036854775807):d154 (lst (fun i=>(v i:Int)) n)=some (lst (fun i=>rr (v i:Rat)) n):=by
 unfold d154
 rw[zak]
 refine zae (fun i=>(lst (fun i=>rr (v i:Rat)) i,lst (fun i=>(v i:Int)) n,(n:Int),(i:Int))) n rfl (fun i hi=>?_) ?_ rfl
 ·have hl:=zdh (l:=lst (fun i=>rr (v i:Rat)) i) (d:=rr (v i:Rat)) (by rw[zak];omega)
  simp only[dlt hi,d0le,zak,xai,xad,tn,zbb (fun i=>(v i:Int)) hi,znh (hv i hi),xab,zbm (show i<9223372036854775807 by omega)]
  rw[zak]at hl
  rw[hl,xad,zix]
 ·simp only[nlt (Nat.le_refl n),xaf]
theorem d107_eq{k:IT}{st v:Nat→Nat}{n e:Nat}(hk:k.2.2.2.1=lst (fun i=>decide (st i=0)) n)(hn:n≤1000)(hs:sumN v n≤4611686018427387904)(he:e≤9223372036854775807) :
  d107 k (lst (fun i=>(v i:Int)) n) (e:Int)=some ((lst (fun i=>rr (v i:Rat)) n,lst (fun i=>rr (if st i=0 then 1 else 0)) n,rr ((sumN v n/2+1:Nat):Rat),rr (e:Rat),rr 0,[],[],[]),((sumN v n/2+1:Nat):Int)):=by
 have hv:∀i,i<n→v i≤4611686018427387904:=fun i hi=>Nat.le_trans (zgt hi) hs
 have hpart:∀i,i≤n→sumN v i≤sumN v n:=by
  intro i
  induction n with
  |zero=>intro h;rw[show i=0 by omega];exact Nat.le_refl _
  |succ n ih=>?_
  intro h
  clear ih
  have key:∀(f:Nat→Nat) (m n:Nat),m≤n→sumN f m≤sumN f n:=by
   intro f m n
   induction n with
   |zero=>intro h;rw[show m=0 by omega];exact Nat.le_refl _
   |succ n ih=>
    intro h
    by_cases hm:m=n+1
    ·rw[hm];exact Nat.le_refl _
    ·rw[sumN];have:=ih (by omega);omega
  exact key v i (n+1) h
 unfold d107
 rw[zak]
 refine zae (fun i=>(k,lst (fun i=>(v i:Int)) n,(e:Int),([],[],(false,[],[]),(false,[],[]),(false,[],[]),[],[],[]),((sumN v i:Nat):Int),lst (fun i=>(v i:Int)) n,(n:Int),(i:Int))) n rfl (fun i hi=>?_) (b:=(k,lst (fun i=>(v i:Int)) n,(e:Int),([],[],(false,[],[]),(false,[],[]),(false,[],[]),[],[],[]),((sumN v n:Nat):Int))) ?_ ?_
 ·have hp:=hpart (i+1) (by omega)
  rw[sumN]at hp
  simp only[dlt hi,d0le,zak,xai,xad,tn,zbb (fun i=>(v i:Int)) hi,wadd (show sumN v i+v i≤9223372036854775807 by omega),zbm (show i<9223372036854775807 by omega)]
  rfl
 ·simp only[nlt (Nat.le_refl n),xaf]
 have hq:w (w (Int.tdiv ((sumN v n:Nat):Int) 2)+1)=((sumN v n/2+1:Nat):Int):=by
  have h1:Int.tdiv ((sumN v n:Nat):Int) 2=((sumN v n/2:Nat):Int):=by
   rw[xeg (by omega)];rfl
  rw[h1,zbf (n:=((sumN v n/2:Nat):Int)) (by omega) (by omega),zbm (by omega)]
 have h0:d68 0=some (rr 0):=znh (n:=0) (by omega)
 have h1:d68 1=some (rr 1):=znh (n:=1) (by omega)
 simp only[d154_eq hn fun i hi=>Nat.le_trans (hv i hi) (by omega),xab,hq,znh (show sumN v n/2+1≤9223372036854775807 by omega),znh he,h0,hk,zak]
 generalize sumN v n/2+1=q
 refine zae (fun i=>((lst (fun i=>rr (v i:Rat)) n,lst (fun i=>rr (if st i=0 then 1 else 0)) i,rr (q:Rat),rr (e:Rat),rr 0,[],[],[]),(q:Int),lst (fun i=>decide (st i=0)) n,(n:Int),(i:Int))) n rfl (fun i hi=>?_) (b:=((lst (fun i=>rr (v i:Rat)) n,lst (fun i=>rr (if st i=0 then 1 else 0)) n,rr (q:Rat),rr (e:Rat),rr 0,[],[],[]),(q:Int))) ?_ rfl
 ·have hl:=fun d=>zdh (l:=lst (fun i=>rr (if st i=0 then 1 else 0)) i) (d:=d) (by rw[zak];omega)
  simp only[dlt hi,d0le,zak,xai,xad,tn,zbb (fun i=>decide (st i=0)) hi,zan,zbm (show i<9223372036854775807 by omega),zix]
  by_cases h:st i=0
  ·have:=hl (rr 1)
   rw[zak]at this
   simp only[decide_eq_true h,xad,h1,xab,this,if_pos h]
  ·have:=hl (rr 0)
   rw[zak]at this
   simp only[decide_eq_false h,xaf,h0,xab,this,if_neg h,xad]
 ·simp only[nlt (Nat.le_refl n),xaf]
theorem zoq(q:Int→Bool):∀p:List Int,zah q p=(p.takeWhile fun c=>!q c).length
 | []=>rfl
 |x::p=>by
  rw[zah,xee,zoq q p]
  cases q x<;>rfl
theorem zgs{α:Type}{p q:α→Bool}:∀{l:List α},(∀x∈l,p x=q x)→l.takeWhile p=l.takeWhile q
 | [],_=>rfl
 |x::l,h=>by
  rw[xee,xee,h x (by simp),zgs fun y hy=>h y (xah _ hy)]
theorem zna{st:Nat→Nat}{n:Nat}{p:List Int}(hb:isB (n:Int) p):zah (rem (lst (fun i=>decide (st i=0)) n)) p=nxt p st 0:=by
 rw[zoq]
 unfold nxt
 rw[xgv,Nat.zero_add]
 congr 1
 refine zgs fun x hx=>?_
 have:=hb.2 x hx
 unfold rem
 rw[zak,if_pos this.2,zbb _ (show x.toNat<n by omega)]
 by_cases h:st x.toNat=0<;>simp[h]
theorem votes_iv{n:Nat}{gs:List Grp}{N:Int}(h:PileOK (n:Int) gs N)(c:CT)(lots:List Int)(st:Nat→Nat):zbr (lst (fun i=>decide (st i=0)) n) gs=lst (fun i=>((iv (gpOf c gs lots) st i:Nat):Int)) n:=by
 unfold zbr
 rw[zak]
 refine zbi (f:=fun(c:Nat)=>wsum (zge (lst (fun i=>decide (st i=0)) n) (c:Int)) gs) fun x hx=>?_
 rw[wsum_sumG h (fun p=>decide (zah (rem (lst (fun i=>decide (st i=0)) n)) p<p.length)&&decide (p.getD (zah (rem (lst (fun i=>decide (st i=0)) n)) p) 0=(x:Int))) (zge (lst (fun i=>decide (st i=0)) n) (x:Int)) (fun p=>?_) c lots]
 ·congr 1
  unfold iv GS.lie
  refine zaj fun g hg=>?_
  have hb:isB (n:Int) ((gpOf c gs lots).p g):=(h.ballots _ (zbz (l:=gs) (d:=([],0)) (i:=g) hg)).1
  rw[zna hb]
  show _=if(pl (gpOf c gs lots) st).on (gpOf c gs lots) g x=true then(gpOf c gs lots).k g*1 else 0
  rw[xdk];rfl
 ·unfold zge
  by_cases h1:zah (rem (lst (fun i=>decide (st i=0)) n)) p<p.length∧p.getD (zah (rem (lst (fun i=>decide (st i=0)) n)) p) 0=(x:Int)
  ·rw[if_pos h1,decide_eq_true h1.1,decide_eq_true h1.2];rfl
  ·rw[if_neg h1]
   have:(decide (zah (rem (lst (fun i=>decide (st i=0)) n)) p<p.length)&&decide (p.getD (zah (rem (lst (fun i=>decide (st i=0)) n)) p) 0=(x:Int)))=false:=by
    cases h2:(decide (zah (rem (lst (fun i=>decide (st i=0)) n)) p<p.length)&&decide (p.getD (zah (rem (lst (fun i=>decide (st i=0)) n)) p) 0=(x:Int)))
    ·rfl
    ·rw[xae,xag,xag]at h2
     exact absurd h2 h1
   rw[this];rfl
theorem exh_iv{n:Nat}{gs:List Grp}{N:Int}(h:PileOK (n:Int) gs N)(c:CT)(lots:List Int)(st:Nat→Nat):wsum (zfz (lst (fun i=>decide (st i=0)) n)) gs=((iexh (gpOf c gs lots) st:Nat):Int):=by
 rw[wsum_sumG h (fun p=>!decide (zah (rem (lst (fun i=>decide (st i=0)) n)) p<p.length)) (zfz (lst (fun i=>decide (st i=0)) n)) (fun p=>?_) c lots]
 ·congr 1
  unfold iexh
  refine zaj fun g hg=>?_
  have hb:isB (n:Int) ((gpOf c gs lots).p g):=(h.ballots _ (zbz (l:=gs) (d:=([],0)) (i:=g) hg)).1
  rw[zna hb]
  by_cases hlt:nxt ((gpOf c gs lots).p g) st 0<((gpOf c gs lots).p g).length<;>simp[hlt]
 ·unfold zfz
  by_cases h1:zah (rem (lst (fun i=>decide (st i=0)) n)) p<p.length<;>simp[h1]
theorem ext0_tops(P:GP)(v st:Nat→Nat)(c:Nat):ext0 (fun x=>frac (v x.toNat) 1) (selI (fun i=>decide (st i=c)) P.n)=selI (topsP P v st c false) P.n:=by
 unfold ext0
 rw[zia]
 refine zeh fun i hi=>?_
 unfold topsP
 congr 1
 rw[xez,xbk,xbk]
 constructor
 ·intro h k hk
  by_cases hc:st k=c
  ·have:=h (k:Int) (zax.2 ⟨k,rfl,List.mem_range.1 hk,decide_eq_true hc⟩)
   simpa[hc,zmx]using this
  ·simp[hc]
 ·intro h x hx
  obtain⟨k,rfl,hk,hc⟩:=zax.1 hx
  have:=h k (List.mem_range.2 hk)
  rw[hc]at this
  simpa[zmx]using this
theorem votes_rndI{P:GP}(hP:P.OK)(st:Nat→Nat):RndOK P.n (lst (fun i=>(iv P st i:Rat)) P.n):=⟨zak _ _,fun q hq=>by
 obtain⟨i,hi,rfl⟩:=mem_lst.1 hq
 have h1:=zmt hP st
 have h2:=mk_le hP
 have h3:=hP.tot5
 have h4:iv P st i≤zhu P st:=zgt hi
 exact bz_nat (by omega)⟩
theorem itied_ne{P:GP}{st:Nat→Nat}(h:0<(zcj P st).length):zec P st≠ []:=by
 unfold zec
 rw[←ext0_tops]
 refine zqi fun e=>?_
 have:=xbb List.length e
 rw[zay,←zcc]at this
 have e2:(zcj P st).length=0:=this
 omega
theorem itied_in{P:GP}{st:Nat→Nat}{x:Int}(h:x∈zec P st):∃i:Nat,x=(i:Int)∧i<P.n∧st i=0:=by
 obtain⟨i,h1,h2,h3⟩:=zax.1 h
 unfold topsP at h3
 rw[xae,xag]at h3
 exact⟨i,h1,h2,h3.1⟩
theorem ipick_in{P:GP}{st:Nat→Nat}(E:List (List Rat))(h:0<(zcj P st).length):∃i:Nat,zja P E st=(i:Int)∧i<P.n∧st i=0:=by
 refine itied_in ?_
 unfold zja
 have hne:=itied_ne h
 split
 ·exact zhd hne
 ·exact tieB_mem hne
set_option maxHeartbeats 1000000 in
theorem d110_eq{P:GP}(hP:P.OK){st:Nat→Nat}{c:CT}{gs:List Grp}(hc:c.2.2.2.2.2.2.1=P.ties){E:List (List Rat)}(hE:∀r∈E,RndOK P.n r)(hEl:E.length≤1000)(hl:0<(zcj P st).length) :
  ∃x:Nat,x<P.n∧st x=0∧zja P E st=(x:Int)∧d110 (c,gs,P.lots,lst (fun i=>decide (st i=0)) P.n,E.map (List.map rr)) (lst (fun i=>((iv P st i:Nat):Int)) P.n) =
   some ((x:Int),(if(zec P st).length=1 then []else zec P st),(c,gs,P.lots,lst (fun i=>decide (upd st x 3 i=0)) P.n,(E++[lst (fun i=>(iv P st i:Rat)) P.n]).map (List.map rr))):=by
 obtain⟨x,x1,x2,x3⟩:=ipick_in E hl
 refine⟨x,x2,x3,x1,?_⟩
 have hn7:=hP.n7
 have hb:∀i,i<P.n→iv P st i≤100000:=fun i hi=>by
  have h1:=zmt hP st
  have h2:=mk_le hP
  have h3:=hP.tot5
  have h4:iv P st i≤zhu P st:=zgt hi
  omega
 unfold d110
 rw[d108_eq (st:=st) (n:=P.n) rfl (by omega),xab]
 have hL:∀y∈selI (fun i=>decide (st i=0)) P.n,∃i:Nat,y=(i:Int)∧i<P.n:=fun y hy=>by
  obtain⟨i,h1,h2,h3⟩:=zax.1 hy
  exact⟨i,h1,h2⟩
 have hT:ext0 (fun x=>frac (iv P st x.toNat) 1) (selI (fun i=>decide (st i=0)) P.n)=zec P st:=ext0_tops P (iv P st) st 0
 have hLl:(selI (fun i=>decide (st i=0)) P.n).length≤7:=by
  rw[zay];have:=zcd (fun i=>decide (st i=0)) P.n;omega
 generalize selI (fun i=>decide (st i=0)) P.n=L at hL hT hLl ⊢
 refine zae (fun i=>((c,gs,P.lots,lst (fun i=>decide (st i=0)) P.n,E.map (List.map rr)),lst (fun i=>((iv P st i:Nat):Int)) P.n,ext0 (fun x=>frac (iv P st x.toNat) 1) (L.take i),L,(L.length:Int),(i:Int))) L.length rfl (fun i hi=>?_) (b:=((c,gs,P.lots,lst (fun i=>decide (st i=0)) P.n,E.map (List.map rr)),lst (fun i=>((iv P st i:Nat):Int)) P.n,zec P st)) ?_ ?_
 ·obtain⟨y,hy,hyn⟩:=hL _ (zbv hi)
  have htk:L.take (i+1)=L.take i++[(y:Int)]:=by rw[zbk L 0 hi,hy]
  simp only[dlt hi,d0le,xai,xad,tn,zan,hy,zbm (show i<9223372036854775807 by omega),htk]
  by_cases hi0:i=0
  ·subst hi0
   rw[xdr,ext0_nil]
   have:ext0 (fun x=>frac (iv P st x.toNat) 1) ([]++[(y:Int)])=[(y:Int)]:=by
    unfold ext0
    have:frac (iv P st y) 1≤frac (iv P st y) 1:=xga
    simp[this]
   rw[this]
   rfl
  ·have hne:L.take i≠ []:=by
    intro e
    have:=xbb List.length e
    rw[xau,xgf]at this
    omega
   have hne2:=zqi (ρ:=fun x=>frac (iv P st x.toNat) 1) hne
   have hsub:∀z∈ext0 (fun x=>frac (iv P st x.toNat) 1) (L.take i),z∈L:=fun z hz=>xcg (zlq.1 hz).1
   have hlen:(ext0 (fun x=>frac (iv P st x.toNat) 1) (L.take i)).length≤7:=by
    have:=zqj (fun x=>frac (iv P st x.toNat) 1) (L.take i)
    rw[xau]at this
    omega
   rw[ext0_snoc _ _ hne]
   generalize ext0 (fun x=>frac (iv P st x.toNat) 1) (L.take i)=T at hne2 hsub hlen ⊢
   obtain⟨z,T',hT'⟩:=xgm hne2
   subst hT'
   obtain⟨zn,hz,hzn⟩:=hL _ (hsub z (by simp))
   subst hz
   simp only[xek,xay,xef,zak,dlt hyn,dlt hzn,d0le,xai,xad,tn,zbb (fun i=>((iv P st i:Nat):Int)) hyn,zbb (fun i=>((iv P st i:Nat):Int)) hzn,decide_eq_false (show ¬((T'.length+1:Nat):Int)=0 by omega),xao,decide_eq_true (show(0:Int)<((T'.length+1:Nat):Int) by omega),show decide ((0:Nat)≤0)=true from rfl,xaj,frac_lt (show 0<1 by omega),frac_inj (show 0<1 by omega)]
   have hl1:=zms (α:=Int) (l:=T'.length+1) (by rw[xay]at hlen;omega)
   by_cases c1:iv P st y<iv P st zn
   ·simp only[dlt c1,xad,if_pos c1]
   ·rw[if_neg c1,decide_eq_false (show ¬((iv P st y:Nat):Int)<((iv P st zn:Nat):Int) by omega),xaf]
    by_cases c2:iv P st y=iv P st zn
    ·simp only[zhs,decide_eq_true c2,xad,hl1,if_pos c2]
    ·simp only[zhs,decide_eq_false c2,xaf,if_neg c2]
 ·simp only[nlt (Nat.le_refl L.length),xaf,xbh,hT]
 have hne:=itied_ne hl
 have hin:=fun y hy=>itied_in (P:=P) (st:=st) (x:=y) hy
 have hlt:(zec P st).length≤7:=by
  rw[←hT]
  have:=zqj (fun x=>frac (iv P st x.toNat) 1) L
  omega
 have h154:=d154_eq (v:=iv P st) (n:=P.n) (by omega) fun i hi=>by have:=hb i hi;omega
 have hset:(lst (fun i=>decide (st i=0)) P.n).set x false=lst (fun i=>decide (upd st x 3 i=0)) P.n:=by
  rw[zhb]
  refine zbi fun k _=>?_
  unfold upd
  by_cases h:k=x
  ·rw[if_pos h,if_pos h];rfl
  ·rw[if_neg h,if_neg h]
 have hlE:=zms (α:=List Rt) (l:=(E.map (List.map rr)).length) (by rw[xba];omega)
 have hmap:(E++[lst (fun i=>(iv P st i:Rat)) P.n]).map (List.map rr)=E.map (List.map rr)++[lst (fun i=>rr (iv P st i:Rat)) P.n]:=by
  rw[xcb,xcx,xgo,zqa]
 have hsorted:(zec P st).Pairwise (·< ·):=zdl _ _
 obtain⟨b,hb155⟩:=d155_eq (n:=P.n) (ties:=P.ties) (E:=E) (tied:=zec P st) (lots:=P.lots) (least:=true) hP.ties1 hP.ties3 (zok hP) hE (by omega) hne hsorted (fun y hy=>by obtain⟨i,h1,h2,_⟩:=hin y hy;exact⟨i,h1,h2⟩) (by omega)
 rw[hmap]
 unfold zja at x1
 generalize zec P st=T at hne hlt x1 hb155 ⊢
 obtain⟨z,T',hT'⟩:=xgm hne
 subst hT'
 simp only[xay,decide_eq_true (show(0:Int)<((T'.length+1:Nat):Int) by omega),show decide ((0:Nat)≤0)=true from rfl,xai,xad,zan,hc,hb155,xab,xef]
 rw[xay]at x1
 by_cases hone:T'.length+1=1
 ·rw[if_pos hone,xek]at x1
  simp only[if_pos hone,decide_eq_false (show ¬(1:Int)<((T'.length+1:Nat):Int) by omega),xaf,x1,d0le,zak,dlt x2,xai,xad,h154,xab,hlE,tn,hset]
 ·rw[if_neg hone]at x1
  simp only[if_neg hone,decide_eq_true (show(1:Int)<((T'.length+1:Nat):Int) by omega),xad,x1,d0le,zak,dlt x2,xai,h154,xab,hlE,tn,hset]
theorem zkt(g:Nat→Bool)(q:Int→Bool)(hq:∀i:Nat,q (i:Int)=g i):∀L:List Nat,(zah q (L.map Int.ofNat)<L.length∧L.find? g=some ((L.map Int.ofNat).getD (zah q (L.map Int.ofNat)) 0).toNat)∨(zah q (L.map Int.ofNat)=L.length∧L.find? g=none)
 | []=>.inr ⟨rfl,rfl⟩
 |x::L=>by
  rw[xcx,zah,List.find?_cons]
  have e:q (Int.ofNat x)=g x:=hq x
  rw[e]
  cases h:g x
  ·rcases zkt g q hq L with⟨h1,h2⟩|⟨h1,h2⟩
   ·refine .inl ⟨by simp only[xaw,if_false,xay];omega,?_⟩
    simp only[xaw,if_false,h2,xgh]
   ·refine .inr ⟨by simp only[xaw,if_false,xay];omega,h2⟩
  ·refine .inl ⟨by simp,by simp⟩
def trI(P:GP):Int×(Int×(Int×(Int×(List RD×List Int)))):=(1,1,0,(P.n:Int),(icount P).map rdT,(icount P).flatMap Rd.el)
set_option maxHeartbeats 2000000 in
theorem d53_eq{c:CT}{gs:List Grp}{lots:List Int}(hg:GsOK gs)(hl:lots.length≤281474976710656):d53 c gs lots=some (if fitE 1 c gs lots=0 then(trI (gpOf c gs lots),0)else((0,0,0,0,[],[]),fitE 1 c gs lots)):=by
 unfold d53
 rw[d66_eq 1 c hg hl,xab]
 by_cases hfit:¬fitE 1 c gs lots=0
 ·rw[if_neg hfit,decide_eq_false hfit];rfl
 have hfit:=xgz.1 hfit
 rw[if_pos hfit,decide_eq_true hfit,xaq,xaf]
 obtain⟨hP,hG⟩:=gpOf_okM hfit
 obtain⟨_,_,_,n1,n7,_,_,_,_,_,_,_,hp,_,_⟩:=zjd hfit
 have hlo:(gpOf c gs lots).lots=lots:=rfl
 have hti:c.2.2.2.2.2.2.1=(gpOf c gs lots).ties:=rfl
 have hPn:c.2.1.length=(gpOf c gs lots).n:=rfl
 rw[d106_eq gs lots (by omega),xab]
 have hvot:=fun st=>votes_iv hp c lots st
 have hexh:=fun st=>exh_iv hp c lots st
 have h50:=fun(st:Nat→Nat)=>hp.d50 (by omega) (r:=lst (fun i=>decide (st i=0)) c.2.1.length) (by rw[zak];exact n7)
 have hexb:∀st,iexh (gpOf c gs lots) st≤100000:=fun st=>by
  refine Nat.le_trans (Nat.le_trans (zfb (g:=(gpOf c gs lots).k) fun g _=>?_) (Nat.le_of_eq hP.total)) hP.tot5
  split<;>omega
 simp only[hvot,hexh]at h50
 generalize hPP:gpOf c gs lots=P at *
 rw[hPn]at n1 n7 h50 ⊢
 rw[←hlo]
 have hst0:lst (fun _=>true) P.n=lst (fun i=>decide ((fun _=>0:Nat→Nat) i=0)) P.n:=rfl
 rw[hst0]
 refine zfn (Q:=fun r=>r=some (trI P,0)) (fun(M:Nat) (a:List Grp×(Int×(Int×(Int×(Int×(List RD×List Int)))))×IT×(Int×(Int×(Int×(Int×(List RD×List Int))))))=>∃(st:Nat→Nat) (rs:List Rd),a=(gs,(0,0,0,0,[],[]),(c,gs,P.lots,lst (fun i=>decide (st i=0)) P.n,(rs.map Rd.votes).map (List.map rr)),(1,1,0,(P.n:Int),rs.map rdT,[]))∧irun P M rs st=icount P∧0<(zcj P st).length∧(zcj P st).length≤M∧rs.length+M=P.n∧(∀r∈rs.map Rd.votes,RndOK P.n r)∧rs.flatMap Rd.el=[]) P.n ⟨fun _=>0,[],rfl,rfl,?_,?_,by simp,by simp,rfl⟩ ?_
 ·have:0<cntN (fun i=>decide ((fun _=>0:Nat→Nat) i=0)) P.n:=zey.2 ⟨0,by omega,rfl⟩
  unfold zcj
  rw[zcc]
  exact this
 ·unfold zcj
  rw[zcc]
  exact zcd _ _
 ·rintro M a ⟨st,rs,rfl,hrun,hl0,hlM,hrs,hR,hel⟩
  have hsum:=zmt hP st
  have hmk:=mk_le hP
  have ht5:=hP.tot5
  have hle:=hexb st
  have h107:=d107_eq (k:=(c,gs,P.lots,lst (fun i=>decide (st i=0)) P.n,(rs.map Rd.votes).map (List.map rr))) (st:=st) (v:=iv P st) (n:=P.n) (e:=iexh P st) rfl (by omega) (by show zhu P st≤_;omega) (by omega)
  have hquo:sumN (iv P st) P.n/2+1=iquo P st:=rfl
  rw[hquo]at h107
  have hrd:(lst (fun i=>rr (iv P st i:Rat)) P.n,lst (fun i=>rr (if st i=0 then 1 else 0)) P.n,rr (iquo P st:Rat),rr (iexh P st:Rat),rr 0,[],[],[])=rdT (ird0 P st):=by
   unfold rdT ird0
   simp only[zqa]
  have hleft:selI (fun i=>decide (st i=0)) P.n=(zcj P st).map Int.ofNat:=rfl
  have hll:(zcj P st).length≤7:=by
   unfold zcj
   rw[zcc]
   have:=zcd (fun i=>decide (st i=0)) P.n
   omega
  have hlin:∀i∈zcj P st,i<P.n:=fun i hi=>(zcs.1 hi).1
  have h101:=d101_on (s:=(zcj P st).map Int.ofNat) (f:=fun a=>d109 a (lst (fun i=>((iv P st i:Nat):Int)) P.n) ((iquo P st:Nat):Int)) (g:=fun x=>decide (iquo P st≤iv P st x.toNat)) (fun x hx=>by
   obtain⟨i,hi,rfl⟩:=xcw.1 hx
   have hin:=hlin i hi
   have e:Int.ofNat i=(i:Int):=rfl
   unfold d109
   rw[e]
   simp only[d0le,zak,dlt hin,xai,xad,tn,zbb (fun i=>((iv P st i:Nat):Int)) hin]
   congr 1
   exact xcj.2 (by omega)) (by rw[xba];omega)
  simp only[h50 st,xab,h107,d108_eq (k:=(c,gs,P.lots,lst (fun i=>decide (st i=0)) P.n,(rs.map Rd.votes).map (List.map rr))) (st:=st) (n:=P.n) rfl (by omega),hleft,h101,zan,xba,zhs]
  obtain⟨M,rfl⟩:∃M',M=M'+1:=⟨M-1,by omega⟩
  rw[irun]at hrun
  have hlr:=lim_inc (l:=rs.length) (by omega)
  have hlr1:=zms (α:=RD) (l:=rs.length) (by omega)
  have hW:∀x:Nat,(lst (fun i=>rr (iv P st i:Rat)) P.n,lst (fun i=>rr (if st i=0 then 1 else 0)) P.n,rr (iquo P st:Rat),rr (iexh P st:Rat),rr 0,[(x:Int)],[],[])=rdT (irdW P st x):=fun x=>by
   have:=xbb (fun r:RD=>(r.1,r.2.1,r.2.2.1,r.2.2.2.1,r.2.2.2.2.1,[(x:Int)],r.2.2.2.2.2.2.1,r.2.2.2.2.2.2.2)) hrd
   exact this
  have hdone:∀x:Nat,iwin P st=some x→some (((1,1,0,(P.n:Int),rs.map rdT++[rdT (irdW P st x)],[(x:Int)]):Int×(Int×(Int×(Int×(List RD×List Int))))),(0:Int))=some (trI P,0):=fun x hx=>by
   rw[hx]at hrun
   unfold trI
   rw[←hrun,xcb,xdp,hel]
   rfl
  by_cases h1:(zcj P st).length=1
  ·obtain⟨x,hx⟩:=xcp.1 h1
   have hw:iwin P st=some x:=by unfold iwin;rw[if_pos h1,hx];rfl
   refine .inr ⟨((1,1,0,(P.n:Int),rs.map rdT++[rdT (irdW P st x)],[(x:Int)]),0),?_,hdone x hw⟩
   have e0:((zcj P st).map Int.ofNat).getD 0 0=(x:Int):=by rw[hx];rfl
   simp only[h1,show decide (((1:Nat):Int)=1)=true from rfl,xax,xad,show decide ((0:Int)≤0)=true from rfl,show decide ((0:Int)<((1:Nat):Int))=true from rfl,xai,Int.toNat_zero,e0,hW,hlr,hlr1,xba,xay]
  ·have hd1:decide (((zcj P st).length:Int)=1)=false:=decide_eq_false (by omega)
   have hq:∀i:Nat,(fun x:Int=>decide (iquo P st≤iv P st x.toNat)) (i:Int)=decide (iquo P st≤iv P st i):=fun i=>rfl
   rcases zkt (fun i=>decide (iquo P st≤iv P st i)) (fun x=>decide (iquo P st≤iv P st x.toNat)) hq (zcj P st)with⟨f1,f2⟩|⟨f1,f2⟩
   ·generalize zah (fun x=>decide (iquo P st≤iv P st x.toNat)) ((zcj P st).map Int.ofNat)=j at f1 f2 ⊢
    obtain⟨x,hx⟩:∃x:Nat,((zcj P st).map Int.ofNat).getD j 0=(x:Int):=⟨_,selI_getD (p:=fun i=>decide (st i=0)) (n:=P.n) f1⟩
    rw[hx,xaj]at f2
    have hw:iwin P st=some x:=by unfold iwin;rw[if_neg h1,f2]
    refine .inr ⟨((1,1,0,(P.n:Int),rs.map rdT++[rdT (irdW P st x)],[(x:Int)]),0),?_,hdone x hw⟩
    simp only[hd1,xaf,if_pos f1,d0le,dlt f1,xad,xai,tn,hx,hW,hlr,hlr1,xba,xay]
   ·rw[f1]
    have hw:iwin P st=none:=by unfold iwin;rw[if_neg h1,f2]
    rw[hw]at hrun
    obtain⟨x,x1,x2,x3,x4⟩:=d110_eq (st:=st) (c:=c) (gs:=gs) hP hti hR (by rw[xba];omega) hl0
    have hlu:=left_upd (P:=P) x1 x2
    have hmap:(rs++[irdX P (rs.map Rd.votes) st]).map Rd.votes=rs.map Rd.votes++[lst (fun i=>(iv P st i:Rat)) P.n]:=by
     rw[xcb];rfl
    have hX:(lst (fun i=>rr (iv P st i:Rat)) P.n,lst (fun i=>rr (if st i=0 then 1 else 0)) P.n,rr (iquo P st:Rat),rr (iexh P st:Rat),rr 0,[],[(x:Int)],(if(zec P st).length=1 then []else zec P st))=rdT (irdX P (rs.map Rd.votes) st):=by
     have:=xbb (fun r:RD=>(r.1,r.2.1,r.2.2.1,r.2.2.2.1,r.2.2.2.2.1,([]:List Int),[(x:Int)],(if(zec P st).length=1 then []else zec P st))) hrd
     rw[←x3]at this ⊢
     exact this
    refine .inl ⟨(gs,(0,0,0,0,[],[]),(c,gs,P.lots,lst (fun i=>decide (upd st x 3 i=0)) P.n,((rs++[irdX P (rs.map Rd.votes) st]).map Rd.votes).map (List.map rr)),(1,1,0,(P.n:Int),(rs++[irdX P (rs.map Rd.votes) st]).map rdT,[])),M,?_,by omega,upd st x 3,rs++[irdX P (rs.map Rd.votes) st],rfl,?_,?_,by omega,by simp;omega,?_,?_⟩
    ·simp only[hd1,xaf,if_neg (Nat.lt_irrefl _),show decide ((0:Int)≤-1)=false from rfl,x4,xab,hX,hlr,hlr1,xad,xba,xay,hmap]
     simp only[xcb]
     rfl
    ·rw[←hrun]
     simp only
     rw[x3,xaj]
    ·omega
    ·rw[hmap]
     intro r hr
     rcases List.mem_append.1 hr with hr|hr
     ·exact hR r hr
     ·rw[xdy.1 hr]
      exact votes_rndI hP st
    ·rw[xdp,hel];rfl
end Go.Proofs.YtmipjomnjkmdbaaGreat
namespace Go.Proofs.YtmipjomnjkmdbaaGreat
open Go Go.X
def KM(Q:MP)(c:CT)(gs:List Grp)(st kp:Nat→Nat)(fl:Nat)(rs:List Rd)(ev sur:Int):MT:=
 (c,gs,Q.P.lots,(Q.one:Int),lst (fun i=>(st i:Int)) Q.P.n,lst (fun i=>(kp i:Int)) Q.P.n,(fl:Int),(rs.map Rd.votes).map (List.map rr),ev,sur,2,(Q.P.seats:Int),c.2.2.2.2.2.1,(Q.P.n:Int),rs.map rdT,rs.flatMap Rd.el)
variable {Q:MP} {s:MS}
structure MQ(Q:MP)(c:CT)(gs:List Grp)(d:Nat):Prop where
 ok:Q.OK
 P:∃lots,gpOf c gs lots=Q.P
 n:c.2.1.length=Q.P.n
 pile:∃N,PileOK (Q.P.n:Int) gs N
 seats:c.2.2.2.1=(Q.P.seats:Int)
 dig:c.2.2.2.2.2.1=(d:Int)
 d1:1≤d
 d6:d≤6
 ties:c.2.2.2.2.2.2.1=Q.P.ties
 one:Q.one=10^d
 om:Q.om=10^(d/2)
theorem MQ.d58{c:CT}{gs:List Grp}{d:Nat}(h:MQ Q c gs d)(hI:MI Q s):d58 (d:Int) (lst (fun i=>(s.kp i:Int)) Q.P.n) gs=some (lst (fun i=>((s.v Q i:Nat):Int)) Q.P.n,((s.rest Q:Nat):Int),true):=by
 obtain⟨lots,hl⟩:=h.P
 obtain⟨N,hp⟩:=h.pile
 have:=d58_ok h.ok.P.n1 h.ok.P.n7 h.d1 h.d6 hp c lots (kp:=s.kp) (by rw[←h.one];exact hI.kp1)
 rw[hl,←h.one]at this
 exact this
theorem rdM(s:MS)(el ex ti:List Int):(lst (fun i=>rr (frac (s.v Q i) Q.one)) Q.P.n,lst (fun i=>rr (frac (s.kp i) Q.one)) Q.P.n,rr (frac (s.quo Q) Q.one),rr (frac (s.rest Q) Q.one),rr (frac (s.sur Q) Q.one),el,ex,ti)=rdT {s.rd0 Q with el:=el,ex:=ex,ti:=ti}:=by
 unfold rdT MS.rd0
 simp only[zqa]
theorem sur_part(p:Nat→Bool)(f:Nat→Nat)(n:Nat){j:Nat}(hj:j<(selN p n).length):(((selN p n).take (j+1)).map f).sum=(((selN p n).take j).map f).sum+f ((selN p n).getD j 0):=by
 rw[zbk (selN p n) 0 hj,xcb,xhk];simp
theorem flat_lim{rs:List Rd}(h:∀r∈rs,RndOK Q.P.n r.votes∧r.el.length≤7):(rs.flatMap Rd.el).length≤7*rs.length:=flat_len fun r hr=>(h r hr).2
theorem letJ_of{α β:Type}{f:α→Option β}{g:(α→Option β)→Option β}{X:Option β→Prop}(Jp:(α→Option β)→Prop)(hf:Jp f)(h:∀J,Jp J→X (g J)):X (letJ f g):=by
 rw[zan];exact h f hf
def RndM(Q:MP)(c:CT)(gs:List Grp)(s:MS)(rs:List Rd)(z:Option (Bool×MT)):Prop:=
  (s.fin Q=true∧∃st' kp' fl' ev' su',z=some (false,KM Q c gs st' kp' fl' (rs++[s.done Q]) ev' su')) ∨
  (s.fin Q=false∧s.cut Q=true∧z=some (true,KM Q c gs (s.excl Q (rs.map Rd.votes)).st (s.excl Q (rs.map Rd.votes)).kp ((s.excl Q (rs.map Rd.votes)).fl Q) (rs++[s.exR Q (rs.map Rd.votes)]) (((rs++[s.exR Q (rs.map Rd.votes)]).length:Int)-((s.excl Q (rs.map Rd.votes)).since:Int)) ((s.sur Q:Nat):Int))) ∨
  (s.fin Q=false∧s.cut Q=false∧z=some (true,KM Q c gs (s.redu Q).st (s.redu Q).kp ((s.redu Q).fl Q) (rs++[s.rd0 Q]) (((rs++[s.rd0 Q]).length:Int)-((s.redu Q).since:Int)) ((s.sur Q:Nat):Int)))
set_option maxHeartbeats 4000000 in
theorem d113_eq{c:CT}{gs:List Grp}{d:Nat}(hQ:MQ Q c gs d){rs:List Rd}(hR:MRun Q s rs)(hsi:s.since≤rs.length){su:Nat}(hb:Bef rs s.bef su) :
  RndM Q c gs s rs (d113 (KM Q c gs s.st s.kp (s.fl Q) rs ((rs.length:Int)-(s.since:Int)) (su:Int))):=by
 have hI:=hR.inv
 have hok:=hQ.ok
 have hn7:=hok.P.n7
 have hs5:=hok.P.seats5
 have ho1:=hok.one1
 have ho6:=hok.one6
 have htl:=MS.tot_le hok
 have hsum:=MS.sum_le hok hI
 have hv:∀i,i<Q.P.n→s.v Q i≤100000000000:=fun i hi=>by
  have h1:=MS.v_le hok hI hi
  omega
 have hq:s.quo Q≤100000000001:=by
  have:=MS.quo_le hok hI
  omega
 have hsurS:s.sur Q≤sumN (s.v Q) Q.P.n:=zfb fun i _=>by split<;>omega
 have hrl:=hR.len
 have hfill:=hI.fill
 have hf1:=f1_le hok hI
 have hf1e:=f1_eq (Q:=Q) (s:=s)
 have hE:∀r∈rs.map Rd.votes,RndOK Q.P.n r:=fun r hr=>by
  obtain⟨r',h1,rfl⟩:=xcw.1 hr
  exact(hR.rnd r' h1).1
 have hfl:=flat_lim hR.rnd
 obtain⟨L,hL1,hL2⟩:=d160_ex hok hI (k:=KM Q c gs s.st s.kp (s.fl Q) rs ((rs.length:Int)-(s.since:Int)) (su:Int)) rfl rfl hQ.seats rfl
 have hLlen:L.length=cntN (s.el Q) Q.P.n:=by
  have:=hL2.length_eq
  rw[xba,zay]at this
  exact this
 have hLn:∀i∈L,i<Q.P.n:=fun i hi=>by
  obtain⟨k,e,hk,_⟩:=zax.1 (hL2.mem_iff.1 (xfh hi))
  have:Int.ofNat i=(k:Int):=e
  have:=xcm.1 this
  omega
 have hLl:L.length≤7:=by rw[hLlen];have:=zcd (s.el Q) Q.P.n;omega
 have hst1:lst (fun i=>((zfd s.st L 1 i:Nat):Int)) Q.P.n=lst (fun i=>((s.st1 Q i:Nat):Int)) Q.P.n:=zbi fun i hi=>by
  unfold zfd MS.st1
  have:i∈L↔s.el Q i=true:=by
   constructor
   ·intro h
    obtain⟨k,e,hk,h2⟩:=zax.1 (hL2.mem_iff.1 (xfh h))
    have e:Int.ofNat i=(k:Int):=e
    rw[xcm.1 e];exact h2
   ·intro h
    obtain⟨k,hk,e⟩:=xcw.1 (hL2.mem_iff.2 (zax.2 ⟨i,rfl,hi,h⟩))
    have e:Int.ofNat k=(i:Int):=e
    rw[←xcm.1 e];exact hk
  by_cases h:i∈L
  ·rw[if_pos h,if_pos (this.1 h)]
  ·rw[if_neg h,if_neg fun h'=>h (this.2 h')]
 have hsel:zds ([]++L.map Int.ofNat)=selI (s.el Q) Q.P.n:=sortI_of hL2 ((zdl _ _).imp fun h=>Int.le_of_lt h)
 have hfl1:s.fl Q+L.length=s.f1 Q:=by omega
 have h159:=fun(v kk:List Rt) (qu ex su':Rt)=>d159_eq (c:=c) (gs:=gs) (lots:=Q.P.lots) (one:=(Q.one:Int)) (st:=s.st) (n:=Q.P.n) (kp:=lst (fun i=>(s.kp i:Int)) Q.P.n) (filled:=s.fl Q) (rest:=((rs.map Rd.votes).map (List.map rr),(rs.length:Int)-(s.since:Int),(su:Int),2,(Q.P.seats:Int),c.2.2.2.2.2.1,(Q.P.n:Int),rs.map rdT,rs.flatMap Rd.el)) (v:=v) (kk:=kk) (qu:=qu) (ex:=ex) (su:=su') (el:=[]) (ex2:=[]) (ti:=[]) (L:=L) (by omega) hLn hLl (by omega) (by simp)
 simp only[hst1,hsel,hfl1]at h159
 have hK:KM Q c gs s.st s.kp (s.fl Q) rs ((rs.length:Int)-(s.since:Int)) (su:Int)=(c,gs,Q.P.lots,(Q.one:Int),lst (fun i=>(s.st i:Int)) Q.P.n,lst (fun i=>(s.kp i:Int)) Q.P.n,((s.fl Q:Nat):Int),(rs.map Rd.votes).map (List.map rr),(rs.length:Int)-(s.since:Int),(su:Int),2,(Q.P.seats:Int),c.2.2.2.2.2.1,(Q.P.n:Int),rs.map rdT,rs.flatMap Rd.el):=rfl
 have h58:=hQ.d58 hI
 have h157v:=d157_eq (k:=KM Q c gs s.st s.kp (s.fl Q) rs ((rs.length:Int)-(s.since:Int)) (su:Int)) (v:=s.v Q) (n:=Q.P.n) (one:=Q.one) rfl (by omega) ho1 ho6 fun i hi=>by have:=hv i hi;omega
 have h157k:=d157_eq (k:=KM Q c gs s.st s.kp (s.fl Q) rs ((rs.length:Int)-(s.since:Int)) (su:Int)) (v:=s.kp) (n:=Q.P.n) (one:=Q.one) rfl (by omega) ho1 ho6 fun i hi=>by have:=hI.kp1 i;omega
 have hw1:w (c.2.2.2.1+1)=((Q.P.seats+1:Nat):Int):=by rw[hQ.seats,zbm (by omega)]
 have hdiv:w (w (Int.tdiv ((sumN (s.v Q) Q.P.n:Nat):Int) ((Q.P.seats+1:Nat):Int))+1)=((s.quo Q:Nat):Int):=by
  have h1:Int.tdiv ((sumN (s.v Q) Q.P.n:Nat):Int) ((Q.P.seats+1:Nat):Int)=((sumN (s.v Q) Q.P.n/(Q.P.seats+1):Nat):Int):=by
   rw[xeg (by omega)];rfl
  have h2:=xdl (sumN (s.v Q) Q.P.n) (Q.P.seats+1)
  have h3:s.quo Q=sumN (s.v Q) Q.P.n/(Q.P.seats+1)+1:=rfl
  rw[h1,h3]
  generalize sumN (s.v Q) Q.P.n/(Q.P.seats+1)=z at h2 ⊢
  rw[zbf (n:=(z:Int)) (by omega) (by omega),zbm (by omega)]
 unfold d113
 generalize hKK:KM Q c gs s.st s.kp (s.fl Q) rs ((rs.length:Int)-(s.since:Int)) (su:Int)=K at *
 have k1:K.1=c:=by rw[hK]
 have k2:K.2.1=gs:=by rw[hK]
 have k4:K.2.2.2.1=(Q.one:Int):=by rw[hK]
 have k6:K.2.2.2.2.2.1=lst (fun i=>(s.kp i:Int)) Q.P.n:=by rw[hK]
 simp only[k1,k2,k6,hQ.dig,h58,xab,zak]
 have goalS:∀(X:Option (Bool×MT)→Prop) (kf:MT×(List Int)×Int×Int→Option (Bool×MT)),X (kf (K,lst (fun i=>((s.v Q i:Nat):Int)) Q.P.n,((s.rest Q:Nat):Int),((sumN (s.v Q) Q.P.n:Nat):Int)))→X ((zaa (β:=(MT×(List Int)×Int×Int)) (fun((t0,t3,t4,t6,t34,t35,t36):MT×(List Int)×Int×Int×(List Int)×Int×Int)=>
   bif (decide (t36<t35))then
    bif (decide (0≤t36)&&decide (t36<(t34.length:Int)))then
     some (Sum.inl (t0,t3,t4,(w (t6+(List.getD t34 (Int.toNat t36) 0))),t34,t35,(w (t36+1))))
    else none
   else
    some (Sum.inr (t0,t3,t4,t6))) (K,lst (fun i=>((s.v Q i:Nat):Int)) Q.P.n,((s.rest Q:Nat):Int),0,lst (fun i=>((s.v Q i:Nat):Int)) Q.P.n,(Q.P.n:Int),0)).bind kf):=fun X kf hX=>by
  refine while_prp (fun i=>(K,lst (fun i=>((s.v Q i:Nat):Int)) Q.P.n,((s.rest Q:Nat):Int),((sumN (s.v Q) i:Nat):Int),lst (fun i=>((s.v Q i:Nat):Int)) Q.P.n,(Q.P.n:Int),(i:Int))) Q.P.n rfl (fun i hi=>?_) ?_ hX
  ·have hm:=zma (s.v Q) (show i+1≤Q.P.n by omega)
   rw[sumN]at hm
   simp only[dlt hi,d0le,zak,xai,xad,tn,zbb (fun i=>((s.v Q i:Nat):Int)) hi,wadd (show sumN (s.v Q) i+s.v Q i≤9223372036854775807 by omega),zbm (show i<9223372036854775807 by omega)]
   rfl
  ·simp only[nlt (Nat.le_refl Q.P.n),xaf]
 refine goalS (RndM Q c gs s rs) _ ?_
 simp only[k1,k4,k6,hw1,decide_eq_false (show ¬((Q.P.seats+1:Nat):Int)=0 by omega),xao,xad,hdiv,h157v,h157k,xab,zqq (show s.quo Q≤9223372036854775807 by omega) (show Q.one≤9223372036854775807 by omega) ho1,zqq (show s.rest Q≤9223372036854775807 by omega) (show Q.one≤9223372036854775807 by omega) ho1,hL1]
 rw[hK]
 simp only[h159,xab,show d161 (c,gs,Q.P.lots,(Q.one:Int),lst (fun i=>((s.st1 Q i:Nat):Int)) Q.P.n,lst (fun i=>(s.kp i:Int)) Q.P.n,((s.f1 Q:Nat):Int),(rs.map Rd.votes).map (List.map rr),(rs.length:Int)-(s.since:Int),(su:Int),2,(Q.P.seats:Int),c.2.2.2.2.2.1,(Q.P.n:Int),rs.map rdT,rs.flatMap Rd.el) 1=some (selI (fun i=>decide (s.st1 Q i=1)) Q.P.n)from zke (st:=s.st1 Q) (n:=Q.P.n) rfl (by omega) 1,show d161 (c,gs,Q.P.lots,(Q.one:Int),lst (fun i=>((s.st1 Q i:Nat):Int)) Q.P.n,lst (fun i=>(s.kp i:Int)) Q.P.n,((s.f1 Q:Nat):Int),(rs.map Rd.votes).map (List.map rr),(rs.length:Int)-(s.since:Int),(su:Int),2,(Q.P.seats:Int),c.2.2.2.2.2.1,(Q.P.n:Int),rs.map rdT,rs.flatMap Rd.el) 0=some (selI (fun i=>decide (s.st1 Q i=0)) Q.P.n)from zke (st:=s.st1 Q) (n:=Q.P.n) rfl (by omega) 0]
 have hpl:(selI (fun i=>decide (s.st1 Q i=1)) Q.P.n).length=(selN (fun i=>decide (s.st1 Q i=1)) Q.P.n).length:=xba ..
 have hpl7:(selN (fun i=>decide (s.st1 Q i=1)) Q.P.n).length≤7:=by rw[zcc];have:=zcd (fun i=>decide (s.st1 Q i=1)) Q.P.n;omega
 have hss:=sum_sel (fun i=>decide (s.st1 Q i=1)) (fun i=>s.v Q i-s.quo Q) Q.P.n
 have hss2:sumN (fun i=>if decide (s.st1 Q i=1)=true then s.v Q i-s.quo Q else 0) Q.P.n=s.sur Q:=zaj fun i _=>by
  by_cases h:s.st1 Q i=1<;>simp[h]
 rw[hss2]at hss
 refine while_prp (X:=RndM Q c gs s rs) (fun j=>((c,gs,Q.P.lots,(Q.one:Int),lst (fun i=>((s.st1 Q i:Nat):Int)) Q.P.n,lst (fun i=>(s.kp i:Int)) Q.P.n,((s.f1 Q:Nat):Int),(rs.map Rd.votes).map (List.map rr),(rs.length:Int)-(s.since:Int),(su:Int),2,(Q.P.seats:Int),c.2.2.2.2.2.1,(Q.P.n:Int),rs.map rdT,rs.flatMap Rd.el),lst (fun i=>((s.v Q i:Nat):Int)) Q.P.n,((s.quo Q:Nat):Int),(lst (fun i=>rr (frac (s.v Q i) Q.one)) Q.P.n,lst (fun i=>rr (frac (s.kp i) Q.one)) Q.P.n,rr (frac (s.quo Q) Q.one),rr (frac (s.rest Q) Q.one),(false,[],[]),selI (s.el Q) Q.P.n,[],[]),(((((selN (fun i=>decide (s.st1 Q i=1)) Q.P.n).take j).map fun i=>s.v Q i-s.quo Q).sum:Nat):Int),selI (fun i=>decide (s.st1 Q i=1)) Q.P.n,((selI (fun i=>decide (s.st1 Q i=1)) Q.P.n).length:Int),(j:Int))) (selN (fun i=>decide (s.st1 Q i=1)) Q.P.n).length (by rw[xdr];rfl) (fun j hj=>?_)
  (b:=((c,gs,Q.P.lots,(Q.one:Int),lst (fun i=>((s.st1 Q i:Nat):Int)) Q.P.n,lst (fun i=>(s.kp i:Int)) Q.P.n,((s.f1 Q:Nat):Int),(rs.map Rd.votes).map (List.map rr),(rs.length:Int)-(s.since:Int),(su:Int),2,(Q.P.seats:Int),c.2.2.2.2.2.1,(Q.P.n:Int),rs.map rdT,rs.flatMap Rd.el),lst (fun i=>((s.v Q i:Nat):Int)) Q.P.n,((s.quo Q:Nat):Int),(lst (fun i=>rr (frac (s.v Q i) Q.one)) Q.P.n,lst (fun i=>rr (frac (s.kp i) Q.one)) Q.P.n,rr (frac (s.quo Q) Q.one),rr (frac (s.rest Q) Q.one),(false,[],[]),selI (s.el Q) Q.P.n,[],[]),((s.sur Q:Nat):Int))) ?_ ?_
 ·have hg:=selN_getD_lt hj
  have hsg:=selI_getD hj
  have hvx:=hv _ hg.1
  have hpart:=sum_take_le ((selN (fun i=>decide (s.st1 Q i=1)) Q.P.n).map fun i=>s.v Q i-s.quo Q) (j+1)
  rw[←List.map_take,hss,sur_part _ _ _ hj]at hpart
  have hmax:(bif decide (0<w (((s.v Q ((selN (fun i=>decide (s.st1 Q i=1)) Q.P.n).getD j 0):Nat):Int)-((s.quo Q:Nat):Int)))then w (((s.v Q ((selN (fun i=>decide (s.st1 Q i=1)) Q.P.n).getD j 0):Nat):Int)-((s.quo Q:Nat):Int))else 0)=((s.v Q ((selN (fun i=>decide (s.st1 Q i=1)) Q.P.n).getD j 0)-s.quo Q:Nat):Int):=by
   generalize s.v Q ((selN (fun i=>decide (s.st1 Q i=1)) Q.P.n).getD j 0)=y at hvx ⊢
   rw[zbf (by omega) (by omega)]
   by_cases h:(0:Int)<(y:Int)-((s.quo Q:Nat):Int)
   ·rw[decide_eq_true h,xad];omega
   ·rw[decide_eq_false h,xaf];omega
  simp only[hpl,dlt hj,d0le,xai,xad,tn,hsg,zak,dlt hg.1,zbb (fun i=>((s.v Q i:Nat):Int)) hg.1,hmax,wadd (show(((selN (fun i=>decide (s.st1 Q i=1)) Q.P.n).take j).map fun i=>s.v Q i-s.quo Q).sum+(s.v Q ((selN (fun i=>decide (s.st1 Q i=1)) Q.P.n).getD j 0)-s.quo Q)≤9223372036854775807 by omega),zbm (show j<9223372036854775807 by omega),sur_part _ _ _ hj]
 ·simp only[hpl,nlt (Nat.le_refl _),xaf,xbh,hss]
 have hd158:=zqq (show s.sur Q≤9223372036854775807 by omega) (show Q.one≤9223372036854775807 by omega) ho1
 have hrounds:w (((rs.map rdT).length:Int)+1)=((rs.length+1:Nat):Int):=by rw[xba,zbm (by omega)]
 simp only[hd158,xab]
 refine letJ_of (X:=RndM Q c gs s rs) (fun J=>∀(st kp:Nat→Nat) (fl:Nat) (ev su':Int) (el ex ti:List Int) (last:Bool),el.length≤7→ex.length≤1→J ((c,gs,Q.P.lots,(Q.one:Int),lst (fun i=>((st i:Nat):Int)) Q.P.n,lst (fun i=>(kp i:Int)) Q.P.n,((fl:Nat):Int),(rs.map Rd.votes).map (List.map rr),ev,su',2,(Q.P.seats:Int),c.2.2.2.2.2.1,(Q.P.n:Int),rs.map rdT,rs.flatMap Rd.el),(lst (fun i=>rr (frac (s.v Q i) Q.one)) Q.P.n,lst (fun i=>rr (frac (s.kp i) Q.one)) Q.P.n,rr (frac (s.quo Q) Q.one),rr (frac (s.rest Q) Q.one),rr (frac (s.sur Q) Q.one),el,ex,ti),((s.sur Q:Nat):Int),((rs.length+1:Nat):Int),last)=some (!last,KM Q c gs st kp fl (rs++[{s.rd0 Q with el:=el,ex:=ex,ti:=ti}]) (if el=[]∧ex=[]then ev else((rs.length+1:Nat):Int)) ((s.sur Q:Nat):Int))) ?_ ?_
 ·intro st kp fl ev su' el ex ti last hel hex
  have l1:=zms (α:=List Rt) (l:=rs.length) (by omega)
  have l2:=zms (α:=RD) (l:=rs.length) (by omega)
  have l3:decide (((rs.flatMap Rd.el).length:Int)+(el.length:Int)≤LIM)=true:=lim_two (by omega)
  have hKM:KM Q c gs st kp fl (rs++[{s.rd0 Q with el:=el,ex:=ex,ti:=ti}]) (if el=[]∧ex=[]then ev else((rs.length+1:Nat):Int)) ((s.sur Q:Nat):Int)=(c,gs,Q.P.lots,(Q.one:Int),lst (fun i=>((st i:Nat):Int)) Q.P.n,lst (fun i=>(kp i:Int)) Q.P.n,((fl:Nat):Int),(rs.map Rd.votes).map (List.map rr)++[lst (fun i=>rr (frac (s.v Q i) Q.one)) Q.P.n],(if el=[]∧ex=[]then ev else((rs.length+1:Nat):Int)),((s.sur Q:Nat):Int),2,(Q.P.seats:Int),c.2.2.2.2.2.1,(Q.P.n:Int),rs.map rdT++[(lst (fun i=>rr (frac (s.v Q i) Q.one)) Q.P.n,lst (fun i=>rr (frac (s.kp i) Q.one)) Q.P.n,rr (frac (s.quo Q) Q.one),rr (frac (s.rest Q) Q.one),rr (frac (s.sur Q) Q.one),el,ex,ti)],rs.flatMap Rd.el++el):=by
   rw[rdM]
   unfold KM MS.rd0
   simp only[xcb,xdp,xcx,xgo,xcy,xff,xbw,zqa]
  rw[hKM]
  simp only[zan,xba,xay,l1,l2,l3,xad,wadd (show el.length+ex.length≤9223372036854775807 by omega)]
  by_cases h0:el=[]∧ex=[]
  ·rw[if_pos h0,h0.1,h0.2];rfl
  ·rw[if_neg h0,decide_eq_true,xad]
   have:0<el.length+ex.length:=by
    refine xeq fun h=>h0 ⟨xcu.1 (by omega),xcu.1 (by omega)⟩
   omega
 intro J hJ
 have h161:d161 (c,gs,Q.P.lots,(Q.one:Int),lst (fun i=>((s.st1 Q i:Nat):Int)) Q.P.n,lst (fun i=>(s.kp i:Int)) Q.P.n,((s.f1 Q:Nat):Int),(rs.map Rd.votes).map (List.map rr),(rs.length:Int)-(s.since:Int),(su:Int),2,(Q.P.seats:Int),c.2.2.2.2.2.1,(Q.P.n:Int),rs.map rdT,rs.flatMap Rd.el) 0=some (selI (fun i=>decide (s.st1 Q i=0)) Q.P.n):=zke (st:=s.st1 Q) (n:=Q.P.n) rfl (by omega) 0
 rw[hQ.seats]
 simp only[zhs,h161,xab]
 have hse7:=elM_len (s:=s) hok
 by_cases c1:s.f1 Q=Q.P.seats
 ·have hf:s.fin Q=true:=by unfold MS.fin;rw[decide_eq_true c1];rfl
  have hd:{s.rd0 Q with el:=selI (s.el Q) Q.P.n,ex:=[],ti:=[]}=s.done Q:=by
   unfold MS.done
   rw[if_pos c1];rfl
  have:=hJ (s.st1 Q) s.kp (s.f1 Q) ((rs.length:Int)-(s.since:Int)) (su:Int) (selI (s.el Q) Q.P.n) [] [] true hse7 (by simp)
  rw[hd]at this
  refine .inl ⟨hf,s.st1 Q,s.kp,s.f1 Q,_,_,Eq.trans ?_ this⟩
  rw[decide_eq_true c1,xad,hrounds]
 rw[decide_eq_false c1,xaf]
 have hh7:=zcd (fun i=>decide (s.st1 Q i=0)) Q.P.n
 have hh1:(selI (fun i=>decide (s.st1 Q i=0)) Q.P.n).length=s.h1 Q:=zay _ _
 have hh1':s.h1 Q≤7:=by
  have:s.h1 Q=cntN (fun i=>decide (s.st1 Q i=0)) Q.P.n:=rfl
  omega
 simp only[hh1,wadd (show s.f1 Q+s.h1 Q≤9223372036854775807 by omega)]
 by_cases c2:s.f1 Q+s.h1 Q≤Q.P.seats
 ·have hf:s.fin Q=true:=by unfold MS.fin;rw[decide_eq_true c2,Bool.or_true]
  rw[decide_eq_true (show((s.f1 Q+s.h1 Q:Nat):Int)≤(Q.P.seats:Int) by omega),xad]
  have h159':=d159_eq (c:=c) (gs:=gs) (lots:=Q.P.lots) (one:=(Q.one:Int)) (st:=s.st1 Q) (n:=Q.P.n) (kp:=lst (fun i=>(s.kp i:Int)) Q.P.n) (filled:=s.f1 Q) (rest:=((rs.map Rd.votes).map (List.map rr),(rs.length:Int)-(s.since:Int),(su:Int),2,(Q.P.seats:Int),c.2.2.2.2.2.1,(Q.P.n:Int),rs.map rdT,rs.flatMap Rd.el)) (v:=lst (fun i=>rr (frac (s.v Q i) Q.one)) Q.P.n) (kk:=lst (fun i=>rr (frac (s.kp i) Q.one)) Q.P.n) (qu:=rr (frac (s.quo Q) Q.one)) (ex:=rr (frac (s.rest Q) Q.one)) (su:=rr (frac (s.sur Q) Q.one)) (el:=selI (s.el Q) Q.P.n) (ex2:=[]) (ti:=[]) (L:=selN (fun i=>decide (s.st1 Q i=0)) Q.P.n) (by omega) (fun i hi=>(zcs.1 hi).1) (by rw[zcc];omega) (by omega) (by omega)
  have hsel2:zds (selI (s.el Q) Q.P.n++(selN (fun i=>decide (s.st1 Q i=0)) Q.P.n).map Int.ofNat)=selI (fun i=>s.el Q i||decide (s.st1 Q i=0)) Q.P.n:=sortI_two (q:=fun i=>decide (s.st1 Q i=0)) (fun i h=>by
   rcases zbp (Q:=Q) (s:=s) i with⟨h0,h1,h2,_⟩|⟨h0,h2⟩
   ·rw[h2];rfl
   ·rw[h]at h0;cases h0) Q.P.n
  rw[hsel2]at h159'
  have hsl:(selI (fun i=>s.el Q i||decide (s.st1 Q i=0)) Q.P.n).length≤7:=by
   rw[zay];have:=zcd (fun i=>s.el Q i||decide (s.st1 Q i=0)) Q.P.n;omega
  have hd:{s.rd0 Q with el:=selI (fun i=>s.el Q i||decide (s.st1 Q i=0)) Q.P.n,ex:=[],ti:=[]}=s.done Q:=by
   unfold MS.done
   rw[if_neg c1];rfl
  have:=hJ (zfd (s.st1 Q) (selN (fun i=>decide (s.st1 Q i=0)) Q.P.n) 1) s.kp (s.f1 Q+(selN (fun i=>decide (s.st1 Q i=0)) Q.P.n).length) ((rs.length:Int)-(s.since:Int)) (su:Int) (selI (fun i=>s.el Q i||decide (s.st1 Q i=0)) Q.P.n) [] [] true hsl (by simp)
  rw[hd]at this
  refine .inl ⟨hf,_,_,_,_,_,Eq.trans ?_ this⟩
  have hsI:selI (fun i=>decide (s.st1 Q i=0)) Q.P.n=(selN (fun i=>decide (s.st1 Q i=0)) Q.P.n).map Int.ofNat:=rfl
  rw[hsI,h159',xab]
  simp only[hrounds]
 have hf:s.fin Q=false:=by unfold MS.fin;rw[decide_eq_false c1,decide_eq_false c2];rfl
 rw[decide_eq_false (show ¬((s.f1 Q+s.h1 Q:Nat):Int)≤(Q.P.seats:Int) by omega),xaf]
 have hlen1:((rs++[s.exR Q (rs.map Rd.votes)]).length:Int)=((rs.length+1:Nat):Int):=by simp
 have hlen2:((rs++[s.rd0 Q]).length:Int)=((rs.length+1:Nat):Int):=by simp
 have hredu:s.cut Q=false→RndM Q c gs s rs (J ((c,gs,Q.P.lots,(Q.one:Int),lst (fun i=>((s.st1 Q i:Nat):Int)) Q.P.n,lst (fun i=>((s.kp1 Q i:Nat):Int)) Q.P.n,((s.f1 Q:Nat):Int),(rs.map Rd.votes).map (List.map rr),(rs.length:Int)-(s.since:Int),(su:Int),2,(Q.P.seats:Int),c.2.2.2.2.2.1,(Q.P.n:Int),rs.map rdT,rs.flatMap Rd.el),(lst (fun i=>rr (frac (s.v Q i) Q.one)) Q.P.n,lst (fun i=>rr (frac (s.kp i) Q.one)) Q.P.n,rr (frac (s.quo Q) Q.one),rr (frac (s.rest Q) Q.one),rr (frac (s.sur Q) Q.one),selI (s.el Q) Q.P.n,[],[]),((s.sur Q:Nat):Int),((rs.length+1:Nat):Int),false)):=fun hc=>by
  have:=hJ (s.st1 Q) (s.kp1 Q) (s.f1 Q) ((rs.length:Int)-(s.since:Int)) (su:Int) (selI (s.el Q) Q.P.n) [] [] false hse7 (by simp)
  refine .inr (.inr ⟨hf,hc,?_⟩)
  rw[this,hlen2]
  show some (true,KM Q c gs (s.st1 Q) (s.kp1 Q) (s.f1 Q) (rs++[s.rd0 Q]) _ _)=some (true,KM Q c gs (s.st1 Q) (s.kp1 Q) (s.f1 Q) (rs++[s.rd0 Q]) (((rs.length+1:Nat):Int)-((if s.some1 Q then 0 else s.since+1:Nat):Int)) _)
  congr 3
  cases h1:s.some1 Q
  ·have hnil:selI (s.el Q) Q.P.n=[]:=by
    rw[←xcu,zay]
    refine xdc fun h=>?_
    unfold MS.some1 at h1
    exact absurd h (xdj h1)
   rw[if_pos ⟨hnil,rfl⟩]
   simp only[xaw,if_false]
   omega
  ·have hnn:¬(selI (s.el Q) Q.P.n=[]∧([]:List Int)=[]):=fun h=>by
    have:=xbb List.length h.1
    rw[zay]at this
    unfold MS.some1 at h1
    have:=of_decide_eq_true h1
    simp at *
    omega
   rw[if_neg hnn]
   simp
 have h164:=d164_eq (Q:=Q) (s:=s) hok hI (c:=c) (gs:=gs) (lots:=Q.P.lots) (filled:=((s.f1 Q:Nat):Int)) (rest:=((rs.map Rd.votes).map (List.map rr),(rs.length:Int)-(s.since:Int),(su:Int),2,(Q.P.seats:Int),c.2.2.2.2.2.1,(Q.P.n:Int),rs.map rdT,rs.flatMap Rd.el))
 simp only[hrounds,zan]
 cases h1:s.some1 Q
 ·have hnil:selI (s.el Q) Q.P.n=[]:=by
   rw[←xcu,zay]
   refine xdc fun h=>?_
   unfold MS.some1 at h1
   exact absurd h (xdj h1)
  have hcut:s.cut Q=s.stall Q:=by unfold MS.cut;rw[h1];rfl
  have hsteq:lst (fun i=>((s.st1 Q i:Nat):Int)) Q.P.n=lst (fun i=>(s.st i:Int)) Q.P.n:=zbi fun i hi=>by rw[(el_out h1 hi).2]
  have hf1fl:s.f1 Q=s.fl Q:=by
   have:cntN (s.el Q) Q.P.n=0:=by rw[←zay,hnil];rfl
   omega
  have h162:=d162_eq (Q:=Q) (s:=s) (k:=(c,gs,Q.P.lots,(Q.one:Int),lst (fun i=>((s.st1 Q i:Nat):Int)) Q.P.n,lst (fun i=>(s.kp i:Int)) Q.P.n,((s.f1 Q:Nat):Int),(rs.map Rd.votes).map (List.map rr),(rs.length:Int)-(s.since:Int),(su:Int),2,(Q.P.seats:Int),c.2.2.2.2.2.1,(Q.P.n:Int),rs.map rdT,rs.flatMap Rd.el)) (rs:=rs) hQ.d1 hQ.d6 hQ.dig rfl (by omega) hsi rfl rfl hb hQ.om
  have hz:decide (((selI (s.el Q) Q.P.n).length:Int)=0)=true:=by rw[hnil];rfl
  simp only[hz,xad,h162,xab]
  cases hs:s.stall Q
  ·rw[xaf]
   simp only[h164,xab]
   exact hredu (hcut.trans hs)
  ·rw[xad]
   obtain⟨x,x1,x2,h163⟩:=d163_eq (Q:=Q) (s:=s) hok hI hQ.ties (gs:=gs) (one:=(Q.one:Int)) (filled:=((s.f1 Q:Nat):Int)) (E:=rs.map Rd.votes) (rest:=((rs.length:Int)-(s.since:Int),(su:Int),2,(Q.P.seats:Int),c.2.2.2.2.2.1,(Q.P.n:Int),rs.map rdT,rs.flatMap Rd.el)) hE (by rw[xba];omega) (lst (fun i=>rr (frac (s.v Q i) Q.one)) Q.P.n) (lst (fun i=>rr (frac (s.kp i) Q.one)) Q.P.n) (rr (frac (s.quo Q) Q.one)) (rr (frac (s.rest Q) Q.one)) (rr (frac (s.sur Q) Q.one)) (selI (s.el Q) Q.P.n) [] []
   rw[hsteq,h163,xab]
   have:=hJ (upd s.st x 2) (upd s.kp x 0) (s.f1 Q) ((rs.length:Int)-(s.since:Int)) (su:Int) (selI (s.el Q) Q.P.n) [(x:Int)] (if(s.tied Q).length=1 then []else s.tied Q) false hse7 (by simp)
   refine .inr (.inl ⟨hf,hcut.trans hs,?_⟩)
   rw[hlen1]
   have hex:(s.excl Q (rs.map Rd.votes)).fl Q=s.f1 Q:=by
    rw[hf1fl]
    obtain⟨x',y1,y2,y3⟩:=zhk hI (rs.map Rd.votes)
    unfold MS.excl
    rw[y1,xaj]
    exact fl_excl y2 y3
   have hex2:(s.excl Q (rs.map Rd.votes)).st=upd s.st x 2:=by
    unfold MS.excl
    rw[x2];rfl
   have hex3:(s.excl Q (rs.map Rd.votes)).kp=upd s.kp x 0:=by
    unfold MS.excl
    rw[x2];rfl
   have hexr:{s.rd0 Q with el:=selI (s.el Q) Q.P.n,ex:=[(x:Int)],ti:=if(s.tied Q).length=1 then []else s.tied Q}=s.exR Q (rs.map Rd.votes):=by
    unfold MS.exR
    rw[x2];rfl
   rw[hex,hex2,hex3]
   rw[hexr,if_neg (show ¬(selI (s.el Q) Q.P.n=[]∧[(x:Int)]=[]) by simp)]at this
   refine this.trans ?_
   show some (true,KM Q c gs (upd s.st x 2) (upd s.kp x 0) (s.f1 Q) (rs++[s.exR Q (rs.map Rd.votes)]) ((rs.length+1:Nat):Int) _)=some (true,KM Q c gs (upd s.st x 2) (upd s.kp x 0) (s.f1 Q) (rs++[s.exR Q (rs.map Rd.votes)]) (((rs.length+1:Nat):Int)-((0:Nat):Int)) _)
   rw[show((rs.length+1:Nat):Int)-((0:Nat):Int)=((rs.length+1:Nat):Int) by omega]
 ·have hz:decide (((selI (s.el Q) Q.P.n).length:Int)=0)=false:=by
   refine decide_eq_false ?_
   rw[zay]
   unfold MS.some1 at h1
   have:=of_decide_eq_true h1
   omega
  simp only[hz,xaf,h164,xab]
  exact hredu (by unfold MS.cut;rw[h1];rfl)
def mqOf(c:CT)(gs:List Grp)(lots:List Int):MP:=⟨gpOf c gs lots,10^c.2.2.2.2.2.1.toNat,10^(c.2.2.2.2.2.1.toNat/2)⟩
def trM(c:CT)(Q:MP):Int×(Int×(Int×(Int×(List RD×List Int)))):=(2,(Q.P.seats:Int),c.2.2.2.2.2.1,(Q.P.n:Int),(zcg Q).map rdT,(zcg Q).flatMap Rd.el)
theorem mqOf_ok{c:CT}{gs:List Grp}{lots:List Int}(h:fitE 2 c gs lots=0):MQ (mqOf c gs lots) c gs c.2.2.2.2.2.1.toNat:=by
 obtain⟨hP,_⟩:=gpOf_okM h
 obtain⟨_,_,_,n1,n7,s1,s5,_,hd,_,t1,t3,hp,ll,hB⟩:=zjd h
 obtain⟨hd1,hd6⟩:=hd rfl
 refine⟨⟨hP,ten_pos _,ten_six (by omega),ten_pos _⟩,⟨lots,rfl⟩,rfl,⟨_,hp⟩,?_,by omega,by omega,by omega,rfl,rfl,rfl⟩
 show c.2.2.2.1=(c.2.2.2.1.toNat:Int)
 omega
theorem Bef.excl'{rs:List Rd}{r:Rd}{sur:Nat}(h:r.ex≠ []):Bef (rs++[r]) none sur:=.excl rs r rfl h rfl
theorem Bef.kept'{rs:List Rd}{r:Rd}{sur:Nat}(h:r.ex=[]):Bef (rs++[r]) (some sur) sur:=.kept rs r rfl h rfl
set_option maxHeartbeats 1000000 in
theorem d56_eq{c:CT}{gs:List Grp}{lots:List Int}(hg:GsOK gs)(hl:lots.length≤281474976710656):d56 c gs lots=some (if fitE 2 c gs lots=0 then(trM c (mqOf c gs lots),0)else((0,0,0,0,[],[]),fitE 2 c gs lots)):=by
 unfold d56
 rw[d66_eq 2 c hg hl,xab]
 by_cases hfit:¬fitE 2 c gs lots=0
 ·rw[if_neg hfit,decide_eq_false hfit];rfl
 have hfit:=xgz.1 hfit
 rw[if_pos hfit,decide_eq_true hfit,xaq,xaf]
 have hQ:=mqOf_ok hfit
 have hlo:(mqOf c gs lots).P.lots=lots:=rfl
 have hdig:=hQ.dig
 have hone:=hQ.one
 generalize hd:c.2.2.2.2.2.1.toNat=d at hQ hdig hone
 generalize mqOf c gs lots=Q at hQ hlo hone ⊢
 have hn:=hQ.n
 have hok:=hQ.ok
 have hn7:=hok.P.n7
 have hd6:=hQ.d6
 have h112:d112 [((Q.one:Nat):Int)] (Q.P.n:Int)=some (lst (fun _=>((Q.one:Nat):Int)) Q.P.n):=by
  unfold d112
  rw[decide_eq_true (show([((Q.one:Nat):Int)]:List Int).length=1 from rfl),decide_eq_true (show(0:Int)≤(Q.P.n:Int) by omega),decide_eq_true (show(Q.P.n:Int)≤1000 by omega),xai,xai,xad,tn,zpz]
  rfl
 rw[hdig,d111_eq (by omega),xab,←hone,hn]
 simp only[xax,d0le,zbu (n:=Q.P.n) (by omega),xai,xad,tn,h112,xab,hQ.seats]
 have hK0:(c,gs,lots,((Q.one:Nat):Int),List.replicate Q.P.n (0:Int),lst (fun _=>((Q.one:Nat):Int)) Q.P.n,(0:Int),([]:List (List Rt)),(0:Int),(0:Int),(2:Int),(Q.P.seats:Int),(d:Int),(Q.P.n:Int),([]:List RD),([]:List Int))=KM Q c gs Q.s0.st Q.s0.kp (Q.s0.fl Q) [] ((([]:List Rd).length:Int)-(Q.s0.since:Int)) ((0:Nat):Int):=by
  have:Q.s0.fl Q=0:=by unfold MS.fl cntN;exact zdr _
  unfold KM
  rw[this,hlo,zpz,hdig]
  rfl
 rw[hK0]
 refine zfn (Q:=fun r=>r=some (trM c Q,0)) (fun(M:Nat) (a:(Int×(Int×(Int×(Int×(List RD×List Int)))))×MT)=>∃(s:MS) (rs:List Rd) (su:Nat),a=((0,0,0,0,[],[]),KM Q c gs s.st s.kp (s.fl Q) rs ((rs.length:Int)-(s.since:Int)) (su:Int))∧MRun Q s rs∧s.since≤rs.length∧Bef rs s.bef su∧M=s.meas Q) (Q.s0.meas Q) ⟨Q.s0,[],0,rfl,MRun.start hok,Nat.le_refl _,.start rfl rfl,rfl⟩ ?_
 rintro M a ⟨s,rs,su,rfl,hR,hsi,hb,rfl⟩
 rcases d113_eq hQ hR hsi hb with⟨hf,st',kp',fl',ev',su',he⟩|⟨hf,hc,he⟩|⟨hf,hc,he⟩
 ·refine .inr ⟨((0,0,0,0,[],[]),KM Q c gs st' kp' fl' (rs++[s.done Q]) ev' su'),by simp only[he,xab,xaf],?_⟩
  show some ((2,(Q.P.seats:Int),c.2.2.2.2.2.1,(Q.P.n:Int),(rs++[s.done Q]).map rdT,(rs++[s.done Q]).flatMap Rd.el),0)=some (trM c Q,0)
  rw[hR.fin hf];rfl
 ·have hme:=(znd hok hR.inv hf hc (rs.map Rd.votes)).2
  exact .inl ⟨_,(s.excl Q (rs.map Rd.votes)).meas Q,by simp only[he,xab,xad],hme,_,_,s.sur Q,rfl,hR.excl hok hf hc,xbo _,Bef.excl' (by simp[MS.exR]),rfl⟩
 ·have hme:=(zml hok hR.inv hf hc).2
  refine .inl ⟨_,(s.redu Q).meas Q,by simp only[he,xab,xad],hme,_,_,s.sur Q,rfl,hR.redu hok hf hc,?_,Bef.kept' rfl,rfl⟩
  show(if s.some1 Q then 0 else s.since+1)≤(rs++[s.rd0 Q]).length
  rw[List.length_append]
  split
  ·omega
  ·simp;omega
end Go.Proofs.YtmipjomnjkmdbaaGreat
namespace Go.Proofs.YtmipjomnjkmdbaaGreat
open Go Go.X
theorem d25_meek{n:Nat}(hn:n≤1000){seats digits ties:Int}(hs:WT (.int .i64) seats)(hd:WT (.int .i64) digits)(ht:WT (.int .i64) ties):∃c:CT,d25 1 (n:Int) seats digits ties=some c∧ConOK c n 2∧c.2.2.2.1=1+seats%5∧c.2.2.2.2.2.1=1+digits%6∧c.2.2.2.2.2.2.1=1+ties%3:=by
 obtain⟨l,l1,l2⟩:=d72_eq (n:=n) hn
 have hm:WT (.int .i64) 1:=zbf (by omega) (by omega)
 unfold d25
 rw[l1,zgp hm (by omega) (by omega),zgp hs (by omega) (by omega),zgp ht (by omega) (by omega),zgp hd (by omega) (by omega)]
 simp only[xab,zan]
 have w2:w (1+seats%5)=1+seats%5:=zbf (by omega) (by omega)
 have w3:w (1+ties%3)=1+ties%3:=zbf (by omega) (by omega)
 have w4:w (1+digits%6)=1+digits%6:=zbf (by omega) (by omega)
 have w1:w (1+1%3)=2:=zbf (n:=2) (by omega) (by omega)
 simp only[w1,w2,w3,w4]
 exact⟨_,rfl,⟨l2,rfl,by show 1≤1+seats%5;omega,by show 1+seats%5≤5;omega,fun h=>absurd h (by omega),fun _=>by show 1≤1+digits%6∧1+digits%6≤6;omega,fun h=>absurd rfl h,by show 1≤1+ties%3;omega,by show 1+ties%3≤3;omega⟩,rfl,rfl,rfl⟩
theorem d54_eq(l:List (List Int))(hl:l.length≤281474976710656):d54 l=some (decide (∀x∈l,x.length≤12)&&decide (l.length≤24)):=by
 unfold d54
 by_cases h:∀x∈l,x.length≤12
 ·refine zae (b:=.inl l) (fun i=>(l,(i:Int))) l.length rfl (fun i hi=>?_) ?_ ?_
  ·have:=h _ (zbz (d:=[]) hi)
   simp only[dlt hi,d0le,xai,xad,tn,decide_eq_false (show ¬(12:Int)<((l.getD i []).length:Int) by omega),xaf,zbm (show i<9223372036854775807 by omega)]
  ·simp only[nlt (Nat.le_refl l.length),xaf]
  ·rw[decide_eq_true h,xbg]
   exact xbb some (xcj.2 (by omega))
 ·rw[decide_eq_false h,xbn]
  refine zfn (Q:=fun r=>r=some false) (fun(M:Nat) (st:(List (List Int))×Int)=>∃i:Nat,st=(l,(i:Int))∧i+M=l.length∧∀j,j<i→(l.getD j []).length≤12) l.length ⟨0,rfl,by omega,fun j hj=>by omega⟩ ?_
  rintro M st ⟨i,rfl,h1,h2⟩
  rcases xcc M with h0|h0
  ·exfalso
   refine h fun x hx=>?_
   obtain⟨k,hk,rfl⟩:=xbv hx
   have:=h2 k (by omega)
   rw[xac,xak hk]at this
   exact this
  ·have hi:i<l.length:=by omega
   simp only[dlt hi,d0le,xai,xad,tn]
   by_cases hc:12<(l.getD i []).length
   ·refine .inr ⟨.inr false,by rw[decide_eq_true (show(12:Int)<((l.getD i []).length:Int) by omega),xad],rfl⟩
   ·refine .inl ⟨_,M-1,by rw[decide_eq_false (show ¬(12:Int)<((l.getD i []).length:Int) by omega),xaf],by omega,i+1,by rw[zbm (by omega)],by omega,fun j hj=>?_⟩
    by_cases hji:j=i
    ·rw[hji];omega
    ·exact h2 j (by omega)
def awM:MP:={P:={gs:=[([0],1),([0,1],3),([2],2)],n:=3,seats:=2,q:=3,tot:=6,ties:=3,lots:=[0,1,2]},one:=1000,om:=10}
theorem awM_pile:zdk [[0,1],[0,1],[0,1],[0],[2],[2]]=[([0],1),([0,1],3),([2],2)]:=by decide +kernel
theorem awM_count:(zcg awM).flatMap Rd.el=[0,2]:=by decide +kernel
theorem awM_mq{c:CT}(h1:c.2.1.length=3)(h2:c.2.2.2.1=2)(h3:c.2.2.2.2.2.2.1=3)(h4:c.2.2.2.2.2.1=3):mqOf c [([0],1),([0,1],3),([2],2)] [0,1,2]=awM:=by
 unfold mqOf gpOf awM
 rw[h1,h2,h3,h4]
 have e1:(wsum zar [([0],1),([0,1],3),([2],2)]/(2+1)+1).toNat=3:=by decide +kernel
 have e2:(wsum (fun _=>1) [([0],1),([0,1],3),([2],2)]).toNat=6:=by decide +kernel
 rw[e1,e2]
 rfl
theorem d55_eq:d55=some true:=by
 have k:∀x:Int,-9223372036854775808≤x→x≤9223372036854775807→WT (.int .i64) x:=fun x h0 h1=>zbf h0 h1
 obtain⟨c,c1,c2,c3,c4,c5⟩:=d25_meek (n:=3) (by omega) (k 1 (by omega) (by omega)) (k 2 (by omega) (by omega)) (k 2 (by omega) (by omega))
 have c3':c.2.2.2.1=2:=by rw[c3];rfl
 have c4':c.2.2.2.2.2.1=3:=by rw[c4];rfl
 have c5':c.2.2.2.2.2.2.1=3:=by rw[c5];rfl
 have hb:∀b∈[[0,1],[0,1],[0,1],[0],[2],[2]],isB 3 b:=by decide +kernel
 have h48:=d48_eq (n:=3) (by omega) (by omega) hb (by simp)
 have hp:=(zmq (n:=3) _ hb (by simp)).1
 rw[awM_pile]at h48 hp
 have hfit:fitE 2 c [([0],1),([0,1],3),([2],2)] [0,1,2]=0:=zje (n:=3) (m:=2) c2 (by omega) (by omega) (by omega) (by omega) hp rfl (by decide +kernel)
 have h56:=d56_eq (c:=c) (lots:=[0,1,2]) (hp.gs (by omega)) (by simp)
 rw[if_pos hfit,awM_mq c2.names c3' c5' c4']at h56
 have hp2:PileOK ((2:Nat):Int) [([0,1],3)] 3:=⟨by decide +kernel,by simp[zgu],by decide +kernel,by omega⟩
 have h58:=d58_ok (n:=2) (d:=2) (by omega) (by omega) (by omega) (by omega) hp2 c [] (kp:=fun i=>if i=0 then 33 else 100) (fun i=>by show(if i=0 then 33 else 100)≤100;split<;>omega)
 have hk:lst (fun i=>((if i=0 then 33 else 100:Nat):Int)) 2=[33,100]:=by decide +kernel
 have hv:lst (fun x=>((mvo (gpOf c [([0,1],3)] []) (10^2) (fun i=>if i=0 then 33 else 100) x:Nat):Int)) 2=[99,201]:=by
  have e:∀x,mvo (gpOf c [([0,1],3)] []) (10^2) (fun i=>if i=0 then 33 else 100) x=3*zib 100 (fun i=>if i=0 then 33 else 100) [0,1] x:=fun x=>by
   show 0+3*zib (10^2) (fun i=>if i=0 then 33 else 100) [0,1] x=_
   rw[Nat.zero_add]
  rw[zbi fun x _=>by rw[e x]]
  decide +kernel
 have hr:mro (gpOf c [([0,1],3)] []) (10^2) (fun i=>if i=0 then 33 else 100)=0:=by
  show 0+3*mw (10^2) (fun i=>if i=0 then 33 else 100) [0,1] 2=0
  decide +kernel
 rw[hk,hv,hr]at h58
 have h60:d60 5=some 100:=d60_eq (d:=5) (by omega) (by omega)
 unfold d55
 have c1':d25 1 3 1 2 2=some c:=c1
 have h58':d58 2 [33,100] [([0,1],3)]=some ([99,201],0,true):=h58
 rw[h48,xab,c1',xab,h56,xab,h58',xab]
 have hT:(trM c awM).2.2.2.2.2=[0,2]:=awM_count
 have h44:d44 [0,2]=some [0,2]:=by rw[d44_eq (by simp)];decide +kernel
 have f38:d38 [0,2] [0,2]=some true:=by rw[d38_eq (by simp) (by simp)];rfl
 have f38':d38 [99,201] [99,201]=some true:=by rw[d38_eq (by simp) (by simp)];rfl
 simp only[hT,h44,f38,f38',h60,xab]
 rfl
structure CntM(n:Nat)(c:CT)(gs:List Grp)(lots:List Int)(N:Int):Prop where
 con:ConOK c n 2
 n1:1≤n
 n7:n≤7
 pile:PileOK (n:Int) gs N
 len:lots.length=n
 perm:isB (n:Int) lots
 fit:fitE 2 c gs lots=0
 mq:MQ (mqOf c gs lots) c gs c.2.2.2.2.2.1.toNat
 cands:(mqOf c gs lots).P.n=n
 tot:((mqOf c gs lots).P.tot:Int)=N
theorem CntM.mk'{n:Nat}{c:CT}{gs:List Grp}{lots:List Int}{N:Int}(hc:ConOK c n 2)(h1:1≤n)(h7:n≤7)(hp:PileOK (n:Int) gs N)(hl:lots.length=n)(hb:isB (n:Int) lots):CntM n c gs lots N:=by
 have hf:=zje hc (by omega) (by omega) h1 h7 hp hl hb
 refine⟨hc,h1,h7,hp,hl,hb,hf,mqOf_ok hf,hc.names,?_⟩
 have:=hp.total
 have h0:=(zhi (n:=(n:Int)) hp.ballots (f:=fun _=>1) (fun _=>by omega)).1
 show((wsum (fun _=>1) gs).toNat:Int)=N
 omega
theorem CntM.d56{n:Nat}{c:CT}{gs:List Grp}{lots:List Int}{N:Int}(h:CntM n c gs lots N):d56 c gs lots=some (trM c (mqOf c gs lots),0):=by
 have hl:=h.len
 have h7:=h.n7
 rw[d56_eq (h.pile.gs (by omega)) (by omega),if_pos h.fit]
theorem d62_eq{n:Nat}(h1:1≤n)(h7:n≤7){seats digits ties code:Int}{l:List (List Int)}(hs:WT (.int .i64) seats)(hd:WT (.int .i64) digits)(ht:WT (.int .i64) ties)(hc:WT (.int .i64) code)(hl:l.length≤281474976710656)(hw:∀x∈l,WT (.slice (.int .i64)) x) :
  ∃c lots,d62 (n:Int) seats digits ties code l=some (c,zdk (bals (n:Int) l 24),trM c (mqOf c (zdk (bals (n:Int) l 24)) lots),0)∧CntM n c (zdk (bals (n:Int) l 24)) lots ((bals (n:Int) l 24).length:Int)∧d27 (n:Int) code=some lots∧c.2.2.2.1=1+seats%5∧c.2.2.2.2.2.1=1+digits%6∧c.2.2.2.2.2.2.1=1+ties%3:=by
 obtain⟨c,c1,c2,c3,c4,c5⟩:=d25_meek (n:=n) (by omega) hs hd ht
 obtain⟨lots,l1,l2,l3⟩:=d27_eq (n:=n) (by omega) hc
 have hpl:=zmq (n:=(n:Int)) (bals (n:Int) l 24) (bals_isB (n:=(n:Int)) (by omega) (l:=l) (most:=24)) (by have:=@bals_len (n:Int) l 24;omega)
 have hC:=CntM.mk' (c:=c) c2 h1 h7 hpl.1 l2 l3
 refine⟨c,lots,?_,hC,l1,c3,c4,c5⟩
 unfold d62
 rw[c1,xab,show d26 (n:Int) l 24=some (zdk (bals (n:Int) l 24))from d26_eq (n:=(n:Int)) (by omega) (by omega) hl hw (most:=24) (by omega),xab,l1,xab,hC.d56]
 rfl
end Go.Proofs.YtmipjomnjkmdbaaGreat
namespace Go.Proofs.YtmipjomnjkmdbaaGreat
open Go Go.X
variable {Q:MP} {s:MS}
def MS.act(Q:MP)(s:MS):Nat:=cntN (fun i=>decide (s.st i≠2)) Q.P.n
theorem zki(hI:MI Q s):s.f1 Q+s.h1 Q=s.act Q:=by
 unfold MS.f1 MS.h1 MS.act cntN
 rw[←zft]
 refine zaj fun i hi=>?_
 have h3:=hI.st2 i
 rcases zbp (Q:=Q) (s:=s) i with⟨h0,h1,h2,_⟩|⟨h0,h2⟩
 ·simp[h1,h2]
 ·have:s.st i=0∨s.st i=1∨s.st i=2:=by omega
  rcases this with h|h|h<;>simp[h,h2]
theorem elM_hop{i:Nat}(h:s.el Q i=true):s.st i=0:=by
 unfold MS.el MS.reach at h
 rw[xae,xae,xag]at h
 exact h.1.1
structure WinM(Q:MP)(s:MS)(l:List Int):Prop where
 nodup:l.Nodup
 within:∀c∈l,∃i:Nat,c=(i:Int)∧i<Q.P.n∧s.st i=0
 num:l.length+s.fl Q=min Q.P.seats Q.P.n
theorem el_nil(h:s.some1 Q=false):selI (s.el Q) Q.P.n=[]:=by
 rw[←xcu,zay]
 refine xdc fun h0=>?_
 unfold MS.some1 at h
 exact absurd h0 (xdj h)
theorem cut_some1(h:s.cut Q=true):s.some1 Q=false:=by
 unfold MS.cut at h
 rw[xae,xha]at h
 exact h.1
theorem winM_tr(hQ:Q.OK){rs rest:List Rd}(h:MTr Q s rs rest):min Q.P.seats Q.P.n≤s.act Q→WinM Q s (rest.flatMap Rd.el):=by
 induction h with
 | @fin s rs hR hf=>
  intro hact
  have hI:=hR.inv
  have hs:=zki hI
  have hf1:=f1_le hQ hI
  have he:=f1_eq (Q:=Q) (s:=s)
  have hactn:s.act Q≤Q.P.n:=zcd _ _
  have hfill:=hI.fill
  rw[xcy,xff,xbw]
  unfold MS.done
  show WinM Q s (if s.f1 Q=Q.P.seats then selI (s.el Q) Q.P.n else selI (fun i=>s.el Q i||decide (s.st1 Q i=0)) Q.P.n)
  by_cases h:s.f1 Q=Q.P.seats
  ·rw[if_pos h]
   refine⟨zcq _ _,fun c hc=>?_,?_⟩
   ·obtain⟨i,rfl,h1,h2⟩:=zax.1 hc
    exact⟨i,rfl,h1,elM_hop h2⟩
   ·rw[zay];omega
  ·rw[if_neg h]
   have hq:s.f1 Q+s.h1 Q≤Q.P.seats:=by
    unfold MS.fin at hf
    rw[xdn,xag,xag]at hf
    omega
   refine⟨zcq _ _,fun c hc=>?_,?_⟩
   ·obtain⟨i,rfl,h1,h2⟩:=zax.1 hc
    refine⟨i,rfl,h1,?_⟩
    rcases zbp (Q:=Q) (s:=s) i with⟨h0,k1,k2,_⟩|⟨h0,k2⟩
    ·exact k1
    ·rw[h0,xbj,xag]at h2
     omega
   ·rw[zay]
    have e:cntN (fun i=>s.el Q i||decide (s.st1 Q i=0)) Q.P.n=cntN (s.el Q) Q.P.n+s.h1 Q:=by
     unfold MS.h1 cntN
     rw[←zft]
     refine zaj fun i hi=>?_
     rcases zbp (Q:=Q) (s:=s) i with⟨h0,k1,k2,_⟩|⟨h0,k2⟩
     ·simp[h0,k2]
     ·simp[h0]
    rw[e]
    omega
 | @excl s rs rest hR hf hc h ih=>
  intro hact
  have hI:=hR.inv
  have hff:=zhr hQ hI hf
  have hs:=zki hI
  have hnil:=el_nil (cut_some1 hc)
  obtain⟨x,x1,x2,x3⟩:=zhk hI (rs.map Rd.votes)
  have hst:(s.excl Q (rs.map Rd.votes)).st=upd s.st x 2:=by
   unfold MS.excl
   rw[x1,xaj]
  have hfl:(s.excl Q (rs.map Rd.votes)).fl Q=s.fl Q:=by
   unfold MS.fl
   rw[hst];exact fl_excl x2 x3
  have hac:(s.excl Q (rs.map Rd.votes)).act Q+1=s.act Q:=by
   unfold MS.act
   rw[hst]
   exact(cnt_upd x2 (fun i hi hne=>by rw[zkj _ _ hne]) (by rw[zlg];rfl) (by rw[x3];rfl)).symm
  have hw:=ih (by omega)
  rw[xcy]
  show WinM Q s (selI (s.el Q) Q.P.n++_)
  rw[hnil,xck]
  refine⟨hw.nodup,fun c hc=>?_,by rw[←hfl];exact hw.num⟩
  obtain⟨i,rfl,h1,h2⟩:=hw.within c hc
  rw[hst]at h2
  refine⟨i,rfl,h1,?_⟩
  unfold upd at h2
  split at h2
  ·omega
  ·exact h2
 | @redu s rs rest hR hf hc h ih=>
  intro hact
  have hI:=hR.inv
  have hff:=zhr hQ hI hf
  have hs:=zki hI
  have he:=f1_eq (Q:=Q) (s:=s)
  have hac:(s.redu Q).act Q=s.act Q:=by
   refine zox fun i hi=>?_
   show decide (s.st1 Q i≠2)=_
   refine xcj.2 ?_
   rcases zbp (Q:=Q) (s:=s) i with⟨h0,h1,h2,_⟩|⟨h0,h2⟩<;>omega
  have hw:=ih (by omega)
  have hfl:(s.redu Q).fl Q=s.f1 Q:=rfl
  rw[xcy]
  show WinM Q s (selI (s.el Q) Q.P.n++_)
  have hwith:∀i,i<Q.P.n→s.st1 Q i=0→s.st i=0∧s.el Q i=false:=fun i hi h0=>by
   rcases zbp (Q:=Q) (s:=s) i with⟨k0,k1,k2,_⟩|⟨k0,k2⟩
   ·omega
   ·exact⟨by omega,k0⟩
  refine⟨xfb.2 ⟨zcq _ _,hw.nodup,fun c hc d hd hcd=>?_⟩,fun c hc=>?_,?_⟩
  ·subst hcd
   obtain⟨i,rfl,h1,h2⟩:=zax.1 hc
   obtain⟨j,h3,h4,h5⟩:=hw.within _ hd
   have:=(hwith j h4 h5).2
   rw[←xcm.1 h3,h2]at this
   cases this
  ·rcases List.mem_append.1 hc with hc|hc
   ·obtain⟨i,rfl,h1,h2⟩:=zax.1 hc
    exact⟨i,rfl,h1,elM_hop h2⟩
   ·obtain⟨j,h3,h4,h5⟩:=hw.within _ hc
    exact⟨j,h3,h4,(hwith j h4 h5).1⟩
  ·have h1:=hw.num
   rw[List.length_append,zay]
   omega
theorem winM_ok(hQ:Q.OK):WinM Q Q.s0 ((zcg Q).flatMap Rd.el):=by
 refine winM_tr hQ (ziw hQ) ?_
 have:Q.s0.act Q=Q.P.n:=by
  unfold MS.act cntN
  have key:∀n,sumN (fun _=>1) n=n:=fun n=>by
   induction n with
   |zero=>rfl
   |succ n ih=>rw[sumN,ih]
  exact(zaj (g:=fun _=>1) fun i _=>rfl).trans (key _)
 rw[this]
 exact Nat.min_le_right _ _
theorem winM_len(hQ:Q.OK):((zcg Q).flatMap Rd.el).length=min Q.P.seats Q.P.n:=by
 have h:=(winM_ok hQ).num
 have e1:Q.s0.fl Q=0:=by unfold MS.fl cntN;exact zdr _
 rw[e1]at h
 exact h
theorem winM_isB(hQ:Q.OK):isB (Q.P.n:Int) ((zcg Q).flatMap Rd.el):=⟨(winM_ok hQ).nodup,fun c hc=>by
 obtain⟨i,rfl,h,_⟩:=(winM_ok hQ).within c hc
 omega⟩
theorem MTr.ne{rs rest:List Rd}(h:MTr Q s rs rest):rest≠ []:=by cases h<;>simp
theorem mcount_ne(hQ:Q.OK):zcg Q≠ []:=(ziw hQ).ne
end Go.Proofs.YtmipjomnjkmdbaaGreat
namespace Go.Proofs.YtmipjomnjkmdbaaGreat
open Go Go.X
variable {Q:MP} {s:MS}
theorem law_start{p0:Int}(h0:WT (.int .i64) p0):∃n:Nat,1≤n∧n≤7∧w (1+p0%7)=(n:Int):=by
 have b:=zjy p0 (n:=7) (by omega)
 obtain⟨n,hn⟩:∃n:Nat,1+p0%7=(n:Int):=⟨(1+p0%7).toNat,by omega⟩
 exact⟨n,by omega,by omega,by rw[zbf (by omega) (by omega)];exact hn⟩
end Go.Proofs.YtmipjomnjkmdbaaGreat
namespace Go.Proofs.YtmipjomnjkmdbaaGreat
open Go Go.X
structure RQ(Q Q':MP)(ρ:Nat→Nat):Prop where
 rn:RN Q.P Q'.P ρ
 one:Q'.one=Q.one
 om:Q'.om=Q.om
structure RM(Q:MP)(ρ:Nat→Nat)(s s':MS):Prop where
 st:∀i,i<Q.P.n→s'.st (ρ i)=s.st i
 kp:∀i,i<Q.P.n→s'.kp (ρ i)=s.kp i
 since:s'.since=s.since
 bef:s'.bef=s.bef
theorem place_ren{n:Nat}{ρ:Nat→Nat}(h:Bij n ρ){lots:List Int}(hlots:∀c∈lots,∃i:Nat,c=(i:Int)∧i<n){i:Nat}(hi:i<n):zam (lots.map (rI ρ)) ((ρ i:Nat):Int)=zam lots (i:Int):=by
 unfold zam
 refine zmw (ρ:=rI ρ) (c:=(i:Int)) fun x hx e=>?_
 obtain⟨m,rfl,hm⟩:=hlots x hx
 unfold rI at e
 rw[xaj,xaj]at e
 rw[h.inj m i hm hi (xcm.1 e)]
theorem mw_ren{one n:Nat}{ρ kp kp':Nat→Nat}(hk:∀i,i<n→kp' (ρ i)=kp i){p:List Int}(hp:∀c∈p,∃i:Nat,c=(i:Int)∧i<n):∀{j:Nat},j≤p.length→mw one kp' (p.map (rI ρ)) j=mw one kp p j
 | 0,_=>rfl
 |j+1,hj=>by
  have ih:=mw_ren (one:=one) hk hp (j:=j) (by omega)
  obtain⟨i,e,hi⟩:=hp _ (zbv (l:=p) (i:=j) (by omega))
  show mw one kp' (p.map (rI ρ)) j-mup (mw one kp' (p.map (rI ρ)) j*kp' ((p.map (rI ρ)).getD j 0).toNat) one=mw one kp p j-mup (mw one kp p j*kp (p.getD j 0).toNat) one
  rw[ih,getD_mapI (by omega),e]
  show mw one kp p j-mup (mw one kp p j*kp' (ρ (i:Int).toNat)) one=_
  rw[xaj,hk i hi]
theorem mgive_ren{one n:Nat}{ρ kp kp':Nat→Nat}(hb:Bij n ρ)(hk:∀i,i<n→kp' (ρ i)=kp i){p:List Int}(hp:∀c∈p,∃i:Nat,c=(i:Int)∧i<n){c:Nat}(hc:c<n):zib one kp' (p.map (rI ρ)) (ρ c)=zib one kp p c:=by
 unfold zib
 rw[xba]
 refine zaj fun j hj=>?_
 obtain⟨i,e,hi⟩:=hp _ (zbv (l:=p) (i:=j) hj)
 unfold zdg
 rw[mw_ren hk hp (by omega),getD_mapI hj,e]
 show(if((ρ (i:Int).toNat:Nat):Int)=((ρ c:Nat):Int)then mup (_*kp' (ρ (i:Int).toNat)) one else 0)=_
 rw[xaj,hk i hi]
 by_cases h:i=c
 ·subst h;rw[if_pos rfl,if_pos rfl]
 ·rw[if_neg fun e'=>h (hb.inj i c hi hc (xcm.1 e')),if_neg fun e'=>h (xcm.1 e')]
section
variable {Q Q':MP} {ρ:Nat→Nat} {s s':MS} (hR:RQ Q Q' ρ) (hQ:Q.OK)
include hR hQ
theorem RM.v(h:RM Q ρ s s'){c:Nat}(hc:c<Q.P.n):s'.v Q' (ρ c)=s.v Q c:=by
 unfold MS.v mvo
 rw[hR.rn.sum fun p=>zib Q'.one s'.kp p (ρ c),hR.one]
 refine zaj fun g hg=>?_
 rw[mgive_ren hR.rn.bij h.kp (hQ.P.prefs g hg) hc]
theorem RM.quo(h:RM Q ρ s s'):s'.quo Q'=s.quo Q:=by
 unfold MS.quo
 rw[hR.rn.n,hR.rn.seats,hR.rn.bij.sum (f:=s.v Q) (f':=s'.v Q') fun i hi=>h.v hR hQ hi]
theorem RM.reach(h:RM Q ρ s s'){c:Nat}(hc:c<Q.P.n):s'.reach Q' (ρ c)=s.reach Q c:=by
 unfold MS.reach
 rw[h.st c hc,h.quo hR hQ,h.v hR hQ hc]
theorem RM.better(h:RM Q ρ s s'){d i:Nat}(hd:d<Q.P.n)(hi:i<Q.P.n):Go.Proofs.YtmipjomnjkmdbaaGreat.better (s'.v Q') Q'.P.lots (ρ d) (ρ i)=Go.Proofs.YtmipjomnjkmdbaaGreat.better (s.v Q) Q.P.lots d i:=by
 unfold Go.Proofs.YtmipjomnjkmdbaaGreat.better
 rw[h.v hR hQ hd,h.v hR hQ hi,hR.rn.lots,place_ren hR.rn.bij hQ.P.lots hd,place_ren hR.rn.bij hQ.P.lots hi]
theorem RM.fl(h:RM Q ρ s s'):s'.fl Q'=s.fl Q:=by
 have _h:=hQ
 unfold MS.fl
 rw[hR.rn.n]
 exact hR.rn.bij.cnt fun i hi=>by rw[h.st i hi]
theorem RM.rank(h:RM Q ρ s s'){c:Nat}(hc:c<Q.P.n):s'.rank Q' (ρ c)=s.rank Q c:=by
 unfold MS.rank
 rw[hR.rn.n]
 exact hR.rn.bij.cnt fun i hi=>by rw[h.reach hR hQ hi,h.better hR hQ hi hc]
theorem RM.el(h:RM Q ρ s s'){c:Nat}(hc:c<Q.P.n):s'.el Q' (ρ c)=s.el Q c:=by
 unfold MS.el
 rw[h.reach hR hQ hc,h.rank hR hQ hc,hR.rn.seats,h.fl hR hQ]
theorem RM.st1(h:RM Q ρ s s'){c:Nat}(hc:c<Q.P.n):s'.st1 Q' (ρ c)=s.st1 Q c:=by
 unfold MS.st1
 rw[h.el hR hQ hc,h.st c hc]
theorem RM.sur(h:RM Q ρ s s'):s'.sur Q'=s.sur Q:=by
 unfold MS.sur
 rw[hR.rn.n]
 exact hR.rn.bij.sum fun i hi=>by rw[h.st1 hR hQ hi,h.v hR hQ hi,h.quo hR hQ]
theorem RM.f1(h:RM Q ρ s s'):s'.f1 Q'=s.f1 Q:=by
 unfold MS.f1
 rw[hR.rn.n]
 exact hR.rn.bij.cnt fun i hi=>by rw[h.st1 hR hQ hi]
theorem RM.h1(h:RM Q ρ s s'):s'.h1 Q'=s.h1 Q:=by
 unfold MS.h1
 rw[hR.rn.n]
 exact hR.rn.bij.cnt fun i hi=>by rw[h.st1 hR hQ hi]
theorem RM.some1(h:RM Q ρ s s'):s'.some1 Q'=s.some1 Q:=by
 unfold MS.some1
 rw[hR.rn.n,hR.rn.bij.cnt (f:=s.el Q) (f':=s'.el Q') fun i hi=>h.el hR hQ hi]
theorem RM.stall(h:RM Q ρ s s'):s'.stall Q'=s.stall Q:=by
 unfold MS.stall
 rw[h.sur hR hQ,hR.om,h.since,h.bef]
theorem RM.fin(h:RM Q ρ s s'):s'.fin Q'=s.fin Q:=by
 unfold MS.fin
 rw[h.f1 hR hQ,h.h1 hR hQ,hR.rn.seats]
theorem RM.cut(h:RM Q ρ s s'):s'.cut Q'=s.cut Q:=by
 unfold MS.cut
 rw[h.some1 hR hQ,h.stall hR hQ]
theorem RM.near(h:RM Q ρ s s'){c:Nat}(hc:c<Q.P.n):s'.near Q' (ρ c)=s.near Q c:=by
 unfold MS.near
 rw[h.st c hc,h.v hR hQ hc,h.sur hR hQ,hR.rn.n]
 congr 1
 rw[xez,xbk,xbk]
 constructor
 ·intro hh k hk
  have:=hh (ρ k) (List.mem_range.2 (hR.rn.bij.lt k (List.mem_range.1 hk)))
  rw[h.st k (List.mem_range.1 hk),h.v hR hQ (List.mem_range.1 hk)]at this
  exact this
 ·intro hh k hk
  obtain⟨j,hj,rfl⟩:=hR.rn.bij.onto (List.mem_range.1 hk)
  rw[h.st j hj,h.v hR hQ hj]
  exact hh j (List.mem_range.2 hj)
theorem RM.tied(h:RM Q ρ s s'):Go.Proofs.YtmipjomnjkmdbaaGreat.Ren Q.P.n ρ (s.tied Q) (s'.tied Q'):=by
 unfold MS.tied
 rw[hR.rn.n]
 exact Ren.sel hR.rn.bij fun i hi=>h.near hR hQ hi
theorem RM.pick(h:RM Q ρ s s'){E E':List (List Rat)}(hE:All2 (RenV Q.P.n ρ) E E')(hne:s.tied Q≠ []):s'.pick Q' E'=rI ρ (s.pick Q E):=by
 have ht:=h.tied hR hQ
 unfold MS.pick
 rw[←ht.len,hR.rn.ties,hR.rn.lots]
 by_cases h1:(s.tied Q).length=1
 ·rw[if_pos h1,if_pos h1]
  exact ht.head hR.rn.bij h1
 ·rw[if_neg h1,if_neg h1]
  exact ht.tie hR.rn.bij hQ.P.lots (fun i hi=>(zok hQ.P).mem hi) (zcq _ _) (zcq _ _) hE _ hne
theorem RM.votes(h:RM Q ρ s s'):RenV Q.P.n ρ (s.rd0 Q).votes (s'.rd0 Q').votes:=fun i hi=>by
 show(lst (fun i=>frac (s'.v Q' i) Q'.one) Q'.P.n).getD (ρ i) 0=(lst (fun i=>frac (s.v Q i) Q.one) Q.P.n).getD i 0
 rw[hR.rn.n,zbb _ (hR.rn.bij.lt i hi),zbb _ hi,hR.one,h.v hR hQ hi]
theorem RM.rd0(h:RM Q ρ s s'){r r':Rd}(e1:r.votes=(s.rd0 Q).votes)(e2:r.el=(s.rd0 Q).el)(e1':r'.votes=(s'.rd0 Q').votes)(e2':r'.el=(s'.rd0 Q').el):RRd Q.P.n ρ r r':=by
 refine⟨by rw[e1,e1'];exact h.votes hR hQ,?_⟩
 rw[e2,e2']
 show Go.Proofs.YtmipjomnjkmdbaaGreat.Ren Q.P.n ρ (selI (s.el Q) Q.P.n) (selI (s'.el Q') Q'.P.n)
 rw[hR.rn.n]
 exact Ren.sel hR.rn.bij fun i hi=>h.el hR hQ hi
theorem RM.done(h:RM Q ρ s s'):RRd Q.P.n ρ (s.done Q) (s'.done Q'):=by
 refine⟨h.votes hR hQ,?_⟩
 unfold MS.done
 simp only
 rw[h.f1 hR hQ,hR.rn.seats,hR.rn.n]
 split
 ·exact Ren.sel hR.rn.bij fun i hi=>h.el hR hQ hi
 ·exact Ren.sel hR.rn.bij fun i hi=>by rw[h.el hR hQ hi,h.st1 hR hQ hi]
theorem RM.excl(h:RM Q ρ s s')(hI:MI Q s){E E':List (List Rat)}(hE:All2 (RenV Q.P.n ρ) E E'):RM Q ρ (s.excl Q E) (s'.excl Q' E'):=by
 obtain⟨x,x1,x2,x3⟩:=zhk hI E
 have hp:=h.pick hR hQ hE (near_ne hI)
 rw[x1]at hp
 have hx':(s'.pick Q' E').toNat=ρ x:=by rw[hp];rfl
 have hx:(s.pick Q E).toNat=x:=by rw[x1];rfl
 unfold MS.excl
 rw[hx,hx']
 refine⟨fun i hi=>?_,fun i hi=>?_,rfl,rfl⟩
 ·show upd s'.st (ρ x) 2 (ρ i)=upd s.st x 2 i
  unfold upd
  by_cases e:i=x
  ·subst e;rw[if_pos rfl,if_pos rfl]
  ·rw[if_neg e,if_neg fun e'=>e (hR.rn.bij.inj i x hi x2 e'),h.st i hi]
 ·show upd s'.kp (ρ x) 0 (ρ i)=upd s.kp x 0 i
  unfold upd
  by_cases e:i=x
  ·subst e;rw[if_pos rfl,if_pos rfl]
  ·rw[if_neg e,if_neg fun e'=>e (hR.rn.bij.inj i x hi x2 e'),h.kp i hi]
theorem RM.redu(h:RM Q ρ s s'):RM Q ρ (s.redu Q) (s'.redu Q'):=by
 refine⟨fun i hi=>h.st1 hR hQ hi,fun i hi=>?_,?_,?_⟩
 ·show s'.kp1 Q' (ρ i)=s.kp1 Q i
  unfold MS.kp1
  rw[h.st1 hR hQ hi,h.v hR hQ hi,h.kp i hi,h.quo hR hQ,hR.one]
 ·show(if s'.some1 Q' then 0 else s'.since+1)=if s.some1 Q then 0 else s.since+1
  rw[h.some1 hR hQ,h.since]
 ·show some (s'.sur Q')=some (s.sur Q)
  rw[h.sur hR hQ]
end
theorem renM_tr{Q Q':MP}{ρ:Nat→Nat}(hR:RQ Q Q' ρ)(hQ:Q.OK)(hQ':Q'.OK){s:MS}{rs rest:List Rd}(h:MTr Q s rs rest):∀{s':MS} {rs':List Rd},MRun Q' s' rs'→RM Q ρ s s'→All2 (RenV Q.P.n ρ) (rs.map Rd.votes) (rs'.map Rd.votes)→∃rest',MTr Q' s' rs' rest'∧All2 (RRd Q.P.n ρ) rest rest':=by
 induction h with
 | @fin s rs hr hf=>
  intro s' rs' hr' hS hE
  exact⟨_,.fin hr' (by rw[hS.fin hR hQ];exact hf),.cons (hS.done hR hQ) .nil⟩
 | @excl s rs rest hr hf hc h ih=>
  intro s' rs' hr' hS hE
  have hf':s'.fin Q'=false:=by rw[hS.fin hR hQ];exact hf
  have hc':s'.cut Q'=true:=by rw[hS.cut hR hQ];exact hc
  have hrd:=hS.rd0 hR hQ (r:=s.exR Q (rs.map Rd.votes)) (r':=s'.exR Q' (rs'.map Rd.votes)) rfl rfl rfl rfl
  obtain⟨rest',h1,h2⟩:=ih (hr'.excl hQ' hf' hc') (hS.excl hR hQ hr.inv hE) (by
   rw[zlm,zlm]
   exact zks hE hrd.votes)
  exact⟨_,.excl hr' hf' hc' h1,.cons hrd h2⟩
 | @redu s rs rest hr hf hc h ih=>
  intro s' rs' hr' hS hE
  have hf':s'.fin Q'=false:=by rw[hS.fin hR hQ];exact hf
  have hc':s'.cut Q'=false:=by rw[hS.cut hR hQ];exact hc
  have hrd:=hS.rd0 hR hQ (r:=s.rd0 Q) (r':=s'.rd0 Q') rfl rfl rfl rfl
  obtain⟨rest',h1,h2⟩:=ih (hr'.redu hQ' hf' hc') (hS.redu hR hQ) (by
   rw[zlm,zlm]
   exact zks hE hrd.votes)
  exact⟨_,.redu hr' hf' hc' h1,.cons hrd h2⟩
theorem mtr_mcount{Q:MP}{s:MS}{rs rest:List Rd}(h:MTr Q s rs rest):rs++rest=zcg Q:=by
 induction h with
 |fin hr hf=>exact hr.fin hf
 |excl hr hf hc h ih=>rw[←ih,xci];rfl
 |redu hr hf hc h ih=>rw[←ih,xci];rfl
theorem RM.start{Q Q':MP}{ρ:Nat→Nat}(hR:RQ Q Q' ρ):RM Q ρ Q.s0 Q'.s0:=⟨fun _ _=>rfl,fun _ _=>hR.one,rfl,rfl⟩
theorem renM_count{Q Q':MP}{ρ:Nat→Nat}(hR:RQ Q Q' ρ)(hQ:Q.OK)(hQ':Q'.OK):(zcg Q).length=(zcg Q').length∧∀i,i<Q.P.n→((i:Int)∈(zcg Q).flatMap Rd.el↔((ρ i:Nat):Int)∈(zcg Q').flatMap Rd.el):=by
 obtain⟨rest',h1,h2⟩:=renM_tr hR hQ hQ' (ziw hQ) (MRun.start hQ') (RM.start hR) .nil
 have:=mtr_mcount h1
 rw[xck]at this
 subst this
 exact⟨all2_len h2,fun i hi=>rrd_el h2 hi⟩
theorem d15_true{p0 p1 p2 p3 p4 p5:Int}{p6:List (List Int)}(h0:WT (.int .i64) p0)(h1:WT (.int .i64) p1)(h2:WT (.int .i64) p2)(h3:WT (.int .i64) p3)(h4:WT (.int .i64) p4)(h5:WT (.int .i64) p5)(hl:p6.length≤281474976710656)(hw:∀x∈p6,WT (.slice (.int .i64)) x):d15 p0 p1 p2 p3 p4 p5 p6=some true:=by
 unfold d15
 rw[d54_eq p6 hl,xab]
 cases hfew:(decide (∀x∈p6,x.length≤12)&&decide (p6.length≤24))
 ·rw[d55_eq];rfl
 rw[xaq,xaf,zgp h0 (by omega) (by omega),xab]
 obtain⟨n,hn1,hn7,hw1⟩:=law_start h0
 rw[hw1]
 obtain⟨c,lots,e62,hC,e27,cs,cd,ct⟩:=d62_eq (n:=n) hn1 hn7 h1 h2 h3 h4 hl hw
 obtain⟨to,t1,t2,t3⟩:=d27_eq (n:=n) (by omega) h5
 rw[e62,xab,t1,xab]
 generalize zdk (bals (n:Int) p6 24)=gs at hC ⊢
 have h7:=hC.n7
 have hll:=hC.len
 obtain⟨hp',_⟩:=ren_pile t3 t2 hC.pile
 have hrl:isB (n:Int) (lots.map (ren to)):=ren_isB t3 t2 hC.perm
 have hC':CntM n c (renG to gs gs.length) (lots.map (ren to)) _:=CntM.mk' hC.con hC.n1 h7 hp' (by rw[xba,hll]) hrl
 simp only[d42_eq h7 t3 t2 hC.pile,e27,xab,d43_eq h7 t3 t2 hC.perm,hC'.d56,zan]
 have hRN:RQ (mqOf c gs lots) (mqOf c (renG to gs gs.length) (lots.map (ren to))) (ρof to):=⟨rn_of h7 t3 t2 hC.cands hC.pile hC.perm,rfl,rfl⟩
 have hQ:=hC.mq.ok
 have hQ':=hC'.mq.ok
 have hPn:=hC.cands
 generalize mqOf c gs lots=Q at hRN hQ hPn ⊢
 generalize mqOf c (renG to gs gs.length) (lots.map (ren to))=Q' at hRN hQ' ⊢
 obtain⟨hlen,hmem⟩:=renM_count hRN hQ hQ'
 have hwl:=winM_len hQ
 have hwb:=winM_isB hQ
 have hwl':=winM_len hQ'
 have hwb':=winM_isB hQ'
 have hne:=xct.2 (mcount_ne hQ)
 have hs5:=hQ.P.seats5
 have hs5':=hQ'.P.seats5
 have hTr:(trM c Q).2.2.2.2.1.length=(zcg Q).length:=xba ..
 have hTr':(trM c Q').2.2.2.2.1.length=(zcg Q).length:=by rw[hlen];exact xba ..
 have hTw:(trM c Q).2.2.2.2.2=(zcg Q).flatMap Rd.el:=rfl
 have hTw':(trM c Q').2.2.2.2.2=(zcg Q').flatMap Rd.el:=rfl
 rw[hPn]at hwb hmem
 have hPn':Q'.P.n=n:=by rw[hRN.rn.n,hPn]
 rw[hPn']at hwb'
 generalize(zcg Q).flatMap Rd.el=W at hwl hwb hmem hTw
 generalize(zcg Q').flatMap Rd.el=W' at hwl' hwb' hmem hTw'
 have hset:selI (fun i=>decide ((i:Int)∈W')) 12=selI (fun i=>decide ((i:Int)∈W.map (ren to))) 12:=znr (fun i=>by
  rw[←zpp t3 t2 hwb]
  constructor
  ·intro h
   have hi:=hwb'.2 _ h
   obtain⟨j,hj,rfl⟩:=(ρof_bij t3 t2).onto (show i<n by omega)
   exact xcw.2 ⟨(j:Int),(hmem j hj).2 h,rfl⟩
  ·intro h
   obtain⟨x,hx,e⟩:=xcw.1 h
   have hb:=hwb.2 x hx
   obtain⟨j,rfl⟩:∃j:Nat,x=(j:Int):=⟨x.toNat,by omega⟩
   rw[←e]
   exact(hmem j (by omega)).1 hx) 12
 have hWl:W.length≤100:=by omega
 have hWl':W'.length≤100:=by omega
 have hcn:=zcd (fun i=>decide ((i:Int)∈W.map (ren to))) 12
 have hsl:(selI (fun i=>decide ((i:Int)∈W.map (ren to))) 12).length≤281474976710656:=by rw[zay];omega
 simp only[hTr,hTr',hTw,hTw',xax,xaq,xao,xad,d32_eq (n:Int) (show W.length≤281474976710656 by omega),decide_eq_true hwb,xab,decide_eq_false (show ¬(((zcg Q).length:Nat):Int)=0 by omega),xaf,d55_eq,d44_eq (show W'.length≤281474976710656 by omega),d43_eq h7 t3 t2 hwb,d44_eq (l:=W.map (ren to)) (by rw[xba];omega),hset,d38_eq hsl hsl]
end Go.Proofs.YtmipjomnjkmdbaaGreat
namespace Go.Proofs.YtmipjomnjkmdbaaGreat
open Go Go.X
theorem gpOf_congr{c c':CT}(gs:List Grp)(lots:List Int)(h1:c.2.1.length=c'.2.1.length)(h2:c.2.2.2.1=c'.2.2.2.1)(h3:c.2.2.2.2.2.2.1=c'.2.2.2.2.2.2.1):gpOf c gs lots=gpOf c' gs lots:=by
 unfold gpOf
 rw[h1,h2,h3]
end Go.Proofs.YtmipjomnjkmdbaaGreat
namespace Go.Proofs.YtmipjomnjkmdbaaGreat
open Go Go.X
theorem zqe{P:GP}{st st':Nat→Nat}(h:∀i,st i=0↔st' i=0):iv P st=iv P st':=by
 funext c
 unfold iv GS.lie
 refine zaj fun g _=>?_
 have e:(pl P st).on P g c=(pl P st').on P g c:=by
  unfold GS.on
  show(decide (nxt (P.p g) st 0<_)&&decide ((P.p g).getD (nxt (P.p g) st 0) 0=_))=(decide (nxt (P.p g) st' 0<_)&&decide ((P.p g).getD (nxt (P.p g) st' 0) 0=_))
  rw[nxt_congr h]
 rw[e];rfl
theorem zng{st st':Nat→Nat}(h:∀i,st i=0↔st' i=0)(i:Nat):decide (st i=0)=decide (st' i=0):=xcj.2 (h i)
theorem zmv{P:GP}{st st':Nat→Nat}(h:∀i,st i=0↔st' i=0):zcj P st=zcj P st':=zof fun i _=>zng h i
theorem iwin_congr{P:GP}{st st':Nat→Nat}(h:∀i,st i=0↔st' i=0):iwin P st=iwin P st':=by
 unfold iwin iquo zhu
 rw[zmv h,zqe h]
theorem itied_congr{P:GP}{st st':Nat→Nat}(h:∀i,st i=0↔st' i=0):zec P st=zec P st':=by
 unfold zec
 refine zeh fun i _=>?_
 unfold topsP
 rw[zng h i,zqe h]
 congr 2
 funext k
 rw[zng h k]
theorem ipick_congr{P:GP}{E:List (List Rat)}{st st':Nat→Nat}(h:∀i,st i=0↔st' i=0):zja P E st=zja P E st':=by
 unfold zja
 rw[itied_congr h]
theorem zkr{P:GP}:∀(k:Nat) {rs rs':List Rd} {st st':Nat→Nat},(∀i,st i=0↔st' i=0)→rs.map Rd.votes=rs'.map Rd.votes→rs.flatMap Rd.el=rs'.flatMap Rd.el→(irun P k rs st).flatMap Rd.el=(irun P k rs' st').flatMap Rd.el
 | 0,_,_,_,_,_,_,h=>h
 |k+1,rs,rs',st,st',h,hv,he=>by
  rw[irun,irun,iwin_congr h]
  cases iwin P st' with
  |some x=>
   simp only[xdp,he]
   rfl
  |none=>
   simp only
   have hi:zja P (rs.map Rd.votes) st=zja P (rs'.map Rd.votes) st':=by rw[hv,ipick_congr h]
   rw[hi]
   refine zkr k (fun i=>?_) ?_ ?_
   ·unfold upd
    split
    ·exact Iff.rfl
    ·exact h i
   ·rw[xcb,xcb,hv]
    have:(irdX P (rs'.map Rd.votes) st).votes=(irdX P (rs'.map Rd.votes) st').votes:=by
     show lst (fun i=>(iv P st i:Rat)) P.n=lst (fun i=>(iv P st' i:Rat)) P.n
     rw[zqe h]
    simp only[xcx,xgo,this]
   ·rw[xdp,xdp,he];rfl
variable {Q:MP} {s:MS}
theorem mgive_top{one:Nat}(h1:0<one){kp st:Nat→Nat}(hk:∀c,kp c=if st c=0 then one else 0)(p:List Int)(c:Nat):zib one kp p c=if decide (nxt p st 0<p.length)&&decide (p.getD (nxt p st 0) 0=(c:Int))then one else 0:=by
 obtain⟨a,ha⟩:∃a,nxt p st 0=a:=⟨_,rfl⟩
 rw[ha]
 have hle:a≤p.length:=by rw[←ha];exact nxt_le st (xbo _)
 have hb:∀j,j<a→kp (p.getD j 0).toNat=0:=fun j hj=>by
  rw[hk,if_neg (nxt_before (st:=st) (xbo j) (by rw[ha];exact hj))]
 have hw:∀j,j≤a→mw one kp p j=one:=by
  intro j
  induction j with
  |zero=>intro _;rfl
  |succ j ih=>
   intro hj
   show mw one kp p j-mup (mw one kp p j*kp (p.getD j 0).toNat) one=one
   rw[hb j (by omega),xfp,zpy h1,ih (by omega)]
   omega
 have hp0:∀j,j<a→zdg one kp p j=0:=fun j hj=>by
  unfold zdg
  rw[hb j hj,xfp,zpy h1]
 have hpa:a<p.length→zdg one kp p a=one:=fun h=>by
  unfold zdg
  have hs:st (p.getD a 0).toNat=0:=by rw[←ha];exact nxt_at (by rw[ha];exact h)
  rw[hw a (Nat.le_refl _),hk,if_pos hs,mup_mul h1]
 have hwz:a<p.length→∀j,a<j→mw one kp p j=0:=fun h j=>by
  induction j with
  |zero=>intro hj;omega
  |succ j ih=>
   intro hj
   show mw one kp p j-zdg one kp p j=0
   by_cases e:j=a
   ·subst e;rw[hpa h,hw j (Nat.le_refl _)];omega
   ·rw[ih (by omega)];omega
 have hpz:a<p.length→∀j,a<j→zdg one kp p j=0:=fun h j hj=>by
  unfold zdg
  rw[hwz h j hj,xem,zpy h1]
 unfold zib
 by_cases h:a<p.length
 ·have:∀j,j<p.length→(if p.getD j 0=(c:Int)then zdg one kp p j else 0)=if j=a then(if p.getD a 0=(c:Int)then one else 0)else 0:=fun j hj=>by
   by_cases e:j=a
   ·subst e;rw[if_pos rfl,hpa h]
   ·rw[if_neg e]
    have:zdg one kp p j=0:=by
     by_cases hja:j<a
     ·exact hp0 j hja
     ·exact hpz h j (by omega)
    rw[this];split<;>rfl
  rw[zaj this,zlh,if_pos h,decide_eq_true h,xbg]
  by_cases e:p.getD a 0=(c:Int)
  ·rw[if_pos e,decide_eq_true e];rfl
  ·rw[if_neg e,decide_eq_false e];rfl
 ·rw[decide_eq_false h,xbn]
  refine(zaj (g:=fun _=>0) fun j hj=>?_).trans (zdr _)
  rw[hp0 j (by omega)]
  split<;>rfl
def NoEl(s:MS):Prop:=∀c,s.st c≠1
theorem v_iv(hQ:Q.OK)(hI:MI Q s)(hn:NoEl s)(c:Nat):s.v Q c=iv Q.P s.st c*Q.one:=by
 have hk:∀c,s.kp c=if s.st c=0 then Q.one else 0:=fun c=>by
  have h2:=hI.st2 c
  have h1:=hn c
  by_cases h:s.st c=0
  ·rw[if_pos h,hI.hop c h]
  ·rw[if_neg h,hI.exc c (by omega)]
 unfold MS.v mvo iv GS.lie
 rw[←zfs]
 refine zaj fun g _=>?_
 rw[mgive_top hQ.one1 hk]
 show _=(if(decide (nxt (Q.P.p g) s.st 0<(Q.P.p g).length)&&decide ((Q.P.p g).getD (nxt (Q.P.p g) s.st 0) 0=(c:Int)))=true then Q.P.k g*1 else 0)*Q.one
 split
 ·rw[xdk]
 ·simp
theorem vsum_iv(hQ:Q.OK)(hI:MI Q s)(hn:NoEl s):sumN (s.v Q) Q.P.n=zhu Q.P s.st*Q.one:=by
 unfold zhu
 rw[←zfs]
 exact zaj fun i _=>v_iv hQ hI hn i
theorem zim(hQ:Q.OK)(hI:MI Q s)(hn:NoEl s)(hq:Q.P.seats=1)(i:Nat):s.reach Q i=true↔s.st i=0∧zhu Q.P s.st<2*iv Q.P s.st i:=by
 unfold MS.reach MS.quo
 rw[xae,xag,xag,v_iv hQ hI hn,vsum_iv hQ hI hn,hq]
 refine and_congr_right fun _=>?_
 have h1:=hQ.one1
 have h2:zhu Q.P s.st<2*iv Q.P s.st i↔zhu Q.P s.st*Q.one<2*iv Q.P s.st i*Q.one:=(Nat.mul_lt_mul_right h1).symm
 rw[h2,xbi]
 omega
theorem noel_fl(hn:NoEl s):s.fl Q=0:=by
 refine xdc fun h=>?_
 obtain⟨i,_,h2⟩:=zey.1 h
 exact hn i (of_decide_eq_true h2)
theorem two_half{st:Nat→Nat}{P:GP}{i k:Nat}(hi:i<P.n)(hk:k<P.n)(hne:i≠k)(h1:zhu P st<2*iv P st i)(h2:zhu P st<2*iv P st k):False:=by
 have h3:=sum_two (f:=iv P st) hi hk hne
 have h4:sumN (iv P st) P.n=zhu P st:=rfl
 omega
theorem zqo(hQ:Q.OK)(hI:MI Q s)(hn:NoEl s)(hq:Q.P.seats=1){i:Nat}(hi:i<Q.P.n):s.el Q i=s.reach Q i:=by
 unfold MS.el
 rw[noel_fl hn,hq]
 cases hr:s.reach Q i
 ·rfl
 ·rw[xbg]
  refine decide_eq_true ?_
  have:s.rank Q i=0:=by
   refine xdc fun h=>?_
   obtain⟨k,hk,h2⟩:=zey.1 h
   rw[xae]at h2
   by_cases e:k=i
   ·subst e;rw[zpd]at h2;exact absurd h2.2 (by simp)
   ·exact two_half hk hi e ((zim hQ hI hn hq k).1 h2.1).2 ((zim hQ hI hn hq i).1 hr).2
  omega
theorem doneM_one(hQ:Q.OK)(hI:MI Q s)(hn:NoEl s)(hq:Q.P.seats=1){x:Nat}(hw:iwin Q.P s.st=some x):s.fin Q=true∧(s.done Q).el=[(x:Int)]:=by
 have hL:=iwin_some (s:={g0 with st:=s.st}) hQ.P hw
 have hx:=hL.lt
 have hx0:s.st x=0:=hL.st
 have hfl:=noel_fl (Q:=Q) hn
 have hf1:=f1_eq (Q:=Q) (s:=s)
 have hhow:(∀i,i<Q.P.n→s.st i=0→i=x)∨zhu Q.P s.st<2*iv Q.P s.st x:=hL.how
 have huniq:∀i,i<Q.P.n→s.el Q i=true→i=x:=fun i hi he=>by
  rw[zqo hQ hI hn hq hi]at he
  obtain⟨h0,h2⟩:=(zim hQ hI hn hq i).1 he
  rcases hhow with h|h
  ·exact h i hi h0
  ·exact xdv fun hne=>two_half hi hx hne h2 h
 cases hex:s.el Q x with
 |true=>
  have hsel:selI (s.el Q) Q.P.n=[(x:Int)]:=zlj hx hex huniq
  have hcnt:cntN (s.el Q) Q.P.n=1:=by rw[←zay,hsel];rfl
  have h1:s.f1 Q=Q.P.seats:=by omega
  refine⟨by unfold MS.fin;rw[decide_eq_true h1];rfl,?_⟩
  unfold MS.done
  show(if s.f1 Q=Q.P.seats then _ else _)=_
  rw[if_pos h1,hsel]
 |false=>
  have hall:∀i,i<Q.P.n→s.st i=0→i=x:=by
   rcases hhow with h|h
   ·exact h
   ·exfalso
    rw[zqo hQ hI hn hq hx]at hex
    rw[(zim hQ hI hn hq x).2 ⟨hx0,h⟩]at hex
    cases hex
  have hel:∀i,i<Q.P.n→s.el Q i=false:=fun i hi=>by
   cases he:s.el Q i
   ·rfl
   ·rw[huniq i hi he,hex]at he;cases he
  have hst:∀i,i<Q.P.n→s.st1 Q i=s.st i:=fun i hi=>by unfold MS.st1;rw[hel i hi];rfl
  have hs1:selI (fun i=>s.el Q i||decide (s.st1 Q i=0)) Q.P.n=[(x:Int)]:=zlj hx (by rw[hst x hx,hx0];simp) fun i hi h=>by
   rw[hel i hi,xbj,hst i hi,xag]at h
   exact hall i hi h
  have hc0:cntN (s.el Q) Q.P.n=0:=by
   refine xdc fun h=>?_
   obtain⟨i,hi,he⟩:=zey.1 h
   rw[hel i hi]at he;cases he
  have hh1:s.h1 Q=1:=by
   have:selI (fun i=>decide (s.st1 Q i=0)) Q.P.n=[(x:Int)]:=zlj hx (by rw[hst x hx,hx0];rfl) fun i hi h=>hall i hi (by rw[←hst i hi];exact of_decide_eq_true h)
   have:=xbb List.length this
   rw[zay]at this
   exact this
  have hne:¬s.f1 Q=Q.P.seats:=by omega
  refine⟨by unfold MS.fin;rw[decide_eq_true (show s.f1 Q+s.h1 Q≤Q.P.seats by omega),Bool.or_true],?_⟩
  unfold MS.done
  show(if s.f1 Q=Q.P.seats then _ else _)=_
  rw[if_neg hne,hs1]
theorem zoc(hQ:Q.OK)(hq:Q.P.seats=1):∀(k:Nat) {s:MS} {rs rest rs':List Rd},MTr Q s rs rest→NoEl s→rs'.map Rd.votes=rs.map Rd.votes→0<(zcj Q.P s.st).length→(zcj Q.P s.st).length≤k→∃x:Nat,rest.flatMap Rd.el=[(x:Int)]∧(irun Q.P k rs' s.st).flatMap Rd.el=rs'.flatMap Rd.el++[(x:Int)]
 | 0,s,rs,rest,rs',_,_,_,h1,h2=>by omega
 |k+1,s,rs,rest,rs',h,hn,hE,h1,h2=>by
  have hI:=h.run.inv
  rw[irun]
  cases hw:iwin Q.P s.st with
  |some x=>
   obtain⟨hf,hd⟩:=doneM_one hQ hI hn hq hw
   refine⟨x,?_,?_⟩
   ·cases h with
    |fin hR hf'=>rw[xcy,xff,xbw];exact hd
    |excl hR hf'=>rw[hf]at hf';cases hf'
    |redu hR hf'=>rw[hf]at hf';cases hf'
   ·simp only[xdp,xcy,xff,xbw]
    rfl
  |none=>
   obtain⟨n1,n2⟩:=iwin_none (P:=Q.P) (s:={g0 with st:=s.st}) hw
   have n1:(zcj Q.P s.st).length≠1:=n1
   have n2:∀i,i<Q.P.n→s.st i=0→iv Q.P s.st i<iquo Q.P s.st:=n2
   have hel:∀i,i<Q.P.n→s.el Q i=false:=fun i hi=>by
    rw[zqo hQ hI hn hq hi]
    cases hr:s.reach Q i
    ·rfl
    ·obtain⟨h0,h3⟩:=(zim hQ hI hn hq i).1 hr
     have:=n2 i hi h0
     unfold iquo at this
     omega
   have hs1:s.some1 Q=false:=some1_iff.2 hel
   have hc0:cntN (s.el Q) Q.P.n=0:=by rw[←zay,el_nil hs1];rfl
   have hfl:=noel_fl (Q:=Q) hn
   have hf1:=f1_eq (Q:=Q) (s:=s)
   have hh1:=h1_eq (Q:=Q) (s:=s)
   have hlen:(zcj Q.P s.st).length=cntN (fun i=>decide (s.st i=0)) Q.P.n:=zcc _ _
   have hf:s.fin Q=false:=by
    unfold MS.fin
    rw[xbx,xav,xav]
    omega
   have hsur:s.sur Q=0:=by
    unfold MS.sur
    refine(zaj (g:=fun _=>0) fun i hi=>?_).trans (zdr _)
    rw[if_neg]
    rw[(el_out hs1 hi).2]
    exact hn i
   have hc:s.cut Q=true:=by
    unfold MS.cut MS.stall
    rw[hs1,hsur,decide_eq_true hQ.om]
    simp
   have htied:s.tied Q=zec Q.P s.st:=by
    refine zeh fun i hi=>?_
    unfold MS.near topsP
    congr 1
    congr 1
    funext k
    congr 1
    rw[hsur,v_iv hQ hI hn,v_iv hQ hI hn,xdg]
    simp only[xaw,if_false]
    exact xcj.2 (Nat.mul_le_mul_right_iff hQ.one1)
   cases h with
   |fin hR hf'=>rw[hf]at hf';cases hf'
   |redu hR hf' hc'=>rw[hc]at hc';cases hc'
   | @excl s rs rest hR hf' hc' h=>
    obtain⟨x,x1,x2,x3⟩:=zhk hI (rs.map Rd.votes)
    have hpk:s.pick Q (rs.map Rd.votes)=zja Q.P (rs.map Rd.votes) s.st:=by
     unfold MS.pick zja
     rw[htied]
    have hpx:zja Q.P (rs.map Rd.votes) s.st=(x:Int):=by rw[←hpk];exact x1
    have hst:(s.excl Q (rs.map Rd.votes)).st=upd s.st x 2:=by
     unfold MS.excl
     rw[x1,xaj]
    have hzero:∀i,upd s.st x 3 i=0↔(s.excl Q (rs.map Rd.votes)).st i=0:=fun i=>by
     rw[hst]
     unfold upd
     split
     ·omega
     ·exact Iff.rfl
    have hlu:=left_upd (P:=Q.P) x2 x3
    rw[zmv hzero]at hlu
    have hnE:NoEl (s.excl Q (rs.map Rd.votes)):=fun c=>by
     rw[hst]
     unfold upd
     split
     ·omega
     ·exact hn c
    have hv:(irdX Q.P (rs'.map Rd.votes) s.st).votes=(s.rd0 Q).votes:=by
     show lst (fun i=>(iv Q.P s.st i:Rat)) Q.P.n=lst (fun i=>frac (s.v Q i) Q.one) Q.P.n
     refine zbi fun i _=>?_
     rw[v_iv hQ hI hn,frac_self hQ.one1]
    obtain⟨y,y1,y2⟩:=zoc hQ hq k (rs':=rs'++[irdX Q.P (rs'.map Rd.votes) s.st]) h hnE (by
     rw[xcb,xcb,hE]
     congr 1
     exact xbb (fun v=>[v]) (by rw[←hE];exact hv)) (by omega) (by omega)
    refine⟨y,?_,?_⟩
    ·rw[xcy,y1]
     show selI (s.el Q) Q.P.n++_=_
     rw[el_nil hs1];rfl
    ·simp only
     rw[zkr k (rs':=rs'++[irdX Q.P (rs'.map Rd.votes) s.st]) (st':=(s.excl Q (rs.map Rd.votes)).st) (fun i=>by rw[hE,hpx,xaj];exact hzero i) rfl rfl,y2]
     simp only[xdp,xcy,xff,xbw]
     show _++[]++_=_
     rw[xbw]
theorem singleM_win(hQ:Q.OK)(hq:Q.P.seats=1):∃x:Nat,(zcg Q).flatMap Rd.el=[(x:Int)]∧(icount Q.P).flatMap Rd.el=[(x:Int)]:=by
 have hl:(zcj Q.P Q.s0.st).length=Q.P.n:=by
  unfold zcj
  rw[zcc]
  have key:∀n,sumN (fun _=>1) n=n:=fun n=>by
   induction n with
   |zero=>rfl
   |succ n ih=>rw[sumN,ih]
  exact(zaj (g:=fun _=>1) fun i _=>rfl).trans (key _)
 have h1:=hQ.P.n1
 obtain⟨x,x1,x2⟩:=zoc hQ hq Q.P.n (rs':=[]) (ziw hQ) (fun c=>by show(0:Nat)≠1;omega) rfl (by omega) (by omega)
 rw[xff,xck]at x2
 exact⟨x,x1,x2⟩
theorem d18_true{p0 p1 p2 p3:Int}{p4:List (List Int)}(h0:WT (.int .i64) p0)(h1:WT (.int .i64) p1)(h2:WT (.int .i64) p2)(h3:WT (.int .i64) p3)(hl:p4.length≤281474976710656)(hw:∀x∈p4,WT (.slice (.int .i64)) x):d18 p0 p1 p2 p3 p4=some true:=by
 unfold d18
 rw[d54_eq p4 hl,xab]
 cases hfew:(decide (∀x∈p4,x.length≤12)&&decide (p4.length≤24))
 ·rw[d55_eq];rfl
 have k:∀x:Int,-9223372036854775808≤x→x≤9223372036854775807→WT (.int .i64) x:=fun x h0 h1=>zbf h0 h1
 rw[xaq,xaf,zgp h0 (by omega) (by omega),xab]
 obtain⟨n,hn1,hn7,hw1⟩:=law_start h0
 rw[hw1]
 obtain⟨c,lots,e62,hC,e27,cs,cd,ct⟩:=d62_eq (n:=n) hn1 hn7 (k 0 (by omega) (by omega)) h1 h2 h3 hl hw
 obtain⟨c',e25,c2,c3,c4⟩:=d25_eq (n:=n) (by omega) (m:=0) (seats:=0) (digits:=0) (ties:=p2) (k 0 (by omega) (by omega)) (k 0 (by omega) (by omega)) (k 0 (by omega) (by omega)) h2
 rw[e62,xab,e25,xab,e27,xab]
 generalize zdk (bals (n:Int) p4 24)=gs at hC ⊢
 have hfit:fitE 1 c' gs lots=0:=zje c2 (by omega) (by omega) hC.n1 hC.n7 hC.pile hC.len hC.perm
 have hll:=hC.len
 have hcs:c.2.2.2.1=1:=by rw[cs];rfl
 have e53:=d53_eq (c:=c') (lots:=lots) (gs_of hC.n7 hC.pile) (by omega)
 rw[if_pos hfit,gpOf_congr gs lots (c':=c) (by rw[c2.names,hC.con.names]) (by rw[c3,hcs];rfl) (by rw[c4,ct])]at e53
 rw[e53,xab,d55_eq,xab]
 have hok:=hC.mq.ok
 have hPs:=hC.mq.seats
 have hPP:(mqOf c gs lots).P=gpOf c gs lots:=rfl
 rw[←hPP]
 generalize mqOf c gs lots=Q at hok hPs ⊢
 have hseat:Q.P.seats=1:=by omega
 obtain⟨x,x1,x2⟩:=singleM_win hok hseat
 have hT:(trM c Q).2.2.2.2.2=[(x:Int)]:=x1
 have hI:(trI Q.P).2.2.2.2.2=[(x:Int)]:=x2
 simp only[hT,hI,xax,xad,show decide ((([(x:Int)]:List Int).length:Int)=1)=true from rfl,d38_eq (a:=[(x:Int)]) (b:=[(x:Int)]) (by simp) (by simp),xab]
end Go.Proofs.YtmipjomnjkmdbaaGreat
