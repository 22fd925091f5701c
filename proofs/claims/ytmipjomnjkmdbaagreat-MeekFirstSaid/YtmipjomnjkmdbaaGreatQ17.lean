/- Part 17 of what stands below the statement. -/
import Derived.Test.YtmipjomnjkmdbaaGreatRows
import Derived.ProofKit
import Derived.Test.YtmipjomnjkmdbaaGreatQ16
set_option linter.unusedSimpArgs false
set_option linter.unusedVariables false
namespace Go.Proofs.YtmipjomnjkmdbaaGreat
open Go Go.X
theorem swap_eq (A:List Int) (y x:Int) (T:List Int):((A++y::x::T).set (A.length+1) y).set A.length x=A++x::y::T:=by
  rw [List.set_append_right _ _ (by omega),show A.length+1 - A.length=1 by omega]
  rw [List.set_append_right _ _ (by omega),Nat.sub_self]
  rfl
theorem getD_mid (A:List Int) (y:Int) (T:List Int):(A++y::T).getD A.length 0=y:=by
  rw [List.getD_eq_getElem?_getD,List.getElem?_append_right (Nat.le_refl _),Nat.sub_self]; rfl
theorem getD_mid1 (A:List Int) (y x:Int) (T:List Int):(A++y::x::T).getD (A.length+1) 0=x:=by
  rw [List.getD_eq_getElem?_getD,List.getElem?_append_right (by omega),show A.length+1 - A.length=1 by omega]; rfl
noncomputable def insF:(List Int) × Int × Int × (Int→Int→Option Int) × Int × Int→Option (((List Int) × Int × Int × (Int→Int→Option Int) × Int × Int) ⊕ ((List Int) × Int × Int × (Int→Int→Option Int) × Int)):=fun ((data_2,a_2,b_2,cmp_2,i_1,j_):(List Int) × Int × Int × (Int→Int→Option Int) × Int × Int) =>
            letJ (fun ((data_3,a_3,b_3,cmp_3,i_2,j__1,t34):(List Int) × Int × Int × (Int→Int→Option Int) × Int × Int × Bool) =>
                bif t34 then
                  bif (decide (0≤(w (j__1 - 1))) && decide ((w (j__1 - 1)) < (data_3.length:Int))) then
                    bif (decide (0≤j__1) && decide (j__1 < (data_3.length:Int))) then
                      bif (decide (0≤j__1) && decide (j__1 < (data_3.length:Int))) then
                        bif (decide (0≤(w (j__1 - 1))) && decide ((w (j__1 - 1)) < ((List.set data_3 (Int.toNat j__1) (List.getD data_3 (Int.toNat (w (j__1 - 1))) 0)).length:Int))) then
                          some (Sum.inl ((List.set (List.set data_3 (Int.toNat j__1) (List.getD data_3 (Int.toNat (w (j__1 - 1))) 0)) (Int.toNat (w (j__1 - 1))) (List.getD data_3 (Int.toNat j__1) 0)),a_3,b_3,cmp_3,i_2,(w (j__1 - 1))))
                        else none
                      else none
                    else none
                  else none
                else
                  some (Sum.inr (data_3,a_3,b_3,cmp_3,i_2))) fun j__2 =>
            bif (decide (a_2 < j_)) then
              bif (decide (0≤j_) && decide (j_ < (data_2.length:Int))) then
                bif (decide (0≤(w (j_ - 1))) && decide ((w (j_ - 1)) < (data_2.length:Int))) then
                  (cmp_2 (List.getD data_2 (Int.toNat j_) 0) (List.getD data_2 (Int.toNat (w (j_ - 1))) 0)).bind fun r =>
                  j__2 (data_2,a_2,b_2,cmp_2,i_1,j_,(decide (r < 0)))
                else none
              else none
            else
              j__2 (data_2,a_2,b_2,cmp_2,i_1,j_,false)
theorem d228_ex {l:List Int} {cmp:Int→Int→Option Int} {g:Int→Int→Int} (hl:l.length≤1000) (hn:l.Nodup) (hc:∀ a∈l,∀ b∈l,cmp a b=some (g a b)) (ht:∀ a∈l,∀ b∈l,a ≠ b→g a b < 0∨g b a < 0) (htr:∀ a∈l,∀ b∈l,∀ c∈l,g a b < 0→g b c < 0→g a c < 0) :
    ∃ L,d228 l 0 (l.length:Int) cmp=some L∧L.Perm l∧L.Pairwise fun a b=>g a b < 0:=by
  cases l with
  | nil =>
    refine ⟨[],?_,List.Perm.refl _,by simp⟩
    unfold d228
    refine zaf (fun i=>([],0,(([]:List Int).length:Int),cmp,w (0+1))) 0 rfl (fun i hi=>by omega) (b:=([]:List Int)) ?_ rfl
    rfl
  | cons x0 l0 =>
  generalize hll:x0::l0=l at *
  have hpos:1≤l.length:=by rw [← hll]; simp
  unfold d228
  refine zbv (Q:=fun (r:Option (List Int))=>∃ L:List Int,r=some L∧L.Perm l∧L.Pairwise fun a b=>g a b < 0) (fun (i:Nat) (st:(List Int) × Int × Int × (Int→Int→Option Int) × Int)=>∃ S:List Int,st=(S++l.drop (i+1),0,(l.length:Int),cmp,((i+1:Nat):Int))∧S.Perm (l.take (i+1))∧(S.Pairwise fun a b=>g a b < 0)) (l.length - 1) ?_ ?_ ?_
  · refine ⟨l.take 1,by rw [List.take_append_drop]; rfl,List.Perm.refl _,?_⟩
    rw [← hll]; simp
  · rintro i st hi ⟨S,rfl,hS,hs⟩
    have hi1:i+1 < l.length:=by omega
    obtain ⟨x,hx⟩:∃ x,l.getD (i+1) 0=x:=⟨_,rfl⟩
    have hdrop:l.drop (i+1)=x::l.drop (i+2):=by rw [← hx]; exact zet 0 hi1
    have hSl:S.length=i+1:=by rw [hS.length_eq,List.length_take]; omega
    have hmS:∀ a∈S,a∈l:=fun a ha=>List.mem_of_mem_take (hS.mem_iff.1 ha)
    have hxm:x∈l:=by rw [← hx]; exact zcs hi1
    have hxS:x ∉ S:=fun h=>by
      have h1:=hS.mem_iff.1 h
      have h2:l.take (i+1)++l.drop (i+1)=l:=List.take_append_drop _ _
      have h3:(l.take (i+1)++l.drop (i+1)).Nodup:=by rw [h2]; exact hn
      exact (List.nodup_append.1 h3).2.2 x h1 x (by rw [hdrop]; simp) rfl
    have htk:l.take (i+2)=l.take (i+1)++[x]:=by rw [← hx]; exact zbm l 0 hi1
    rw [hdrop]
    generalize l.drop (i+2)=T at *
    have hdlen:∀ A B:List Int,S=A++B→(A++x::(B++T)).length=(S++x::T).length:=fun A B e=>by rw [e]; simp; omega
    have htot:(S++x::T).length≤1000:=by
      rw [← hdrop,List.length_append,hSl,List.length_drop]
      omega
    have hin:∃ S':List Int,zaa insF (S++x::T,0,(l.length:Int),cmp,((i+1:Nat):Int),((i+1:Nat):Int))=some (S'++T,0,(l.length:Int),cmp,((i+1:Nat):Int))∧S'.Perm (l.take (i+2))∧(S'.Pairwise fun a b=>g a b < 0):=by
      have key:=zhc (γ:=(List Int) × Int × Int × (Int→Int→Option Int) × Int) (k:=some) (Q:=fun r=>∃ S':List Int,r=some (S'++T,0,(l.length:Int),cmp,((i+1:Nat):Int))∧S'.Perm (l.take (i+2))∧(S'.Pairwise fun a b=>g a b < 0))
        (f:=insF) (a0:=(S++x::T,0,(l.length:Int),cmp,((i+1:Nat):Int),((i+1:Nat):Int)))
        (fun (m:Nat) (st:(List Int) × Int × Int × (Int→Int→Option Int) × Int × Int)=>∃ A B:List Int,st=(A++x::(B++T),0,(l.length:Int),cmp,((i+1:Nat):Int),(m:Int))∧S=A++B∧A.length=m∧∀ b∈B,g x b < 0) (i+1) ⟨S,[],rfl,by simp,hSl,by simp⟩ (fun m st hst=>?_)
      · obtain ⟨S',h1,h2,h3⟩:=key
        refine ⟨S',?_,h2,h3⟩
        rw [Option.bind_eq_some_iff] at h1
        obtain ⟨b,h4,h5⟩:=h1
        exact h4.trans h5
      · obtain ⟨A,B,rfl,hAB,hAm,hB⟩:=hst
        have hstop:(∀ a∈A,g a x < 0)→∃ S':List Int,some (A++x::(B++T),(0:Int),(l.length:Int),cmp,((i+1:Nat):Int))=some (S'++T,0,(l.length:Int),cmp,((i+1:Nat):Int))∧S'.Perm (l.take (i+2))∧(S'.Pairwise fun a b=>g a b < 0):=fun hA=>by
          refine ⟨A++x::B,by rw [List.append_assoc,List.cons_append],?_,?_⟩
          · rw [htk]
            refine List.perm_middle.trans ?_
            rw [← hAB]
            exact (List.perm_append_comm (l₁:=[x]) (l₂:=S)).trans (List.Perm.append_right _ hS)
          · rw [hAB,List.pairwise_append] at hs
            rw [List.pairwise_append,List.pairwise_cons]
            refine ⟨hs.1,⟨hB,hs.2.1⟩,fun a ha b hb=>?_⟩
            rcases List.mem_cons.1 hb with rfl | hb
            · exact hA a ha
            · exact hs.2.2 a ha b hb
        cases m with
        | zero =>
          have hA0:A=[]:=List.length_eq_zero_iff.1 hAm
          refine .inr ⟨(A++x::(B++T),0,(l.length:Int),cmp,((i+1:Nat):Int)),?_,hstop (by rw [hA0]; simp)⟩
          unfold insF
          simp only [zak,show decide ((0:Int) < ((0:Nat):Int))=false from rfl,cond_false]
        | succ m =>
          obtain ⟨A',y,rfl⟩:∃ A' y,A=A'++[y]:=by
            rcases List.eq_nil_or_concat A with rfl | ⟨A',y,h⟩
            · simp at hAm
            · exact ⟨A',y,by rw [h,List.concat_eq_append]⟩
          have hA'm:A'.length=m:=by simpa using hAm
          subst hA'm
          have hym:y∈S:=by rw [hAB]; simp
          have hyl:=hmS y hym
          have hlen:=hdlen _ B hAB
          have e0:A'++[y]++x::(B++T)=A'++y::x::(B++T):=by simp
          rw [e0] at hlen ⊢
          have hlA:(A'++y::x::(B++T)).length≤1000:=by omega
          have hm1:A'.length+1 < (A'++y::x::(B++T)).length:=by simp
          have hm0:A'.length < (A'++y::x::(B++T)).length:=by simp
          have hgx:=getD_mid1 A' y x (B++T)
          have hgy:=getD_mid A' y (x::(B++T))
          have hsw:=swap_eq A' y x (B++T)
          by_cases hlt:g x y < 0
          · refine .inl ⟨(A'++x::y::(B++T),0,(l.length:Int),cmp,((i+1:Nat):Int),(A'.length:Int)),A'.length,?_,by omega,A',y::B,rfl,by rw [hAB]; simp,rfl,fun b hb=>?_⟩
            · unfold insF
              simp only [zak,decide_eq_true (show (0:Int) < ((A'.length+1:Nat):Int) by omega),cond_true,d0le,dlt hm1,dlt hm0,Bool.and_self,tn,wpred (show A'.length < 9223372036854775807 by omega),hgx,hgy,hc x hxm y hyl,Option.bind_some,decide_eq_true hlt,List.length_set,hsw]
            · rcases List.mem_cons.1 hb with rfl | hb
              · exact hlt
              · exact hB b hb
          · have hyx:g y x < 0:=(ht y hyl x hxm (fun e=>hxS (by rw [← e]; exact hym))).resolve_right hlt
            have hst:=hstop (fun a ha=>by
              rcases List.mem_append.1 ha with ha | ha
              · refine htr a (hmS a (by rw [hAB]; simp [ha])) y hyl x hxm ?_ hyx
                rw [hAB,List.pairwise_append,List.pairwise_append] at hs
                exact hs.1.2.2 a ha y (by simp)
              · rw [List.mem_singleton.1 ha]; exact hyx)
            rw [e0] at hst
            refine .inr ⟨(A'++y::x::(B++T),0,(l.length:Int),cmp,((i+1:Nat):Int)),?_,hst⟩
            unfold insF
            simp only [zak,decide_eq_true (show (0:Int) < ((A'.length+1:Nat):Int) by omega),cond_true,d0le,dlt hm1,dlt hm0,Bool.and_self,tn,wpred (show A'.length < 9223372036854775807 by omega),hgx,hgy,hc x hxm y hyl,Option.bind_some,decide_eq_false hlt,cond_false]
    obtain ⟨S',h1,h2,h3⟩:=hin
    refine ⟨(S'++T,0,(l.length:Int),cmp,((i+1+1:Nat):Int)),?_,S',rfl,h2,h3⟩
    show (bif decide (((i+1:Nat):Int) < (l.length:Int)) then (zaa insF (S++x::T,(0:Int),(l.length:Int),cmp,((i+1:Nat):Int),((i+1:Nat):Int))).bind (fun p=>some (Sum.inl (p.1,p.2.1,p.2.2.1,p.2.2.2.1,w (p.2.2.2.2+1)))) else some (Sum.inr (S++x::T)))=_
    rw [dlt hi1,cond_true,h1,Option.bind_some,zbk (show i+1 < 9223372036854775807 by omega)]
  · rintro st ⟨S,rfl,hS,hs⟩
    rw [show l.length - 1+1=l.length by omega,List.take_length] at hS
    refine ⟨S++l.drop (l.length - 1+1),?_,S,?_,hS,hs⟩
    · simp only [show l.length - 1+1=l.length by omega,nlt (Nat.le_refl l.length),cond_false]
    · rw [List.drop_of_length_le (by omega),List.append_nil]
theorem d195_ex {l:List Int} {cmp:Int→Int→Option Int} {g:Int→Int→Int} (hl:l.length≤12) (hn:l.Nodup) (hc:∀ a∈l,∀ b∈l,cmp a b=some (g a b)) (ht:∀ a∈l,∀ b∈l,a ≠ b→g a b < 0∨g b a < 0) (htr:∀ a∈l,∀ b∈l,∀ c∈l,g a b < 0→g b c < 0→g a c < 0) :
    ∃ L,d195 l cmp=some L∧L.Perm l∧L.Pairwise fun a b=>g a b < 0:=by
  obtain ⟨L,h1,h2,h3⟩:=d228_ex (by omega) hn hc ht htr
  refine ⟨L,?_,h2,h3⟩
  unfold d195
  have e208:∀ x,d208 x=some (Lib.bitLen x.toNat:Int):=fun x=>rfl
  rw [e208,Option.bind_some]
  have hw:w ((l.length:Int) - 0)=(l.length:Int):=zbf (by omega) (by omega)
  show ((d214N 2 l 0 (l.length:Int) _ cmp).bind fun r_1=>some r_1)=_
  show ((d214F (d214N 1) l 0 (l.length:Int) _ cmp).bind fun r_1=>some r_1)=_
  unfold d214F
  generalize ((Lib.bitLen (wu64 (l.length:Int)).toNat:Nat):Int)=t3
  refine Option.bind_eq_some_iff.2 ⟨L,?_,rfl⟩
  refine zaf (fun _=>(l,0,(l.length:Int),t3,cmp,true,true)) 0 rfl (fun i hi=>by omega) (b:=L) ?_ rfl
  simp only [hw,decide_eq_true (show (l.length:Int)≤12 by omega),cond_true,h1,Option.bind_some]
theorem zpw {a b:Nat} (ha:a≤9223372036854775807) (hb:b≤9223372036854775807) (hb0:0 < b):d158 (a:Int) (b:Int)=some (rr (frac a b)):=by
  unfold d158
  have h1:=zmf (n:=a) (by omega)
  have h2:=zmf (n:=b) (by omega)
  rw [d128_eq (by omega) (by omega),d128_eq (by omega) (by omega),Option.bind_some,Option.bind_some,decide_eq_false (show ¬ (a:Int) < 0 by omega),decide_eq_false (show ¬ (b:Int) < 0 by omega),Int.natAbs_natCast,Int.natAbs_natCast,d127_eq _ (zar _) (zar _) (by omega) (by omega),zax,zax]
  show some (rr (mkRat (a:Int) b))=_
  rw [Rat.mkRat_eq_div]
  rfl
end Go.Proofs.YtmipjomnjkmdbaaGreat
set_option linter.unusedSimpArgs false
set_option linter.unusedVariables false
namespace Go.Proofs.YtmipjomnjkmdbaaGreat
open Go Go.X
abbrev MT:=CT × (List Grp × (List Int × (Int × (List Int × (List Int × (Int × (List (List Rt) × (Int × (Int × (Int × (Int × (Int × (Int × (List RD × List Int))))))))))))))
theorem zjx {k:MT} {st:Nat→Nat} {n:Nat} (hk:k.2.2.2.2.1=lst (fun i=>(st i:Int)) n) (hn:n≤1000) (x:Nat):d161 k (x:Int)=some (selI (fun i=>decide (st i=x)) n):=by
  unfold d161
  rw [hk,zba]
  refine zaf (fun i=>((x:Int),selI (fun i=>decide (st i=x)) i,lst (fun i=>(st i:Int)) n,(n:Int),(i:Int))) n rfl (fun i hi=>?_) ?_ rfl
  · have hl:(selI (fun i=>decide (st i=x)) i).length+1≤4294967296:=by
      rw [zbc]; have:=zcl (fun i=>decide (st i=x)) i; omega
    rw [zek]
    simp only [dlt hi,d0le,zba,Bool.and_self,cond_true,tn,zbl _ hi,zak,zpu,zbk (show i < 9223372036854775807 by omega)]
    by_cases h:st i=x
    · rw [decide_eq_true h,cond_true,zff hl,cond_true]; rfl
    · rw [decide_eq_false h,cond_false]; simp
  · simp only [nlt (Nat.le_refl n),cond_false]
theorem d157_eq {k:MT} {v:Nat→Nat} {n one:Nat} (hk:k.2.2.2.1=(one:Int)) (hn:n≤1000) (h1:0 < one) (h6:one≤1000000) (hv:∀ i,i < n→v i≤9223372036854775807):d157 k (lst (fun i=>(v i:Int)) n)=some (lst (fun i=>rr (frac (v i) one)) n):=by
  unfold d157
  rw [zba]
  refine zaf (fun i=>(k,lst (fun i=>rr (frac (v i) one)) i,lst (fun i=>(v i:Int)) n,(n:Int),(i:Int))) n rfl (fun i hi=>?_) ?_ rfl
  · have hl:=zff (l:=lst (fun i=>rr (frac (v i) one)) i) (d:=rr (frac (v i) one)) (by rw [zba]; omega)
    rw [zba] at hl
    simp only [dlt hi,d0le,zba,Bool.and_self,cond_true,tn,zbl (fun i=>(v i:Int)) hi,hk,zpw (hv i hi) (show one≤9223372036854775807 by omega) h1,Option.bind_some,zbk (show i < 9223372036854775807 by omega),hl,zph]
  · simp only [nlt (Nat.le_refl n),cond_false]
theorem d159_eq {c:CT} {gs:List Grp} {lots:List Int} {one:Int} {st:Nat→Nat} {n:Nat} {kp:List Int} {filled:Nat} {rest:List (List Rt) × (Int × (Int × (Int × (Int × (Int × (Int × (List RD × List Int)))))))}
    {v kk:List Rt} {qu ex su:Rt} {el ex2 ti:List Int} {L:List Nat} (hn:n≤7) (hL:∀ i∈L,i < n) (hLl:L.length≤7) (hf:filled≤1000) (hel:el.length≤1000) :
    d159 (c,gs,lots,one,lst (fun i=>(st i:Int)) n,kp,(filled:Int),rest) (v,kk,qu,ex,su,el,ex2,ti) (L.map Int.ofNat)
      = some ((c,gs,lots,one,lst (fun i=>((zfg st L 1 i:Nat):Int)) n,kp,((filled+L.length:Nat):Int),rest),(v,kk,qu,ex,su,zdo (el++L.map Int.ofNat),ex2,ti)):=by
  unfold d159
  have hLi:(L.map Int.ofNat).length=L.length:=List.length_map ..
  rw [hLi]
  refine zaf (fun j=>((c,gs,lots,one,lst (fun i=>((zfg st (L.take j) 1 i:Nat):Int)) n,kp,((filled+j:Nat):Int),rest),(v,kk,qu,ex,su,el++(L.take j).map Int.ofNat,ex2,ti),L.map Int.ofNat,(L.length:Int),(j:Int))) L.length ?_ (fun j hj=>?_) (b:=((c,gs,lots,one,lst (fun i=>((zfg st L 1 i:Nat):Int)) n,kp,((filled+L.length:Nat):Int),rest),(v,kk,qu,ex,su,el++L.map Int.ofNat,ex2,ti))) ?_ ?_
  · rw [List.take_zero,updAll_nil,List.map_nil,List.append_nil]; rfl
  · have hm:L.getD j 0∈L:=by
      rw [List.getD_eq_getElem?_getD,List.getElem?_eq_getElem hj]
      exact List.getElem_mem hj
    have hg:=hL _ hm
    have hsg:(L.map Int.ofNat).getD j 0=((L.getD j 0:Nat):Int):=by
      rw [List.getD_eq_getElem?_getD,List.getElem?_map,List.getElem?_eq_getElem hj,List.getD_eq_getElem?_getD,List.getElem?_eq_getElem hj]; rfl
    have hll:(el++(L.take j).map Int.ofNat).length+1≤4294967296:=by rw [List.length_append,List.length_map,List.length_take]; omega
    simp only [dlt hj,d0le,hLi,Bool.and_self,cond_true,tn,hsg,zba,dlt hg,zff hll,zbk (show j < 9223372036854775807 by omega),zbk (show filled+j < 9223372036854775807 by omega),zjq]
    have e:lst (upd (fun i=>((zfg st (L.take j) 1 i:Nat):Int)) (L.getD j 0) 1) n=lst (fun i=>((zfg st (L.take (j+1)) 1 i:Nat):Int)) n:=zcj fun i hi=>by
      rw [zbm L 0 hj,← updAll_snoc]
      unfold upd
      split <;> rfl
    rw [e,zbm L 0 hj,List.map_append,List.append_assoc]
    rfl
  · simp only [nlt (Nat.le_refl L.length),cond_false,List.take_length]
  · have hd:d174 (el++L.map Int.ofNat)=some (zdo (el++L.map Int.ofNat)):=by
      unfold d174
      rw [zby (by rw [List.length_append,hLi]; omega)]; rfl
    simp only [hd,Option.bind_some]
def cmpM (v:Nat→Nat) (lots:List Int) (a b:Int):Int:=if v a.toNat=v b.toNat then (zcb lots a:Int) - (zcb lots b:Int) else (v b.toNat:Int) - (v a.toNat:Int)
theorem zka (v:Nat→Nat) (lots:List Int) (a b:Nat):cmpM v lots (a:Int) (b:Int) < 0↔zdg v lots a b=true:=by
  unfold cmpM zdg
  rw [Int.toNat_natCast,Int.toNat_natCast]
  simp only [Bool.or_eq_true,Bool.and_eq_true,decide_eq_true_eq]
  split <;> omega
theorem d196_eq {v:Nat→Nat} {n:Nat} {k:MT} {lots:List Int} (hk:k.2.2.1=lots) (hl:LotsOK n lots) (hv:∀ i,i < n→v i≤1000000000000) {a b:Nat} (ha:a < n) (hb:b < n):d196 (a:Int) (b:Int) (lst (fun i=>(v i:Int)) n) k=some (cmpM v lots (a:Int) (b:Int)):=by
  have h1:=hv a ha
  have h2:=hv b hb
  have h7:=hl.n7
  have hll:=hl.len
  have h3:=zpv (s:=lots) (a:Int) (by omega)
  have h4:=zpv (s:=lots) (b:Int) (by omega)
  rw [zgc] at h3 h4
  have p1:lots.idxOf (a:Int) < lots.length:=List.idxOf_lt_length_of_mem (hl.mem ha)
  have p2:lots.idxOf (b:Int) < lots.length:=List.idxOf_lt_length_of_mem (hl.mem hb)
  rw [if_pos p1] at h3
  rw [if_pos p2] at h4
  unfold d196 cmpM zcb
  simp only [d0le,zba,dlt ha,dlt hb,Bool.and_self,cond_true,tn,zbl (fun i=>(v i:Int)) ha,zbl (fun i=>(v i:Int)) hb,zpu,hk,h3,h4,Option.bind_some]
  by_cases h:v a=v b
  · rw [if_pos h,decide_eq_true h,Bool.not_true,cond_false,zbf (by omega) (by omega)]
  · rw [if_neg h,decide_eq_false h,Bool.not_false,cond_true,zbf (by omega) (by omega)]
variable {Q:MP} {s:MS}
theorem d160_ex (hQ:Q.OK) (hI:MI Q s) {k:MT} (hst:k.2.2.2.2.1=lst (fun i=>(s.st i:Int)) Q.P.n) (hlo:k.2.2.1=Q.P.lots) (hse:k.1.2.2.2.1=(Q.P.seats:Int)) (hfl:k.2.2.2.2.2.2.1=(s.fl Q:Int)) :
    ∃ L:List Nat,d160 k (lst (fun i=>((s.v Q i:Nat):Int)) Q.P.n) ((s.quo Q:Nat):Int)=some (L.map Int.ofNat)∧(L.map Int.ofNat).Perm (selI (s.el Q) Q.P.n):=by
  have hn7:=hQ.P.n7
  have hs5:=hQ.P.seats5
  have hfill:=hI.fill
  have hv:∀ i,i < Q.P.n→s.v Q i≤1000000000000:=fun i hi=>by
    have h1:=MS.v_le hQ hI hi
    have h2:=MS.tot_le hQ
    omega
  have h134:=d134_eq (s:=selI (fun i=>decide (s.st i=0)) Q.P.n) (f:=fun a=>d194 a (lst (fun i=>((s.v Q i:Nat):Int)) Q.P.n) ((s.quo Q:Nat):Int)) (g:=fun x=>decide (s.v Q x.toNat < s.quo Q)) (fun x hx=>by
    obtain ⟨i,rfl,hi,_⟩:=zay.1 hx
    unfold d194
    simp only [d0le,zba,dlt hi,Bool.and_self,cond_true,tn,zbl (fun i=>((s.v Q i:Nat):Int)) hi,Int.toNat_natCast]
    congr 1
    exact decide_eq_decide.2 (by omega)) (by rw [zbc]; have:=zcl (fun i=>decide (s.st i=0)) Q.P.n; omega)
  have hre:(selI (fun i=>decide (s.st i=0)) Q.P.n).filter (fun c=>!decide (s.v Q c.toNat < s.quo Q))=selI (s.reach Q) Q.P.n:=by
    rw [zlt]
    refine znp fun i _=>?_
    unfold MS.reach
    congr 1
    rw [Int.toNat_natCast]
    by_cases h:s.v Q i < s.quo Q
    · rw [decide_eq_true h,decide_eq_false (by omega)]; rfl
    · rw [decide_eq_false h,decide_eq_true (by omega)]; rfl
  rw [hre] at h134
  have hrl:(selI (s.reach Q) Q.P.n).length≤7:=by rw [zbc]; have:=zcl (s.reach Q) Q.P.n; omega
  have hin:∀ a∈selI (s.reach Q) Q.P.n,∃ i:Nat,a=(i:Int)∧i < Q.P.n:=fun a ha=>by
    obtain ⟨i,h,hi,_⟩:=zay.1 ha
    exact ⟨i,h,hi⟩
  obtain ⟨L,h1,h2,h3⟩:=d195_ex (l:=selI (s.reach Q) Q.P.n) (cmp:=fun a_1 a_2=>d196 a_1 a_2 (lst (fun i=>((s.v Q i:Nat):Int)) Q.P.n) k) (g:=cmpM (s.v Q) Q.P.lots) (by omega) (zdi _ _) (fun a ha b hb=>by
    obtain ⟨i,rfl,hi⟩:=hin a ha
    obtain ⟨j,rfl,hj⟩:=hin b hb
    exact d196_eq hlo (lotsOK hQ.P) hv hi hj) (fun a ha b hb hne=>by
    obtain ⟨i,rfl,hi⟩:=hin a ha
    obtain ⟨j,rfl,hj⟩:=hin b hb
    rw [zka,zka]
    exact zkq ((lotsOK hQ.P).mem hi) fun e=>hne (by rw [e])) (fun a ha b hb d hd=>by
    obtain ⟨i,rfl,hi⟩:=hin a ha
    obtain ⟨j,rfl,hj⟩:=hin b hb
    obtain ⟨m,rfl,hm⟩:=hin d hd
    rw [zka,zka,zka]
    exact zkp)
  have hLin:∀ a∈L,∃ i:Nat,a=(i:Int)∧i < Q.P.n:=fun a ha=>hin a (h2.mem_iff.1 ha)
  have hs:L.Pairwise fun a b=>zmx (s.v Q) Q.P.lots a b=true:=h3.imp_of_mem fun {a b} ha hb hab=>by
    obtain ⟨i,rfl,hi⟩:=hLin a ha
    obtain ⟨j,rfl,hj⟩:=hLin b hb
    exact (zka _ _ _ _).1 hab
  have hLl:L.length≤7:=by rw [h2.length_eq]; exact hrl
  have hmap:((L.take (Q.P.seats - s.fl Q)).map Int.toNat).map Int.ofNat=L.take (Q.P.seats - s.fl Q):=by
    rw [List.map_map]
    refine (List.map_congr_left fun a ha=>?_).trans (List.map_id _)
    obtain ⟨i,rfl,_⟩:=hLin a (List.mem_of_mem_take ha)
    rfl
  refine ⟨(L.take (Q.P.seats - s.fl Q)).map Int.toNat,?_,by rw [hmap]; exact el_perm hQ h2 hs⟩
  rw [hmap]
  unfold d160
  rw [show d161 k 0=_ from zjx hst (by omega) 0,Option.bind_some,h134,Option.bind_some,h1,Option.bind_some,hse,hfl,wsubN (by omega) (by omega)]
  by_cases hc:((Q.P.seats - s.fl Q:Nat):Int) < (L.length:Int)
  · rw [decide_eq_true hc,cond_true]
    have hcut:zcf 0 ((Q.P.seats - s.fl Q:Nat):Int) L.length=true:=by
      unfold zcf
      simp only [Bool.and_eq_true,decide_eq_true_eq]
      omega
    rw [hcut,cond_true,tn]
  · rw [decide_eq_false hc,cond_false]
    have hcut:zcf 0 (L.length:Int) L.length=true:=by
      unfold zcf
      simp only [Bool.and_eq_true,decide_eq_true_eq]
      omega
    rw [hcut,cond_true,tn,List.take_length,List.take_of_length_le (by omega)]
theorem d60_eq {d:Nat} (h1:1≤d) (h6:d≤6):d60 (d:Int)=some ((10 ^ (d / 2):Nat):Int):=by
  have e:w (Int.tdiv (d:Int) 2)=((d / 2:Nat):Int):=by
    have:Int.tdiv (d:Int) 2=((d / 2:Nat):Int):=by
      rw [Int.tdiv_eq_ediv_of_nonneg (by omega)]; rfl
    rw [this,zbf (by omega) (by omega)]
  unfold d60
  simp only [zak,decide_eq_false (show ¬ (d:Int) < 1 by omega),decide_eq_false (show ¬ (6:Int) < (d:Int) by omega),Bool.not_false,cond_true,cond_false,e,d111_eq (show d / 2≤18 by omega),Option.bind_some]
inductive Bef (rs:List Rd) (b:Option Nat) (sur:Nat):Prop
  | start:rs=[]→b=none→Bef rs b sur
  | kept (rs':List Rd) (r:Rd):rs=rs'++[r]→r.ex=[]→b=some sur→Bef rs b sur
  | excl (rs':List Rd) (r:Rd):rs=rs'++[r]→r.ex ≠ []→b=none→Bef rs b sur
theorem d162_eq {k:MT} {rs:List Rd} {d sur:Nat} (h1:1≤d) (h6:d≤6) (hk:k.1.2.2.2.2.2.1=(d:Int)) (hrs:k.2.2.2.2.2.2.2.2.2.2.2.2.2.2.1=rs.map rdT) (hl:rs.length≤1000) (hsi:s.since≤rs.length) (hev:k.2.2.2.2.2.2.2.2.1=(rs.length:Int) - (s.since:Int)) (hsu:k.2.2.2.2.2.2.2.2.2.1=(sur:Int)) (hb:Bef rs s.bef sur) (hom:Q.om=10 ^ (d / 2)) :
    d162 k ((s.sur Q:Nat):Int) ((rs.length+1:Nat):Int)=some (s.stall Q):=by
  unfold d162 MS.stall
  have hw1:w (((rs.length+1:Nat):Int) - ((rs.length:Int) - (s.since:Int)))=((s.since+1:Nat):Int):=by rw [zbf (by omega) (by omega)]; omega
  simp only [zak,hk,d60_eq h1 h6,Option.bind_some,hev,hw1,hrs,List.length_map,hsu,← hom]
  by_cases c1:s.sur Q < Q.om
  · rw [decide_eq_true (show ((s.sur Q:Nat):Int) < ((Q.om:Nat):Int) by omega),decide_eq_true c1]; rfl
  rw [decide_eq_false (show ¬ ((s.sur Q:Nat):Int) < ((Q.om:Nat):Int) by omega),decide_eq_false c1,Bool.not_false,cond_true,Bool.false_or]
  by_cases c2:60≤s.since+1
  · rw [decide_eq_true (show (60:Int)≤((s.since+1:Nat):Int) by omega),decide_eq_true c2]; rfl
  rw [decide_eq_false (show ¬ (60:Int)≤((s.since+1:Nat):Int) by omega),decide_eq_false c2,cond_false,Bool.false_or]
  have hget:∀ (rs':List Rd) (r:Rd) (d0:RD),rs=rs'++[r]→(rs.map rdT).getD rs'.length d0=rdT r:=fun rs' r d0 e=>by
    rw [e,List.map_append,List.getD_eq_getElem?_getD,List.getElem?_append_right (by simp),List.length_map,Nat.sub_self]; rfl
  cases hb with
  | start e1 e2 =>
    rw [e2,e1]
    have:w (((([]:List Rd).length:Nat):Int) - 1)=-1:=by
      show w (-1)=-1
      exact zbf (by omega) (by omega)
    rw [this]; rfl
  | kept rs' r e1 e2 e3 =>
    have hlen:rs.length=rs'.length+1:=by rw [e1]; simp
    rw [e3,hlen,wpred (by omega)]
    have hx:(rdT r).2.2.2.2.2.2.1=[]:=e2
    rw [d0le,cond_true,tn,dlt (show rs'.length < rs'.length+1 by omega),Bool.and_self,cond_true,hget rs' r _ e1,hx]
    show some (decide ((sur:Int)≤((s.sur Q:Nat):Int)))=some (decide (sur≤s.sur Q))
    congr 1
    exact decide_eq_decide.2 (by omega)
  | excl rs' r e1 e2 e3 =>
    have hlen:rs.length=rs'.length+1:=by rw [e1]; simp
    rw [e3,hlen,wpred (by omega)]
    have hx:(rdT r).2.2.2.2.2.2.1=r.ex:=rfl
    have hpos:=List.length_pos_iff.2 e2
    rw [d0le,cond_true,tn,dlt (show rs'.length < rs'.length+1 by omega),Bool.and_self,cond_true,hget rs' r _ e1,hx,decide_eq_false (show ¬ ((r.ex.length:Nat):Int)=0 by omega)]
    rfl
end Go.Proofs.YtmipjomnjkmdbaaGreat
set_option linter.unusedSimpArgs false
set_option linter.unusedVariables false
namespace Go.Proofs.YtmipjomnjkmdbaaGreat
open Go Go.X
variable {Q:MP} {s:MS}
theorem getD_in {l:List Int} {P:Int→Prop} (h:∀ x∈l,P x) {j:Nat} (hj:j < l.length):P (l.getD j 0):=h _ (zcs hj)
set_option maxHeartbeats 1000000 in
theorem d163_eq (hQ:Q.OK) (hI:MI Q s) {c:CT} (hc:c.2.2.2.2.2.2.1=Q.P.ties) {gs:List Grp} {one filled:Int} {E:List (List Rat)} {rest:Int × (Int × (Int × (Int × (Int × (Int × (List RD × List Int))))))} (hE:∀ r∈E,RndOK Q.P.n r) (hEl:E.length≤1000) (v kk:List Rt) (qu ex su:Rt) (el ex2 ti:List Int) :
    ∃ x:Nat,x < Q.P.n∧s.pick Q E=(x:Int)∧d163 (c,gs,Q.P.lots,one,lst (fun i=>(s.st i:Int)) Q.P.n,lst (fun i=>(s.kp i:Int)) Q.P.n,filled,E.map (List.map rr),rest) (v,kk,qu,ex,su,el,ex2,ti) (lst (fun i=>((s.v Q i:Nat):Int)) Q.P.n) ((s.sur Q:Nat):Int)
      = some ((c,gs,Q.P.lots,one,lst (fun i=>((upd s.st x 2 i:Nat):Int)) Q.P.n,lst (fun i=>((upd s.kp x 0 i:Nat):Int)) Q.P.n,filled,E.map (List.map rr),rest),(v,kk,qu,ex,su,el,[(x:Int)],if (s.tied Q).length=1 then ti else s.tied Q)):=by
  obtain ⟨x,x1,x2,x3⟩:=zig hI E
  refine ⟨x,x2,x1,?_⟩
  have hn7:=hQ.P.n7
  have htl:=MS.tot_le hQ
  have hv:∀ i,i < Q.P.n→s.v Q i≤100000000000:=fun i hi=>by
    have h1:=MS.v_le hQ hI hi
    omega
  have hsur:s.sur Q≤100000000000:=by
    have h1:=MS.sum_le hQ hI
    have h2:s.sur Q≤sumN (s.v Q) Q.P.n:=zej fun i _=>by split <;> omega
    omega
  have hLn:∀ y∈selI (fun i=>decide (s.st i=0)) Q.P.n,∃ i:Nat,y=(i:Int)∧i < Q.P.n:=fun y hy=>by
    obtain ⟨i,h,hi,_⟩:=zay.1 hy
    exact ⟨i,h,hi⟩
  have hne:selI (fun i=>decide (s.st i=0)) Q.P.n ≠ []:=List.ne_nil_of_mem (zay.2 ⟨x,rfl,x2,decide_eq_true x3⟩)
  have hLl:(selI (fun i=>decide (s.st i=0)) Q.P.n).length≤7:=by
    rw [zbc]; have:=zcl (fun i=>decide (s.st i=0)) Q.P.n; omega
  have hmem:∀ i,i < Q.P.n→(s.st i=0↔(i:Int)∈selI (fun i=>decide (s.st i=0)) Q.P.n):=fun i hi=>by
    rw [zay]
    constructor
    · intro h; exact ⟨i,rfl,hi,decide_eq_true h⟩
    · rintro ⟨k,e,_,h⟩
      rw [Int.ofNat_inj.1 e]
      exact of_decide_eq_true h
  have hnear:∀ m:Nat,(∃ y,y < Q.P.n∧s.st y=0∧m=s.v Q y)→(∀ k,k < Q.P.n→s.st k=0→m≤s.v Q k)→(selI (fun i=>decide (s.st i=0)) Q.P.n).filter (fun c=>!decide (m+s.sur Q < s.v Q c.toNat))=s.tied Q:=fun m ⟨y,y1,y2,y3⟩ hm=>by
    rw [zlt]
    refine znp fun i hi=>?_
    unfold MS.near
    congr 1
    rw [Int.toNat_natCast,Bool.eq_iff_iff,List.all_eq_true,Bool.not_eq_true',decide_eq_false_iff_not]
    constructor
    · intro h k hk
      by_cases h5:s.st k=0
      · have:=hm k (List.mem_range.1 hk) h5
        rw [Bool.or_eq_true,decide_eq_true_eq]
        exact .inr (by omega)
      · simp [h5]
    · intro h
      have:=h y (List.mem_range.2 y1)
      rw [decide_eq_true y2,Bool.not_true,Bool.false_or,decide_eq_true_eq] at this
      omega
  have h134:∀ m:Nat,m≤100000000000→d134 (selI (fun i=>decide (s.st i=0)) Q.P.n) (fun a=>d197 a (lst (fun i=>((s.v Q i:Nat):Int)) Q.P.n) (m:Int) ((s.sur Q:Nat):Int))=some ((selI (fun i=>decide (s.st i=0)) Q.P.n).filter fun c=>!decide (m+s.sur Q < s.v Q c.toNat)):=fun m hm=>d134_eq (g:=fun c=>decide (m+s.sur Q < s.v Q c.toNat)) (fun y hy=>by
    obtain ⟨i,rfl,hi⟩:=hLn y hy
    unfold d197
    simp only [d0le,zba,dlt hi,Bool.and_self,cond_true,tn,zbl (fun i=>((s.v Q i:Nat):Int)) hi,Int.toNat_natCast,wadd (show m+s.sur Q≤9223372036854775807 by omega)]
    congr 1
    exact decide_eq_decide.2 (by omega)) (by omega)
  unfold d163
  rw [show d161 (c,gs,Q.P.lots,one,lst (fun i=>(s.st i:Int)) Q.P.n,lst (fun i=>(s.kp i:Int)) Q.P.n,filled,E.map (List.map rr),rest) 0=_ from zjx (st:=s.st) (n:=Q.P.n) rfl (by omega) 0,Option.bind_some]
  simp only [show ∀ i,decide (s.st i=0)=decide (s.st i=0) from fun _=>rfl]
  generalize hLL:selI (fun i=>decide (s.st i=0)) Q.P.n=L at *
  have hpos:=List.length_pos_iff.2 hne
  obtain ⟨y0,hy0,hy0n⟩:=getD_in hLn hpos
  have hy0m:(y0:Int)∈L:=by rw [← hy0]; exact zcs hpos
  simp only [decide_eq_true (show (0:Int) < (L.length:Int) by omega),show decide ((0:Nat)≤0)=true from rfl,Bool.and_self,cond_true,hy0,d0le,zba,dlt hy0n,tn,zbl (fun i=>((s.v Q i:Nat):Int)) hy0n]
  refine zbv (Q:=fun z=>z=_) (fun (i:Nat) (st:MT × RD × (List Int) × Int × (List Int) × Int × Int × Int)=>∃ m:Nat,st=((c,gs,Q.P.lots,one,lst (fun i=>(s.st i:Int)) Q.P.n,lst (fun i=>(s.kp i:Int)) Q.P.n,filled,E.map (List.map rr),rest),(v,kk,qu,ex,su,el,ex2,ti),lst (fun i=>((s.v Q i:Nat):Int)) Q.P.n,((s.sur Q:Nat):Int),L,(m:Int),(L.length:Int),(i:Int))∧(∃ y,y < Q.P.n∧s.st y=0∧m=s.v Q y)∧∀ j,j < i→∀ y:Nat,L.getD j 0=(y:Int)→m≤s.v Q y) L.length ⟨s.v Q y0,rfl,⟨y0,hy0n,(hmem y0 hy0n).2 hy0m,rfl⟩,fun j hj=>by omega⟩ ?_ ?_
  · rintro i st hi ⟨m,rfl,⟨y,y1,y2,y3⟩,hm⟩
    obtain ⟨z,hz,hzn⟩:=getD_in hLn hi
    have hzm:(z:Int)∈L:=by rw [← hz]; exact zcs hi
    refine ⟨_,by simp only [dlt hi,d0le,Bool.and_self,cond_true,tn,hz,zba,dlt hzn,zbl (fun i=>((s.v Q i:Nat):Int)) hzn,zbk (show i < 9223372036854775807 by omega)]; rfl,?_⟩
    by_cases hlt:s.v Q z < m
    · refine ⟨s.v Q z,by rw [dlt hlt]; rfl,⟨z,hzn,(hmem z hzn).2 hzm,rfl⟩,fun j hj y' hy'=>?_⟩
      by_cases hji:j=i
      · subst hji
        rw [hz] at hy'
        rw [Int.ofNat_inj.1 hy']
        exact Nat.le_refl _
      · have:=hm j (by omega) y' hy'
        omega
    · refine ⟨m,by rw [nlt (by omega)]; rfl,⟨y,y1,y2,y3⟩,fun j hj y' hy'=>?_⟩
      by_cases hji:j=i
      · subst hji
        rw [hz] at hy'
        rw [← Int.ofNat_inj.1 hy']
        omega
      · exact hm j (by omega) y' hy'
  · rintro st ⟨m,rfl,hy,hm⟩
    refine ⟨((c,gs,Q.P.lots,one,lst (fun i=>(s.st i:Int)) Q.P.n,lst (fun i=>(s.kp i:Int)) Q.P.n,filled,E.map (List.map rr),rest),(v,kk,qu,ex,su,el,ex2,ti),lst (fun i=>((s.v Q i:Nat):Int)) Q.P.n,((s.sur Q:Nat):Int),L,(m:Int)),by simp only [nlt (Nat.le_refl L.length),cond_false],?_⟩
    have hm2:∀ k,k < Q.P.n→s.st k=0→m≤s.v Q k:=fun k hk h0=>by
      obtain ⟨j,hj,e⟩:=List.getElem_of_mem ((hmem k hk).1 h0)
      exact hm j hj k (by rw [List.getD_eq_getElem?_getD,List.getElem?_eq_getElem hj,e]; rfl)
    have hmb:m≤100000000000:=by
      obtain ⟨y,y1,_,y3⟩:=hy
      rw [y3]; exact hv y y1
    have ht:=hnear m hy hm2
    have h134:=h134 m hmb
    rw [ht] at h134
    have htne:s.tied Q ≠ []:=near_ne hI
    have htin:∀ y∈s.tied Q,∃ i:Nat,y=(i:Int)∧i < Q.P.n:=fun y hy=>by
      obtain ⟨i,h,hi,_⟩:=zay.1 hy
      exact ⟨i,h,hi⟩
    have htl7:(s.tied Q).length≤7:=by
      unfold MS.tied
      rw [zbc]; have:=zcl (s.near Q) Q.P.n; omega
    have hset1:(lst (fun i=>(s.st i:Int)) Q.P.n).set x 2=lst (fun i=>((upd s.st x 2 i:Nat):Int)) Q.P.n:=by
      rw [zjq]
      refine zcj fun k _=>?_
      unfold upd
      split <;> rfl
    have hset2:(lst (fun i=>(s.kp i:Int)) Q.P.n).set x 0=lst (fun i=>((upd s.kp x 0 i:Nat):Int)) Q.P.n:=by
      rw [zjq]
      refine zcj fun k _=>?_
      unfold upd
      split <;> rfl
    obtain ⟨b,hb155⟩:=d155_eq (n:=Q.P.n) (ties:=Q.P.ties) (E:=E) (tied:=s.tied Q) (lots:=Q.P.lots) (least:=true) hQ.P.ties1 hQ.P.ties3 (lotsOK hQ.P) hE (by omega) htne (zel _ _) htin (by omega)
    simp only [h134,Option.bind_some]
    unfold MS.pick at x1
    generalize s.tied Q=T at htne htl7 x1 hb155 ⊢
    obtain ⟨z,T',hT'⟩:=List.exists_cons_of_ne_nil htne
    subst hT'
    simp only [List.length_cons,decide_eq_true (show (0:Int) < ((T'.length+1:Nat):Int) by omega),show decide ((0:Nat)≤0)=true from rfl,Bool.and_self,cond_true,zak,hc,hb155,Option.bind_some,List.getD_cons_zero]
    rw [List.length_cons] at x1
    by_cases hone:T'.length+1=1
    · rw [if_pos hone,List.headD_cons] at x1
      simp only [if_pos hone,decide_eq_false (show ¬ (1:Int) < ((T'.length+1:Nat):Int) by omega),cond_false,x1,d0le,zba,dlt x2,Bool.and_self,cond_true,tn,hset1,hset2]
    · rw [if_neg hone] at x1
      simp only [if_neg hone,decide_eq_true (show (1:Int) < ((T'.length+1:Nat):Int) by omega),cond_true,x1,d0le,zba,dlt x2,Bool.and_self,tn,hset1,hset2]
theorem d164_eq (hQ:Q.OK) (hI:MI Q s) {c:CT} {gs:List Grp} {lots:List Int} {filled:Int} {rest:List (List Rt) × (Int × (Int × (Int × (Int × (Int × (Int × (List RD × List Int)))))))} :
    d164 (c,gs,lots,(Q.one:Int),lst (fun i=>((s.st1 Q i:Nat):Int)) Q.P.n,lst (fun i=>(s.kp i:Int)) Q.P.n,filled,rest) (lst (fun i=>((s.v Q i:Nat):Int)) Q.P.n) ((s.quo Q:Nat):Int)
      = some (c,gs,lots,(Q.one:Int),lst (fun i=>((s.st1 Q i:Nat):Int)) Q.P.n,lst (fun i=>((s.kp1 Q i:Nat):Int)) Q.P.n,filled,rest):=by
  have hn7:=hQ.P.n7
  have htl:=MS.tot_le hQ
  have ho1:=hQ.one1
  have ho6:=hQ.one6
  have hv:∀ i,i < Q.P.n→s.v Q i≤100000000000:=fun i hi=>by
    have h1:=MS.v_le hQ hI hi
    omega
  have hq:s.quo Q≤100000000001:=by
    have:=MS.quo_le hQ hI
    omega
  unfold d164
  rw [show d161 (c,gs,lots,(Q.one:Int),lst (fun i=>((s.st1 Q i:Nat):Int)) Q.P.n,lst (fun i=>(s.kp i:Int)) Q.P.n,filled,rest) 1=_ from zjx (st:=s.st1 Q) (n:=Q.P.n) rfl (by omega) 1,Option.bind_some]
  obtain ⟨L,hL⟩:∃ L,selN (fun i=>decide (s.st1 Q i=1)) Q.P.n=L:=⟨_,rfl⟩
  have hLi:selI (fun i=>decide (s.st1 Q i=1)) Q.P.n=L.map Int.ofNat:=by rw [← hL]; rfl
  have hLn:∀ i∈L,i < Q.P.n:=fun i hi=>(zez.1 (by rw [hL]; exact hi)).1
  have hLl:L.length≤7:=by rw [← hL,zfw]; have:=zcl (fun i=>decide (s.st1 Q i=1)) Q.P.n; omega
  have hLd:L.Nodup:=by
    rw [← hL]; unfold selN
    exact List.nodup_range.filter _
  have hmem:∀ i,i < Q.P.n→(s.st1 Q i=1↔i∈L):=fun i hi=>by
    rw [← hL,zez,decide_eq_true_eq]
    exact ⟨fun h=>⟨hi,h⟩,fun h=>h.2⟩
  obtain ⟨nw,hnw⟩:∃ nw:Nat→Nat,(fun i=>min Q.one (mup (mup (s.kp i * s.quo Q) Q.one * Q.one) (s.v Q i)))=nw:=⟨_,rfl⟩
  have hnwi:∀ i,min Q.one (mup (mup (s.kp i * s.quo Q) Q.one * Q.one) (s.v Q i))=nw i:=fun i=>by rw [← hnw]
  rw [hLi]
  have hLm:(L.map Int.ofNat).length=L.length:=List.length_map ..
  simp only [show (L.map Int.ofNat).length=L.length from hLm]
  refine zaf (fun j=>((c,gs,lots,(Q.one:Int),lst (fun i=>((s.st1 Q i:Nat):Int)) Q.P.n,lst (fun i=>((if i∈L.take j∧0 < s.v Q i then nw i else s.kp i:Nat):Int)) Q.P.n,filled,rest),lst (fun i=>((s.v Q i:Nat):Int)) Q.P.n,((s.quo Q:Nat):Int),L.map Int.ofNat,(L.length:Int),(j:Int))) L.length ?_ (fun j hj=>?_) (b:=(c,gs,lots,(Q.one:Int),lst (fun i=>((s.st1 Q i:Nat):Int)) Q.P.n,lst (fun i=>((s.kp1 Q i:Nat):Int)) Q.P.n,filled,rest)) ?_ rfl
  · simp only [List.take_zero,List.not_mem_nil,false_and,if_false]
    rfl
  · obtain ⟨x,hx⟩:∃ x,L.getD j 0=x:=⟨_,rfl⟩
    have hxm:x∈L:=by
      rw [← hx,List.getD_eq_getElem?_getD,List.getElem?_eq_getElem hj]
      exact List.getElem_mem hj
    have hxn:=hLn x hxm
    have hsg:(L.map Int.ofNat).getD j 0=(x:Int):=by
      rw [List.getD_eq_getElem?_getD,List.getElem?_map,List.getElem?_eq_getElem hj,← hx,List.getD_eq_getElem?_getD,List.getElem?_eq_getElem hj]; rfl
    have htk:L.take (j+1)=L.take j++[x]:=by rw [zbm L 0 hj,hx]
    have hxt:x ∉ L.take j:=fun h=>by
      have h2:(L.take (j+1)).Nodup:=hLd.sublist (List.take_sublist _ _)
      rw [htk] at h2
      exact (List.nodup_append.1 h2).2.2 x h x (by simp) rfl
    have hkx:¬ (x∈L.take j∧0 < s.v Q x):=fun h=>hxt h.1
    have hvx:=hv x hxn
    have hk1:=hI.kp1 x
    have b1:s.kp x * s.quo Q≤1000000 * 100000000001:=Nat.mul_le_mul (by omega) hq
    have b2:mup (s.kp x * s.quo Q) Q.one≤s.quo Q:=mup_le ho1 (by rw [Nat.mul_comm]; exact Nat.mul_le_mul_left _ hk1)
    have b3:mup (s.kp x * s.quo Q) Q.one * Q.one≤100000000001 * 1000000:=Nat.mul_le_mul (by omega) ho6
    simp only [dlt hj,d0le,hLm,Bool.and_self,cond_true,tn,hsg,zba,dlt hxn,zbl (fun i=>((s.v Q i:Nat):Int)) hxn,zak,zbk (show j < 9223372036854775807 by omega),htk]
    by_cases h0:0 < s.v Q x
    · simp only [decide_eq_true (show (0:Int) < ((s.v Q x:Nat):Int) by omega),cond_true,zbl (fun i=>((if i∈L.take j∧0 < s.v Q i then nw i else s.kp i:Nat):Int)) hxn,if_neg hkx,wmul (show s.kp x * s.quo Q≤9223372036854775807 by omega),d121_eq ho1 (show s.kp x * s.quo Q+Q.one≤4611686018427387904 by omega),Option.bind_some,wmul (show mup (s.kp x * s.quo Q) Q.one * Q.one≤9223372036854775807 by omega),d121_eq h0 (show mup (s.kp x * s.quo Q) Q.one * Q.one+s.v Q x≤4611686018427387904 by omega)]
      have hmin:(bif decide (((mup (mup (s.kp x * s.quo Q) Q.one * Q.one) (s.v Q x):Nat):Int) < (Q.one:Int)) then ((mup (mup (s.kp x * s.quo Q) Q.one * Q.one) (s.v Q x):Nat):Int) else (Q.one:Int))=((nw x:Nat):Int):=by
        rw [← hnwi]
        generalize mup (mup (s.kp x * s.quo Q) Q.one * Q.one) (s.v Q x)=y
        by_cases h:y < Q.one
        · rw [dlt h,cond_true]; omega
        · rw [nlt (by omega),cond_false]; omega
      have e:lst (upd (fun i=>((if i∈L.take j∧0 < s.v Q i then nw i else s.kp i:Nat):Int)) x ((nw x:Nat):Int)) Q.P.n=lst (fun i=>((if i∈L.take j++[x]∧0 < s.v Q i then nw i else s.kp i:Nat):Int)) Q.P.n:=zcj fun i hi=>by
        unfold upd
        by_cases hix:i=x
        · subst hix
          rw [if_pos rfl,if_pos ⟨by simp,h0⟩]
        · rw [if_neg hix]
          have:(i∈L.take j++[x])↔i∈L.take j:=by simp [hix]
          simp only [this]
      rw [hmin,zjq,e]
    · simp only [decide_eq_false (show ¬ (0:Int) < ((s.v Q x:Nat):Int) by omega),cond_false]
      have e:lst (fun i=>((if i∈L.take j∧0 < s.v Q i then nw i else s.kp i:Nat):Int)) Q.P.n=lst (fun i=>((if i∈L.take j++[x]∧0 < s.v Q i then nw i else s.kp i:Nat):Int)) Q.P.n:=zcj fun i hi=>by
        by_cases hix:i=x
        · subst hix
          rw [if_neg hkx,if_neg fun h=>h0 h.2]
        · have:(i∈L.take j++[x])↔i∈L.take j:=by simp [hix]
          simp only [this]
      rw [e]
  · simp only [nlt (Nat.le_refl L.length),cond_false,List.take_length]
    have e:lst (fun i=>((if i∈L∧0 < s.v Q i then nw i else s.kp i:Nat):Int)) Q.P.n=lst (fun i=>((s.kp1 Q i:Nat):Int)) Q.P.n:=zcj fun i hi=>by
      unfold MS.kp1
      rw [hnwi]
      by_cases h:s.st1 Q i=1
      · have:=(hmem i hi).1 h
        simp only [h,this,true_and]
      · have:¬ i∈L:=fun hm=>h ((hmem i hi).2 hm)
        simp only [h,this,false_and]
    rw [e]
end Go.Proofs.YtmipjomnjkmdbaaGreat
set_option linter.unusedSimpArgs false
set_option linter.unusedVariables false
namespace Go.Proofs.YtmipjomnjkmdbaaGreat
open Go Go.X
theorem fit_any {m:Int} {c:CT} {gs:List Grp} {lots:List Int} (h:fitE m c gs lots=0):fitE 3 (c.1,c.2.1,3,c.2.2.2.1,c.2.2.2.2.1,0,c.2.2.2.2.2.2) gs lots=0:=by
  obtain ⟨_,_,_,n1,n7,s1,s5,_,_,_,t1,t3,hp,ll,hB⟩:=zmn h
  exact zmo (n:=c.2.1.length) ⟨rfl,rfl,s1,s5,fun h=>absurd h (by omega),fun h=>absurd h (by omega),fun _=>rfl,t1,t3⟩ (by omega) (by omega) n1 n7 hp ll hB
theorem gpOf_okM {m:Int} {c:CT} {gs:List Grp} {lots:List Int} (h:fitE m c gs lots=0):(gpOf c gs lots).OK∧(gpOf c gs lots).G≤1000000:=by
  have:=gpOf_ok (fit_any h)
  exact ⟨this.1,this.2.1⟩
theorem lim_one {α:Type} {l:Nat} (h:l+1≤4294967296):decide ((l:Int)+((([]:List α).length+1:Nat):Int)≤LIM)=true:=zff (l:=List.replicate l ()) (d:=()) (by simpa using h) |> fun h=>by simpa using h
end Go.Proofs.YtmipjomnjkmdbaaGreat
set_option linter.unusedSimpArgs false
set_option linter.unusedVariables false
namespace Go.Proofs.YtmipjomnjkmdbaaGreat
open Go Go.X
def KM (Q:MP) (c:CT) (gs:List Grp) (st kp:Nat→Nat) (fl:Nat) (rs:List Rd) (ev sur:Int):MT :=
  (c,gs,Q.P.lots,(Q.one:Int),lst (fun i=>(st i:Int)) Q.P.n,lst (fun i=>(kp i:Int)) Q.P.n,(fl:Int),(rs.map Rd.votes).map (List.map rr),ev,sur,2,(Q.P.seats:Int),c.2.2.2.2.2.1,(Q.P.n:Int),rs.map rdT,rs.flatMap Rd.el)
variable {Q:MP} {s:MS}
structure MQ (Q:MP) (c:CT) (gs:List Grp) (d:Nat):Prop where
  ok:Q.OK
  P:∃ lots,gpOf c gs lots=Q.P
  n:c.2.1.length=Q.P.n
  pile:∃ N,PileOK (Q.P.n:Int) gs N
  seats:c.2.2.2.1=(Q.P.seats:Int)
  dig:c.2.2.2.2.2.1=(d:Int)
  d1:1≤d
  d6:d≤6
  ties:c.2.2.2.2.2.2.1=Q.P.ties
  one:Q.one=10 ^ d
  om:Q.om=10 ^ (d / 2)
theorem MQ.d58 {c:CT} {gs:List Grp} {d:Nat} (h:MQ Q c gs d) (hI:MI Q s):d58 (d:Int) (lst (fun i=>(s.kp i:Int)) Q.P.n) gs=some (lst (fun i=>((s.v Q i:Nat):Int)) Q.P.n,((s.rest Q:Nat):Int),true):=by
  obtain ⟨lots,hl⟩:=h.P
  obtain ⟨N,hp⟩:=h.pile
  have:=d58_ok h.ok.P.n1 h.ok.P.n7 h.d1 h.d6 hp c lots (kp:=s.kp) (by rw [← h.one]; exact hI.kp1)
  rw [hl,← h.one] at this
  exact this
theorem rdM (s:MS) (el ex ti:List Int):(lst (fun i=>rr (frac (s.v Q i) Q.one)) Q.P.n,lst (fun i=>rr (frac (s.kp i) Q.one)) Q.P.n,rr (frac (s.quo Q) Q.one),rr (frac (s.rest Q) Q.one),rr (frac (s.sur Q) Q.one),el,ex,ti)=rdT { s.rd0 Q with el:=el,ex:=ex,ti:=ti }:=by
  unfold rdT MS.rd0
  simp only [zme]
theorem sur_part (p:Nat→Bool) (f:Nat→Nat) (n:Nat) {j:Nat} (hj:j < (selN p n).length):(((selN p n).take (j+1)).map f).sum=(((selN p n).take j).map f).sum+f ((selN p n).getD j 0):=by
  rw [zbm (selN p n) 0 hj,List.map_append,List.sum_append]; simp
theorem flat_lim {rs:List Rd} (h:∀ r∈rs,RndOK Q.P.n r.votes∧r.el.length≤7):(rs.flatMap Rd.el).length≤7 * rs.length:=flat_len fun r hr=>(h r hr).2
theorem letJ_of {α β:Type} {f:α→Option β} {g:(α→Option β)→Option β} {X:Option β→Prop} (Jp:(α→Option β)→Prop) (hf:Jp f) (h:∀ J,Jp J→X (g J)):X (letJ f g):=by
  rw [zak]; exact h f hf
def RndM (Q:MP) (c:CT) (gs:List Grp) (s:MS) (rs:List Rd) (z:Option (Bool × MT)):Prop :=
    (s.fin Q=true∧∃ st' kp' fl' ev' su',z=some (false,KM Q c gs st' kp' fl' (rs++[s.done Q]) ev' su')) ∨
    (s.fin Q=false∧s.cut Q=true∧z=some (true,KM Q c gs (s.excl Q (rs.map Rd.votes)).st (s.excl Q (rs.map Rd.votes)).kp ((s.excl Q (rs.map Rd.votes)).fl Q) (rs++[s.exR Q (rs.map Rd.votes)]) (((rs++[s.exR Q (rs.map Rd.votes)]).length:Int) - ((s.excl Q (rs.map Rd.votes)).since:Int)) ((s.sur Q:Nat):Int))) ∨
    (s.fin Q=false∧s.cut Q=false∧z=some (true,KM Q c gs (s.redu Q).st (s.redu Q).kp ((s.redu Q).fl Q) (rs++[s.rd0 Q]) (((rs++[s.rd0 Q]).length:Int) - ((s.redu Q).since:Int)) ((s.sur Q:Nat):Int)))
set_option maxHeartbeats 4000000 in
theorem d113_eq {c:CT} {gs:List Grp} {d:Nat} (hQ:MQ Q c gs d) {rs:List Rd} (hR:MRun Q s rs) (hsi:s.since≤rs.length) {su:Nat} (hb:Bef rs s.bef su) :
    RndM Q c gs s rs (d113 (KM Q c gs s.st s.kp (s.fl Q) rs ((rs.length:Int) - (s.since:Int)) (su:Int))):=by
  have hI:=hR.inv
  have hok:=hQ.ok
  have hn7:=hok.P.n7
  have hs5:=hok.P.seats5
  have ho1:=hok.one1
  have ho6:=hok.one6
  have htl:=MS.tot_le hok
  have hsum:=MS.sum_le hok hI
  have hv:∀ i,i < Q.P.n→s.v Q i≤100000000000:=fun i hi=>by
    have h1:=MS.v_le hok hI hi
    omega
  have hq:s.quo Q≤100000000001:=by
    have:=MS.quo_le hok hI
    omega
  have hsurS:s.sur Q≤sumN (s.v Q) Q.P.n:=zej fun i _=>by split <;> omega
  have hrl:=hR.len
  have hfill:=hI.fill
  have hf1:=f1_le hok hI
  have hf1e:=f1_eq (Q:=Q) (s:=s)
  have hE:∀ r∈rs.map Rd.votes,RndOK Q.P.n r:=fun r hr=>by
    obtain ⟨r',h1,rfl⟩:=List.mem_map.1 hr
    exact (hR.rnd r' h1).1
  have hfl:=flat_lim hR.rnd
  obtain ⟨L,hL1,hL2⟩:=d160_ex hok hI (k:=KM Q c gs s.st s.kp (s.fl Q) rs ((rs.length:Int) - (s.since:Int)) (su:Int)) rfl rfl hQ.seats rfl
  have hLlen:L.length=cntN (s.el Q) Q.P.n:=by
    have:=hL2.length_eq
    rw [List.length_map,zbc] at this
    exact this
  have hLn:∀ i∈L,i < Q.P.n:=fun i hi=>by
    obtain ⟨k,e,hk,_⟩:=zay.1 (hL2.mem_iff.1 (List.mem_map_of_mem hi))
    have:Int.ofNat i=(k:Int):=e
    have:=Int.ofNat_inj.1 this
    omega
  have hLl:L.length≤7:=by rw [hLlen]; have:=zcl (s.el Q) Q.P.n; omega
  have hst1:lst (fun i=>((zfg s.st L 1 i:Nat):Int)) Q.P.n=lst (fun i=>((s.st1 Q i:Nat):Int)) Q.P.n:=zcj fun i hi=>by
    unfold zfg MS.st1
    have:i∈L↔s.el Q i=true:=by
      constructor
      · intro h
        obtain ⟨k,e,hk,h2⟩:=zay.1 (hL2.mem_iff.1 (List.mem_map_of_mem h))
        have e:Int.ofNat i=(k:Int):=e
        rw [Int.ofNat_inj.1 e]; exact h2
      · intro h
        obtain ⟨k,hk,e⟩:=List.mem_map.1 (hL2.mem_iff.2 (zay.2 ⟨i,rfl,hi,h⟩))
        have e:Int.ofNat k=(i:Int):=e
        rw [← Int.ofNat_inj.1 e]; exact hk
    by_cases h:i∈L
    · rw [if_pos h,if_pos (this.1 h)]
    · rw [if_neg h,if_neg fun h'=>h (this.2 h')]
  have hsel:zdo ([]++L.map Int.ofNat)=selI (s.el Q) Q.P.n:=sortI_of hL2 ((zel _ _).imp fun h=>Int.le_of_lt h)
  have hfl1:s.fl Q+L.length=s.f1 Q:=by omega
  have h159:=fun (v kk:List Rt) (qu ex su':Rt)=>d159_eq (c:=c) (gs:=gs) (lots:=Q.P.lots) (one:=(Q.one:Int)) (st:=s.st) (n:=Q.P.n) (kp:=lst (fun i=>(s.kp i:Int)) Q.P.n) (filled:=s.fl Q) (rest:=((rs.map Rd.votes).map (List.map rr),(rs.length:Int) - (s.since:Int),(su:Int),2,(Q.P.seats:Int),c.2.2.2.2.2.1,(Q.P.n:Int),rs.map rdT,rs.flatMap Rd.el)) (v:=v) (kk:=kk) (qu:=qu) (ex:=ex) (su:=su') (el:=[]) (ex2:=[]) (ti:=[]) (L:=L) (by omega) hLn hLl (by omega) (by simp)
  simp only [hst1,hsel,hfl1] at h159
  have hK:KM Q c gs s.st s.kp (s.fl Q) rs ((rs.length:Int) - (s.since:Int)) (su:Int)=(c,gs,Q.P.lots,(Q.one:Int),lst (fun i=>(s.st i:Int)) Q.P.n,lst (fun i=>(s.kp i:Int)) Q.P.n,((s.fl Q:Nat):Int),(rs.map Rd.votes).map (List.map rr),(rs.length:Int) - (s.since:Int),(su:Int),2,(Q.P.seats:Int),c.2.2.2.2.2.1,(Q.P.n:Int),rs.map rdT,rs.flatMap Rd.el):=rfl
  have h58:=hQ.d58 hI
  have h157v:=d157_eq (k:=KM Q c gs s.st s.kp (s.fl Q) rs ((rs.length:Int) - (s.since:Int)) (su:Int)) (v:=s.v Q) (n:=Q.P.n) (one:=Q.one) rfl (by omega) ho1 ho6 fun i hi=>by have:=hv i hi; omega
  have h157k:=d157_eq (k:=KM Q c gs s.st s.kp (s.fl Q) rs ((rs.length:Int) - (s.since:Int)) (su:Int)) (v:=s.kp) (n:=Q.P.n) (one:=Q.one) rfl (by omega) ho1 ho6 fun i hi=>by have:=hI.kp1 i; omega
  have hw1:w (c.2.2.2.1+1)=((Q.P.seats+1:Nat):Int):=by rw [hQ.seats,zbk (by omega)]
  have hdiv:w (w (Int.tdiv ((sumN (s.v Q) Q.P.n:Nat):Int) ((Q.P.seats+1:Nat):Int))+1)=((s.quo Q:Nat):Int):=by
    have h1:Int.tdiv ((sumN (s.v Q) Q.P.n:Nat):Int) ((Q.P.seats+1:Nat):Int)=((sumN (s.v Q) Q.P.n / (Q.P.seats+1):Nat):Int):=by
      rw [Int.tdiv_eq_ediv_of_nonneg (by omega)]; rfl
    have h2:=Nat.div_le_self (sumN (s.v Q) Q.P.n) (Q.P.seats+1)
    have h3:s.quo Q=sumN (s.v Q) Q.P.n / (Q.P.seats+1)+1:=rfl
    rw [h1,h3]
    generalize sumN (s.v Q) Q.P.n / (Q.P.seats+1)=z at h2 ⊢
    rw [zbf (n:=(z:Int)) (by omega) (by omega),zbk (by omega)]
  unfold d113
  generalize hKK:KM Q c gs s.st s.kp (s.fl Q) rs ((rs.length:Int) - (s.since:Int)) (su:Int)=K at *
  have k1:K.1=c:=by rw [hK]
  have k2:K.2.1=gs:=by rw [hK]
  have k4:K.2.2.2.1=(Q.one:Int):=by rw [hK]
  have k6:K.2.2.2.2.2.1=lst (fun i=>(s.kp i:Int)) Q.P.n:=by rw [hK]
  simp only [k1,k2,k6,hQ.dig,h58,Option.bind_some,zba]
  have goalS:∀ (X:Option (Bool × MT)→Prop) (kf:MT × (List Int) × Int × Int→Option (Bool × MT)),X (kf (K,lst (fun i=>((s.v Q i:Nat):Int)) Q.P.n,((s.rest Q:Nat):Int),((sumN (s.v Q) Q.P.n:Nat):Int)))→X ((zaa (β:=(MT × (List Int) × Int × Int)) (fun ((t0,t3,t4,t6,t34,t35,t36):MT × (List Int) × Int × Int × (List Int) × Int × Int) =>
      bif (decide (t36 < t35)) then
        bif (decide (0≤t36) && decide (t36 < (t34.length:Int))) then
          some (Sum.inl (t0,t3,t4,(w (t6+(List.getD t34 (Int.toNat t36) 0))),t34,t35,(w (t36+1))))
        else none
      else
        some (Sum.inr (t0,t3,t4,t6))) (K,lst (fun i=>((s.v Q i:Nat):Int)) Q.P.n,((s.rest Q:Nat):Int),0,lst (fun i=>((s.v Q i:Nat):Int)) Q.P.n,(Q.P.n:Int),0)).bind kf):=fun X kf hX=>by
    refine while_prp (fun i=>(K,lst (fun i=>((s.v Q i:Nat):Int)) Q.P.n,((s.rest Q:Nat):Int),((sumN (s.v Q) i:Nat):Int),lst (fun i=>((s.v Q i:Nat):Int)) Q.P.n,(Q.P.n:Int),(i:Int))) Q.P.n rfl (fun i hi=>?_) ?_ hX
    · have hm:=zid (s.v Q) (show i+1≤Q.P.n by omega)
      rw [sumN] at hm
      simp only [dlt hi,d0le,zba,Bool.and_self,cond_true,tn,zbl (fun i=>((s.v Q i:Nat):Int)) hi,wadd (show sumN (s.v Q) i+s.v Q i≤9223372036854775807 by omega),zbk (show i < 9223372036854775807 by omega)]
      rfl
    · simp only [nlt (Nat.le_refl Q.P.n),cond_false]
  refine goalS (RndM Q c gs s rs) _ ?_
  simp only [k1,k4,k6,hw1,decide_eq_false (show ¬ ((Q.P.seats+1:Nat):Int)=0 by omega),Bool.not_false,cond_true,hdiv,h157v,h157k,Option.bind_some,zpw (show s.quo Q≤9223372036854775807 by omega) (show Q.one≤9223372036854775807 by omega) ho1,zpw (show s.rest Q≤9223372036854775807 by omega) (show Q.one≤9223372036854775807 by omega) ho1,hL1]
  rw [hK]
  simp only [h159,Option.bind_some,show d161 (c,gs,Q.P.lots,(Q.one:Int),lst (fun i=>((s.st1 Q i:Nat):Int)) Q.P.n,lst (fun i=>(s.kp i:Int)) Q.P.n,((s.f1 Q:Nat):Int),(rs.map Rd.votes).map (List.map rr),(rs.length:Int) - (s.since:Int),(su:Int),2,(Q.P.seats:Int),c.2.2.2.2.2.1,(Q.P.n:Int),rs.map rdT,rs.flatMap Rd.el) 1=some (selI (fun i=>decide (s.st1 Q i=1)) Q.P.n) from zjx (st:=s.st1 Q) (n:=Q.P.n) rfl (by omega) 1,show d161 (c,gs,Q.P.lots,(Q.one:Int),lst (fun i=>((s.st1 Q i:Nat):Int)) Q.P.n,lst (fun i=>(s.kp i:Int)) Q.P.n,((s.f1 Q:Nat):Int),(rs.map Rd.votes).map (List.map rr),(rs.length:Int) - (s.since:Int),(su:Int),2,(Q.P.seats:Int),c.2.2.2.2.2.1,(Q.P.n:Int),rs.map rdT,rs.flatMap Rd.el) 0=some (selI (fun i=>decide (s.st1 Q i=0)) Q.P.n) from zjx (st:=s.st1 Q) (n:=Q.P.n) rfl (by omega) 0]
  have hpl:(selI (fun i=>decide (s.st1 Q i=1)) Q.P.n).length=(selN (fun i=>decide (s.st1 Q i=1)) Q.P.n).length:=List.length_map ..
  have hpl7:(selN (fun i=>decide (s.st1 Q i=1)) Q.P.n).length≤7:=by rw [zfw]; have:=zcl (fun i=>decide (s.st1 Q i=1)) Q.P.n; omega
  have hss:=sum_sel (fun i=>decide (s.st1 Q i=1)) (fun i=>s.v Q i - s.quo Q) Q.P.n
  have hss2:sumN (fun i=>if decide (s.st1 Q i=1)=true then s.v Q i - s.quo Q else 0) Q.P.n=s.sur Q:=zao fun i _=>by
    by_cases h:s.st1 Q i=1 <;> simp [h]
  rw [hss2] at hss
  refine while_prp (X:=RndM Q c gs s rs) (fun j=>((c,gs,Q.P.lots,(Q.one:Int),lst (fun i=>((s.st1 Q i:Nat):Int)) Q.P.n,lst (fun i=>(s.kp i:Int)) Q.P.n,((s.f1 Q:Nat):Int),(rs.map Rd.votes).map (List.map rr),(rs.length:Int) - (s.since:Int),(su:Int),2,(Q.P.seats:Int),c.2.2.2.2.2.1,(Q.P.n:Int),rs.map rdT,rs.flatMap Rd.el),lst (fun i=>((s.v Q i:Nat):Int)) Q.P.n,((s.quo Q:Nat):Int),(lst (fun i=>rr (frac (s.v Q i) Q.one)) Q.P.n,lst (fun i=>rr (frac (s.kp i) Q.one)) Q.P.n,rr (frac (s.quo Q) Q.one),rr (frac (s.rest Q) Q.one),(false,[],[]),selI (s.el Q) Q.P.n,[],[]),(((((selN (fun i=>decide (s.st1 Q i=1)) Q.P.n).take j).map fun i=>s.v Q i - s.quo Q).sum:Nat):Int),selI (fun i=>decide (s.st1 Q i=1)) Q.P.n,((selI (fun i=>decide (s.st1 Q i=1)) Q.P.n).length:Int),(j:Int))) (selN (fun i=>decide (s.st1 Q i=1)) Q.P.n).length (by rw [List.take_zero]; rfl) (fun j hj=>?_)
    (b:=((c,gs,Q.P.lots,(Q.one:Int),lst (fun i=>((s.st1 Q i:Nat):Int)) Q.P.n,lst (fun i=>(s.kp i:Int)) Q.P.n,((s.f1 Q:Nat):Int),(rs.map Rd.votes).map (List.map rr),(rs.length:Int) - (s.since:Int),(su:Int),2,(Q.P.seats:Int),c.2.2.2.2.2.1,(Q.P.n:Int),rs.map rdT,rs.flatMap Rd.el),lst (fun i=>((s.v Q i:Nat):Int)) Q.P.n,((s.quo Q:Nat):Int),(lst (fun i=>rr (frac (s.v Q i) Q.one)) Q.P.n,lst (fun i=>rr (frac (s.kp i) Q.one)) Q.P.n,rr (frac (s.quo Q) Q.one),rr (frac (s.rest Q) Q.one),(false,[],[]),selI (s.el Q) Q.P.n,[],[]),((s.sur Q:Nat):Int))) ?_ ?_
  · have hg:=selN_getD_lt hj
    have hsg:=selI_getD hj
    have hvx:=hv _ hg.1
    have hpart:=sum_take_le ((selN (fun i=>decide (s.st1 Q i=1)) Q.P.n).map fun i=>s.v Q i - s.quo Q) (j+1)
    rw [← List.map_take,hss,sur_part _ _ _ hj] at hpart
    have hmax:(bif decide (0 < w (((s.v Q ((selN (fun i=>decide (s.st1 Q i=1)) Q.P.n).getD j 0):Nat):Int) - ((s.quo Q:Nat):Int))) then w (((s.v Q ((selN (fun i=>decide (s.st1 Q i=1)) Q.P.n).getD j 0):Nat):Int) - ((s.quo Q:Nat):Int)) else 0)=((s.v Q ((selN (fun i=>decide (s.st1 Q i=1)) Q.P.n).getD j 0) - s.quo Q:Nat):Int):=by
      generalize s.v Q ((selN (fun i=>decide (s.st1 Q i=1)) Q.P.n).getD j 0)=y at hvx ⊢
      rw [zbf (by omega) (by omega)]
      by_cases h:(0:Int) < (y:Int) - ((s.quo Q:Nat):Int)
      · rw [decide_eq_true h,cond_true]; omega
      · rw [decide_eq_false h,cond_false]; omega
    simp only [hpl,dlt hj,d0le,Bool.and_self,cond_true,tn,hsg,zba,dlt hg.1,zbl (fun i=>((s.v Q i:Nat):Int)) hg.1,hmax,wadd (show (((selN (fun i=>decide (s.st1 Q i=1)) Q.P.n).take j).map fun i=>s.v Q i - s.quo Q).sum+(s.v Q ((selN (fun i=>decide (s.st1 Q i=1)) Q.P.n).getD j 0) - s.quo Q)≤9223372036854775807 by omega),zbk (show j < 9223372036854775807 by omega),sur_part _ _ _ hj]
  · simp only [hpl,nlt (Nat.le_refl _),cond_false,List.take_length,hss]
  have hd158:=zpw (show s.sur Q≤9223372036854775807 by omega) (show Q.one≤9223372036854775807 by omega) ho1
  have hrounds:w (((rs.map rdT).length:Int)+1)=((rs.length+1:Nat):Int):=by rw [List.length_map,zbk (by omega)]
  simp only [hd158,Option.bind_some]
  refine letJ_of (X:=RndM Q c gs s rs) (fun J=>∀ (st kp:Nat→Nat) (fl:Nat) (ev su':Int) (el ex ti:List Int) (last:Bool),el.length≤7→ex.length≤1→J ((c,gs,Q.P.lots,(Q.one:Int),lst (fun i=>((st i:Nat):Int)) Q.P.n,lst (fun i=>(kp i:Int)) Q.P.n,((fl:Nat):Int),(rs.map Rd.votes).map (List.map rr),ev,su',2,(Q.P.seats:Int),c.2.2.2.2.2.1,(Q.P.n:Int),rs.map rdT,rs.flatMap Rd.el),(lst (fun i=>rr (frac (s.v Q i) Q.one)) Q.P.n,lst (fun i=>rr (frac (s.kp i) Q.one)) Q.P.n,rr (frac (s.quo Q) Q.one),rr (frac (s.rest Q) Q.one),rr (frac (s.sur Q) Q.one),el,ex,ti),((s.sur Q:Nat):Int),((rs.length+1:Nat):Int),last)=some (!last,KM Q c gs st kp fl (rs++[{ s.rd0 Q with el:=el,ex:=ex,ti:=ti }]) (if el=[]∧ex=[] then ev else ((rs.length+1:Nat):Int)) ((s.sur Q:Nat):Int))) ?_ ?_
  · intro st kp fl ev su' el ex ti last hel hex
    have l1:=lim_one (α:=List Rt) (l:=rs.length) (by omega)
    have l2:=lim_one (α:=RD) (l:=rs.length) (by omega)
    have l3:decide (((rs.flatMap Rd.el).length:Int)+(el.length:Int)≤LIM)=true:=zmg (by omega)
    have hKM:KM Q c gs st kp fl (rs++[{ s.rd0 Q with el:=el,ex:=ex,ti:=ti }]) (if el=[]∧ex=[] then ev else ((rs.length+1:Nat):Int)) ((s.sur Q:Nat):Int)=(c,gs,Q.P.lots,(Q.one:Int),lst (fun i=>((st i:Nat):Int)) Q.P.n,lst (fun i=>(kp i:Int)) Q.P.n,((fl:Nat):Int),(rs.map Rd.votes).map (List.map rr)++[lst (fun i=>rr (frac (s.v Q i) Q.one)) Q.P.n],(if el=[]∧ex=[] then ev else ((rs.length+1:Nat):Int)),((s.sur Q:Nat):Int),2,(Q.P.seats:Int),c.2.2.2.2.2.1,(Q.P.n:Int),rs.map rdT++[(lst (fun i=>rr (frac (s.v Q i) Q.one)) Q.P.n,lst (fun i=>rr (frac (s.kp i) Q.one)) Q.P.n,rr (frac (s.quo Q) Q.one),rr (frac (s.rest Q) Q.one),rr (frac (s.sur Q) Q.one),el,ex,ti)],rs.flatMap Rd.el++el):=by
      rw [rdM]
      unfold KM MS.rd0
      simp only [List.map_append,List.flatMap_append,List.map_cons,List.map_nil,List.flatMap_cons,List.flatMap_nil,List.append_nil,zme]
    rw [hKM]
    simp only [zak,List.length_map,List.length_cons,l1,l2,l3,cond_true,wadd (show el.length+ex.length≤9223372036854775807 by omega)]
    by_cases h0:el=[]∧ex=[]
    · rw [if_pos h0,h0.1,h0.2]; rfl
    · rw [if_neg h0,decide_eq_true,cond_true]
      have:0 < el.length+ex.length:=by
        refine Nat.pos_of_ne_zero fun h=>h0 ⟨List.length_eq_zero_iff.1 (by omega),List.length_eq_zero_iff.1 (by omega)⟩
      omega
  intro J hJ
  have h161:d161 (c,gs,Q.P.lots,(Q.one:Int),lst (fun i=>((s.st1 Q i:Nat):Int)) Q.P.n,lst (fun i=>(s.kp i:Int)) Q.P.n,((s.f1 Q:Nat):Int),(rs.map Rd.votes).map (List.map rr),(rs.length:Int) - (s.since:Int),(su:Int),2,(Q.P.seats:Int),c.2.2.2.2.2.1,(Q.P.n:Int),rs.map rdT,rs.flatMap Rd.el) 0=some (selI (fun i=>decide (s.st1 Q i=0)) Q.P.n):=zjx (st:=s.st1 Q) (n:=Q.P.n) rfl (by omega) 0
  rw [hQ.seats]
  simp only [zpu,h161,Option.bind_some]
  have hse7:=zpt (s:=s) hok
  by_cases c1:s.f1 Q=Q.P.seats
  · have hf:s.fin Q=true:=by unfold MS.fin; rw [decide_eq_true c1]; rfl
    have hd:{ s.rd0 Q with el:=selI (s.el Q) Q.P.n,ex:=[],ti:=[] }=s.done Q:=by
      unfold MS.done
      rw [if_pos c1]; rfl
    have:=hJ (s.st1 Q) s.kp (s.f1 Q) ((rs.length:Int) - (s.since:Int)) (su:Int) (selI (s.el Q) Q.P.n) [] [] true hse7 (by simp)
    rw [hd] at this
    refine .inl ⟨hf,s.st1 Q,s.kp,s.f1 Q,_,_,Eq.trans ?_ this⟩
    rw [decide_eq_true c1,cond_true,hrounds]
  rw [decide_eq_false c1,cond_false]
  have hh7:=zcl (fun i=>decide (s.st1 Q i=0)) Q.P.n
  have hh1:(selI (fun i=>decide (s.st1 Q i=0)) Q.P.n).length=s.h1 Q:=zbc _ _
  have hh1':s.h1 Q≤7:=by
    have:s.h1 Q=cntN (fun i=>decide (s.st1 Q i=0)) Q.P.n:=rfl
    omega
  simp only [hh1,wadd (show s.f1 Q+s.h1 Q≤9223372036854775807 by omega)]
  by_cases c2:s.f1 Q+s.h1 Q≤Q.P.seats
  · have hf:s.fin Q=true:=by unfold MS.fin; rw [decide_eq_true c2,Bool.or_true]
    rw [decide_eq_true (show ((s.f1 Q+s.h1 Q:Nat):Int)≤(Q.P.seats:Int) by omega),cond_true]
    have h159':=d159_eq (c:=c) (gs:=gs) (lots:=Q.P.lots) (one:=(Q.one:Int)) (st:=s.st1 Q) (n:=Q.P.n) (kp:=lst (fun i=>(s.kp i:Int)) Q.P.n) (filled:=s.f1 Q) (rest:=((rs.map Rd.votes).map (List.map rr),(rs.length:Int) - (s.since:Int),(su:Int),2,(Q.P.seats:Int),c.2.2.2.2.2.1,(Q.P.n:Int),rs.map rdT,rs.flatMap Rd.el)) (v:=lst (fun i=>rr (frac (s.v Q i) Q.one)) Q.P.n) (kk:=lst (fun i=>rr (frac (s.kp i) Q.one)) Q.P.n) (qu:=rr (frac (s.quo Q) Q.one)) (ex:=rr (frac (s.rest Q) Q.one)) (su:=rr (frac (s.sur Q) Q.one)) (el:=selI (s.el Q) Q.P.n) (ex2:=[]) (ti:=[]) (L:=selN (fun i=>decide (s.st1 Q i=0)) Q.P.n) (by omega) (fun i hi=>(zez.1 hi).1) (by rw [zfw]; omega) (by omega) (by omega)
    have hsel2:zdo (selI (s.el Q) Q.P.n++(selN (fun i=>decide (s.st1 Q i=0)) Q.P.n).map Int.ofNat)=selI (fun i=>s.el Q i || decide (s.st1 Q i=0)) Q.P.n:=sortI_two (q:=fun i=>decide (s.st1 Q i=0)) (fun i h=>by
      rcases zbj (Q:=Q) (s:=s) i with ⟨h0,h1,h2,_⟩ | ⟨h0,h2⟩
      · rw [h2]; rfl
      · rw [h] at h0; cases h0) Q.P.n
    rw [hsel2] at h159'
    have hsl:(selI (fun i=>s.el Q i || decide (s.st1 Q i=0)) Q.P.n).length≤7:=by
      rw [zbc]; have:=zcl (fun i=>s.el Q i || decide (s.st1 Q i=0)) Q.P.n; omega
    have hd:{ s.rd0 Q with el:=selI (fun i=>s.el Q i || decide (s.st1 Q i=0)) Q.P.n,ex:=[],ti:=[] }=s.done Q:=by
      unfold MS.done
      rw [if_neg c1]; rfl
    have:=hJ (zfg (s.st1 Q) (selN (fun i=>decide (s.st1 Q i=0)) Q.P.n) 1) s.kp (s.f1 Q+(selN (fun i=>decide (s.st1 Q i=0)) Q.P.n).length) ((rs.length:Int) - (s.since:Int)) (su:Int) (selI (fun i=>s.el Q i || decide (s.st1 Q i=0)) Q.P.n) [] [] true hsl (by simp)
    rw [hd] at this
    refine .inl ⟨hf,_,_,_,_,_,Eq.trans ?_ this⟩
    have hsI:selI (fun i=>decide (s.st1 Q i=0)) Q.P.n=(selN (fun i=>decide (s.st1 Q i=0)) Q.P.n).map Int.ofNat:=rfl
    rw [hsI,h159',Option.bind_some]
    simp only [hrounds]
  have hf:s.fin Q=false:=by unfold MS.fin; rw [decide_eq_false c1,decide_eq_false c2]; rfl
  rw [decide_eq_false (show ¬ ((s.f1 Q+s.h1 Q:Nat):Int)≤(Q.P.seats:Int) by omega),cond_false]
  have hlen1:((rs++[s.exR Q (rs.map Rd.votes)]).length:Int)=((rs.length+1:Nat):Int):=by simp
  have hlen2:((rs++[s.rd0 Q]).length:Int)=((rs.length+1:Nat):Int):=by simp
  have hredu:s.cut Q=false→RndM Q c gs s rs (J ((c,gs,Q.P.lots,(Q.one:Int),lst (fun i=>((s.st1 Q i:Nat):Int)) Q.P.n,lst (fun i=>((s.kp1 Q i:Nat):Int)) Q.P.n,((s.f1 Q:Nat):Int),(rs.map Rd.votes).map (List.map rr),(rs.length:Int) - (s.since:Int),(su:Int),2,(Q.P.seats:Int),c.2.2.2.2.2.1,(Q.P.n:Int),rs.map rdT,rs.flatMap Rd.el),(lst (fun i=>rr (frac (s.v Q i) Q.one)) Q.P.n,lst (fun i=>rr (frac (s.kp i) Q.one)) Q.P.n,rr (frac (s.quo Q) Q.one),rr (frac (s.rest Q) Q.one),rr (frac (s.sur Q) Q.one),selI (s.el Q) Q.P.n,[],[]),((s.sur Q:Nat):Int),((rs.length+1:Nat):Int),false)):=fun hc=>by
    have:=hJ (s.st1 Q) (s.kp1 Q) (s.f1 Q) ((rs.length:Int) - (s.since:Int)) (su:Int) (selI (s.el Q) Q.P.n) [] [] false hse7 (by simp)
    refine .inr (.inr ⟨hf,hc,?_⟩)
    rw [this,hlen2]
    show some (true,KM Q c gs (s.st1 Q) (s.kp1 Q) (s.f1 Q) (rs++[s.rd0 Q]) _ _)=some (true,KM Q c gs (s.st1 Q) (s.kp1 Q) (s.f1 Q) (rs++[s.rd0 Q]) (((rs.length+1:Nat):Int) - ((if s.some1 Q then 0 else s.since+1:Nat):Int)) _)
    congr 3
    cases h1:s.some1 Q
    · have hnil:selI (s.el Q) Q.P.n=[]:=by
        rw [← List.length_eq_zero_iff,zbc]
        refine Nat.eq_zero_of_not_pos fun h=>?_
        unfold MS.some1 at h1
        exact absurd h (of_decide_eq_false h1)
      rw [if_pos ⟨hnil,rfl⟩]
      simp only [Bool.false_eq_true,if_false]
      omega
    · have hnn:¬ (selI (s.el Q) Q.P.n=[]∧([]:List Int)=[]):=fun h=>by
        have:=congrArg List.length h.1
        rw [zbc] at this
        unfold MS.some1 at h1
        have:=of_decide_eq_true h1
        simp at *
        omega
      rw [if_neg hnn]
      simp
  have h164:=d164_eq (Q:=Q) (s:=s) hok hI (c:=c) (gs:=gs) (lots:=Q.P.lots) (filled:=((s.f1 Q:Nat):Int)) (rest:=((rs.map Rd.votes).map (List.map rr),(rs.length:Int) - (s.since:Int),(su:Int),2,(Q.P.seats:Int),c.2.2.2.2.2.1,(Q.P.n:Int),rs.map rdT,rs.flatMap Rd.el))
  simp only [hrounds,zak]
  cases h1:s.some1 Q
  · have hnil:selI (s.el Q) Q.P.n=[]:=by
      rw [← List.length_eq_zero_iff,zbc]
      refine Nat.eq_zero_of_not_pos fun h=>?_
      unfold MS.some1 at h1
      exact absurd h (of_decide_eq_false h1)
    have hcut:s.cut Q=s.stall Q:=by unfold MS.cut; rw [h1]; rfl
    have hsteq:lst (fun i=>((s.st1 Q i:Nat):Int)) Q.P.n=lst (fun i=>(s.st i:Int)) Q.P.n:=zcj fun i hi=>by rw [(el_out h1 hi).2]
    have hf1fl:s.f1 Q=s.fl Q:=by
      have:cntN (s.el Q) Q.P.n=0:=by rw [← zbc,hnil]; rfl
      omega
    have h162:=d162_eq (Q:=Q) (s:=s) (k:=(c,gs,Q.P.lots,(Q.one:Int),lst (fun i=>((s.st1 Q i:Nat):Int)) Q.P.n,lst (fun i=>(s.kp i:Int)) Q.P.n,((s.f1 Q:Nat):Int),(rs.map Rd.votes).map (List.map rr),(rs.length:Int) - (s.since:Int),(su:Int),2,(Q.P.seats:Int),c.2.2.2.2.2.1,(Q.P.n:Int),rs.map rdT,rs.flatMap Rd.el)) (rs:=rs) hQ.d1 hQ.d6 hQ.dig rfl (by omega) hsi rfl rfl hb hQ.om
    have hz:decide (((selI (s.el Q) Q.P.n).length:Int)=0)=true:=by rw [hnil]; rfl
    simp only [hz,cond_true,h162,Option.bind_some]
    cases hs:s.stall Q
    · rw [cond_false]
      simp only [h164,Option.bind_some]
      exact hredu (hcut.trans hs)
    · rw [cond_true]
      obtain ⟨x,x1,x2,h163⟩:=d163_eq (Q:=Q) (s:=s) hok hI hQ.ties (gs:=gs) (one:=(Q.one:Int)) (filled:=((s.f1 Q:Nat):Int)) (E:=rs.map Rd.votes) (rest:=((rs.length:Int) - (s.since:Int),(su:Int),2,(Q.P.seats:Int),c.2.2.2.2.2.1,(Q.P.n:Int),rs.map rdT,rs.flatMap Rd.el)) hE (by rw [List.length_map]; omega) (lst (fun i=>rr (frac (s.v Q i) Q.one)) Q.P.n) (lst (fun i=>rr (frac (s.kp i) Q.one)) Q.P.n) (rr (frac (s.quo Q) Q.one)) (rr (frac (s.rest Q) Q.one)) (rr (frac (s.sur Q) Q.one)) (selI (s.el Q) Q.P.n) [] []
      rw [hsteq,h163,Option.bind_some]
      have:=hJ (upd s.st x 2) (upd s.kp x 0) (s.f1 Q) ((rs.length:Int) - (s.since:Int)) (su:Int) (selI (s.el Q) Q.P.n) [(x:Int)] (if (s.tied Q).length=1 then [] else s.tied Q) false hse7 (by simp)
      refine .inr (.inl ⟨hf,hcut.trans hs,?_⟩)
      rw [hlen1]
      have hex:(s.excl Q (rs.map Rd.votes)).fl Q=s.f1 Q:=by
        rw [hf1fl]
        obtain ⟨x',y1,y2,y3⟩:=zig hI (rs.map Rd.votes)
        unfold MS.excl
        rw [y1,Int.toNat_natCast]
        exact fl_excl y2 y3
      have hex2:(s.excl Q (rs.map Rd.votes)).st=upd s.st x 2:=by
        unfold MS.excl
        rw [x2]; rfl
      have hex3:(s.excl Q (rs.map Rd.votes)).kp=upd s.kp x 0:=by
        unfold MS.excl
        rw [x2]; rfl
      have hexr:{ s.rd0 Q with el:=selI (s.el Q) Q.P.n,ex:=[(x:Int)],ti:=if (s.tied Q).length=1 then [] else s.tied Q }=s.exR Q (rs.map Rd.votes):=by
        unfold MS.exR
        rw [x2]; rfl
      rw [hex,hex2,hex3]
      rw [hexr,if_neg (show ¬ (selI (s.el Q) Q.P.n=[]∧[(x:Int)]=[]) by simp)] at this
      refine this.trans ?_
      show some (true,KM Q c gs (upd s.st x 2) (upd s.kp x 0) (s.f1 Q) (rs++[s.exR Q (rs.map Rd.votes)]) ((rs.length+1:Nat):Int) _)=some (true,KM Q c gs (upd s.st x 2) (upd s.kp x 0) (s.f1 Q) (rs++[s.exR Q (rs.map Rd.votes)]) (((rs.length+1:Nat):Int) - ((0:Nat):Int)) _)
      rw [show ((rs.length+1:Nat):Int) - ((0:Nat):Int)=((rs.length+1:Nat):Int) by omega]
  · have hz:decide (((selI (s.el Q) Q.P.n).length:Int)=0)=false:=by
      refine decide_eq_false ?_
      rw [zbc]
      unfold MS.some1 at h1
      have:=of_decide_eq_true h1
      omega
    simp only [hz,cond_false,h164,Option.bind_some]
    exact hredu (by unfold MS.cut; rw [h1]; rfl)
def mqOf (c:CT) (gs:List Grp) (lots:List Int):MP:=⟨gpOf c gs lots,10 ^ c.2.2.2.2.2.1.toNat,10 ^ (c.2.2.2.2.2.1.toNat / 2)⟩
def trM (c:CT) (Q:MP):Int × (Int × (Int × (Int × (List RD × List Int)))):=(2,(Q.P.seats:Int),c.2.2.2.2.2.1,(Q.P.n:Int),(zad Q).map rdT,(zad Q).flatMap Rd.el)
theorem mqOf_ok {c:CT} {gs:List Grp} {lots:List Int} (h:fitE 2 c gs lots=0):MQ (mqOf c gs lots) c gs c.2.2.2.2.2.1.toNat:=by
  obtain ⟨hP,_⟩:=gpOf_okM h
  obtain ⟨_,_,_,n1,n7,s1,s5,_,hd,_,t1,t3,hp,ll,hB⟩:=zmn h
  obtain ⟨hd1,hd6⟩:=hd rfl
  refine ⟨⟨hP,ten_pos _,ten_six (by omega),ten_pos _⟩,⟨lots,rfl⟩,rfl,⟨_,hp⟩,?_,by omega,by omega,by omega,rfl,rfl,rfl⟩
  show c.2.2.2.1=(c.2.2.2.1.toNat:Int)
  omega
theorem Bef.excl' {rs:List Rd} {r:Rd} {sur:Nat} (h:r.ex ≠ []):Bef (rs++[r]) none sur:=.excl rs r rfl h rfl
theorem Bef.kept' {rs:List Rd} {r:Rd} {sur:Nat} (h:r.ex=[]):Bef (rs++[r]) (some sur) sur:=.kept rs r rfl h rfl
set_option maxHeartbeats 1000000 in
theorem d56_eq {c:CT} {gs:List Grp} {lots:List Int} (hg:GsOK gs) (hl:lots.length≤281474976710656):d56 c gs lots=some (if fitE 2 c gs lots=0 then (trM c (mqOf c gs lots),0) else ((0,0,0,0,[],[]),fitE 2 c gs lots)):=by
  unfold d56
  rw [d66_eq 2 c hg hl,Option.bind_some]
  by_cases hfit:¬ fitE 2 c gs lots=0
  · rw [if_neg hfit,decide_eq_false hfit]; rfl
  have hfit:=Decidable.not_not.1 hfit
  rw [if_pos hfit,decide_eq_true hfit,Bool.not_true,cond_false]
  have hQ:=mqOf_ok hfit
  have hlo:(mqOf c gs lots).P.lots=lots:=rfl
  have hdig:=hQ.dig
  have hone:=hQ.one
  generalize hd:c.2.2.2.2.2.1.toNat=d at hQ hdig hone
  generalize mqOf c gs lots=Q at hQ hlo hone ⊢
  have hn:=hQ.n
  have hok:=hQ.ok
  have hn7:=hok.P.n7
  have hd6:=hQ.d6
  have h112:d112 [((Q.one:Nat):Int)] (Q.P.n:Int)=some (lst (fun _=>((Q.one:Nat):Int)) Q.P.n):=by
    unfold d112
    rw [decide_eq_true (show ([((Q.one:Nat):Int)]:List Int).length=1 from rfl),decide_eq_true (show (0:Int)≤(Q.P.n:Int) by omega),decide_eq_true (show (Q.P.n:Int)≤1000 by omega),Bool.and_self,Bool.and_self,cond_true,tn,lst_rep]
    rfl
  rw [hdig,d111_eq (by omega),Option.bind_some,← hone,hn]
  simp only [decide_true,d0le,zby (n:=Q.P.n) (by omega),Bool.and_self,cond_true,tn,h112,Option.bind_some,hQ.seats]
  have hK0:(c,gs,lots,((Q.one:Nat):Int),List.replicate Q.P.n (0:Int),lst (fun _=>((Q.one:Nat):Int)) Q.P.n,(0:Int),([]:List (List Rt)),(0:Int),(0:Int),(2:Int),(Q.P.seats:Int),(d:Int),(Q.P.n:Int),([]:List RD),([]:List Int))=KM Q c gs Q.s0.st Q.s0.kp (Q.s0.fl Q) [] ((([]:List Rd).length:Int) - (Q.s0.since:Int)) ((0:Nat):Int):=by
    have:Q.s0.fl Q=0:=by unfold MS.fl cntN; exact zct _
    unfold KM
    rw [this,hlo,lst_rep,hdig]
    rfl
  rw [hK0]
  refine zhc (Q:=fun r=>r=some (trM c Q,0)) (fun (M:Nat) (a:(Int × (Int × (Int × (Int × (List RD × List Int))))) × MT)=>∃ (s:MS) (rs:List Rd) (su:Nat),a=((0,0,0,0,[],[]),KM Q c gs s.st s.kp (s.fl Q) rs ((rs.length:Int) - (s.since:Int)) (su:Int))∧MRun Q s rs∧s.since≤rs.length∧Bef rs s.bef su∧M=s.meas Q) (Q.s0.meas Q) ⟨Q.s0,[],0,rfl,MRun.start hok,Nat.le_refl _,.start rfl rfl,rfl⟩ ?_
  rintro M a ⟨s,rs,su,rfl,hR,hsi,hb,rfl⟩
  rcases d113_eq hQ hR hsi hb with ⟨hf,st',kp',fl',ev',su',he⟩ | ⟨hf,hc,he⟩ | ⟨hf,hc,he⟩
  · refine .inr ⟨((0,0,0,0,[],[]),KM Q c gs st' kp' fl' (rs++[s.done Q]) ev' su'),by simp only [he,Option.bind_some,cond_false],?_⟩
    show some ((2,(Q.P.seats:Int),c.2.2.2.2.2.1,(Q.P.n:Int),(rs++[s.done Q]).map rdT,(rs++[s.done Q]).flatMap Rd.el),0)=some (trM c Q,0)
    rw [hR.fin hf]; rfl
  · have hme:=(zmr hok hR.inv hf hc (rs.map Rd.votes)).2
    exact .inl ⟨_,(s.excl Q (rs.map Rd.votes)).meas Q,by simp only [he,Option.bind_some,cond_true],hme,_,_,s.sur Q,rfl,hR.excl hok hf hc,Nat.zero_le _,Bef.excl' (by simp [MS.exR]),rfl⟩
  · have hme:=(zlx hok hR.inv hf hc).2
    refine .inl ⟨_,(s.redu Q).meas Q,by simp only [he,Option.bind_some,cond_true],hme,_,_,s.sur Q,rfl,hR.redu hok hf hc,?_,Bef.kept' rfl,rfl⟩
    show (if s.some1 Q then 0 else s.since+1)≤(rs++[s.rd0 Q]).length
    rw [List.length_append]
    split
    · omega
    · simp; omega
end Go.Proofs.YtmipjomnjkmdbaaGreat
set_option linter.unusedSimpArgs false
set_option linter.unusedVariables false
namespace Go.Proofs.YtmipjomnjkmdbaaGreat
open Go Go.X
theorem limbs_one {n:Nat} (h:(zam n).length=1):n < 4294967296∧(zam n).getD 0 0=(n:Int):=by
  have h1:=(zap n 1).1 (by omega)
  have hp:0 < n:=zdz.1 (by omega)
  rw [Nat.pow_one] at h1
  refine ⟨h1,?_⟩
  rw [zeo (by omega),List.getD_cons_zero,Nat.mod_eq_of_lt h1]
end Go.Proofs.YtmipjomnjkmdbaaGreat
set_option linter.unusedSimpArgs false
set_option linter.unusedVariables false
namespace Go.Proofs.YtmipjomnjkmdbaaGreat
open Go Go.X
theorem d25_meek {n:Nat} (hn:n≤1000) {seats digits ties:Int} (hs:WT (.int .i64) seats) (hd:WT (.int .i64) digits) (ht:WT (.int .i64) ties):∃ c:CT,d25 1 (n:Int) seats digits ties=some c∧ConOK c n 2∧c.2.2.2.1=1+seats % 5∧c.2.2.2.2.2.1=1+digits % 6∧c.2.2.2.2.2.2.1=1+ties % 3:=by
  obtain ⟨l,l1,l2⟩:=d72_eq (n:=n) hn
  have hm:WT (.int .i64) 1:=zbf (by omega) (by omega)
  unfold d25
  rw [l1,zhs hm (by omega) (by omega),zhs hs (by omega) (by omega),zhs ht (by omega) (by omega),zhs hd (by omega) (by omega)]
  simp only [Option.bind_some,zak]
  have w2:w (1+seats % 5)=1+seats % 5:=zbf (by omega) (by omega)
  have w3:w (1+ties % 3)=1+ties % 3:=zbf (by omega) (by omega)
  have w4:w (1+digits % 6)=1+digits % 6:=zbf (by omega) (by omega)
  have w1:w (1+1 % 3)=2:=zbf (n:=2) (by omega) (by omega)
  simp only [w1,w2,w3,w4]
  exact ⟨_,rfl,⟨l2,rfl,by show 1≤1+seats % 5; omega,by show 1+seats % 5≤5; omega,fun h=>absurd h (by omega),fun _=>by show 1≤1+digits % 6∧1+digits % 6≤6; omega,fun h=>absurd rfl h,by show 1≤1+ties % 3; omega,by show 1+ties % 3≤3; omega⟩,rfl,rfl,rfl⟩
theorem d54_eq (l:List (List Int)) (hl:l.length≤281474976710656):d54 l=some (decide (∀ x∈l,x.length≤12) && decide (l.length≤24)):=by
  unfold d54
  by_cases h:∀ x∈l,x.length≤12
  · refine zaf (b:=.inl l) (fun i=>(l,(i:Int))) l.length rfl (fun i hi=>?_) ?_ ?_
    · have:=h _ (zcu (d:=[]) hi)
      simp only [dlt hi,d0le,Bool.and_self,cond_true,tn,decide_eq_false (show ¬ (12:Int) < ((l.getD i []).length:Int) by omega),cond_false,zbk (show i < 9223372036854775807 by omega)]
    · simp only [nlt (Nat.le_refl l.length),cond_false]
    · rw [decide_eq_true h,Bool.true_and]
      exact congrArg some (decide_eq_decide.2 (by omega))
  · rw [decide_eq_false h,Bool.false_and]
    refine zhc (Q:=fun r=>r=some false) (fun (M:Nat) (st:(List (List Int)) × Int)=>∃ i:Nat,st=(l,(i:Int))∧i+M=l.length∧∀ j,j < i→(l.getD j []).length≤12) l.length ⟨0,rfl,by omega,fun j hj=>by omega⟩ ?_
    rintro M st ⟨i,rfl,h1,h2⟩
    rcases Nat.eq_zero_or_pos M with h0 | h0
    · exfalso
      refine h fun x hx=>?_
      obtain ⟨k,hk,rfl⟩:=List.getElem_of_mem hx
      have:=h2 k (by omega)
      rw [List.getD_eq_getElem?_getD,List.getElem?_eq_getElem hk] at this
      exact this
    · have hi:i < l.length:=by omega
      simp only [dlt hi,d0le,Bool.and_self,cond_true,tn]
      by_cases hc:12 < (l.getD i []).length
      · refine .inr ⟨.inr false,by rw [decide_eq_true (show (12:Int) < ((l.getD i []).length:Int) by omega),cond_true],rfl⟩
      · refine .inl ⟨_,M - 1,by rw [decide_eq_false (show ¬ (12:Int) < ((l.getD i []).length:Int) by omega),cond_false],by omega,i+1,by rw [zbk (by omega)],by omega,fun j hj=>?_⟩
        by_cases hji:j=i
        · rw [hji]; omega
        · exact h2 j (by omega)
theorem d63_eq {d:Nat} (h:d≤6):d63 (d:Int)=some ((10 ^ d:Nat):Int):=by
  unfold d63
  refine zaf (fun i=>((d:Int),((10 ^ i:Nat):Int),(i:Int))) d rfl (fun i hi=>?_) ?_ rfl
  · simp only [zak,dlt hi,cond_true,decide_eq_true (show (i:Int) < 6 by omega),wten (show i < 18 by omega),zbk (show i < 9223372036854775807 by omega)]
  · simp only [zak,nlt (Nat.le_refl d),cond_false]
theorem frac_nd2 (a:Nat) {b:Nat} (hb:0 < b):(frac a b).num.natAbs=a / Nat.gcd a b∧(frac a b).den=b / Nat.gcd a b∧0≤(frac a b).num:=by
  have e:frac a b=mkRat (a:Int) b:=by
    unfold frac
    rw [Rat.mkRat_eq_div]; rfl
  rw [e,Rat.num_mkRat,Rat.den_mkRat,if_neg (by omega),if_neg (by omega),Int.natAbs_natCast]
  rw [Nat.gcd_comm b a,← Int.natCast_ediv,Int.natAbs_natCast]
  exact ⟨rfl,rfl,Int.natCast_nonneg _⟩
theorem zod {a one:Nat} (h1:0 < one) (h6:one≤1000000) (ha:a < 4294967296):d64 (rr (frac a one)) (one:Int)=some ((a:Int),true):=by
  obtain ⟨e1,e2,e3⟩:=frac_nd2 a h1
  have hg:0 < Nat.gcd a one:=Nat.gcd_pos_of_pos_right a h1
  have hga:Nat.gcd a one ∣ a:=Nat.gcd_dvd_left a one
  have hgo:Nat.gcd a one ∣ one:=Nat.gcd_dvd_right a one
  obtain ⟨x,hx⟩:=hga
  obtain ⟨y,hy⟩:=hgo
  generalize hG:Nat.gcd a one=g at *
  have ex:a / g=x:=by rw [hx]; exact Nat.mul_div_cancel_left x hg
  have ey:one / g=y:=by rw [hy]; exact Nat.mul_div_cancel_left y hg
  rw [ex] at e1
  rw [ey] at e2
  have hy1:0 < y:=by
    refine Nat.pos_of_ne_zero fun h=>?_
    rw [h,Nat.mul_zero] at hy
    omega
  have hyo:y≤one:=by rw [hy]; exact Nat.le_mul_of_pos_left y hg
  have hxa:x≤a:=by rw [hx]; exact Nat.le_mul_of_pos_left x hg
  have hl1:(zam x).length≤1:=(zap x 1).2 (by omega)
  have hl2:(zam y).length=1:=by
    have:=(zap y 1).2 (by omega)
    have h2:=zeo (n:=y) (by omega)
    have h3:=congrArg List.length h2
    rw [List.length_cons] at h3
    omega
  have hneg:(rr (frac a one)).1=false:=by
    show decide ((frac a one).num < 0)=false
    exact decide_eq_false (by omega)
  have hr:rr (frac a one)=(false,zam x,zam y):=by
    have h2:rr (frac a one)=((rr (frac a one)).1,zam (frac a one).num.natAbs,zam (frac a one).den):=rfl
    rw [h2,hneg,e1,e2]
  have hy0:=(limbs_one hl2).2
  have hmod:w (Int.tmod (one:Int) (y:Int))=0:=by
    rw [tmodN,hy,Nat.mul_mod_left]
    exact zbf (by omega) (by omega)
  have hdiv:w (Int.tdiv (one:Int) (y:Int))=(g:Int):=by
    rw [tdivN,hy,Nat.mul_div_cancel _ hy1]
    have:g≤one:=by rw [hy]; exact Nat.le_mul_of_pos_right g hy1
    exact zbf (by omega) (by omega)
  have hwy:w (y:Int)=(y:Int):=zbf (by omega) (by omega)
  have hyne:decide ((y:Int)=0)=false:=decide_eq_false (by omega)
  rw [hr]
  unfold d64
  simp only [zak,Bool.not_false,cond_true,decide_eq_false (show ¬ (1:Int) < ((zam x).length:Int) by omega),hl2,show decide (((1:Nat):Int)=1)=true from rfl,Bool.not_true,show decide ((0:Int) < ((1:Nat):Int))=true from rfl,show decide ((0:Nat)≤0)=true from rfl,Bool.and_self,hy0,hyne,hwy,hmod,show decide ((0:Int)=0)=true from rfl,cond_false]
  rcases Nat.eq_zero_or_pos x with h0 | h0
  · subst h0
    have:a=0:=by rw [hx,Nat.mul_zero]
    rw [this,zcq]; rfl
  · have hl1':(zam x).length=1:=by
      have h2:=zeo (n:=x) (by omega)
      have h3:=congrArg List.length h2
      rw [List.length_cons] at h3
      omega
    have hx0:=(limbs_one hl1').2
    have hwx:w (x:Int)=(x:Int):=zbf (by omega) (by omega)
    simp only [hl1',show decide (((1:Nat):Int)=0)=false from rfl,cond_false,show decide ((0:Int) < ((1:Nat):Int))=true from rfl,cond_true,hx0,hwx,hdiv,wmul (show x * g≤9223372036854775807 by rw [Nat.mul_comm,← hx]; omega)]
    rw [Nat.mul_comm,← hx,decide_true]
    rfl
def awM:MP:={ P:={ gs:=[([0],1),([0,1],3),([2],2)],n:=3,seats:=2,q:=3,tot:=6,ties:=3,lots:=[0,1,2] },one:=1000,om:=10 }
theorem awM_pile:zcz [[0,1],[0,1],[0,1],[0],[2],[2]]=[([0],1),([0,1],3),([2],2)]:=by decide +kernel
theorem awM_count:(zad awM).flatMap Rd.el=[0,2]:=by decide +kernel
theorem awM_mq {c:CT} (h1:c.2.1.length=3) (h2:c.2.2.2.1=2) (h3:c.2.2.2.2.2.2.1=3) (h4:c.2.2.2.2.2.1=3):mqOf c [([0],1),([0,1],3),([2],2)] [0,1,2]=awM:=by
  unfold mqOf gpOf awM
  rw [h1,h2,h3,h4]
  have e1:(wsum zas [([0],1),([0,1],3),([2],2)] / (2+1)+1).toNat=3:=by decide +kernel
  have e2:(wsum (fun _=>1) [([0],1),([0,1],3),([2],2)]).toNat=6:=by decide +kernel
  rw [e1,e2]
  rfl
theorem zkl:d55=some true:=by
  have k:∀ x:Int,-9223372036854775808≤x→x≤9223372036854775807→WT (.int .i64) x:=fun x h0 h1=>zbf h0 h1
  obtain ⟨c,c1,c2,c3,c4,c5⟩:=d25_meek (n:=3) (by omega) (k 1 (by omega) (by omega)) (k 2 (by omega) (by omega)) (k 2 (by omega) (by omega))
  have c3':c.2.2.2.1=2:=by rw [c3]; rfl
  have c4':c.2.2.2.2.2.1=3:=by rw [c4]; rfl
  have c5':c.2.2.2.2.2.2.1=3:=by rw [c5]; rfl
  have hb:∀ b∈[[0,1],[0,1],[0,1],[0],[2],[2]],isB 3 b:=by decide +kernel
  have h48:=d48_eq (n:=3) (by omega) (by omega) hb (by simp)
  have hp:=(zmc (n:=3) _ hb (by simp)).1
  rw [awM_pile] at h48 hp
  have hfit:fitE 2 c [([0],1),([0,1],3),([2],2)] [0,1,2]=0:=zmo (n:=3) (m:=2) c2 (by omega) (by omega) (by omega) (by omega) hp rfl (by decide +kernel)
  have h56:=d56_eq (c:=c) (lots:=[0,1,2]) (hp.gs (by omega)) (by simp)
  rw [if_pos hfit,awM_mq c2.names c3' c5' c4'] at h56
  have hp2:PileOK ((2:Nat):Int) [([0,1],3)] 3:=⟨by decide +kernel,by simp [zjk],by decide +kernel,by omega⟩
  have h58:=d58_ok (n:=2) (d:=2) (by omega) (by omega) (by omega) (by omega) hp2 c [] (kp:=fun i=>if i=0 then 33 else 100) (fun i=>by show (if i=0 then 33 else 100)≤100; split <;> omega)
  have hk:lst (fun i=>((if i=0 then 33 else 100:Nat):Int)) 2=[33,100]:=by decide +kernel
  have hv:lst (fun x=>((mvo (gpOf c [([0,1],3)] []) (10 ^ 2) (fun i=>if i=0 then 33 else 100) x:Nat):Int)) 2=[99,201]:=by
    have e:∀ x,mvo (gpOf c [([0,1],3)] []) (10 ^ 2) (fun i=>if i=0 then 33 else 100) x=3 * ziq 100 (fun i=>if i=0 then 33 else 100) [0,1] x:=fun x=>by
      show 0+3 * ziq (10 ^ 2) (fun i=>if i=0 then 33 else 100) [0,1] x=_
      rw [Nat.zero_add]
    rw [zcj fun x _=>by rw [e x]]
    decide +kernel
  have hr:mro (gpOf c [([0,1],3)] []) (10 ^ 2) (fun i=>if i=0 then 33 else 100)=0:=by
    show 0+3 * mw (10 ^ 2) (fun i=>if i=0 then 33 else 100) [0,1] 2=0
    decide +kernel
  rw [hk,hv,hr] at h58
  have h60:d60 5=some 100:=d60_eq (d:=5) (by omega) (by omega)
  unfold d55
  have c1':d25 1 3 1 2 2=some c:=c1
  have h58':d58 2 [33,100] [([0,1],3)]=some ([99,201],0,true):=h58
  rw [h48,Option.bind_some,c1',Option.bind_some,h56,Option.bind_some,h58',Option.bind_some]
  have hT:(trM c awM).2.2.2.2.2=[0,2]:=awM_count
  have h44:d44 [0,2]=some [0,2]:=by rw [d44_eq (by simp)]; decide +kernel
  have f38:d38 [0,2] [0,2]=some true:=by rw [d38_eq (by simp) (by simp)]; rfl
  have f38':d38 [99,201] [99,201]=some true:=by rw [d38_eq (by simp) (by simp)]; rfl
  simp only [hT,h44,f38,f38',h60,Option.bind_some]
  rfl
structure CntM (n:Nat) (c:CT) (gs:List Grp) (lots:List Int) (N:Int):Prop where
  con:ConOK c n 2
  n1:1≤n
  n7:n≤7
  pile:PileOK (n:Int) gs N
  len:lots.length=n
  perm:isB (n:Int) lots
  fit:fitE 2 c gs lots=0
  mq:MQ (mqOf c gs lots) c gs c.2.2.2.2.2.1.toNat
  cands:(mqOf c gs lots).P.n=n
  tot:((mqOf c gs lots).P.tot:Int)=N
theorem CntM.mk' {n:Nat} {c:CT} {gs:List Grp} {lots:List Int} {N:Int} (hc:ConOK c n 2) (h1:1≤n) (h7:n≤7) (hp:PileOK (n:Int) gs N) (hl:lots.length=n) (hb:isB (n:Int) lots):CntM n c gs lots N:=by
  have hf:=zmo hc (by omega) (by omega) h1 h7 hp hl hb
  refine ⟨hc,h1,h7,hp,hl,hb,hf,mqOf_ok hf,hc.names,?_⟩
  have:=hp.total
  have h0:=(zhb (n:=(n:Int)) hp.ballots (f:=fun _=>1) (fun _=>by omega)).1
  show ((wsum (fun _=>1) gs).toNat:Int)=N
  omega
theorem CntM.d56 {n:Nat} {c:CT} {gs:List Grp} {lots:List Int} {N:Int} (h:CntM n c gs lots N):d56 c gs lots=some (trM c (mqOf c gs lots),0):=by
  have hl:=h.len
  have h7:=h.n7
  rw [d56_eq (h.pile.gs (by omega)) (by omega),if_pos h.fit]
theorem d62_eq {n:Nat} (h1:1≤n) (h7:n≤7) {seats digits ties code:Int} {l:List (List Int)} (hs:WT (.int .i64) seats) (hd:WT (.int .i64) digits) (ht:WT (.int .i64) ties) (hc:WT (.int .i64) code) (hl:l.length≤281474976710656) (hw:∀ x∈l,WT (.slice (.int .i64)) x) :
    ∃ c lots,d62 (n:Int) seats digits ties code l=some (c,zcz (bals (n:Int) l 24),trM c (mqOf c (zcz (bals (n:Int) l 24)) lots),0)∧CntM n c (zcz (bals (n:Int) l 24)) lots ((bals (n:Int) l 24).length:Int)∧d27 (n:Int) code=some lots∧c.2.2.2.1=1+seats % 5∧c.2.2.2.2.2.1=1+digits % 6∧c.2.2.2.2.2.2.1=1+ties % 3:=by
  obtain ⟨c,c1,c2,c3,c4,c5⟩:=d25_meek (n:=n) (by omega) hs hd ht
  obtain ⟨lots,l1,l2,l3⟩:=d27_eq (n:=n) (by omega) hc
  have hpl:=zmc (n:=(n:Int)) (bals (n:Int) l 24) (bals_isB (n:=(n:Int)) (by omega) (l:=l) (most:=24)) (by have:=@bals_len (n:Int) l 24; omega)
  have hC:=CntM.mk' (c:=c) c2 h1 h7 hpl.1 l2 l3
  refine ⟨c,lots,?_,hC,l1,c3,c4,c5⟩
  unfold d62
  rw [c1,Option.bind_some,show d26 (n:Int) l 24=some (zcz (bals (n:Int) l 24)) from d26_eq (n:=(n:Int)) (by omega) (by omega) hl hw (most:=24) (by omega),Option.bind_some,l1,Option.bind_some,hC.d56]
  rfl
end Go.Proofs.YtmipjomnjkmdbaaGreat
set_option linter.unusedSimpArgs false
set_option linter.unusedVariables false
namespace Go.Proofs.YtmipjomnjkmdbaaGreat
open Go Go.X
variable {Q:MP} {s:MS}
def MS.act (Q:MP) (s:MS):Nat:=cntN (fun i=>decide (s.st i ≠ 2)) Q.P.n
theorem zkd (hI:MI Q s):s.f1 Q+s.h1 Q=s.act Q:=by
  unfold MS.f1 MS.h1 MS.act cntN
  rw [← zew]
  refine zao fun i hi=>?_
  have h3:=hI.st2 i
  rcases zbj (Q:=Q) (s:=s) i with ⟨h0,h1,h2,_⟩ | ⟨h0,h2⟩
  · simp [h1,h2]
  · have:s.st i=0∨s.st i=1∨s.st i=2:=by omega
    rcases this with h | h | h <;> simp [h,h2]
theorem elM_hop {i:Nat} (h:s.el Q i=true):s.st i=0:=by
  unfold MS.el MS.reach at h
  rw [Bool.and_eq_true,Bool.and_eq_true,decide_eq_true_eq] at h
  exact h.1.1
structure WinM (Q:MP) (s:MS) (l:List Int):Prop where
  nodup:l.Nodup
  within:∀ c∈l,∃ i:Nat,c=(i:Int)∧i < Q.P.n∧s.st i=0
  num:l.length+s.fl Q=min Q.P.seats Q.P.n
theorem el_nil (h:s.some1 Q=false):selI (s.el Q) Q.P.n=[]:=by
  rw [← List.length_eq_zero_iff,zbc]
  refine Nat.eq_zero_of_not_pos fun h0=>?_
  unfold MS.some1 at h
  exact absurd h0 (of_decide_eq_false h)
theorem cut_some1 (h:s.cut Q=true):s.some1 Q=false:=by
  unfold MS.cut at h
  rw [Bool.and_eq_true,Bool.not_eq_true'] at h
  exact h.1
theorem winM_tr (hQ:Q.OK) {rs rest:List Rd} (h:MTr Q s rs rest):min Q.P.seats Q.P.n≤s.act Q→WinM Q s (rest.flatMap Rd.el):=by
  induction h with
  | @fin s rs hR hf =>
    intro hact
    have hI:=hR.inv
    have hs:=zkd hI
    have hf1:=f1_le hQ hI
    have he:=f1_eq (Q:=Q) (s:=s)
    have hactn:s.act Q≤Q.P.n:=zcl _ _
    have hfill:=hI.fill
    rw [List.flatMap_cons,List.flatMap_nil,List.append_nil]
    unfold MS.done
    show WinM Q s (if s.f1 Q=Q.P.seats then selI (s.el Q) Q.P.n else selI (fun i=>s.el Q i || decide (s.st1 Q i=0)) Q.P.n)
    by_cases h:s.f1 Q=Q.P.seats
    · rw [if_pos h]
      refine ⟨zdi _ _,fun c hc=>?_,?_⟩
      · obtain ⟨i,rfl,h1,h2⟩:=zay.1 hc
        exact ⟨i,rfl,h1,elM_hop h2⟩
      · rw [zbc]; omega
    · rw [if_neg h]
      have hq:s.f1 Q+s.h1 Q≤Q.P.seats:=by
        unfold MS.fin at hf
        rw [Bool.or_eq_true,decide_eq_true_eq,decide_eq_true_eq] at hf
        omega
      refine ⟨zdi _ _,fun c hc=>?_,?_⟩
      · obtain ⟨i,rfl,h1,h2⟩:=zay.1 hc
        refine ⟨i,rfl,h1,?_⟩
        rcases zbj (Q:=Q) (s:=s) i with ⟨h0,k1,k2,_⟩ | ⟨h0,k2⟩
        · exact k1
        · rw [h0,Bool.false_or,decide_eq_true_eq] at h2
          omega
      · rw [zbc]
        have e:cntN (fun i=>s.el Q i || decide (s.st1 Q i=0)) Q.P.n=cntN (s.el Q) Q.P.n+s.h1 Q:=by
          unfold MS.h1 cntN
          rw [← zew]
          refine zao fun i hi=>?_
          rcases zbj (Q:=Q) (s:=s) i with ⟨h0,k1,k2,_⟩ | ⟨h0,k2⟩
          · simp [h0,k2]
          · simp [h0]
        rw [e]
        omega
  | @excl s rs rest hR hf hc h ih =>
    intro hact
    have hI:=hR.inv
    have hff:=zhl hQ hI hf
    have hs:=zkd hI
    have hnil:=el_nil (cut_some1 hc)
    obtain ⟨x,x1,x2,x3⟩:=zig hI (rs.map Rd.votes)
    have hst:(s.excl Q (rs.map Rd.votes)).st=upd s.st x 2:=by
      unfold MS.excl
      rw [x1,Int.toNat_natCast]
    have hfl:(s.excl Q (rs.map Rd.votes)).fl Q=s.fl Q:=by
      unfold MS.fl
      rw [hst]; exact fl_excl x2 x3
    have hac:(s.excl Q (rs.map Rd.votes)).act Q+1=s.act Q:=by
      unfold MS.act
      rw [hst]
      exact (cnt_upd x2 (fun i hi hne=>by rw [zlh _ _ hne]) (by rw [zop]; rfl) (by rw [x3]; rfl)).symm
    have hw:=ih (by omega)
    rw [List.flatMap_cons]
    show WinM Q s (selI (s.el Q) Q.P.n++_)
    rw [hnil,List.nil_append]
    refine ⟨hw.nodup,fun c hc=>?_,by rw [← hfl]; exact hw.num⟩
    obtain ⟨i,rfl,h1,h2⟩:=hw.within c hc
    rw [hst] at h2
    refine ⟨i,rfl,h1,?_⟩
    unfold upd at h2
    split at h2
    · omega
    · exact h2
  | @redu s rs rest hR hf hc h ih =>
    intro hact
    have hI:=hR.inv
    have hff:=zhl hQ hI hf
    have hs:=zkd hI
    have he:=f1_eq (Q:=Q) (s:=s)
    have hac:(s.redu Q).act Q=s.act Q:=by
      refine zjz fun i hi=>?_
      show decide (s.st1 Q i ≠ 2)=_
      refine decide_eq_decide.2 ?_
      rcases zbj (Q:=Q) (s:=s) i with ⟨h0,h1,h2,_⟩ | ⟨h0,h2⟩ <;> omega
    have hw:=ih (by omega)
    have hfl:(s.redu Q).fl Q=s.f1 Q:=rfl
    rw [List.flatMap_cons]
    show WinM Q s (selI (s.el Q) Q.P.n++_)
    have hwith:∀ i,i < Q.P.n→s.st1 Q i=0→s.st i=0∧s.el Q i=false:=fun i hi h0=>by
      rcases zbj (Q:=Q) (s:=s) i with ⟨k0,k1,k2,_⟩ | ⟨k0,k2⟩
      · omega
      · exact ⟨by omega,k0⟩
    refine ⟨List.nodup_append.2 ⟨zdi _ _,hw.nodup,fun c hc d hd hcd=>?_⟩,fun c hc=>?_,?_⟩
    · subst hcd
      obtain ⟨i,rfl,h1,h2⟩:=zay.1 hc
      obtain ⟨j,h3,h4,h5⟩:=hw.within _ hd
      have:=(hwith j h4 h5).2
      rw [← Int.ofNat_inj.1 h3,h2] at this
      cases this
    · rcases List.mem_append.1 hc with hc | hc
      · obtain ⟨i,rfl,h1,h2⟩:=zay.1 hc
        exact ⟨i,rfl,h1,elM_hop h2⟩
      · obtain ⟨j,h3,h4,h5⟩:=hw.within _ hc
        exact ⟨j,h3,h4,(hwith j h4 h5).1⟩
    · have h1:=hw.num
      rw [List.length_append,zbc]
      omega
theorem winM_ok (hQ:Q.OK):WinM Q Q.s0 ((zad Q).flatMap Rd.el):=by
  refine winM_tr hQ (zgu hQ) ?_
  have:Q.s0.act Q=Q.P.n:=by
    unfold MS.act cntN
    have key:∀ n,sumN (fun _=>1) n=n:=fun n=>by
      induction n with
      | zero=>rfl
      | succ n ih=>rw [sumN,ih]
    exact (zao (g:=fun _=>1) fun i _=>rfl).trans (key _)
  rw [this]
  exact Nat.min_le_right _ _
theorem winM_len (hQ:Q.OK):((zad Q).flatMap Rd.el).length=min Q.P.seats Q.P.n:=by
  have h:=(winM_ok hQ).num
  have e1:Q.s0.fl Q=0:=by unfold MS.fl cntN; exact zct _
  rw [e1] at h
  exact h
theorem winM_isB (hQ:Q.OK):isB (Q.P.n:Int) ((zad Q).flatMap Rd.el):=⟨(winM_ok hQ).nodup,fun c hc=>by
  obtain ⟨i,rfl,h,_⟩:=(winM_ok hQ).within c hc
  omega⟩
theorem MTr.ne {rs rest:List Rd} (h:MTr Q s rs rest):rest ≠ []:=by cases h <;> simp
theorem zgv (hQ:Q.OK):zad Q ≠ []:=(zgu hQ).ne
theorem MTr.len (hQ:Q.OK) {rs rest:List Rd} (h:MTr Q s rs rest):rs.length+rest.length≤488:=by
  induction h with
  | fin hR hf=>have:=hR.len; simp; omega
  | excl hR hf hm h ih=>simp only [List.length_append,List.length_cons,List.length_nil] at ih ⊢; omega
  | redu hR hf hm h ih=>simp only [List.length_append,List.length_cons,List.length_nil] at ih ⊢; omega
theorem zhf (hQ:Q.OK):(zad Q).length≤488:=by have:=(zgu hQ).len hQ; simpa using this
def MemM (Q:MP) (s:MS) (rs:List Rd):Prop:=∀ k:Nat,k < Q.P.n→((k:Int)∈rs.flatMap Rd.el↔s.st k=1)∧((k:Int)∈rs.flatMap Rd.ex↔s.st k=2)
theorem MemM.excl (hI:MI Q s) {rs:List Rd} (h:MemM Q s rs) (hc:s.cut Q=true) (E:List (List Rat)):MemM Q (s.excl Q E) (rs++[s.exR Q E]):=by
  obtain ⟨x,x1,x2,x3⟩:=zig hI E
  have hnil:=el_nil (cut_some1 hc)
  have hst:(s.excl Q E).st=upd s.st x 2:=by
    unfold MS.excl
    rw [x1,Int.toNat_natCast]
  intro k hk
  obtain ⟨h1,h2⟩:=h k hk
  rw [List.flatMap_append,List.flatMap_append,List.mem_append,List.mem_append,List.flatMap_cons,List.flatMap_cons,List.flatMap_nil,List.flatMap_nil,List.append_nil,List.append_nil,hst]
  have e1:(s.exR Q E).el=[]:=hnil
  have e2:(s.exR Q E).ex=[(x:Int)]:=by show [s.pick Q E]=_; rw [x1]
  rw [e1,e2,h1,h2]
  unfold upd
  by_cases hkx:k=x
  · subst hkx; simp; omega
  · have:¬ (k:Int)=(x:Int):=by omega
    simp [hkx,this]
theorem MemM.redu {rs:List Rd} (h:MemM Q s rs):MemM Q (s.redu Q) (rs++[s.rd0 Q]):=by
  intro k hk
  obtain ⟨h1,h2⟩:=h k hk
  rw [List.flatMap_append,List.flatMap_append,List.mem_append,List.mem_append,List.flatMap_cons,List.flatMap_cons,List.flatMap_nil,List.flatMap_nil,List.append_nil,List.append_nil]
  have e1:(k:Int)∈(s.rd0 Q).el↔s.el Q k=true:=by
    show (k:Int)∈selI (s.el Q) Q.P.n↔_
    rw [zay]
    constructor
    · rintro ⟨i,e,_,h⟩
      rw [Int.ofNat_inj.1 e]; exact h
    · intro h; exact ⟨k,rfl,hk,h⟩
  have e2:(s.rd0 Q).ex=[]:=rfl
  have e3:(s.redu Q).st k=s.st1 Q k:=rfl
  rw [e1,e2,e3,h1,h2]
  rcases zbj (Q:=Q) (s:=s) k with ⟨k0,k1,k2,_⟩ | ⟨k0,k2⟩
  · simp [k0,k1,k2]
  · simp [k0,k2]
theorem MTr.at (hQ:Q.OK):∀ {i:Nat} {s:MS} {rs rest:List Rd},MTr Q s rs rest→MemM Q s rs→i < rest.length→∃ s',MTr Q s' (rs++rest.take i) (rest.drop i)∧MemM Q s' (rs++rest.take i)
  | 0,s,rs,rest,h,hm,_=>⟨s,by rw [List.take_zero,List.append_nil,List.drop_zero]; exact h,by rw [List.take_zero,List.append_nil]; exact hm⟩
  | i+1,s,rs,rest,h,hm,hi=>by
    cases h with
    | fin hR hf=>simp at hi
    | excl hR hf hc h =>
      have:=MTr.at hQ (i:=i) h (hm.excl hR.inv hc _) (by simpa using hi)
      simpa [List.append_assoc] using this
    | redu hR hf hc h =>
      have:=MTr.at hQ (i:=i) h hm.redu (by simpa using hi)
      simpa [List.append_assoc] using this
theorem MemM.start:MemM Q Q.s0 []:=fun k hk=>⟨⟨fun h=>by simp at h,fun h=>(by cases h)⟩,⟨fun h=>by simp at h,fun h=>(by cases h)⟩⟩
structure StM (Q:MP) (s:MS) (r:Rd):Prop where
  inv:MI Q s
  votes:r.votes=lst (fun i=>frac (s.v Q i) Q.one) Q.P.n
  keep:r.keep=lst (fun i=>frac (s.kp i) Q.one) Q.P.n
  quota:r.quota=frac (s.quo Q) Q.one
  exh:r.exh=frac (s.rest Q) Q.one
  sur:r.sur=frac (s.sur Q) Q.one
  el:∀ i,i < Q.P.n→s.el Q i=true→(i:Int)∈r.el
theorem doneM_el:∀ i,i < Q.P.n→s.el Q i=true→(i:Int)∈(s.done Q).el:=by
  intro i hi h
  show (i:Int)∈(if _ then _ else _)
  split
  · exact zay.2 ⟨i,rfl,hi,h⟩
  · exact zay.2 ⟨i,rfl,hi,by rw [h]; rfl⟩
theorem MTr.head {rs rest:List Rd} {r:Rd} (h:MTr Q s rs (r::rest)):StM Q s r:=by
  have hR:=h.run
  cases h with
  | fin=>exact ⟨hR.inv,rfl,rfl,rfl,rfl,rfl,doneM_el⟩
  | excl=>exact ⟨hR.inv,rfl,rfl,rfl,rfl,rfl,fun i hi h=>zay.2 ⟨i,rfl,hi,h⟩⟩
  | redu=>exact ⟨hR.inv,rfl,rfl,rfl,rfl,rfl,fun i hi h=>zay.2 ⟨i,rfl,hi,h⟩⟩
theorem roundM (hQ:Q.OK) {i:Nat} (h:i < (zad Q).length):∃ s,StM Q s ((zad Q).getD i rd0)∧MemM Q s ((zad Q).take i)∧MTr Q s ((zad Q).take i) ((zad Q).drop i):=by
  obtain ⟨s,h1,h2⟩:=(zgu hQ).at hQ MemM.start h
  rw [List.nil_append] at h1 h2
  refine ⟨s,?_,h2,h1⟩
  rw [zet rd0 h] at h1
  exact h1.head
theorem MTr.tell (hQ:Q.OK) {rs rest:List Rd} {r:Rd} (h:MTr Q s rs (r::rest)):(rest=[]∧r.ex=[]∧r.el ≠ [])∨(rest ≠ []∧(r.el.length+r.ex.length=0→Q.om≤s.sur Q)):=by
  cases h with
  | fin hR hf =>
    refine .inl ⟨rfl,rfl,fun e=>?_⟩
    have hI:=hR.inv
    have he:=f1_eq (Q:=Q) (s:=s)
    have hh:=h1_eq (Q:=Q) (s:=s)
    have hfill:=hI.fill
    have hleft:=hI.left
    unfold MS.done at e
    have e:=congrArg List.length e
    simp only at e
    by_cases h:s.f1 Q=Q.P.seats
    · rw [if_pos h,zbc] at e
      simp at e
      omega
    · rw [if_neg h,zbc] at e
      have e2:cntN (fun i=>s.el Q i || decide (s.st1 Q i=0)) Q.P.n=cntN (s.el Q) Q.P.n+s.h1 Q:=by
        unfold MS.h1 cntN
        rw [← zew]
        refine zao fun i hi=>?_
        rcases zbj (Q:=Q) (s:=s) i with ⟨h0,k1,k2,_⟩ | ⟨h0,k2⟩
        · simp [h0,k2]
        · simp [h0]
      rw [e2] at e
      simp at e
      omega
  | excl hR hf hc h=>exact .inr ⟨h.ne,fun e=>by simp [MS.exR] at e⟩
  | redu hR hf hc h =>
    refine .inr ⟨h.ne,fun e=>?_⟩
    have h1:s.some1 Q=false:=by
      unfold MS.some1
      refine decide_eq_false ?_
      rw [← zbc]
      have:(s.rd0 Q).el.length=(selI (s.el Q) Q.P.n).length:=rfl
      omega
    unfold MS.cut at hc
    rw [h1,Bool.not_false,Bool.true_and] at hc
    unfold MS.stall at hc
    rw [Bool.or_eq_false_iff,Bool.or_eq_false_iff,decide_eq_false_iff_not] at hc
    omega
theorem over_le:cntN (fun i=>decide (s.quo Q≤s.v Q i)) Q.P.n≤Q.P.seats:=by
  have h1:s.quo Q * cntN (fun i=>decide (s.quo Q≤s.v Q i)) Q.P.n≤sumN (s.v Q) Q.P.n:=by
    rw [← cnt_mul]
    refine zej fun i _=>?_
    by_cases h:s.quo Q≤s.v Q i
    · rw [decide_eq_true h,if_pos rfl]; exact h
    · rw [decide_eq_false h]; simp
  have h2:sumN (s.v Q) Q.P.n < s.quo Q * (Q.P.seats+1):=by
    unfold MS.quo
    have:=Nat.div_add_mod (sumN (s.v Q) Q.P.n) (Q.P.seats+1)
    have hm:=Nat.mod_lt (sumN (s.v Q) Q.P.n) (show 0 < Q.P.seats+1 by omega)
    rw [Nat.add_mul,Nat.one_mul,Nat.mul_comm (sumN (s.v Q) Q.P.n / (Q.P.seats+1))]
    omega
  have h3:=Nat.lt_of_mul_lt_mul_left (Nat.lt_of_le_of_lt h1 h2)
  omega
theorem mgive_first {one:Nat} (h1:0 < one) (p:List Int) (c:Nat):ziq one (fun _=>one) p c=if decide (0 < p.length) && decide (p.getD 0 0=(c:Int)) then one else 0:=by
  have hp0:zdv one (fun _=>one) p 0=one:=mup_mul h1
  have hw:∀ j,1≤j→mw one (fun _=>one) p j=0:=by
    intro j hj
    induction j with
    | zero=>omega
    | succ j ih =>
      show mw one (fun _=>one) p j - zdv one (fun _=>one) p j=0
      by_cases h0:j=0
      · subst h0
        rw [hp0]
        show one - one=0
        omega
      · rw [ih (by omega)]; omega
  have hpj:∀ j,1≤j→zdv one (fun _=>one) p j=0:=fun j hj=>by
    unfold zdv
    rw [hw j hj,Nat.zero_mul,mup_zero h1]
  unfold ziq
  have key:∀ m,sumN (fun j=>if p.getD j 0=(c:Int) then zdv one (fun _=>one) p j else 0) m=if decide (0 < m) && decide (p.getD 0 0=(c:Int)) then one else 0:=by
    intro m
    induction m with
    | zero=>rfl
    | succ m ih =>
      rw [sumN,ih]
      by_cases h0:m=0
      · subst h0
        rw [hp0]
        simp
      · rw [hpj m (by omega),decide_eq_true (show 0 < m by omega),decide_eq_true (show 0 < m+1 by omega)]
        simp
  exact key _
theorem v_first (hQ:Q.OK) (c:Nat):Q.s0.v Q c=Q.one * g0.lie Q.P c:=by
  unfold MS.v mvo GS.lie
  rw [Nat.mul_comm,← zft]
  refine zao fun g _=>?_
  show Q.P.k g * ziq Q.one (fun _=>Q.one) (Q.P.p g) c=_
  rw [mgive_first hQ.one1]
  show _=(if (decide (0 < (Q.P.p g).length) && decide ((Q.P.p g).getD 0 0=(c:Int)))=true then Q.P.k g * 1 else 0) * Q.one
  split
  · rw [Nat.mul_one]
  · simp
theorem zne (hQ:Q.OK) {x:Nat} (hx:x < Q.P.n) (h:Q.P.mkd < (Q.P.seats+1) * g0.lie Q.P x):(x:Int)∈((zad Q).getD 0 rd0).el:=by
  have hne:=List.length_pos_iff.2 (zgv hQ)
  have ht:=zgu hQ
  have e:=zet rd0 hne
  rw [List.drop_zero] at e
  rw [e] at ht
  refine ht.head.el x hx ?_
  have hI:=s0_inv hQ
  have hsum:sumN (Q.s0.v Q) Q.P.n≤Q.one * Q.P.mkd:=by
    have h1:sumN (Q.s0.v Q) Q.P.n=sumN (g0.lie Q.P) Q.P.n * Q.one:=by
      rw [← zft]
      exact zao fun i _=>by rw [v_first hQ,Nat.mul_comm]
    have h2:=znu (s:=g0) hQ.P
    have h3:sumN (fun g=>if Q.P.p g=[] then 0 else Q.P.k g * g0.num g) Q.P.G=Q.P.mkd:=by
      unfold GP.mkd
      refine zao fun g _=>?_
      show (if Q.P.p g=[] then 0 else Q.P.k g * 1)=_
      rw [Nat.mul_one]
    rw [h1,Nat.mul_comm]
    exact Nat.mul_le_mul_left _ (by omega)
  have hq:Q.s0.quo Q≤Q.s0.v Q x:=by
    rw [v_first hQ]
    have h1:sumN (Q.s0.v Q) Q.P.n / (Q.P.seats+1) < Q.one * g0.lie Q.P x:=by
      rw [Nat.div_lt_iff_lt_mul (by omega)]
      refine Nat.lt_of_le_of_lt hsum ?_
      have:=Nat.mul_lt_mul_of_pos_left h hQ.one1
      rw [show Q.one * g0.lie Q.P x * (Q.P.seats+1)=Q.one * ((Q.P.seats+1) * g0.lie Q.P x) by rw [Nat.mul_assoc,Nat.mul_comm (g0.lie Q.P x)]]
      exact this
    unfold MS.quo
    omega
  have hre:Q.s0.reach Q x=true:=by
    unfold MS.reach
    rw [decide_eq_true hq,Bool.and_true]
    exact decide_eq_true rfl
  have hrank:Q.s0.rank Q x+1≤Q.P.seats:=by
    refine Nat.le_trans ?_ (over_le (Q:=Q) (s:=Q.s0))
    have h1:cntN (fun d=>Q.s0.reach Q d && zdg (Q.s0.v Q) Q.P.lots d x || decide (d=x)) Q.P.n=Q.s0.rank Q x+1:=by
      refine cnt_upd hx (fun i hi hne=>by simp [hne]) ?_ (by simp)
      rw [zom,Bool.and_false]
    rw [← h1]
    refine zej fun i _=>?_
    by_cases hp:(Q.s0.reach Q i && zdg (Q.s0.v Q) Q.P.lots i x || decide (i=x))=true
    · rw [if_pos hp]
      have hqi:Q.s0.quo Q≤Q.s0.v Q i:=by
        rw [Bool.or_eq_true,Bool.and_eq_true,decide_eq_true_eq] at hp
        rcases hp with hp | hp
        · have:=hp.1
          unfold MS.reach at this
          rw [Bool.and_eq_true,decide_eq_true_eq,decide_eq_true_eq] at this
          exact this.2
        · rw [hp]; exact hq
      show 1≤if decide (Q.s0.quo Q≤Q.s0.v Q i)=true then 1 else 0
      rw [decide_eq_true hqi,if_pos rfl]
      exact Nat.le_refl _
    · rw [if_neg hp]; exact Nat.zero_le _
  have hfl:Q.s0.fl Q=0:=by unfold MS.fl cntN; exact zct _
  unfold MS.el
  rw [hre,Bool.true_and,hfl]
  exact decide_eq_true (by omega)
end Go.Proofs.YtmipjomnjkmdbaaGreat
set_option linter.unusedSimpArgs false
set_option linter.unusedVariables false
namespace Go.Proofs.YtmipjomnjkmdbaaGreat
open Go Go.X
variable {Q:MP} {s:MS}
theorem zif {i:Nat} (h:i < (zad Q).length) (d:RD):((zad Q).map rdT).getD i d=rdT ((zad Q).getD i rd0):=by
  rw [List.getD_eq_getElem?_getD,List.getElem?_map,List.getElem?_eq_getElem h,List.getD_eq_getElem?_getD,List.getElem?_eq_getElem h]; rfl
theorem MTr.el7 (hok:Q.OK) {rs rest:List Rd} {r:Rd} (h:MTr Q s rs (r::rest)):r.el.length≤7∧r.ex.length≤1:=by
  have hn7':=hok.P.n7
  cases h with
  | fin hR hf =>
    refine ⟨?_,by show ([]:List Int).length≤1; simp⟩
    unfold MS.done
    show (if _ then _ else _:List Int).length≤7
    split
    · rw [zbc]; have:=zcl (s.el Q) Q.P.n; omega
    · rw [zbc]; have:=zcl (fun i=>s.el Q i || decide (s.st1 Q i=0)) Q.P.n; omega
  | excl hR hf hc h=>exact ⟨zpt hok,by show ([_]:List Int).length≤1; simp⟩
  | redu hR hf hc h=>exact ⟨zpt hok,by show ([]:List Int).length≤1; simp⟩
theorem zis {p0:Int} (h0:WT (.int .i64) p0):∃ n:Nat,1≤n∧n≤7∧w (1+p0 % 7)=(n:Int):=by
  have b:=zjp p0 (n:=7) (by omega)
  obtain ⟨n,hn⟩:∃ n:Nat,1+p0 % 7=(n:Int):=⟨(1+p0 % 7).toNat,by omega⟩
  exact ⟨n,by omega,by omega,by rw [zbf (by omega) (by omega)]; exact hn⟩
theorem zkc {n:Int} {l:List (List Int)} (h:l.length≤24):((bals n l 24).length:Int)=(l.length:Int):=by simp [bals]; omega
set_option maxHeartbeats 1000000 in
theorem d13_true {p0 p1 p2 p3 p4:Int} {p5:List (List Int)} (h0:WT (.int .i64) p0) (h1:WT (.int .i64) p1) (h2:WT (.int .i64) p2) (h3:WT (.int .i64) p3) (h4:WT (.int .i64) p4) (hl:p5.length≤281474976710656) (hw:∀ x∈p5,WT (.slice (.int .i64)) x):d13 p0 p1 p2 p3 p4 p5=some true:=by
  unfold d13
  rw [d54_eq p5 hl,Option.bind_some]
  cases hfew:(decide (∀ x∈p5,x.length≤12) && decide (p5.length≤24))
  · rw [zkl]; rfl
  rw [Bool.not_true,cond_false,zhs h0 (by omega) (by omega),Option.bind_some]
  have hl24:p5.length≤24:=by
    rw [Bool.and_eq_true,decide_eq_true_eq,decide_eq_true_eq] at hfew
    exact hfew.2
  obtain ⟨n,hn1,hn7,hw1⟩:=zis h0
  rw [hw1]
  obtain ⟨c,lots,e62,hC,_,cs,cd,ct⟩:=d62_eq (n:=n) hn1 hn7 h1 h2 h3 h4 hl hw
  rw [e62,Option.bind_some]
  rw [zkc hl24] at hC
  generalize zcz (bals (n:Int) p5 24)=gs at hC ⊢
  have hQ:=hC.mq
  have hPn:=hC.cands
  have hPt:=hC.tot
  generalize mqOf c gs lots=Q at hQ hPn hPt ⊢
  have hok:=hQ.ok
  have hP:=hok.P
  have hPs:=hQ.seats
  have hone:=hQ.one
  have hdig:=hQ.dig
  have hd6:=hQ.d6
  generalize c.2.2.2.2.2.1.toNat=d at hQ hone hdig hd6
  clear hC
  subst hPn
  have hne:=List.length_pos_iff.2 (zgv hok)
  have hlen:=zhf hok
  have hwl:=winM_len hok
  have hwb:=winM_isB hok
  have ho1:=hok.one1
  have ho6:=hok.one6
  have htot:Q.P.tot * Q.one≤24 * 1000000:=Nat.mul_le_mul (by omega) ho6
  have hs5:=hP.seats5
  have hTr:(trM c Q).2.2.2.2.1=(zad Q).map rdT:=rfl
  have hTw:(trM c Q).2.2.2.2.2=(zad Q).flatMap Rd.el:=rfl
  have hTl:((zad Q).map rdT).length=(zad Q).length:=List.length_map ..
  have hmin:(bif decide ((Q.P.n:Int) < (Q.P.seats:Int)) then (Q.P.n:Int) else (Q.P.seats:Int))=((min Q.P.seats Q.P.n:Nat):Int):=by
    by_cases h:(Q.P.n:Int) < (Q.P.seats:Int)
    · rw [decide_eq_true h,cond_true]; omega
    · rw [decide_eq_false h,cond_false]; omega
  rw [zak]
  simp only [decide_true,Bool.not_true,Bool.not_false,cond_true,hTr,hTw,hTl,decide_eq_false (show ¬ (((zad Q).length:Nat):Int) < 1 by omega),decide_eq_false (show ¬ (600:Int) < (((zad Q).length:Nat):Int) by omega),hPs,hmin,hwl,d32_eq (Q.P.n:Int) (show ((zad Q).flatMap Rd.el).length≤281474976710656 by omega),decide_eq_true hwb,Option.bind_some,cond_false,hdig,d63_eq hd6,← hone]
  refine zaf (fun i=>((Q.P.n:Int),p5,c,trM c Q,(Q.one:Int),(i:Int))) (zad Q).length rfl (fun i hi=>?_) (b:=(Sum.inl ():Unit ⊕ Bool)) ?_ (by simp only [zkl,Option.bind_some])
  · obtain ⟨s,hS,_,_⟩:=roundM hok hi
    have hI:=hS.inv
    have hsum:=MS.sum_le hok hI
    have hqle:=MS.quo_le hok hI
    have hvle:∀ k,k < Q.P.n→s.v Q k≤Q.P.tot * Q.one:=fun k hk=>MS.v_le hok hI hk
    have hover:=over_le (Q:=Q) (s:=s)
    have hv:(rdT ((zad Q).getD i rd0)).1=lst (fun i=>rr (frac (s.v Q i) Q.one)) Q.P.n:=by
      show (((zad Q).getD i rd0).votes).map rr=_
      rw [hS.votes,zme]
    have hx:(rdT ((zad Q).getD i rd0)).2.2.2.1=rr (frac (s.rest Q) Q.one):=by
      show rr ((zad Q).getD i rd0).exh=_
      rw [hS.exh]
    have hq:(rdT ((zad Q).getD i rd0)).2.2.1=rr (frac (s.quo Q) Q.one):=by
      show rr ((zad Q).getD i rd0).quota=_
      rw [hS.quota]
    simp only [hTr,hTl,dlt hi,d0le,Bool.and_self,cond_true,tn,zif hi,hx,hq,zod ho1 ho6 (show s.rest Q < 4294967296 by omega),zod ho1 ho6 (show s.quo Q < 4294967296 by omega),Option.bind_some]
    have hps:∀ k,k≤Q.P.n→sumN (s.v Q) k≤sumN (s.v Q) Q.P.n:=fun k hk=>zid _ hk
    have hpc:∀ k,cntN (fun i=>decide (s.quo Q≤s.v Q i)) k≤k:=fun k=>zcl _ _
    refine zaf (fun k=>((Q.P.n:Int),p5,c,trM c Q,(Q.one:Int),(i:Int),rdT ((zad Q).getD i rd0),((s.rest Q+sumN (s.v Q) k:Nat):Int),true,((s.quo Q:Nat):Int),true,((cntN (fun i=>decide (s.quo Q≤s.v Q i)) k:Nat):Int),(k:Int))) Q.P.n rfl (fun k hk=>?_) (b:=((Q.P.n:Int),p5,c,trM c Q,(Q.one:Int),(i:Int),rdT ((zad Q).getD i rd0),((s.rest Q+sumN (s.v Q) Q.P.n:Nat):Int),true,true,((cntN (fun i=>decide (s.quo Q≤s.v Q i)) Q.P.n:Nat):Int))) ?_ ?_
    · have:=hvle k hk
      have h6:=hps (k+1) (by omega)
      have h7:=hpc k
      have hs':sumN (s.v Q) (k+1)=sumN (s.v Q) k+s.v Q k:=rfl
      have hc':cntN (fun i=>decide (s.quo Q≤s.v Q i)) (k+1)=cntN (fun i=>decide (s.quo Q≤s.v Q i)) k+(if decide (s.quo Q≤s.v Q k)=true then 1 else 0):=rfl
      have hn7':=hP.n7
      simp only [hv,zba,dlt hk,d0le,Bool.and_self,cond_true,tn,zak,zbl (fun i=>rr (frac (s.v Q i) Q.one)) hk,zod ho1 ho6 (show s.v Q k < 4294967296 by omega),Option.bind_some,wadd (show s.rest Q+sumN (s.v Q) k+s.v Q k≤9223372036854775807 by omega),zbk (show k < 9223372036854775807 by omega),hc']
      by_cases hlt:s.quo Q≤s.v Q k
      · simp only [decide_eq_true (show ((s.quo Q:Nat):Int)≤((s.v Q k:Nat):Int) by omega),decide_eq_true hlt,cond_true,if_true,zbk (show cntN (fun i=>decide (s.quo Q≤s.v Q i)) k < 9223372036854775807 by omega),hs',Nat.add_assoc]
      · simp only [decide_eq_false (show ¬ ((s.quo Q:Nat):Int)≤((s.v Q k:Nat):Int) by omega),decide_eq_false hlt,cond_false,Bool.false_eq_true,if_false,hs',Nat.add_assoc,Nat.add_zero]
    · simp only [hv,zba,nlt (Nat.le_refl Q.P.n),cond_false]
    · have hwm:w ((Q.one:Int) * (p5.length:Int))=((s.rest Q+sumN (s.v Q) Q.P.n:Nat):Int):=by
        have e:Q.one * p5.length=s.rest Q+sumN (s.v Q) Q.P.n:=by
          have:Q.P.tot=p5.length:=by omega
          rw [← this,Nat.mul_comm]; omega
        rw [wmul (show Q.one * p5.length≤9223372036854775807 by omega),e]
      simp only [zak,hv,zba,decide_true,Bool.not_true,Bool.not_false,cond_true,cond_false,nlt hover,hwm,hPs,zbk (show i < 9223372036854775807 by omega)]
  · simp only [hTr,hTl,nlt (Nat.le_refl (zad Q).length),cond_false]
set_option maxHeartbeats 1000000 in
theorem d16_true {p0 p1 p2 p3 p4:Int} {p5:List (List Int)} (h0:WT (.int .i64) p0) (h1:WT (.int .i64) p1) (h2:WT (.int .i64) p2) (h3:WT (.int .i64) p3) (h4:WT (.int .i64) p4) (hl:p5.length≤281474976710656) (hw:∀ x∈p5,WT (.slice (.int .i64)) x):d16 p0 p1 p2 p3 p4 p5=some true:=by
  unfold d16
  rw [d54_eq p5 hl,Option.bind_some]
  cases hfew:(decide (∀ x∈p5,x.length≤12) && decide (p5.length≤24))
  · rw [zkl]; rfl
  rw [Bool.not_true,cond_false,zhs h0 (by omega) (by omega),Option.bind_some]
  have hl24:p5.length≤24:=by
    rw [Bool.and_eq_true,decide_eq_true_eq,decide_eq_true_eq] at hfew
    exact hfew.2
  obtain ⟨n,hn1,hn7,hw1⟩:=zis h0
  rw [hw1]
  obtain ⟨c,lots,e62,hC,_,cs,cd,ct⟩:=d62_eq (n:=n) hn1 hn7 h1 h2 h3 h4 hl hw
  rw [e62,Option.bind_some]
  rw [zkc hl24] at hC
  generalize zcz (bals (n:Int) p5 24)=gs at hC ⊢
  have hQ:=hC.mq
  have hPn:=hC.cands
  have hPt:=hC.tot
  generalize mqOf c gs lots=Q at hQ hPn hPt ⊢
  have hok:=hQ.ok
  have hP:=hok.P
  have hPs:=hQ.seats
  have hone:=hQ.one
  have hom:=hQ.om
  have hdig:=hQ.dig
  have hd6:=hQ.d6
  have hd1:=hQ.d1
  generalize c.2.2.2.2.2.1.toNat=d at hQ hone hom hdig hd6 hd1
  clear hC
  subst hPn
  have hne:=List.length_pos_iff.2 (zgv hok)
  have hlen:=zhf hok
  have ho1:=hok.one1
  have ho6:=hok.one6
  have htot:Q.P.tot * Q.one≤24 * 1000000:=Nat.mul_le_mul (by omega) ho6
  have hTr:(trM c Q).2.2.2.2.1=(zad Q).map rdT:=rfl
  have hTl:((zad Q).map rdT).length=(zad Q).length:=List.length_map ..
  have hTd:(trM c Q).2.2.1=c.2.2.2.2.2.1:=rfl
  have hTs:(trM c Q).2.1=(Q.P.seats:Int):=rfl
  rw [zak]
  simp only [decide_true,Bool.not_true,Bool.not_false,cond_true,hTr,hTl,hTd,hTs,decide_eq_false (show ¬ (((zad Q).length:Nat):Int) < 1 by omega),hPs,Option.bind_some,cond_false,hdig,d63_eq hd6,← hone]
  refine zaf (fun i=>(c,trM c Q,(Q.one:Int),(i:Int))) (zad Q).length rfl (fun i hi=>?_) (b:=(Sum.inl ():Unit ⊕ Bool)) ?_ (by simp only [zkl,Option.bind_some])
  · obtain ⟨s,hS,_,hT⟩:=roundM hok hi
    have hI:=hS.inv
    have hsum:=MS.sum_le hok hI
    have hsurS:s.sur Q≤sumN (s.v Q) Q.P.n:=zej fun i _=>by split <;> omega
    rw [zet rd0 hi] at hT
    have htell:=hT.tell hok
    have hx:(rdT ((zad Q).getD i rd0)).2.2.2.2.1=rr (frac (s.sur Q) Q.one):=by
      show rr ((zad Q).getD i rd0).sur=_
      rw [hS.sur]
    have he:(rdT ((zad Q).getD i rd0)).2.2.2.2.2.1=((zad Q).getD i rd0).el:=rfl
    have hex:(rdT ((zad Q).getD i rd0)).2.2.2.2.2.2.1=((zad Q).getD i rd0).ex:=rfl
    have hel7:=hT.el7 hok
    have hl1:w (((zad Q).length:Int) - 1)=(((zad Q).length - 1:Nat):Int):=by
      rw [zbf (by omega) (by omega)]; omega
    have hlst:decide ((i:Int)=(((zad Q).length - 1:Nat):Int))=decide (i+1=(zad Q).length):=decide_eq_decide.2 (by omega)
    have hdrop:(zad Q).drop (i+1)=[]↔i+1=(zad Q).length:=by
      rw [List.drop_eq_nil_iff]; omega
    simp only [hTr,hl1,hTl,dlt hi,d0le,Bool.and_self,cond_true,tn,zak,zif hi,he,hex,hx,hlst,zod ho1 ho6 (show s.sur Q < 4294967296 by omega),Option.bind_some,Bool.not_true,Bool.not_false,cond_false,wadd (show ((zad Q).getD i rd0).el.length+((zad Q).getD i rd0).ex.length≤9223372036854775807 by omega),hdig,d60_eq hd1 hd6,← hom,zbk (show i < 9223372036854775807 by omega)]
    rcases htell with ⟨k1,k2,k3⟩ | ⟨k1,k2⟩
    · have hpos:=List.length_pos_iff.2 k3
      rw [decide_eq_true (hdrop.1 k1),cond_true,k2]
      simp only [List.length_nil,show decide (((0:Nat):Int)=0)=true from rfl,Bool.not_true,Bool.not_false,cond_true,cond_false,decide_eq_false (show ¬ (((((zad Q).getD i rd0).el.length:Nat):Int)=0) by omega)]
    · rw [decide_eq_false fun h=>k1 (hdrop.2 h),cond_false]
      simp only [cond_false,Bool.not_false,cond_true]
      by_cases hz:((zad Q).getD i rd0).el.length+((zad Q).getD i rd0).ex.length=0
      · have:=k2 hz
        rw [hz]
        simp only [show decide (((0:Nat):Int)=0)=true from rfl,cond_true,nlt this,cond_false]
      · rw [decide_eq_false (show ¬ (((((zad Q).getD i rd0).el.length+((zad Q).getD i rd0).ex.length:Nat):Int)=0) by omega),cond_false]
  · simp only [hTr,hTl,nlt (Nat.le_refl (zad Q).length),cond_false]
end Go.Proofs.YtmipjomnjkmdbaaGreat
set_option linter.unusedSimpArgs false
set_option linter.unusedVariables false
namespace Go.Proofs.YtmipjomnjkmdbaaGreat
open Go Go.X
variable {Q:MP} {s:MS}
theorem v_gone (hQ:Q.OK) (hI:MI Q s) {k:Nat} (h:s.st k=2):s.v Q k=0:=by
  unfold MS.v mvo
  refine (zao (g:=fun _=>0) fun g _=>?_).trans (zct _)
  rw [mgive_none hQ.one1 (hI.exc k h),Nat.mul_zero]
theorem flat_snoc (f:Rd→List Int) (l:List Rd) {i:Nat} (hi:i < l.length):(l.take (i+1)).flatMap f=(l.take i).flatMap f++f (l.getD i rd0):=by
  rw [zbm l rd0 hi,List.flatMap_append,List.flatMap_cons,List.flatMap_nil,List.append_nil]
theorem zmm (f:Rd→List Int) (b:Nat):∀ (l:List Rd),(∀ r∈l,(f r).length≤b)→(l.flatMap f).length≤b * l.length
  | [],_=>by simp
  | r::l,h=>by
    rw [List.flatMap_cons,List.length_append,List.length_cons,Nat.mul_add,Nat.mul_one]
    have h1:=h r (by simp)
    have h2:=zmm f b l fun x hx=>h x (List.mem_cons_of_mem _ hx)
    omega
set_option maxHeartbeats 1000000 in
theorem d14_true {p0 p1 p2 p3 p4:Int} {p5:List (List Int)} (h0:WT (.int .i64) p0) (h1:WT (.int .i64) p1) (h2:WT (.int .i64) p2) (h3:WT (.int .i64) p3) (h4:WT (.int .i64) p4) (hl:p5.length≤281474976710656) (hw:∀ x∈p5,WT (.slice (.int .i64)) x):d14 p0 p1 p2 p3 p4 p5=some true:=by
  unfold d14
  rw [d54_eq p5 hl,Option.bind_some]
  cases hfew:(decide (∀ x∈p5,x.length≤12) && decide (p5.length≤24))
  · rw [zkl]; rfl
  rw [Bool.not_true,cond_false,zhs h0 (by omega) (by omega),Option.bind_some]
  have hl24:p5.length≤24:=by
    rw [Bool.and_eq_true,decide_eq_true_eq,decide_eq_true_eq] at hfew
    exact hfew.2
  obtain ⟨n,hn1,hn7,hw1⟩:=zis h0
  rw [hw1]
  obtain ⟨c,lots,e62,hC,_,cs,cd,ct⟩:=d62_eq (n:=n) hn1 hn7 h1 h2 h3 h4 hl hw
  rw [e62,Option.bind_some]
  rw [zkc hl24] at hC
  generalize zcz (bals (n:Int) p5 24)=gs at hC ⊢
  have hQ:=hC.mq
  have hPn:=hC.cands
  have hPt:=hC.tot
  generalize mqOf c gs lots=Q at hQ hPn hPt ⊢
  have hok:=hQ.ok
  have hP:=hok.P
  have hone:=hQ.one
  have hdig:=hQ.dig
  have hd6:=hQ.d6
  generalize c.2.2.2.2.2.1.toNat=d at hQ hone hdig hd6
  clear hC
  subst hPn
  have hne:=List.length_pos_iff.2 (zgv hok)
  have hlen:=zhf hok
  have ho1:=hok.one1
  have ho6:=hok.one6
  have htot:Q.P.tot * Q.one≤24 * 1000000:=Nat.mul_le_mul (by omega) ho6
  have hTr:(trM c Q).2.2.2.2.1=(zad Q).map rdT:=rfl
  have hTl:((zad Q).map rdT).length=(zad Q).length:=List.length_map ..
  have hel7:∀ r∈zad Q,r.el.length≤7∧r.ex.length≤1:=fun r hr=>by
    obtain ⟨i,hi,e⟩:=List.getElem_of_mem hr
    obtain ⟨s,_,_,hT⟩:=roundM hok hi
    rw [zet rd0 hi] at hT
    have:=hT.el7 hok
    rw [List.getD_eq_getElem?_getD,List.getElem?_eq_getElem hi,e] at this
    exact this
  have hflel:∀ i,(((zad Q).take i).flatMap Rd.el).length≤3500:=fun i=>by
    have h1:=zmm Rd.el 7 ((zad Q).take i) fun r hr=>(hel7 r (List.mem_of_mem_take hr)).1
    rw [List.length_take] at h1
    omega
  have hflex:∀ i,(((zad Q).take i).flatMap Rd.ex).length≤3500:=fun i=>by
    have h1:=zmm Rd.ex 1 ((zad Q).take i) fun r hr=>(hel7 r (List.mem_of_mem_take hr)).2
    rw [List.length_take] at h1
    omega
  rw [zak]
  simp only [decide_true,Bool.not_true,Bool.not_false,cond_true,hTr,hTl,decide_eq_false (show ¬ (((zad Q).length:Nat):Int) < 1 by omega),Option.bind_some,cond_false,hdig,d63_eq hd6,← hone]
  refine zaf (fun i=>((Q.P.n:Int),trM c Q,(Q.one:Int),((zad Q).take i).flatMap Rd.el,((zad Q).take i).flatMap Rd.ex,(i:Int))) (zad Q).length rfl (fun i hi=>?_) (b:=(Sum.inl ():Unit ⊕ Bool)) ?_ (by simp only [zkl,Option.bind_some])
  · obtain ⟨s,hS,hM,hT⟩:=roundM hok hi
    have hI:=hS.inv
    have hsum:=MS.sum_le hok hI
    have hvle:∀ k,k < Q.P.n→s.v Q k≤Q.P.tot * Q.one:=fun k hk=>MS.v_le hok hI hk
    have hv:(rdT ((zad Q).getD i rd0)).1=lst (fun i=>rr (frac (s.v Q i) Q.one)) Q.P.n:=by
      show (((zad Q).getD i rd0).votes).map rr=_
      rw [hS.votes,zme]
    have hk:(rdT ((zad Q).getD i rd0)).2.1=lst (fun i=>rr (frac (s.kp i) Q.one)) Q.P.n:=by
      show (((zad Q).getD i rd0).keep).map rr=_
      rw [hS.keep,zme]
    have he:(rdT ((zad Q).getD i rd0)).2.2.2.2.2.1=((zad Q).getD i rd0).el:=rfl
    have hex:(rdT ((zad Q).getD i rd0)).2.2.2.2.2.2.1=((zad Q).getD i rd0).ex:=rfl
    have h7:((zad Q).getD i rd0).el.length≤7∧((zad Q).getD i rd0).ex.length≤1:=by
      rw [zet rd0 hi] at hT
      exact hT.el7 hok
    have hfe:=hflel i
    have hfx:=hflex i
    have hse:=flat_snoc Rd.el (zad Q) hi
    have hsx:=flat_snoc Rd.ex (zad Q) hi
    have l1:decide (((((zad Q).take i).flatMap Rd.el).length:Int)+(((zad Q).getD i rd0).el.length:Int)≤LIM)=true:=zmg (by omega)
    have l2:decide (((((zad Q).take i).flatMap Rd.ex).length:Int)+(((zad Q).getD i rd0).ex.length:Int)≤LIM)=true:=zmg (by omega)
    rw [hse,hsx]
    unfold MemM at hM
    generalize ((zad Q).take i).flatMap Rd.el=A at hM hfe l1 ⊢
    generalize ((zad Q).take i).flatMap Rd.ex=B at hM hfx l2 ⊢
    simp only [hTr,hTl,dlt hi,d0le,Bool.and_self,cond_true,tn,zak,zif hi,hv,hk,zba,decide_true,Bool.not_true,Bool.not_false,cond_false]
    generalize hR:rdT ((zad Q).getD i rd0)=R at *
    refine zaf (fun k=>((Q.P.n:Int),trM c Q,(Q.one:Int),A,B,(i:Int),R,(k:Int))) Q.P.n rfl (fun k hkn=>?_) (b:=.inl ((Q.P.n:Int),trM c Q,(Q.one:Int),A,B,(i:Int),R)) ?_ ?_
    · have hvk:=hvle k hkn
      have hkk:=hI.kp1 k
      obtain ⟨m1,m2⟩:=hM k hkn
      simp only [dlt hkn,cond_true,hv,hk,zba,d0le,Bool.and_self,tn,zbl (fun i=>rr (frac (s.v Q i) Q.one)) hkn,zbl (fun i=>rr (frac (s.kp i) Q.one)) hkn,zod ho1 ho6 (show s.v Q k < 4294967296 by omega),zod ho1 ho6 (show s.kp k < 4294967296 by omega),Option.bind_some,Bool.not_true,Bool.not_false,cond_false,zoe (k:Int) (show A.length≤281474976710656 by omega),zoe (k:Int) (show B.length≤281474976710656 by omega),zbk (show k < 9223372036854775807 by omega)]
      have hst:=hI.st2 k
      by_cases c2:s.st k=2
      · have hx0:=hI.exc k c2
        have hv0:=v_gone hok hI c2
        rw [decide_eq_true (m2.2 c2),cond_true,hx0,hv0]
        rfl
      · rw [decide_eq_false fun h=>c2 (m2.1 h),cond_false]
        by_cases c1:s.st k=1
        · have hpos:=hI.elc k c1
          rw [decide_eq_true (m1.2 c1),cond_true,decide_eq_false (show ¬ ((s.kp k:Nat):Int)≤0 by omega),nlt hkk]
          rfl
        · have hke:=hI.hop k (by omega)
          rw [decide_eq_false fun h=>c1 (m1.1 h),cond_false,hke]
          simp only [decide_true,Bool.not_true,cond_false]
    · simp only [nlt (Nat.le_refl Q.P.n),cond_false]
    · have he':R.2.2.2.2.2.1=((zad Q).getD i rd0).el:=he
      have hex':R.2.2.2.2.2.2.1=((zad Q).getD i rd0).ex:=hex
      simp only [he',hex',l1,l2,cond_true,zbk (show i < 9223372036854775807 by omega)]
  · simp only [hTr,hTl,nlt (Nat.le_refl (zad Q).length),cond_false]
theorem d17_true {p0 p1 p2 p3 p4:Int} {p5:List (List Int)} (h0:WT (.int .i64) p0) (h1:WT (.int .i64) p1) (h2:WT (.int .i64) p2) (h3:WT (.int .i64) p3) (h4:WT (.int .i64) p4) (hl:p5.length≤281474976710656) (hw:∀ x∈p5,WT (.slice (.int .i64)) x):d17 p0 p1 p2 p3 p4 p5=some true:=by
  unfold d17
  rw [d54_eq p5 hl,Option.bind_some]
  cases hfew:(decide (∀ x∈p5,x.length≤12) && decide (p5.length≤24))
  · rw [zkl]; rfl
  rw [Bool.not_true,cond_false,zhs h0 (by omega) (by omega),Option.bind_some]
  obtain ⟨n,hn1,hn7,hw1⟩:=zis h0
  rw [hw1]
  obtain ⟨c,lots,e62,hC,_,cs,cd,ct⟩:=d62_eq (n:=n) hn1 hn7 h1 h2 h3 h4 hl hw
  rw [e62,Option.bind_some,d51_eq (by omega) (by omega),Option.bind_some]
  generalize zcz (bals (n:Int) p5 24)=gs at hC ⊢
  have hp:=hC.pile
  have hs1:=hC.con.seats1
  have hs5:=hC.con.seats5
  have hn7:=hC.n7
  have hfv:∀ x:Nat,wsum (zjt (x:Int)) gs=((g0.lie (mqOf c gs lots).P x:Nat):Int):=fun x=>first_votes hp c lots x
  have hmk:wsum zas gs=(((mqOf c gs lots).P.mkd:Nat):Int):=marked_mkd hp c lots
  have hok:=hC.mq.ok
  have hP:=hok.P
  have hPn:=hC.cands
  have hPs:=hC.mq.seats
  have h52:=hp.d52 (by omega)
  rw [hmk] at h52
  have hvl:(zbq (zha (n:Int).toNat (n:Int).toNat) gs).length=n:=by rw [zhu,zeu]; rfl
  have hvg:∀ x,x < n→(zbq (zha (n:Int).toNat (n:Int).toNat) gs).getD x 0=((g0.lie (mqOf c gs lots).P x:Nat):Int):=fun x hx=>by
    rw [zlg _ _ (by rw [zeu]; exact hx),← hfv x]
    exact znf fun g hg=>top_all (by omega) (hp.ballots g hg).1 _
  rw [show d50 gs (zha (n:Int).toNat (n:Int).toNat)=_ from hp.d50 (by omega) (by rw [zeu]; show n≤7; omega),Option.bind_some]
  generalize zbq (zha (n:Int).toNat (n:Int).toNat) gs=vs at hvl hvg ⊢
  generalize mqOf c gs lots=Q at *
  have hne:=List.length_pos_iff.2 (zgv hok)
  have hlen:=zhf hok
  have hTr:(trM c Q).2.2.2.2.1=(zad Q).map rdT:=rfl
  have hTl:((zad Q).map rdT).length=(zad Q).length:=List.length_map ..
  have hmk5:Q.P.mkd≤100000:=Nat.le_trans (mk_le hP) hP.tot5
  rw [zak]
  simp only [decide_true,Bool.not_true,Bool.not_false,cond_true,hTr,hTl,decide_eq_false (show ¬ (((zad Q).length:Nat):Int) < 1 by omega),cond_false,hvl]
  refine zaf (fun i=>((n:Int),c,gs,trM c Q,vs,(i:Int))) n rfl (fun i hi=>?_) (b:=(Sum.inl ():Unit ⊕ Bool)) ?_ (by simp only [zkl,Option.bind_some])
  · have hli:g0.lie Q.P i≤100000:=by
      have:=lie_le hP (g0_inv hP) (c:=i) (by omega)
      have e:Q.P.tot * g0.D=Q.P.tot:=Nat.mul_one _
      have:=hP.tot5
      omega
    have hws:w (c.2.2.2.1+1)=c.2.2.2.1+1:=zbf (by omega) (by omega)
    have hpr0:0≤(c.2.2.2.1+1) * ((g0.lie Q.P i:Nat):Int):=Int.mul_nonneg (by omega) (by omega)
    have hpr1:(c.2.2.2.1+1) * ((g0.lie Q.P i:Nat):Int)≤6 * 100000:=Int.mul_le_mul (by omega) (by omega) (by omega) (by omega)
    have hwp:w ((c.2.2.2.1+1) * ((g0.lie Q.P i:Nat):Int))=(c.2.2.2.1+1) * ((g0.lie Q.P i:Nat):Int):=zbf (by omega) (by omega)
    have hg0:(decide (0≤0) && decide ((0:Int) < (((zad Q).length:Nat):Int)))=true:=by
      rw [decide_eq_true (show (0:Int) < (((zad Q).length:Nat):Int) by omega)]; rfl
    have hget:∀ d,((zad Q).map rdT).getD 0 d=rdT ((zad Q).getD 0 rd0):=fun d=>zif hne d
    have hel:(rdT ((zad Q).getD 0 rd0)).2.2.2.2.2.1=((zad Q).getD 0 rd0).el:=rfl
    simp only [dlt hi,hvl,d0le,Bool.and_self,cond_true,tn,hvg i hi,h52,Option.bind_some,hws,hwp,zak,hTr,hTl]
    by_cases hgt:((Q.P.mkd:Nat):Int) < (c.2.2.2.1+1) * ((g0.lie Q.P i:Nat):Int)
    · rw [decide_eq_true hgt,cond_true,hg0,cond_true,hget,hel]
      have hin:(i:Int)∈((zad Q).getD 0 rd0).el:=by
        refine zne hok (by omega) ?_
        rw [hPs] at hgt
        exact_mod_cast hgt
      obtain ⟨s,_,_,hT⟩:=roundM hok hne
      rw [zet rd0 hne] at hT
      have h7:=(hT.el7 hok).1
      have h49:d49 ((zad Q).getD 0 rd0).el (i:Int)=some true:=by
        rw [zoe _ (by omega)]
        congr 1
        exact decide_eq_true hin
      simp only [h49,Option.bind_some,Bool.not_true,cond_false,zbk (show i < 9223372036854775807 by omega)]
    · rw [decide_eq_false hgt,cond_false]
      simp only [cond_false,zbk (show i < 9223372036854775807 by omega)]
  · simp only [nlt (Nat.le_refl n),cond_false]
end Go.Proofs.YtmipjomnjkmdbaaGreat
