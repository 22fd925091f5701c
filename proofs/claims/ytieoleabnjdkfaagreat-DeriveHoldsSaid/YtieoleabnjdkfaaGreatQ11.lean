/- Part 11 of what stands below the statement. -/
import Derived.Test.YtieoleabnjdkfaaGreatQ10
set_option linter.unusedSimpArgs false
set_option linter.unusedVariables false
open Go Go.Proofs Go.X
namespace Go.Proofs.YtieoleabnjdkfaaGreat
theorem risL_perm {n:Nat} (hn:n≤7) {t:List Int} (ht:isB n t):(risL t).Perm t:=by
  have h1:∀ x∈risL t,x∈t:=fun x hx=>(risL_mem.1 hx).2
  refine perm_of_sub _ _ (nodup_of_lt (risL_lt t)) h1 (nodup_len_le' ht.1 fun x hx=>risL_mem.2 ⟨by have:=ht.2 x hx; omega,hx⟩)
theorem risL_len {n:Nat} (hn:n≤7) {t:List Int} (ht:isB n t):(risL t).length=t.length:=(risL_perm hn ht).length_eq
theorem isTailB_of {n:Nat} {t:List Int} (ht:isB n t) (h0:0 < t.length):isTailB (n:Int) t=true:=by
  unfold isTailB
  simp [ht,h0]
theorem own_contr {n:Nat} (hn:n≤7) {t:List Int} (ht:isB n t) (h0:0 < t.length) {x:Int} (hx:0≤x∧x < (n:Int)) (hne:x ≠ t.getD 0 0):contr (n:Int) (ownA t x) t=true:=by
  have hv:=ownA_valid hn ht h0 hx hne
  have htb:=isTailB_of ht h0
  unfold contr
  rw [hv,htb]
  unfold ownA
  by_cases hm:x∈t
  · have hl:=risL_len hn ht
    simp only [hm,if_true,show ¬ (2:Int)=1 by omega,if_false,Bool.true_and,Bool.and_self,hl,Nat.le_refl,Nat.sub_self,decide_true]
    unfold lastOf
    rw [hl,Nat.sub_self]
    simp only [List.drop_zero,decide_eq_true_eq]
    exact fun c hc=>(risL_mem.1 hc).2
  · simp only [hm,if_false,if_true,Bool.true_and,Bool.and_self]
    have hf:firstAt (fun z=>decide (t.getD 0 0=z)) t=0:=by
      cases t with
      | nil=>simp at h0
      | cons y t=>simp [firstAt]
    rw [hf]
    simp only [h0,decide_true,List.drop_zero,hm,decide_false,Bool.not_false,Bool.and_self]
theorem asc_uniq:∀ {a b:List Int},a.Pairwise (· < ·)→b.Pairwise (· < ·)→a.Perm b→a=b:=fun ha hb hp=>hp.eq_of_pairwise (le:=(·≤·)) (fun x y _ _ h1 h2=>by omega) (ha.imp fun h=>by omega) (hb.imp fun h=>by omega)
def ov (n:Nat) (gs:List Grp) (t:List Int):Int:=(ownP n gs t).2.1
theorem bestP_mem {L:List (Asn × Int)} (hL:L ≠ []):((bestP L).1,(bestP L).2.1)∈L:=by
  have key:∀ (L:List (Asn × Int)) (st:Asn × (Int × Bool)),((L.foldl bstep st).1,(L.foldl bstep st).2.1)∈L∨(L.foldl bstep st=st∧(st.2.2=false→L=[])):=by
    intro L
    induction L with
    | nil=>intro st; exact .inr ⟨rfl,fun _=>rfl⟩
    | cons q L ih =>
      intro st
      rcases ih (bstep st q) with h | ⟨h1,h2⟩
      · exact .inl (List.mem_cons_of_mem _ h)
      · show ((L.foldl bstep (bstep st q)).1,(L.foldl bstep (bstep st q)).2.1)∈q::L∨_
        rw [List.foldl_cons,h1]
        unfold bstep
        by_cases hb:better st q.1 q.2=true
        · rw [if_pos hb]; exact .inl (by simp)
        · rw [if_neg hb]
          refine .inr ⟨rfl,fun hf=>?_⟩
          unfold better at hb
          rw [hf] at hb
          simp at hb
  rcases key L (zA,0,false) with h | ⟨h1,h2⟩
  · exact h
  · exact absurd (h2 rfl) hL
theorem own_list {n:Nat} (gs:List Grp) (t:List Int):ownP n gs t=bestP (((idL n).filter fun x=>decide (x ≠ t.getD 0 0)).map (pairA n gs t)):=ownTo_filter _ _ _ _
theorem ov_at {n:Nat} (h2:2≤n) (gs:List Grp) (t:List Int):∃ x,(0≤x∧x < (n:Int))∧x ≠ t.getD 0 0∧(ownP n gs t).1=ownA t x∧ov n gs t=mrg n gs (ownA t x):=by
  unfold ov
  rw [own_list]
  have hne:((idL n).filter fun x=>decide (x ≠ t.getD 0 0)).map (pairA n gs t) ≠ []:=by
    intro e
    have e:=List.map_eq_nil_iff.1 e
    rw [List.filter_eq_nil_iff] at e
    have h0:=e 0 ((mem_cands (n:=n) (c:=0)).2 (by omega))
    have h1:=e 1 ((mem_cands (n:=n) (c:=1)).2 (by omega))
    simp at h0 h1
    omega
  obtain ⟨x,hx,he⟩:=List.mem_map.1 (bestP_mem hne)
  rw [List.mem_filter,decide_eq_true_eq] at hx
  have hx1:=(mem_cands (n:=n) (c:=x)).1 hx.1
  refine ⟨x,hx1,hx.2,?_,?_⟩
  · exact (congrArg Prod.fst he).symm
  · exact (congrArg Prod.snd he).symm
theorem minF_le {f:Int→Int}:∀ {L:List Int} {c:Int},c∈L→minF f L≤f c:=by
  have key:∀ (L:List Int) (m:Int),L.foldl (fun m c=>if f c < m then f c else m) m≤m∧∀ c∈L,L.foldl (fun m c=>if f c < m then f c else m) m≤f c:=by
    intro L
    induction L with
    | nil=>intro m; exact ⟨Int.le_refl _,fun c hc=>absurd hc (by simp)⟩
    | cons x L ih =>
      intro m
      obtain ⟨h1,h2⟩:=ih (if f x < m then f x else m)
      rw [List.foldl_cons]
      have hb:(if f x < m then f x else m)≤m∧(if f x < m then f x else m)≤f x:=by split <;> omega
      refine ⟨Int.le_trans h1 hb.1,fun c hc=>?_⟩
      rcases List.mem_cons.1 hc with rfl | hc
      · exact Int.le_trans h1 hb.2
      · exact h2 c hc
  intro L c hc
  cases L with
  | nil=>simp at hc
  | cons x L =>
    show L.foldl _ (f x)≤f c
    obtain ⟨h1,h2⟩:=key L (f x)
    rcases List.mem_cons.1 hc with rfl | hc
    · exact h1
    · exact h2 c hc
theorem minF_at {f:Int→Int}:∀ {L:List Int},L ≠ []→∃ c∈L,minF f L=f c:=by
  have key:∀ (L:List Int) (m:Int),L.foldl (fun m c=>if f c < m then f c else m) m=m∨∃ c∈L,L.foldl (fun m c=>if f c < m then f c else m) m=f c:=by
    intro L
    induction L with
    | nil=>intro m; exact .inl rfl
    | cons x L ih =>
      intro m
      rw [List.foldl_cons]
      rcases ih (if f x < m then f x else m) with h | ⟨c,hc,h⟩
      · by_cases hl:f x < m
        · rw [if_pos hl] at h ⊢; exact .inr ⟨x,by simp,h⟩
        · rw [if_neg hl] at h ⊢; exact .inl h
      · exact .inr ⟨c,List.mem_cons_of_mem _ hc,h⟩
  intro L hL
  cases L with
  | nil=>exact absurd rfl hL
  | cons x L =>
    rcases key L (f x) with h | ⟨c,hc,h⟩
    · exact ⟨x,by simp,h⟩
    · exact ⟨c,List.mem_cons_of_mem _ hc,h⟩
theorem chL_ne {n:Nat} {t:List Int} (ht:isB n t) (hl:t.length < n):chL n t ≠ []:=by
  intro e
  have:=nodup_len_le' (m:=idL n) (l:=t) (idL_isB n).1 fun c hc=>Classical.byContradiction fun hm=>by
    have h1:c∈chL n t:=chL_mem.2 ⟨(mem_cands (n:=n) (c:=c)).1 hc,hm⟩
    rw [e] at h1
    simp at h1
  rw [idL_len] at this
  omega
def Ends (n:Nat) (t o:List Int):Prop:=isB n o∧o.length=n∧∃ s,o=s++t
theorem Ends.step {n:Nat} {t o:List Int} (h:Ends n t o) (hl:t.length < n):∃ c,c∈chL n t∧Ends n (c::t) o:=by
  obtain ⟨h1,h2,s,rfl⟩:=h
  have hne:s ≠ []:=fun e=>by rw [e] at h2; simp at h2; omega
  obtain ⟨s',c,rfl⟩:∃ s' c,s=s'++[c]:=⟨s.dropLast,s.getLast hne,(List.dropLast_concat_getLast hne).symm⟩
  refine ⟨c,chL_mem.2 ⟨h1.2 c (by simp),fun hm=>(List.nodup_append.1 h1.1).2.2 c (by simp) c hm rfl⟩,h1,h2,s',by simp⟩
theorem Ends.drop {n:Nat} {t o:List Int} (h:Ends n t o):o.drop (n - t.length)=t:=by
  obtain ⟨h1,h2,s,rfl⟩:=h
  have:n - t.length=s.length:=by rw [List.length_append] at h2; omega
  rw [this]; simp
theorem isB_kid {n:Nat} {t:List Int} (ht:isB n t) {c:Int} (hc:c∈chL n t):isB n (c::t):=by
  obtain ⟨h1,h2⟩:=chL_mem.1 hc
  exact ⟨List.nodup_cons.2 ⟨h2,ht.1⟩,fun x hx=>by
    rcases List.mem_cons.1 hx with rfl | hx
    · exact h1
    · exact ht.2 x hx⟩
theorem val_le {n:Nat} (gs:List Grp) (v:Int):∀ (k:Nat) (t:List Int),isB n t→0 < t.length→n < k+t.length→((valP n gs k t).1≤v↔∃ o,Ends n t o∧∀ j,j≤n - t.length→ov n gs (o.drop j)≤v)
  | 0,t,ht,_,hk=>by
    have:=nodup_len n t ht.1 ht.2
    omega
  | k+1,t,ht,h0,hk=>by
    have htl:=nodup_len n t ht.1 ht.2
    by_cases hl:t.length=n
    · rw [valP_one gs k hl]
      constructor
      · intro h
        refine ⟨t,⟨ht,hl,[],rfl⟩,fun j hj=>?_⟩
        have:j=0:=by omega
        subst this
        exact h
      · rintro ⟨o,⟨h1,h2,s,rfl⟩,h4⟩
        have:s=[]:=List.eq_nil_of_length_eq_zero (by rw [List.length_append] at h2; omega)
        subst this
        exact h4 0 (by omega)
    · have hlt:t.length < n:=by omega
      rw [valP_kids gs k hl]
      obtain ⟨f,hf⟩:∃ f:Int→Int,(fun c=>(valP n gs k (c::t)).1)=f:=⟨_,rfl⟩
      rw [hf]
      have hf':∀ c,f c=(valP n gs k (c::t)).1:=fun c=>by rw [← hf]
      have hsplit:(if (ownP n gs t).2.1 < minF f (chL n t) then minF f (chL n t) else (ownP n gs t).2.1)≤v↔ov n gs t≤v∧minF f (chL n t)≤v:=by
        unfold ov
        split <;> omega
      rw [hsplit]
      constructor
      · rintro ⟨h1,h2⟩
        obtain ⟨c,hc,he⟩:=minF_at (f:=f) (chL_ne ht hlt)
        rw [he,hf'] at h2
        obtain ⟨o,ho,h4⟩:=(val_le gs v k (c::t) (isB_kid ht hc) (by simp) (by simp; omega)).1 h2
        obtain ⟨o1,o2,s,rfl⟩:=ho
        have hE:Ends n t (s++c::t):=⟨o1,o2,s++[c],by simp⟩
        refine ⟨_,hE,fun j hj=>?_⟩
        rcases Nat.lt_or_ge j (n - t.length) with h | h
        · exact h4 j (by simp only [List.length_cons]; omega)
        · have:j=n - t.length:=by omega
          rw [this,hE.drop]; exact h1
      · rintro ⟨o,ho,h4⟩
        refine ⟨by have:=h4 (n - t.length) (Nat.le_refl _); rwa [ho.drop] at this,?_⟩
        obtain ⟨c,hc,hE⟩:=ho.step hlt
        refine Int.le_trans (minF_le hc) ?_
        rw [hf']
        exact (val_le gs v k (c::t) (isB_kid ht hc) (by simp) (by simp; omega)).2 ⟨o,hE,fun j hj=>h4 j (by simp only [List.length_cons] at hj; omega)⟩
theorem list_ok {n:Nat} (h2:2≤n) (hn:n≤7) (gs:List Grp):∀ (k:Nat) (t:List Int),isB n t→0 < t.length→n < k+t.length →
    (∀ a∈(valP n gs k t).2,(valP n gs k t).1≤mrg n gs a∧(a.1=1∨a.1=2))∧(∃ a∈(valP n gs k t).2,mrg n gs a=(valP n gs k t).1)∧∀ o,Ends n t o→∃ a∈(valP n gs k t).2,∃ j,j≤n - t.length∧contr (n:Int) a (o.drop j)=true
  | 0,t,ht,_,hk=>by
    have:=nodup_len n t ht.1 ht.2
    omega
  | k+1,t,ht,h0,hk=>by
    have htl:=nodup_len n t ht.1 ht.2
    obtain ⟨x,hx,hne,e1,e2⟩:=ov_at h2 gs t
    have hkind:∀ y,(ownA t y).1=1∨(ownA t y).1=2:=fun y=>by unfold ownA; split <;> simp
    have hone:∀ v:Int,v=ov n gs t→(∀ a∈[(ownP n gs t).1],v≤mrg n gs a∧(a.1=1∨a.1=2))∧(∃ a∈[(ownP n gs t).1],mrg n gs a=v)∧∀ o,Ends n t o→∃ a∈[(ownP n gs t).1],∃ j,j≤n - t.length∧contr (n:Int) a (o.drop j)=true:=by
      rintro v rfl
      refine ⟨fun a ha=>?_,⟨_,List.mem_singleton.2 rfl,by rw [e1,e2]⟩,fun o ho=>⟨_,List.mem_singleton.2 rfl,n - t.length,Nat.le_refl _,?_⟩⟩
      · rw [List.mem_singleton.1 ha,e1,e2]
        exact ⟨Int.le_refl _,hkind x⟩
      · rw [ho.drop,e1]
        exact own_contr hn ht h0 hx hne
    by_cases hl:t.length=n
    · rw [valP_succ,if_pos hl]
      exact hone _ rfl
    · have hlt:t.length < n:=by omega
      rw [valP_list]
      by_cases hc:(ownP n gs t).2.1=(valP n gs (k+1) t).1
      · rw [if_pos hc]
        exact hone _ hc.symm
      · rw [if_neg hc]
        have hkids:=valP_kids gs k (tail:=t) hl
        obtain ⟨f,hf⟩:∃ f:Int→Int,(fun c=>(valP n gs k (c::t)).1)=f:=⟨_,rfl⟩
        rw [hf] at hkids
        have hf':∀ c,f c=(valP n gs k (c::t)).1:=fun c=>by rw [← hf]
        have hmin:(valP n gs (k+1) t).1=minF f (chL n t):=by
          rw [hkids] at hc ⊢
          by_cases hq:(ownP n gs t).2.1 < minF f (chL n t)
          · rw [if_pos hq]
          · rw [if_neg hq] at hc; exact absurd rfl hc
        have hrec:=fun c (hcm:c∈chL n t)=>list_ok h2 hn gs k (c::t) (isB_kid ht hcm) (by simp) (by simp; omega)
        rw [hmin]
        refine ⟨fun a ha=>?_,?_,fun o ho=>?_⟩
        · obtain ⟨c,hcm,hac⟩:=List.mem_flatMap.1 ha
          obtain ⟨r1,r2⟩:=(hrec c hcm).1 a hac
          exact ⟨Int.le_trans (by have:=minF_le (f:=f) hcm; rw [hf'] at this; exact this) r1,r2⟩
        · obtain ⟨c,hcm,he⟩:=minF_at (f:=f) (chL_ne ht hlt)
          obtain ⟨a,ha,hm⟩:=(hrec c hcm).2.1
          exact ⟨a,List.mem_flatMap.2 ⟨c,hcm,ha⟩,by rw [he,hf',hm]⟩
        · obtain ⟨c,hcm,hE⟩:=ho.step hlt
          obtain ⟨a,ha,j,hj,hcj⟩:=(hrec c hcm).2.2 o hE
          exact ⟨a,List.mem_flatMap.2 ⟨c,hcm,ha⟩,j,by simp only [List.length_cons] at hj; omega,hcj⟩
end Go.Proofs.YtieoleabnjdkfaaGreat
set_option linter.unusedSimpArgs false
set_option linter.unusedVariables false
open Go Go.Proofs Go.X
namespace Go.Proofs.YtieoleabnjdkfaaGreat
def ascA (l:List Asn):Prop:=l.Pairwise fun a b=>cmpA a b < 0
theorem cmpA_refl (a:Asn):cmpA a a=0:=(cmpA_zero _ _).2 rfl
theorem insA_mem' {out:List Asn} {a x:Asn}:x∈insA out a↔x=a∨x∈out:=by
  refine ⟨insA_mem,fun h=>?_⟩
  unfold insA
  split
  · rename_i hc
    rcases h with rfl | h
    · have:=(cmpA_zero _ _).1 hc.2
      rw [← this,getD_get _ _ hc.1]
      exact List.getElem_mem _
    · exact h
  · rcases h with rfl | h
    · simp
    · rw [← List.take_append_drop (insAt out a) out] at h
      rcases List.mem_append.1 h with h | h
      · exact List.mem_append.2 (.inl (List.mem_append.2 (.inl h)))
      · exact List.mem_append.2 (.inr h)
theorem insA_asc {out:List Asn} {a:Asn} (h:ascA out):ascA (insA out a):=by
  unfold insA
  split
  · exact h
  · rename_i hc
    have hk:=firstN_le (fun k=>!decide (cmpA (out.getD k zA) a < 0)) out.length
    have hlow:∀ x∈out.take (insAt out a),cmpA x a < 0:=fun x hx=>by
      obtain ⟨i,hi,rfl⟩:=List.getElem_of_mem hx
      rw [List.length_take] at hi
      have:=firstN_lt (fun k=>!decide (cmpA (out.getD k zA) a < 0)) out.length i (by unfold insAt at hi; omega)
      simp only [Bool.not_eq_false',decide_eq_true_eq] at this
      rw [getD_get _ _ (by omega)] at this
      rw [List.getElem_take]
      exact this
    have hhigh:∀ x∈out.drop (insAt out a),cmpA a x < 0:=by
      rcases Nat.lt_or_ge (insAt out a) out.length with hlt | hge
      · have h1:=firstN_at (fun k=>!decide (cmpA (out.getD k zA) a < 0)) out.length (by unfold insAt at hlt; exact hlt)
        simp only [Bool.not_eq_true',decide_eq_false_iff_not] at h1
        have h2:¬ cmpA (out.getD (insAt out a) zA) a=0:=fun e=>hc ⟨hlt,e⟩
        have h3:cmpA a (out.getD (insAt out a) zA) < 0:=by
          have:=cmpA_anti a (out.getD (insAt out a) zA)
          unfold insAt at h2 this ⊢
          omega
        intro x hx
        have hd:out.drop (insAt out a)=out.getD (insAt out a) zA::out.drop (insAt out a+1):=by
          rw [List.drop_eq_getElem_cons hlt,getD_get _ _ hlt]
        have hp:ascA (out.drop (insAt out a)):=h.sublist (List.drop_sublist _ _)
        rw [hd] at hx hp
        rcases List.mem_cons.1 hx with rfl | hx
        · exact h3
        · exact cmpA_trans h3 ((List.pairwise_cons.1 hp).1 x hx)
      · intro x hx
        rw [List.drop_of_length_le hge] at hx
        simp at hx
    refine List.pairwise_append.2 ⟨List.pairwise_append.2 ⟨h.sublist (List.take_sublist _ _),List.pairwise_singleton _ _,fun x hx y hy=>by rw [List.mem_singleton.1 hy]; exact hlow x hx⟩,h.sublist (List.drop_sublist _ _),fun x hx y hy=>?_⟩
    rcases List.mem_append.1 hx with hx | hx
    · exact cmpA_trans (hlow x hx) (hhigh y hy)
    · rw [List.mem_singleton.1 hx]; exact hhigh y hy
theorem sorted_all:∀ (l out:List Asn),ascA out→ascA (l.foldl insA out)∧∀ x,x∈l.foldl insA out↔x∈out∨x∈l
  | [],out,h=>⟨h,fun x=>by simp⟩
  | a::l,out,h=>by
    obtain ⟨h1,h2⟩:=sorted_all l (insA out a) (insA_asc h)
    refine ⟨h1,fun x=>?_⟩
    rw [List.foldl_cons,h2,insA_mem',List.mem_cons]
    constructor
    · rintro ((h | h) | h)
      · exact .inr (.inl h)
      · exact .inl h
      · exact .inr (.inr h)
    · rintro (h | h | h)
      · exact .inl (.inr h)
      · exact .inl (.inl h)
      · exact .inr h
theorem sortedP_asc (l:List Asn):ascA (sortedP l):=(sorted_all l [] List.Pairwise.nil).1
theorem sortedP_iff {l:List Asn} {x:Asn}:x∈sortedP l↔x∈l:=by
  have:=(sorted_all l [] List.Pairwise.nil).2 x
  unfold sortedP
  rw [this]
  simp
theorem ascA_uniq:∀ {a b:List Asn},ascA a→ascA b→(∀ x,x∈a↔x∈b)→a=b
  | [],[],_,_,_=>rfl
  | [],y::b,_,_,h=>absurd ((h y).2 (by simp)) (by simp)
  | x::a,[],_,_,h=>absurd ((h x).1 (by simp)) (by simp)
  | x::a,y::b,ha,hb,h=>by
    have ha':=List.pairwise_cons.1 ha
    have hb':=List.pairwise_cons.1 hb
    have hxy:x=y:=by
      rcases List.mem_cons.1 ((h x).1 (by simp)) with h1 | h1
      · exact h1
      · rcases List.mem_cons.1 ((h y).2 (by simp)) with h2 | h2
        · exact h2.symm
        · have:=cmpA_trans (ha'.1 y h2) (hb'.1 x h1)
          rw [cmpA_refl] at this
          omega
    subst hxy
    have hnot:∀ {l:List Asn},(∀ z∈l,cmpA x z < 0)→x ∉ l:=fun hl hm=>by have:=hl x hm; rw [cmpA_refl] at this; omega
    rw [ascA_uniq ha'.2 hb'.2 fun z=>by
      have:=h z
      rw [List.mem_cons,List.mem_cons] at this
      constructor
      · intro hz
        rcases this.1 (.inr hz) with h1 | h1
        · rw [h1] at hz; exact absurd hz (hnot ha'.1)
        · exact h1
      · intro hz
        rcases this.2 (.inr hz) with h1 | h1
        · rw [h1] at hz; exact absurd hz (hnot hb'.1)
        · exact h1]
theorem wsum_mono1 {n:Int}:∀ {gs:List Grp},(∀ g∈gs,isB n g.1∧1≤g.2)→∀ {f h:List Int→Int},(∀ g∈gs,f g.1≤h g.1)→wsum f gs≤wsum h gs
  | [],_,f,h,_=>Int.le_refl _
  | g::gs,hg,f,h,hf=>by
    have ih:=wsum_mono1 (fun x hx=>hg x (List.mem_cons_of_mem _ hx)) fun x hx=>hf x (List.mem_cons_of_mem _ hx)
    have h1:=(hg g (by simp)).2
    have h2:=hf g (by simp)
    have h3:=Int.mul_le_mul_of_nonneg_left h2 (show 0≤g.2 by omega)
    unfold wsum
    omega
theorem mrg_le {n:Int} {gs:List Grp} {N:Int} (h:PileOK n gs N) (h1:1≤n) (hn:n≤7) {a:Asn} (hk:a.1=1∨a.1=2):mrg n gs a≤N:=by
  unfold mrg tal
  rw [h.pileB h1 hn,Bool.and_true]
  have hN:0≤N:=by
    have:=h.part (f:=fun _=>(0:Int)) (fun _=>by omega) 0
    have h2:=(h.part (f:=fun _=>(1:Int)) (fun _=>by omega) gs.length)
    rw [List.take_length] at h2
    have:=h.total
    omega
  by_cases hv:validB n a=true
  · rw [if_pos hv]
    have hb:=fun (f:List Int→Int) (hf:∀ p,0≤f p∧f p≤1)=>h.part hf gs.length
    unfold fav
    rcases hk with k | k
    · simp only [k,if_true]
      have b0:=wsum_mono1 h.ballots (f:=isFirst a.2.1) (h:=fun _=>1) fun g _=>(isFirst01 _ g.1).2
      have b1:=hb (isFirst a.2.1) fun p=>isFirst01 _ p
      have b2:=hb (isBefore a.2.2.1 a.2.1) fun p=>by unfold isBefore; simp only; split <;> omega
      rw [List.take_length] at b1 b2
      have:=h.total
      omega
    · simp only [k,if_true,if_false,show ¬ (2:Int)=1 by omega]
      have b0:=wsum_mono1 h.ballots (f:=isTopM a.2.2.2.1 a.2.1) (h:=fun _=>1) fun g _=>by unfold isTopM; split <;> omega
      have b1:=hb (isTopM a.2.2.2.1 a.2.1) fun p=>by unfold isTopM; split <;> omega
      have b2:=hb (isTopM a.2.2.2.1 a.2.2.1) fun p=>by unfold isTopM; split <;> omega
      rw [List.take_length] at b1 b2
      have:=h.total
      omega
  · rw [if_neg hv]; simpa using hN
theorem setTo_le {n:Nat} (gs:List Grp) (wn:Int) {v:Int} (hv:v < 100000):∀ i,((setTo n gs wn i).1≤v↔∃ c:Nat,c < i∧(c:Int) ≠ wn∧(valP n gs 10 [(c:Int)]).1≤v)
  | 0=>by
    simp [setTo,idL]
    omega
  | i+1=>by
    have ih:=setTo_le gs wn hv (n:=n) i
    rw [setTo_succ]
    unfold setStep
    by_cases c1:(i:Int)=wn
    · rw [if_pos c1,ih]
      constructor
      · rintro ⟨c,h1,h2,h3⟩; exact ⟨c,by omega,h2,h3⟩
      · rintro ⟨c,h1,h2,h3⟩
        have:c ≠ i:=fun e=>h2 (by rw [e]; exact c1)
        exact ⟨c,by omega,h2,h3⟩
    · rw [if_neg c1]
      have:(if (valP n gs 10 [(i:Int)]).1 < (setTo n gs wn i).1 then (valP n gs 10 [(i:Int)]).1 else (setTo n gs wn i).1)≤v↔(valP n gs 10 [(i:Int)]).1≤v∨(setTo n gs wn i).1≤v:=by split <;> omega
      simp only
      rw [this,ih]
      constructor
      · rintro (h | ⟨c,h1,h2,h3⟩)
        · exact ⟨i,by omega,c1,h⟩
        · exact ⟨c,by omega,h2,h3⟩
      · rintro ⟨c,h1,h2,h3⟩
        by_cases e:c=i
        · subst e; exact .inl h3
        · exact .inr ⟨c,by omega,h2,h3⟩
theorem setTo_list {n:Nat} (gs:List Grp) (wn:Int) {a:Asn}:∀ i,(a∈(setTo n gs wn i).2↔∃ c:Nat,c < i∧(c:Int) ≠ wn∧a∈(valP n gs 10 [(c:Int)]).2)
  | 0=>by simp [setTo,idL]
  | i+1=>by
    have ih:=setTo_list gs wn (a:=a) (n:=n) i
    rw [setTo_succ]
    unfold setStep
    by_cases c1:(i:Int)=wn
    · rw [if_pos c1,ih]
      constructor
      · rintro ⟨c,h1,h2,h3⟩; exact ⟨c,by omega,h2,h3⟩
      · rintro ⟨c,h1,h2,h3⟩
        have:c ≠ i:=fun e=>h2 (by rw [e]; exact c1)
        exact ⟨c,by omega,h2,h3⟩
    · rw [if_neg c1,List.mem_append,ih]
      constructor
      · rintro (⟨c,h1,h2,h3⟩ | h)
        · exact ⟨c,by omega,h2,h3⟩
        · exact ⟨i,by omega,c1,h⟩
      · rintro ⟨c,h1,h2,h3⟩
        by_cases e:c=i
        · subst e; exact .inr h3
        · exact .inl ⟨c,by omega,h2,h3⟩
theorem setTo_cap {n:Nat} (gs:List Grp) (wn:Int):∀ i,(setTo n gs wn i).1≤100000
  | 0=>by simp [setTo,idL]
  | i+1=>by
    have:=setTo_cap gs wn (n:=n) i
    rw [setTo_succ]
    unfold setStep
    split
    · exact this
    · simp only; split <;> omega
def OtherO (n:Nat) (wn:Int) (o:List Int):Prop:=isB n o∧o.length=n∧o.getD (n - 1) 0 ≠ wn
theorem ends_one {n:Nat} (h1:1≤n) {o:List Int} {c:Int}:Ends n [c] o↔isB n o∧o.length=n∧o.getD (n - 1) 0=c:=by
  constructor
  · rintro ⟨a,b,s,rfl⟩
    have:n - 1=s.length:=by rw [List.length_append] at b; simp at b; omega
    exact ⟨a,b,by rw [this]; simp [List.getD_eq_getElem?_getD]⟩
  · rintro ⟨a,b,c1⟩
    have hne:o ≠ []:=fun e=>by rw [e] at b; simp at b; omega
    obtain ⟨s,d,rfl⟩:∃ s d,o=s++[d]:=⟨o.dropLast,o.getLast hne,(List.dropLast_concat_getLast hne).symm⟩
    have:n - 1=s.length:=by rw [List.length_append] at b; simp at b; omega
    rw [this] at c1
    have hd:d=c:=by simpa [List.getD_eq_getElem?_getD] using c1
    exact ⟨a,b,s,by rw [hd]⟩
theorem setP_bounds {n:Nat} (gs:List Grp) (wn:Int):0≤(setP n gs wn).1∧(setP n gs wn).1≤100000:=by
  unfold setP
  split
  · have:=setTo_cap gs wn (n:=n) n
    simp only
    split <;> omega
  · simp
theorem setP_list {n:Nat} (h2:2≤n) (hn:n≤7) {gs:List Grp} {N:Int} (h:PileOK (n:Int) gs N) (hN:N < 100000) {wn:Int} (hw:0≤wn∧wn < (n:Int)) :
    (∀ a∈(setP n gs wn).2,(a.1=1∨a.1=2)∧(1≤(setP n gs wn).1→(setP n gs wn).1≤mrg n gs a))∧(1≤(setP n gs wn).1→∃ a∈(setP n gs wn).2,mrg n gs a=(setP n gs wn).1) ∧
    ∀ o,OtherO n wn o→∃ a∈(setP n gs wn).2,∃ j,j < n∧contr (n:Int) a (o.drop j)=true:=by
  have hp:=h.pileB (by omega) (by omega)
  have hval:∀ c:Nat,c < n→(valP n gs 10 [(c:Int)]).1≤N:=fun c hc=>by
    obtain ⟨r1,⟨a,ha,hm⟩,_⟩:=list_ok h2 hn gs 10 [(c:Int)] (isB_one hc) (by simp) (by simp; omega)
    rw [← hm]
    exact mrg_le h (by omega) (by omega) (r1 a ha).2
  have hle:∀ c:Nat,c < n→(c:Int) ≠ wn→(setTo n gs wn n).1≤(valP n gs 10 [(c:Int)]).1:=fun c hc hne =>
    (setTo_le gs wn (show (valP n gs 10 [(c:Int)]).1 < 100000 by have:=hval c hc; omega) n).2 ⟨c,hc,hne,Int.le_refl _⟩
  obtain ⟨d,hd,hdne⟩:∃ d:Nat,d < n∧(d:Int) ≠ wn:=by
    by_cases c:wn=0
    · exact ⟨1,by omega,by omega⟩
    · exact ⟨0,by omega,fun e=>c (by omega)⟩
  have hcap:(setTo n gs wn n).1 < 100000:=by have:=hle d hd hdne; have:=hval d hd; omega
  obtain ⟨c0,c1,c2,c3⟩:=(setTo_le gs wn hcap n).1 (Int.le_refl _)
  have hmin:(setTo n gs wn n).1=(valP n gs 10 [(c0:Int)]).1:=by have:=hle c0 c1 c2; omega
  unfold setP
  rw [if_pos ⟨hp,hw⟩]
  simp only
  refine ⟨fun a ha=>?_,fun hV=>?_,fun o ⟨o1,o2,o3⟩=>?_⟩
  · obtain ⟨c,d1,d2,d3⟩:=(setTo_list gs wn n).1 ha
    obtain ⟨r1,_,_⟩:=list_ok h2 hn gs 10 [(c:Int)] (isB_one d1) (by simp) (by simp; omega)
    obtain ⟨r2,r3⟩:=r1 a d3
    refine ⟨r3,fun hV=>?_⟩
    have:=hle c d1 d2
    split at hV <;> split <;> omega
  · obtain ⟨_,⟨a,ha,hm⟩,_⟩:=list_ok h2 hn gs 10 [(c0:Int)] (isB_one c1) (by simp) (by simp; omega)
    refine ⟨a,(setTo_list gs wn n).2 ⟨c0,c1,c2,ha⟩,?_⟩
    rw [hm,← hmin]
    split at hV
    · omega
    · rename_i hc
      rw [if_neg hc]
  · have hm:o.getD (n - 1) 0∈o:=by rw [getD_get _ _ (by omega)]; exact List.getElem_mem _
    have hb:=o1.2 _ hm
    obtain ⟨c,hc⟩:∃ c:Nat,o.getD (n - 1) 0=(c:Int):=⟨(o.getD (n - 1) 0).toNat,by omega⟩
    obtain ⟨_,_,r3⟩:=list_ok h2 hn gs 10 [(c:Int)] (isB_one (by omega)) (by simp) (by simp; omega)
    obtain ⟨a,ha,j,hj,hcj⟩:=r3 o ((ends_one (by omega)).2 ⟨o1,o2,hc⟩)
    exact ⟨a,(setTo_list gs wn n).2 ⟨c,by omega,by rw [← hc]; exact o3,ha⟩,j,by simp at hj; omega,hcj⟩
end Go.Proofs.YtieoleabnjdkfaaGreat
