/- Part 11 of what stands below the statement. -/
import Derived.Test.YtieoleabnjdkfaaGreatQ10
set_option linter.unusedSimpArgs false
set_option linter.unusedVariables false
open Go Go.Proofs Go.X
namespace Go.Proofs.YtieoleabnjdkfaaGreat
def ascA (l:List Asn):Prop:=l.Pairwise fun a b=>cmpA a b < 0
theorem cmpA_refl (a:Asn):cmpA a a=0:=(cmpA_zero _ _).2 rfl
theorem insA_mem' {out:List Asn} {a x:Asn}:x∈insA out a↔x=a∨x∈out:=by
  refine ⟨insA_mem,fun h=>?_⟩
  unfold insA
  split
  · rename_i hc
    rcases h with rfl | h
    · have:=(cmpA_zero _ _).1 hc.2
      rw [← this,getD_get _ _ hc.1]
      exact List.getElem_mem _
    · exact h
  · rcases h with rfl | h
    · simp
    · rw [← List.take_append_drop (insAt out a) out] at h
      rcases List.mem_append.1 h with h | h
      · exact List.mem_append.2 (.inl (List.mem_append.2 (.inl h)))
      · exact List.mem_append.2 (.inr h)
theorem insA_asc {out:List Asn} {a:Asn} (h:ascA out):ascA (insA out a):=by
  unfold insA
  split
  · exact h
  · rename_i hc
    have hk:=firstN_le (fun k=>!decide (cmpA (out.getD k zA) a < 0)) out.length
    have hlow:∀ x∈out.take (insAt out a),cmpA x a < 0:=fun x hx=>by
      obtain ⟨i,hi,rfl⟩:=List.getElem_of_mem hx
      rw [List.length_take] at hi
      have:=firstN_lt (fun k=>!decide (cmpA (out.getD k zA) a < 0)) out.length i (by unfold insAt at hi; omega)
      simp only [Bool.not_eq_false',decide_eq_true_eq] at this
      rw [getD_get _ _ (by omega)] at this
      rw [List.getElem_take]
      exact this
    have hhigh:∀ x∈out.drop (insAt out a),cmpA a x < 0:=by
      rcases Nat.lt_or_ge (insAt out a) out.length with hlt | hge
      · have h1:=firstN_at (fun k=>!decide (cmpA (out.getD k zA) a < 0)) out.length (by unfold insAt at hlt; exact hlt)
        simp only [Bool.not_eq_true',decide_eq_false_iff_not] at h1
        have h2:¬ cmpA (out.getD (insAt out a) zA) a=0:=fun e=>hc ⟨hlt,e⟩
        have h3:cmpA a (out.getD (insAt out a) zA) < 0:=by
          have:=cmpA_anti a (out.getD (insAt out a) zA)
          unfold insAt at h2 this ⊢
          omega
        intro x hx
        have hd:out.drop (insAt out a)=out.getD (insAt out a) zA::out.drop (insAt out a+1):=by
          rw [List.drop_eq_getElem_cons hlt,getD_get _ _ hlt]
        have hp:ascA (out.drop (insAt out a)):=h.sublist (List.drop_sublist _ _)
        rw [hd] at hx hp
        rcases List.mem_cons.1 hx with rfl | hx
        · exact h3
        · exact cmpA_trans h3 ((List.pairwise_cons.1 hp).1 x hx)
      · intro x hx
        rw [List.drop_of_length_le hge] at hx
        simp at hx
    refine List.pairwise_append.2 ⟨List.pairwise_append.2 ⟨h.sublist (List.take_sublist _ _),List.pairwise_singleton _ _,fun x hx y hy=>by rw [List.mem_singleton.1 hy]; exact hlow x hx⟩,h.sublist (List.drop_sublist _ _),fun x hx y hy=>?_⟩
    rcases List.mem_append.1 hx with hx | hx
    · exact cmpA_trans (hlow x hx) (hhigh y hy)
    · rw [List.mem_singleton.1 hx]; exact hhigh y hy
theorem sorted_all:∀ (l out:List Asn),ascA out→ascA (l.foldl insA out)∧∀ x,x∈l.foldl insA out↔x∈out∨x∈l
  | [],out,h=>⟨h,fun x=>by simp⟩
  | a::l,out,h=>by
    obtain ⟨h1,h2⟩:=sorted_all l (insA out a) (insA_asc h)
    refine ⟨h1,fun x=>?_⟩
    rw [List.foldl_cons,h2,insA_mem',List.mem_cons]
    constructor
    · rintro ((h | h) | h)
      · exact .inr (.inl h)
      · exact .inl h
      · exact .inr (.inr h)
    · rintro (h | h | h)
      · exact .inl (.inr h)
      · exact .inl (.inl h)
      · exact .inr h
theorem sortedP_asc (l:List Asn):ascA (sortedP l):=(sorted_all l [] List.Pairwise.nil).1
theorem sortedP_iff {l:List Asn} {x:Asn}:x∈sortedP l↔x∈l:=by
  have:=(sorted_all l [] List.Pairwise.nil).2 x
  unfold sortedP
  rw [this]
  simp
theorem ascA_uniq:∀ {a b:List Asn},ascA a→ascA b→(∀ x,x∈a↔x∈b)→a=b
  | [],[],_,_,_=>rfl
  | [],y::b,_,_,h=>absurd ((h y).2 (by simp)) (by simp)
  | x::a,[],_,_,h=>absurd ((h x).1 (by simp)) (by simp)
  | x::a,y::b,ha,hb,h=>by
    have ha':=List.pairwise_cons.1 ha
    have hb':=List.pairwise_cons.1 hb
    have hxy:x=y:=by
      rcases List.mem_cons.1 ((h x).1 (by simp)) with h1 | h1
      · exact h1
      · rcases List.mem_cons.1 ((h y).2 (by simp)) with h2 | h2
        · exact h2.symm
        · have:=cmpA_trans (ha'.1 y h2) (hb'.1 x h1)
          rw [cmpA_refl] at this
          omega
    subst hxy
    have hnot:∀ {l:List Asn},(∀ z∈l,cmpA x z < 0)→x ∉ l:=fun hl hm=>by have:=hl x hm; rw [cmpA_refl] at this; omega
    rw [ascA_uniq ha'.2 hb'.2 fun z=>by
      have:=h z
      rw [List.mem_cons,List.mem_cons] at this
      constructor
      · intro hz
        rcases this.1 (.inr hz) with h1 | h1
        · rw [h1] at hz; exact absurd hz (hnot ha'.1)
        · exact h1
      · intro hz
        rcases this.2 (.inr hz) with h1 | h1
        · rw [h1] at hz; exact absurd hz (hnot hb'.1)
        · exact h1]
theorem wsum_mono1 {n:Int}:∀ {gs:List Grp},(∀ g∈gs,isB n g.1∧1≤g.2)→∀ {f h:List Int→Int},(∀ g∈gs,f g.1≤h g.1)→wsum f gs≤wsum h gs
  | [],_,f,h,_=>Int.le_refl _
  | g::gs,hg,f,h,hf=>by
    have ih:=wsum_mono1 (fun x hx=>hg x (List.mem_cons_of_mem _ hx)) fun x hx=>hf x (List.mem_cons_of_mem _ hx)
    have h1:=(hg g (by simp)).2
    have h2:=hf g (by simp)
    have h3:=Int.mul_le_mul_of_nonneg_left h2 (show 0≤g.2 by omega)
    unfold wsum
    omega
theorem mrg_le {n:Int} {gs:List Grp} {N:Int} (h:PileOK n gs N) (h1:1≤n) (hn:n≤7) {a:Asn} (hk:a.1=1∨a.1=2):mrg n gs a≤N:=by
  unfold mrg tal
  rw [h.pileB h1 hn,Bool.and_true]
  have hN:0≤N:=by
    have:=h.part (f:=fun _=>(0:Int)) (fun _=>by omega) 0
    have h2:=(h.part (f:=fun _=>(1:Int)) (fun _=>by omega) gs.length)
    rw [List.take_length] at h2
    have:=h.total
    omega
  by_cases hv:validB n a=true
  · rw [if_pos hv]
    have hb:=fun (f:List Int→Int) (hf:∀ p,0≤f p∧f p≤1)=>h.part hf gs.length
    unfold fav
    rcases hk with k | k
    · simp only [k,if_true]
      have b0:=wsum_mono1 h.ballots (f:=isFirst a.2.1) (h:=fun _=>1) fun g _=>(isFirst01 _ g.1).2
      have b1:=hb (isFirst a.2.1) fun p=>isFirst01 _ p
      have b2:=hb (isBefore a.2.2.1 a.2.1) fun p=>by unfold isBefore; simp only; split <;> omega
      rw [List.take_length] at b1 b2
      have:=h.total
      omega
    · simp only [k,if_true,if_false,show ¬ (2:Int)=1 by omega]
      have b0:=wsum_mono1 h.ballots (f:=isTopM a.2.2.2.1 a.2.1) (h:=fun _=>1) fun g _=>by unfold isTopM; split <;> omega
      have b1:=hb (isTopM a.2.2.2.1 a.2.1) fun p=>by unfold isTopM; split <;> omega
      have b2:=hb (isTopM a.2.2.2.1 a.2.2.1) fun p=>by unfold isTopM; split <;> omega
      rw [List.take_length] at b1 b2
      have:=h.total
      omega
  · rw [if_neg hv]; simpa using hN
theorem setTo_le {n:Nat} (gs:List Grp) (wn:Int) {v:Int} (hv:v < 100000):∀ i,((setTo n gs wn i).1≤v↔∃ c:Nat,c < i∧(c:Int) ≠ wn∧(valP n gs 10 [(c:Int)]).1≤v)
  | 0=>by
    simp [setTo,idL]
    omega
  | i+1=>by
    have ih:=setTo_le gs wn hv (n:=n) i
    rw [setTo_succ]
    unfold setStep
    by_cases c1:(i:Int)=wn
    · rw [if_pos c1,ih]
      constructor
      · rintro ⟨c,h1,h2,h3⟩; exact ⟨c,by omega,h2,h3⟩
      · rintro ⟨c,h1,h2,h3⟩
        have:c ≠ i:=fun e=>h2 (by rw [e]; exact c1)
        exact ⟨c,by omega,h2,h3⟩
    · rw [if_neg c1]
      have:(if (valP n gs 10 [(i:Int)]).1 < (setTo n gs wn i).1 then (valP n gs 10 [(i:Int)]).1 else (setTo n gs wn i).1)≤v↔(valP n gs 10 [(i:Int)]).1≤v∨(setTo n gs wn i).1≤v:=by split <;> omega
      simp only
      rw [this,ih]
      constructor
      · rintro (h | ⟨c,h1,h2,h3⟩)
        · exact ⟨i,by omega,c1,h⟩
        · exact ⟨c,by omega,h2,h3⟩
      · rintro ⟨c,h1,h2,h3⟩
        by_cases e:c=i
        · subst e; exact .inl h3
        · exact .inr ⟨c,by omega,h2,h3⟩
theorem setTo_list {n:Nat} (gs:List Grp) (wn:Int) {a:Asn}:∀ i,(a∈(setTo n gs wn i).2↔∃ c:Nat,c < i∧(c:Int) ≠ wn∧a∈(valP n gs 10 [(c:Int)]).2)
  | 0=>by simp [setTo,idL]
  | i+1=>by
    have ih:=setTo_list gs wn (a:=a) (n:=n) i
    rw [setTo_succ]
    unfold setStep
    by_cases c1:(i:Int)=wn
    · rw [if_pos c1,ih]
      constructor
      · rintro ⟨c,h1,h2,h3⟩; exact ⟨c,by omega,h2,h3⟩
      · rintro ⟨c,h1,h2,h3⟩
        have:c ≠ i:=fun e=>h2 (by rw [e]; exact c1)
        exact ⟨c,by omega,h2,h3⟩
    · rw [if_neg c1,List.mem_append,ih]
      constructor
      · rintro (⟨c,h1,h2,h3⟩ | h)
        · exact ⟨c,by omega,h2,h3⟩
        · exact ⟨i,by omega,c1,h⟩
      · rintro ⟨c,h1,h2,h3⟩
        by_cases e:c=i
        · subst e; exact .inr h3
        · exact .inl ⟨c,by omega,h2,h3⟩
theorem setTo_cap {n:Nat} (gs:List Grp) (wn:Int):∀ i,(setTo n gs wn i).1≤100000
  | 0=>by simp [setTo,idL]
  | i+1=>by
    have:=setTo_cap gs wn (n:=n) i
    rw [setTo_succ]
    unfold setStep
    split
    · exact this
    · simp only; split <;> omega
def OtherO (n:Nat) (wn:Int) (o:List Int):Prop:=isB n o∧o.length=n∧o.getD (n - 1) 0 ≠ wn
theorem ends_one {n:Nat} (h1:1≤n) {o:List Int} {c:Int}:Ends n [c] o↔isB n o∧o.length=n∧o.getD (n - 1) 0=c:=by
  constructor
  · rintro ⟨a,b,s,rfl⟩
    have:n - 1=s.length:=by rw [List.length_append] at b; simp at b; omega
    exact ⟨a,b,by rw [this]; simp [List.getD_eq_getElem?_getD]⟩
  · rintro ⟨a,b,c1⟩
    have hne:o ≠ []:=fun e=>by rw [e] at b; simp at b; omega
    obtain ⟨s,d,rfl⟩:∃ s d,o=s++[d]:=⟨o.dropLast,o.getLast hne,(List.dropLast_concat_getLast hne).symm⟩
    have:n - 1=s.length:=by rw [List.length_append] at b; simp at b; omega
    rw [this] at c1
    have hd:d=c:=by simpa [List.getD_eq_getElem?_getD] using c1
    exact ⟨a,b,s,by rw [hd]⟩
theorem setP_le {n:Nat} (h1:1≤n) (hn:n≤7) {gs:List Grp} (hp:pileB (n:Int) gs=true) {wn:Int} (hw:0≤wn∧wn < (n:Int)) {v:Int} (h0:0≤v) (hv:v < 100000) :
    (setP n gs wn).1≤v↔∃ o,OtherO n wn o∧∀ j,j < n→ov n gs (o.drop j)≤v:=by
  unfold setP
  rw [if_pos ⟨hp,hw⟩]
  simp only
  have e:(if (setTo n gs wn n).1 < 0 then 0 else (setTo n gs wn n).1)≤v↔(setTo n gs wn n).1≤v:=by split <;> omega
  rw [e,setTo_le gs wn hv]
  constructor
  · rintro ⟨c,c1,c2,c3⟩
    obtain ⟨o,ho,h4⟩:=(val_le gs v 10 [(c:Int)] (isB_one c1) (by simp) (by simp; omega)).1 c3
    obtain ⟨o1,o2,o3⟩:=(ends_one h1).1 ho
    exact ⟨o,⟨o1,o2,by rw [o3]; exact c2⟩,fun j hj=>h4 j (by simp; omega)⟩
  · rintro ⟨o,⟨o1,o2,o3⟩,h4⟩
    have hm:o.getD (n - 1) 0∈o:=by rw [getD_get _ _ (by omega)]; exact List.getElem_mem _
    have hb:=o1.2 _ hm
    refine ⟨(o.getD (n - 1) 0).toNat,by omega,by rw [show (((o.getD (n - 1) 0).toNat:Nat):Int)=o.getD (n - 1) 0 by omega]; exact o3,?_⟩
    rw [show (((o.getD (n - 1) 0).toNat:Nat):Int)=o.getD (n - 1) 0 by omega]
    exact (val_le gs v 10 [o.getD (n - 1) 0] ⟨by simp,fun x hx=>by rw [List.mem_singleton.1 hx]; exact hb⟩ (by simp) (by simp; omega)).2 ⟨o,(ends_one h1).2 ⟨o1,o2,rfl⟩,fun j hj=>h4 j (by simp at hj; omega)⟩
theorem setP_bounds {n:Nat} (gs:List Grp) (wn:Int):0≤(setP n gs wn).1∧(setP n gs wn).1≤100000:=by
  unfold setP
  split
  · have:=setTo_cap gs wn (n:=n) n
    simp only
    split <;> omega
  · simp
theorem setP_list {n:Nat} (h2:2≤n) (hn:n≤7) {gs:List Grp} {N:Int} (h:PileOK (n:Int) gs N) (hN:N < 100000) {wn:Int} (hw:0≤wn∧wn < (n:Int)) :
    (∀ a∈(setP n gs wn).2,(a.1=1∨a.1=2)∧(1≤(setP n gs wn).1→(setP n gs wn).1≤mrg n gs a))∧(1≤(setP n gs wn).1→∃ a∈(setP n gs wn).2,mrg n gs a=(setP n gs wn).1) ∧
    ∀ o,OtherO n wn o→∃ a∈(setP n gs wn).2,∃ j,j < n∧contr (n:Int) a (o.drop j)=true:=by
  have hp:=h.pileB (by omega) (by omega)
  have hval:∀ c:Nat,c < n→(valP n gs 10 [(c:Int)]).1≤N:=fun c hc=>by
    obtain ⟨r1,⟨a,ha,hm⟩,_⟩:=list_ok h2 hn gs 10 [(c:Int)] (isB_one hc) (by simp) (by simp; omega)
    rw [← hm]
    exact mrg_le h (by omega) (by omega) (r1 a ha).2
  have hle:∀ c:Nat,c < n→(c:Int) ≠ wn→(setTo n gs wn n).1≤(valP n gs 10 [(c:Int)]).1:=fun c hc hne =>
    (setTo_le gs wn (show (valP n gs 10 [(c:Int)]).1 < 100000 by have:=hval c hc; omega) n).2 ⟨c,hc,hne,Int.le_refl _⟩
  obtain ⟨d,hd,hdne⟩:∃ d:Nat,d < n∧(d:Int) ≠ wn:=by
    by_cases c:wn=0
    · exact ⟨1,by omega,by omega⟩
    · exact ⟨0,by omega,fun e=>c (by omega)⟩
  have hcap:(setTo n gs wn n).1 < 100000:=by have:=hle d hd hdne; have:=hval d hd; omega
  obtain ⟨c0,c1,c2,c3⟩:=(setTo_le gs wn hcap n).1 (Int.le_refl _)
  have hmin:(setTo n gs wn n).1=(valP n gs 10 [(c0:Int)]).1:=by have:=hle c0 c1 c2; omega
  unfold setP
  rw [if_pos ⟨hp,hw⟩]
  simp only
  refine ⟨fun a ha=>?_,fun hV=>?_,fun o ⟨o1,o2,o3⟩=>?_⟩
  · obtain ⟨c,d1,d2,d3⟩:=(setTo_list gs wn n).1 ha
    obtain ⟨r1,_,_⟩:=list_ok h2 hn gs 10 [(c:Int)] (isB_one d1) (by simp) (by simp; omega)
    obtain ⟨r2,r3⟩:=r1 a d3
    refine ⟨r3,fun hV=>?_⟩
    have:=hle c d1 d2
    split at hV <;> split <;> omega
  · obtain ⟨_,⟨a,ha,hm⟩,_⟩:=list_ok h2 hn gs 10 [(c0:Int)] (isB_one c1) (by simp) (by simp; omega)
    refine ⟨a,(setTo_list gs wn n).2 ⟨c0,c1,c2,ha⟩,?_⟩
    rw [hm,← hmin]
    split at hV
    · omega
    · rename_i hc
      rw [if_neg hc]
  · have hm:o.getD (n - 1) 0∈o:=by rw [getD_get _ _ (by omega)]; exact List.getElem_mem _
    have hb:=o1.2 _ hm
    obtain ⟨c,hc⟩:∃ c:Nat,o.getD (n - 1) 0=(c:Int):=⟨(o.getD (n - 1) 0).toNat,by omega⟩
    obtain ⟨_,_,r3⟩:=list_ok h2 hn gs 10 [(c:Int)] (isB_one (by omega)) (by simp) (by simp; omega)
    obtain ⟨a,ha,j,hj,hcj⟩:=r3 o ((ends_one (by omega)).2 ⟨o1,o2,hc⟩)
    exact ⟨a,(setTo_list gs wn n).2 ⟨c,by omega,by rw [← hc]; exact o3,ha⟩,j,by simp at hj; omega,hcj⟩
end Go.Proofs.YtieoleabnjdkfaaGreat
