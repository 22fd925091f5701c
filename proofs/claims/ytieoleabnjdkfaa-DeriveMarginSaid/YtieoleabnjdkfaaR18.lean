/- Part 18 of what stands below the statement. -/
import Derived.Test.YtieoleabnjdkfaaR17
set_option linter.unusedSimpArgs false
set_option linter.unusedVariables false
open Go Go.Proofs Go.X
namespace Go.Proofs.Ytieoleabnjdkfaa
def numA:List Grp→List Int→Int
  | [],_=>0
  | h::b,p=>if h.1=p then h.2 else numA b p
def subA:List Grp→List Int→Int→List Grp
  | [],_,_=>[]
  | h::b,p,m=>if h.1=p then (h.1,h.2 - m)::b else h::subA b p m
def agr (b:List Grp):List Grp→Int
  | []=>0
  | g::a=>(if numA b g.1 < g.2 then numA b g.1 else g.2)+agr b a
theorem numA_nn:∀ {b:List Grp},(∀ g∈b,0≤g.2)→∀ p,0≤numA b p
  | [],_,p=>by simp [numA]
  | h::b,hb,p=>by
    unfold numA
    split
    · exact hb h (by simp)
    · exact numA_nn (fun g hg=>hb g (List.mem_cons_of_mem _ hg)) p
theorem sub_ok:∀ {b:List Grp} {q:List Int} {m:Int},(∀ g∈b,0≤g.2)→0≤m→m≤numA b q→(∀ g∈subA b q m,0≤g.2)∧(∀ f,wsum f (subA b q m)=wsum f b - m * f q)∧∀ p,p ≠ q→numA (subA b q m) p=numA b p
  | [],q,m,_,h0,h1=>by
    have hm:m=0:=by simp [numA] at h1; omega
    subst hm
    exact ⟨fun g hg=>(by cases hg),fun f=>by simp [subA],fun p _=>rfl⟩
  | h::b,q,m,hb,h0,h1=>by
    have hb':∀ g∈b,0≤g.2:=fun g hg=>hb g (List.mem_cons_of_mem _ hg)
    unfold numA at h1
    by_cases hq:h.1=q
    · rw [if_pos hq] at h1
      unfold subA
      rw [if_pos hq]
      refine ⟨fun g hg=>?_,fun f=>?_,fun p hp=>?_⟩
      · rcases List.mem_cons.1 hg with rfl | hg
        · show 0≤h.2 - m; omega
        · exact hb' g hg
      · show (h.2 - m) * f h.1+wsum f b=h.2 * f h.1+wsum f b - m * f q
        rw [hq,Int.sub_mul]; omega
      · show (if h.1=p then h.2 - m else numA b p)=if h.1=p then h.2 else numA b p
        rw [if_neg (by rw [hq]; exact fun e=>hp e.symm),if_neg (by rw [hq]; exact fun e=>hp e.symm)]
    · rw [if_neg hq] at h1
      obtain ⟨i1,i2,i3⟩:=sub_ok hb' h0 h1
      unfold subA
      rw [if_neg hq]
      refine ⟨fun g hg=>?_,fun f=>?_,fun p hp=>?_⟩
      · rcases List.mem_cons.1 hg with rfl | hg
        · exact hb g (by simp)
        · exact i1 g hg
      · show h.2 * f h.1+wsum f (subA b q m)=h.2 * f h.1+wsum f b - m * f q
        rw [i2]; omega
      · show (if h.1=p then h.2 else numA (subA b q m) p)=if h.1=p then h.2 else numA b p
        rw [i3 p hp]
theorem wsum_ge {f:List Int→Int} (hf:∀ p,-1≤f p∧f p≤1):∀ {b:List Grp},(∀ g∈b,0≤g.2)→-(wsum (fun _=>1) b)≤wsum f b
  | [],_=>by simp [wsum]
  | h::b,hb=>by
    have ih:=wsum_ge hf (b:=b) fun g hg=>hb g (List.mem_cons_of_mem _ hg)
    have h0:=hb h (by simp)
    show -(h.2 * 1+wsum (fun _=>1) b)≤h.2 * f h.1+wsum f b
    have:h.2 * (-1)≤h.2 * f h.1:=Int.mul_le_mul_of_nonneg_left (hf h.1).1 h0
    omega
theorem agr_congr {b b':List Grp}:∀ {a:List Grp},(∀ g∈a,numA b' g.1=numA b g.1)→agr b' a=agr b a
  | [],_=>rfl
  | g::a,h=>by
    unfold agr
    rw [h g (by simp),agr_congr fun x hx=>h x (List.mem_cons_of_mem _ hx)]
theorem dist_sum {f:List Int→Int} (hf:∀ p,-1≤f p∧f p≤1):∀ {a b:List Grp},(∀ g∈a,0≤g.2)→(∀ g∈b,0≤g.2)→a.Pairwise (fun g h=>g.1 ≠ h.1)→wsum f a - wsum f b≤(wsum (fun _=>1) a - agr b a)+(wsum (fun _=>1) b - agr b a)
  | [],b,_,hb,_=>by
    have:=wsum_ge hf hb
    show 0 - wsum f b≤(0 - 0)+(wsum (fun _=>1) b - 0)
    omega
  | g::a,b,ha,hb,hpw=>by
    have hg:=ha g (by simp)
    have hn:=numA_nn hb g.1
    obtain ⟨m,hm⟩:∃ m,(if numA b g.1 < g.2 then numA b g.1 else g.2)=m:=⟨_,rfl⟩
    have hm0:0≤m:=by rw [← hm]; split <;> omega
    have hm1:m≤numA b g.1:=by rw [← hm]; split <;> omega
    have hm2:m≤g.2:=by rw [← hm]; split <;> omega
    obtain ⟨s1,s2,s3⟩:=sub_ok hb hm0 hm1
    obtain ⟨p1,p2⟩:=List.pairwise_cons.1 hpw
    have ih:=dist_sum hf (a:=a) (b:=subA b g.1 m) (fun x hx=>ha x (List.mem_cons_of_mem _ hx)) s1 p2
    have hc:agr (subA b g.1 m) a=agr b a:=agr_congr fun x hx=>s3 x.1 fun e=>p1 x hx e.symm
    rw [hc,s2 f,s2 fun _=>1] at ih
    have e1:wsum f (g::a)=g.2 * f g.1+wsum f a:=rfl
    have e2:wsum (fun _=>1) (g::a)=g.2 * 1+wsum (fun _=>1) a:=rfl
    have e3:agr b (g::a)=m+agr b a:=by rw [← hm]; rfl
    rw [e1,e2,e3]
    have hle:(g.2 - m) * f g.1≤(g.2 - m) * 1:=Int.mul_le_mul_of_nonneg_left (hf g.1).2 (by omega)
    rw [Int.sub_mul] at hle
    omega
theorem agr_snoc (b:List Grp):∀ (a:List Grp) (g:Grp),agr b (a++[g])=agr b a+(if numA b g.1 < g.2 then numA b g.1 else g.2)
  | [],g=>by simp [agr]
  | h::a,g=>by
    have ih:=agr_snoc b a g
    show (if numA b h.1 < h.2 then numA b h.1 else h.2)+agr b (a++[g])=((if numA b h.1 < h.2 then numA b h.1 else h.2)+agr b a)+_
    rw [ih]; omega
theorem agr_bounds {b:List Grp} (hb:∀ g∈b,0≤g.2):∀ {a:List Grp},(∀ g∈a,0≤g.2)→0≤agr b a∧agr b a≤wsum (fun _=>1) a
  | [],_=>by simp [agr,wsum]
  | g::a,ha=>by
    obtain ⟨i1,i2⟩:=agr_bounds hb (a:=a) fun x hx=>ha x (List.mem_cons_of_mem _ hx)
    have hg:=ha g (by simp)
    have hn:=numA_nn hb g.1
    have e1:agr b (g::a)=(if numA b g.1 < g.2 then numA b g.1 else g.2)+agr b a:=rfl
    have e2:wsum (fun _=>1) (g::a)=g.2 * 1+wsum (fun _=>1) a:=rfl
    rw [e1,e2]
    split <;> omega
theorem numA_at:∀ {b:List Grp} {p:List Int} {i:Nat},i < b.length→(b.getD i ([],0)).1=p→(∀ j,j < i→(b.getD j ([],0)).1 ≠ p)→numA b p=(b.getD i ([],0)).2
  | [],p,i,hi,_,_=>absurd hi (Nat.not_lt_zero _)
  | h::b,p,0,_,h0,_=>by
    have h0':h.1=p:=by simpa using h0
    unfold numA
    rw [if_pos h0']
    simp
  | h::b,p,i+1,hi,h0,hj=>by
    have hne:¬ h.1=p:=by simpa using hj 0 (by omega)
    unfold numA
    rw [if_neg hne]
    have:=numA_at (b:=b) (p:=p) (i:=i) (by simpa using hi) (by simpa using h0) fun j hji=>by simpa using hj (j+1) (by omega)
    rw [this]
    simp
theorem numA_no:∀ {b:List Grp} {p:List Int},(∀ j,j < b.length→(b.getD j ([],0)).1 ≠ p)→numA b p=0
  | [],p,_=>rfl
  | h::b,p,hj=>by
    have hne:¬ h.1=p:=by simpa using hj 0 (by simp)
    unfold numA
    rw [if_neg hne]
    exact numA_no fun j hji=>by simpa using hj (j+1) (by simpa using hji)
theorem d37_eq {n:Int} {gs:List Grp} {N:Int} (hp:PileOK n gs N) (hn:n≤7) {p:List Int} (hpl:p.length≤1000):d37 gs p=some (numA gs p):=by
  have hgl:=(hp.gs hn).1
  unfold d37
  refine while_first (fun i=>(gs,p,(i:Int))) (fun i=>decide ((gs.getD i ([],0)).1=p)) gs.length (fun i=>.inr (gs.getD i ([],0)).2) (.inl ()) rfl (fun i hi=>?_) ?_ (fun i hi hpi hj=>?_) (fun hall=>?_)
  · have e1:(i:Int) < (gs.length:Int):=by omega
    have e2:w ((i:Int)+1)=((i+1:Nat):Int):=by rw [w_id (by omega) (by omega)]; omega
    have e3:(0:Int)≤(i:Int):=by omega
    have hg:=hp.ballots (gs.getD i ([],0)) (by rw [getD_get gs _ hi]; exact List.getElem_mem _)
    have hgl:=isB_len hg.1 hn
    have h15:=d15_eq (a:=(gs.getD i ([],0)).1) (b:=p) (by omega) (by omega)
    simp only [e1,e2,e3,h15,decide_true,Bool.and_self,cond_true,Int.toNat_natCast,Option.bind_some]
    by_cases h:(gs.getD i ([],0)).1=p
    · simp only [h,decide_true,cond_true,if_true]
    · simp only [h,decide_false,cond_false,Bool.false_eq_true,if_false]
  · have:¬ ((gs.length:Int) < (gs.length:Int)):=by omega
    simp only [this,decide_false,cond_false]
  · simp only
    rw [numA_at hi (of_decide_eq_true hpi) fun j hji=>of_decide_eq_false (hj j hji)]
  · simp only
    rw [numA_no fun j hji=>of_decide_eq_false (hall j hji)]
theorem d17_eq {n:Int} {a b:List Grp} {N:Int} (ha:PileOK n a N) (hb:PileOK n b N) (hn:n≤7):d17 a b=some (N - agr b a):=by
  have hgl:=(ha.gs hn).1
  have hN0:0≤N:=by
    have:=(ha.part (f:=fun _=>(1:Int)) (fun _=>by omega) a.length).1
    rw [List.take_length,ha.total] at this
    exact this
  have hmost:=ha.most
  unfold d17 letJ
  simp only
  rw [ha.d35 hn,Option.bind_some,hb.d35 hn]
  simp only [Option.bind_some,Bool.not_true,Bool.not_false,cond_true]
  rw [ha.d36 hn,hb.d36 hn]
  simp only [Option.bind_some,ha.total,hb.total,decide_true,Bool.not_true,cond_false]
  have hnn:∀ g∈b,0≤g.2:=fun g hg=>by have:=(hb.ballots g hg).2; omega
  have hna:∀ g∈a,0≤g.2:=fun g hg=>by have:=(ha.ballots g hg).2; omega
  refine while_bind (b:=N - agr b a) (fun i=>(a,b,N - agr b (a.take i),(i:Int))) a.length ?_ (fun i hi=>?_) ?_ rfl
  · simp [agr]
  · have e1:(i:Int) < (a.length:Int):=by omega
    have e2:w ((i:Int)+1)=((i+1:Nat):Int):=by rw [w_id (by omega) (by omega)]; omega
    have e3:(0:Int)≤(i:Int):=by omega
    have hg:=ha.ballots (a.getD i ([],0)) (by rw [getD_get a _ hi]; exact List.getElem_mem _)
    have hgl:=isB_len hg.1 hn
    have h37:=d37_eq hb hn (p:=(a.getD i ([],0)).1) (by omega)
    have htk:agr b (a.take (i+1))=agr b (a.take i)+(if numA b (a.getD i ([],0)).1 < (a.getD i ([],0)).2 then numA b (a.getD i ([],0)).1 else (a.getD i ([],0)).2):=by
      rw [take_get a ([],0) hi,agr_snoc]
    have hbd:=agr_bounds hnn (a:=a.take (i+1)) fun g hg=>hna g (List.mem_of_mem_take hg)
    have hpt:=(ha.part (f:=fun _=>(1:Int)) (fun _=>by omega) (i+1)).2
    have hmin:(bif (decide (numA b (a.getD i ([],0)).1 < (a.getD i ([],0)).2)) then numA b (a.getD i ([],0)).1 else (a.getD i ([],0)).2)=(if numA b (a.getD i ([],0)).1 < (a.getD i ([],0)).2 then numA b (a.getD i ([],0)).1 else (a.getD i ([],0)).2):=by
      by_cases h:numA b (a.getD i ([],0)).1 < (a.getD i ([],0)).2 <;> simp [h]
    have hw:w (N - agr b (a.take i) - (if numA b (a.getD i ([],0)).1 < (a.getD i ([],0)).2 then numA b (a.getD i ([],0)).1 else (a.getD i ([],0)).2))=N - agr b (a.take (i+1)):=by
      rw [htk] at hbd
      rw [htk,w_id (by omega) (by omega)]
      omega
    simp only [e1,e2,e3,h37,hmin,hw,decide_true,Bool.and_self,cond_true,Int.toNat_natCast,Option.bind_some]
  · have:¬ ((a.length:Int) < (a.length:Int)):=by omega
    simp only [this,decide_false,cond_false,List.take_length]
theorem isTopM01 (m:List Int) (c:Int) (p:List Int):0≤isTopM m c p∧isTopM m c p≤1:=by unfold isTopM; split <;> omega
theorem isBefore01 (a b:Int) (p:List Int):0≤isBefore a b p∧isBefore a b p≤1:=by unfold isBefore; simp only; split <;> omega
theorem gf_bounds (a:Asn) (p:List Int):-1≤gf a p∧gf a p≤1:=by
  unfold gf
  have h1:=isFirst01 a.2.1 p
  have h2:=isBefore01 a.2.2.1 a.2.1 p
  have h3:=isTopM01 a.2.2.2.1 a.2.1 p
  have h4:=isTopM01 a.2.2.2.1 a.2.2.1 p
  split <;> omega
theorem lt_ne {p q:List Int} (h:p < q):p ≠ q:=fun e=>by rw [e] at h; exact List.lt_irrefl _ h
theorem margin_law {n:Nat} (h1:2≤n) (hn:n≤7) {a b:List Grp} {K:Int} (ha:PileOK (n:Int) a K) (hb:PileOK (n:Int) b K) {wn:Int} (hw:0≤wn∧wn < (n:Int)) (hne:possL b n (2 ^ n) n ≠ [wn]):(setP n a wn).1≤2 * (K - agr b a):=by
  have hna:∀ g∈a,0≤g.2:=fun g hg=>by have:=(ha.ballots g hg).2; omega
  have hnb:∀ g∈b,0≤g.2:=fun g hg=>by have:=(hb.ballots g hg).2; omega
  have hbd:=agr_bounds hnb hna
  rw [ha.total] at hbd
  obtain ⟨q0,q1⟩:=setP_bounds (n:=n) a wn
  by_cases hm:(setP n a wn).1 < 1
  · omega
  have hb0:=(exists_iff (by omega) hn hb hw).2 hne
  rw [setP_le (by omega) hn (hb.pileB (by omega) (by omega)) hw (Int.le_refl _) (by omega)] at hb0
  obtain ⟨o,ho,hov⟩:=hb0
  have hnot:¬ (setP n a wn).1≤(setP n a wn).1 - 1:=by omega
  rw [setP_le (by omega) hn (ha.pileB (by omega) (by omega)) hw (by omega) (by omega)] at hnot
  have hex:∃ j,j < n∧(setP n a wn).1 - 1 < ov n a (o.drop j):=by
    by_cases h:∃ j,j < n∧(setP n a wn).1 - 1 < ov n a (o.drop j)
    · exact h
    · exact absurd ⟨o,ho,fun j hj=>by
        by_cases hlt:(setP n a wn).1 - 1 < ov n a (o.drop j)
        · exact absurd ⟨j,hj,hlt⟩ h
        · omega⟩ hnot
  obtain ⟨j,hj,hlt⟩:=hex
  obtain ⟨hob,hol,_⟩:=ho
  have hd:=drop_isB hob j
  have h0:0 < (o.drop j).length:=by rw [List.length_drop]; omega
  obtain ⟨x,hx,hne2,_,hat⟩:=ov_at h1 a (o.drop j)
  have hmb:=(ov_le h1 b (o.drop j) 0).1 (hov j hj) x hx hne2
  have hv:=ownA_valid hn hd h0 hx hne2
  rw [hat,mrg_sum ha (by omega) (by omega) hv (own_kind _ _)] at hlt
  rw [mrg_sum hb (by omega) (by omega) hv (own_kind _ _)] at hmb
  have hds:=dist_sum (gf_bounds (ownA (o.drop j) x)) hna hnb (ha.sorted.imp fun h=>lt_ne h)
  rw [ha.total,hb.total] at hds
  omega
theorem d5_true {n:Int} {x y:List (List Int)} {wn:Int} (hn:WT (.int .i64) n) (hx:x.length≤281474976710656) (hw:∀ z∈x,WT (.slice (.int .i64)) z) (hy:y.length≤281474976710656) (hw2:∀ z∈y,WT (.slice (.int .i64)) z) (hwn:WT (.int .i64) wn):d5 n x y wn=some true:=by
  unfold d5
  rw [d6_eq hn (by omega) (by omega)]
  have bb:=mod_bounds n (n:=3) (by omega)
  have w1:w (2+n % 3)=2+n % 3:=w_id (by omega) (by omega)
  simp only [Option.bind_some,w1]
  obtain ⟨N,hN⟩:∃ N:Nat,2+n % 3=(N:Int):=⟨(2+n % 3).toNat,by omega⟩
  rw [hN]
  have b2:=mod_bounds wn (n:=(N:Int)) (by omega)
  obtain ⟨c1,c2⟩:=cuts_wt (k:=24) hw
  obtain ⟨c3,c4⟩:=cuts_wt (k:=24) hw2
  rw [show (24:Int)=((24:Nat):Int) from rfl,d8_eq hx hw (by omega),Option.bind_some,d8_eq hy hw2 (by omega),Option.bind_some]
  generalize cuts x 24=p at c1 c2 ⊢
  generalize cuts y 24=q at c3 c4 ⊢
  have hmin:(bif (decide ((q.length:Int) < (p.length:Int))) then (q.length:Int) else (p.length:Int))=((min p.length q.length:Nat):Int):=by
    by_cases h:(q.length:Int) < (p.length:Int)
    · simp only [h,decide_true,cond_true]; omega
    · simp only [h,decide_false,cond_false]; omega
  obtain ⟨K,hK⟩:∃ K,min p.length q.length=K:=⟨_,rfl⟩
  rw [hmin,hK]
  have hbl:∀ l:List (List Int),K≤l.length→(bals (N:Int) l K).length=K:=fun l h=>by unfold bals; rw [List.length_map,List.length_take]; omega
  have hbb:=fun l=>bals_isB (n:=(N:Int)) (by omega) (l:=l) (most:=K)
  have ha:=(pileOf_ok (bals (N:Int) p K) (hbb p) (by rw [hbl p (by omega)]; omega)).1
  have hb:=(pileOf_ok (bals (N:Int) q K) (hbb q) (by rw [hbl q (by omega)]; omega)).1
  rw [hbl p (by omega)] at ha
  rw [hbl q (by omega)] at hb
  rw [d7_eq (n:=(N:Int)) (by omega) (by omega) (by omega) c2 (by omega),Option.bind_some,d7_eq (n:=(N:Int)) (by omega) (by omega) (by omega) c4 (by omega),Option.bind_some,d6_eq hwn (by omega) (by omega),Option.bind_some]
  generalize pileOf (bals (N:Int) p K)=a at ha ⊢
  generalize pileOf (bals (N:Int) q K)=b at hb ⊢
  generalize wn % (N:Int)=w0 at b2 ⊢
  have hga:=ha.gs (by omega)
  obtain ⟨p1,_⟩:=poss_ok hb (by omega) (by omega)
  have hpl:=possL_len b N (2 ^ N) N
  obtain ⟨q0,q1⟩:=setP_bounds (n:=N) a w0
  have hlen:0 < (possL b N (2 ^ N) N).length:=List.length_pos_iff.2 p1
  rw [d11_eq' hga,Option.bind_some,Int.toNat_natCast,d16_eq hb (by omega) (by omega),Option.bind_some,Int.toNat_natCast,d10_eq,Option.bind_some]
  have e1:(0:Int) < ((possL b N (2 ^ N) N).length:Int):=by omega
  simp only [cond_true,q0,e1,decide_true]
  rw [d15_eq (by omega) (by simp),Option.bind_some]
  by_cases he:possL b N (2 ^ N) N=[w0]
  · simp only [he,decide_true,Bool.not_true,cond_false]
  · simp only [he,decide_false,Bool.not_false,cond_true]
    have hlaw:=margin_law (by omega) (by omega) ha hb b2 he
    have hna:∀ g∈a,0≤g.2:=fun g hg=>by have:=(ha.ballots g hg).2; omega
    have hnb:∀ g∈b,0≤g.2:=fun g hg=>by have:=(hb.ballots g hg).2; omega
    have hbd:=agr_bounds hnb hna
    rw [ha.total] at hbd
    rw [d17_eq ha hb (by omega),Option.bind_some,w_id (by omega) (by omega),decide_eq_true hlaw]
end Go.Proofs.Ytieoleabnjdkfaa
