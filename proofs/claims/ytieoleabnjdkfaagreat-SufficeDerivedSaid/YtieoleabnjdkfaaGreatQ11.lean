/- Part 11 of what stands below the statement. -/
import Derived.Test.YtieoleabnjdkfaaGreatQ10
set_option linter.unusedSimpArgs false
set_option linter.unusedVariables false
open Go Go.Proofs Go.X
namespace Go.Proofs.YtieoleabnjdkfaaGreat
abbrev Con:=List Int × (List (List Int) × (Int × (Int × (Int × (Int × (Int × (Int × Int)))))))
def anyC (n:Int) (l:List Asn) (t:List Int):Bool:=l.any fun a=>contr n a t
theorem any_false {α:Type} {l:List α} {g:α→Bool} {z:α} (h:∀ i,i < l.length→g (l.getD i z)=false):l.any g=false:=by
  rw [List.any_eq_false]
  intro x hx
  obtain ⟨i,hi,rfl⟩:=List.getElem_of_mem hx
  have:=h i hi
  rw [getD_get l z hi] at this
  simp [this]
theorem any_true {α:Type} {l:List α} {g:α→Bool} {z:α} {i:Nat} (hi:i < l.length) (h:g (l.getD i z)=true):l.any g=true:=by
  rw [List.any_eq_true]
  exact ⟨l.getD i z,by rw [getD_get l z hi]; exact List.getElem_mem _,h⟩
theorem all_false {α:Type} {l:List α} {g:α→Bool} {z:α} {i:Nat} (hi:i < l.length) (h:g (l.getD i z)=false):l.all g=false:=by
  rw [List.all_eq_false]
  exact ⟨l.getD i z,by rw [getD_get l z hi]; exact List.getElem_mem _,by rw [h]; simp⟩
theorem all_true {α:Type} {l:List α} {g:α→Bool} {z:α} (h:∀ i,i < l.length→g (l.getD i z)=true):l.all g=true:=by
  rw [List.all_eq_true]
  intro x hx
  obtain ⟨i,hi,rfl⟩:=List.getElem_of_mem hx
  have:=h i hi
  rwa [getD_get l z hi] at this
theorem d60_eq {s:List Asn} {f:Asn→Option Bool} {g:Asn→Bool} (hf:∀ a∈s,f a=some (g a)) (hs:s.length≤281474976710656):d60 s f=some (s.any g):=by
  unfold d60 d87
  rw [Option.bind_assoc]
  refine while_first (fun i=>(s,f,(s.length:Int),(i:Int))) (fun i=>g (s.getD i (0,0,0,[],0))) s.length (fun i=>.inr (i:Int)) (.inl ()) rfl (fun i hi=>?_) ?_ (fun i hi hp hj=>?_) (fun hall=>?_)
  · have h2:(i:Int) < (s.length:Int):=by omega
    have h3:(0:Int)≤(i:Int):=by omega
    have hw:w ((i:Int)+1)=((i+1:Nat):Int):=by rw [w_id (by omega) (by omega)]; omega
    have hm:s.getD i (0,0,0,[],0)∈s:=by rw [getD_get _ _ hi]; exact List.getElem_mem _
    simp only [h2,h3,hw,decide_true,cond_true,Bool.and_self,Int.toNat_natCast,hf _ hm,Option.bind_some]
    cases g (s.getD i (0,0,0,[],0))
    · simp only [cond_false,Bool.false_eq_true,if_false]
    · simp only [cond_true,if_true]
  · simp
  · have h3:(0:Int)≤(i:Int):=by omega
    simp only [Option.bind_some,h3,decide_true,any_true hi hp]
  · simp only [Option.bind_some,any_false hall]
    rfl
def LOK (l:List Asn):Prop:=l.length≤281474976710656∧∀ a∈l,a.2.2.2.1.length≤1001
theorem d117_eq {n:Int} {l:List Asn} {t:List Int} (hl:LOK l) (ht:t.length≤1000):d117 n l t=some (anyC n l t):=by
  unfold d117
  rw [d60_eq (g:=fun a=>contr n a t) (fun a ha=>?_) hl.1]
  · rfl
  · unfold d133
    rw [d134_eq n (hl.2 a ha) ht]
    rfl
theorem Others.congr {n:Nat} {C D:List Int→Bool} (h:∀ t,isB n t→C t=D t) {w:Int} {o:List Int}:Others n C w o↔Others n D w o:=by
  unfold Others
  constructor
  · rintro ⟨h1,h2,h3,h4⟩
    exact ⟨h1,h2,h3,fun j hj=>by rw [← h _ ⟨h1.1.sublist (List.drop_sublist _ _),fun x hx=>h1.2 x (List.mem_of_mem_drop hx)⟩]; exact h4 j hj⟩
  · rintro ⟨h1,h2,h3,h4⟩
    exact ⟨h1,h2,h3,fun j hj=>by rw [h _ ⟨h1.1.sublist (List.drop_sublist _ _),fun x hx=>h1.2 x (List.mem_of_mem_drop hx)⟩]; exact h4 j hj⟩
theorem witP_congr {n:Nat} (hn:1≤n) {C D:List Int→Bool} (h:∀ t,isB n t→C t=D t) (w:Int):witP n C w=witP n D w:=by
  have h1:=witP_spec hn C w
  have h2:=witP_spec hn D w
  cases hc:witP n C w with
  | none =>
    rw [hc] at h1
    cases hd:witP n D w with
    | none=>rfl
    | some o=>rw [hd] at h2; exact absurd ((Others.congr h).2 h2.1) (h1 o)
  | some o =>
    rw [hc] at h1
    cases hd:witP n D w with
    | none=>rw [hd] at h2; exact absurd ((Others.congr h).1 h1.1) (h2 o)
    | some o' =>
      rw [hd] at h2
      rcases lex_tri o o' with h3 | h3 | h3
      · exact absurd h3 (h2.2 o ((Others.congr h).1 h1.1))
      · rw [h3]
      · exact absurd h3 (h1.2 o' ((Others.congr h).2 h2.1))
def witA (n:Int) (l:List Asn) (wn:Int):Option (List Int):=witP n.toNat (anyC n l) wn
theorem toN_isB {n:Int} (h:0≤n) {t:List Int} (ht:isB (n.toNat:Int) t):isB n t:=by rwa [show ((n.toNat:Nat):Int)=n by omega] at ht
theorem d55_eq {n wn:Int} {l:List Asn} (hl:LOK l):d55 n wn l=some (if badW n wn l then ([],false) else match witA n l wn with | none=>([],false) | some o=>(o,true)):=by
  unfold d55
  by_cases hb:badW n wn l
  · rw [if_pos hb,if_pos hb]
  · rw [if_neg hb,if_neg hb]
    have hg:=good_of hb
    have hd:∀ t,isB n t→d117 n l t=some (anyC n l t):=fun t ht=>d117_eq hl (by have:=isB_len ht hg.2.1; omega)
    rw [if_pos fun t ht=>by rw [hd t ht]; rfl]
    have:witP n.toNat (C29 n l) wn=witA n l wn:=witP_congr (by omega) (fun t ht=>by
      unfold C29
      rw [hd t (toN_isB (by omega) ht)]
      rfl) wn
    rw [this]
    cases witA n l wn <;> rfl
def fitB (c:Con):Bool :=
  decide (1≤c.2.2.1) && decide (c.2.2.1≤3) && decide (1≤c.2.1.length) && decide (c.2.1.length≤7) && decide (1≤c.2.2.2.1) && decide (c.2.2.2.1≤5) && (!decide (c.2.2.1=1) || decide (c.2.2.2.1=1)) &&
    (bif decide (c.2.2.1=2) then decide (1≤c.2.2.2.2.2.1) && decide (c.2.2.2.2.2.1≤6) else decide (c.2.2.2.2.2.1=0)) && decide (1≤c.2.2.2.2.2.2.1) && decide (c.2.2.2.2.2.2.1≤3)
def idL (n:Nat):List Int:=(List.range n).map fun (i:Nat)=>(i:Int)
theorem idL_len (n:Nat):(idL n).length=n:=by simp [idL]
theorem idL_isB (n:Nat):isB (n:Int) (idL n):=⟨List.pairwise_map.2 (List.nodup_range.imp fun h e=>h (by omega)),fun x hx=>by
  obtain ⟨i,h1,rfl⟩:=List.mem_map.1 hx
  have:=List.mem_range.1 h1
  omega⟩
theorem idL_succ (n:Nat):idL (n+1)=idL n++[(n:Int)]:=by simp [idL,List.range_succ]
theorem d74_nil {n:Int} (hn:n≤7):d74 n []=some true:=by
  rw [d74_eq hn (by simp) (by simp)]
  simp
theorem d88_id {n:Nat} (hn:n≤7):d88 (idL n) (n:Int)=some true:=by
  unfold d88
  rw [d106_eq (by omega) (by rw [idL_len]; omega)]
  have:=idL_isB n
  simp only [idL_len,decide_true,cond_true,Option.bind_some,this]
theorem d64_ok (c:Con):((d64 c.2.2.1 c [] (idL (min 7 c.2.1.length))).bind fun r=>some (decide (r=0)))=some (fitB c):=by
  obtain ⟨nm,cs,m,s,x1,dg,ti,x2,x3⟩:=c
  have g0:decide (m=m)=true:=by simp
  by_cases c1:m < 1
  · have c1':¬ 1≤m:=by omega
    simp only [d64,letJ,fitB,c1,c1',g0,decide_true,decide_false,Bool.not_true,Bool.not_false,cond_false,cond_true,Bool.false_and,Bool.and_false,Bool.true_and,Bool.and_true,Bool.cond_self,Option.bind_some,show ¬ (5:Int)=0 by omega,show ¬ (4:Int)=0 by omega]
  have c1':1≤m:=by omega
  by_cases c2:3 < m
  · have c2':¬ m≤3:=by omega
    simp only [d64,letJ,fitB,c1,c1',c2,c2',g0,decide_true,decide_false,Bool.not_true,Bool.not_false,cond_false,cond_true,Bool.false_and,Bool.and_false,Bool.true_and,Bool.and_true,Bool.cond_self,Option.bind_some,show ¬ (5:Int)=0 by omega,show ¬ (4:Int)=0 by omega]
  have c2':m≤3:=by omega
  by_cases c3:cs.length < 1
  · have c3':¬ 1≤cs.length:=by omega
    have c3'':(cs.length:Int) < 1:=by omega
    simp only [d64,letJ,fitB,c1,c1',c2,c2',c3',c3'',g0,decide_true,decide_false,Bool.not_true,Bool.not_false,cond_false,cond_true,Bool.false_and,Bool.and_false,Bool.true_and,Bool.and_true,Bool.cond_self,Option.bind_some,show ¬ (5:Int)=0 by omega,show ¬ (4:Int)=0 by omega]
  have c3':1≤cs.length:=by omega
  have c3'':¬ (cs.length:Int) < 1:=by omega
  by_cases c4:7 < cs.length
  · have c4':¬ cs.length≤7:=by omega
    have c4'':(7:Int) < (cs.length:Int):=by omega
    simp only [d64,letJ,fitB,c1,c1',c2,c2',c3',c3'',c4',c4'',g0,decide_true,decide_false,Bool.not_true,Bool.not_false,cond_false,cond_true,Bool.false_and,Bool.and_false,Bool.true_and,Bool.and_true,Bool.cond_self,Option.bind_some,show ¬ (5:Int)=0 by omega,show ¬ (4:Int)=0 by omega]
  have c4':cs.length≤7:=by omega
  have c4'':¬ (7:Int) < (cs.length:Int):=by omega
  by_cases c5:s < 1
  · have c5':¬ 1≤s:=by omega
    simp only [d64,letJ,fitB,c1,c1',c2,c2',c3',c3'',c4',c4'',c5,c5',g0,decide_true,decide_false,Bool.not_true,Bool.not_false,cond_false,cond_true,Bool.false_and,Bool.and_false,Bool.true_and,Bool.and_true,Bool.cond_self,Option.bind_some,show ¬ (5:Int)=0 by omega,show ¬ (4:Int)=0 by omega]
  have c5':1≤s:=by omega
  by_cases c6:5 < s
  · have c6':¬ s≤5:=by omega
    simp only [d64,letJ,fitB,c1,c1',c2,c2',c3',c3'',c4',c4'',c5,c5',c6,c6',g0,decide_true,decide_false,Bool.not_true,Bool.not_false,cond_false,cond_true,Bool.false_and,Bool.and_false,Bool.true_and,Bool.and_true,Bool.cond_self,Option.bind_some,show ¬ (5:Int)=0 by omega,show ¬ (4:Int)=0 by omega]
  have c6':s≤5:=by omega
  have h45:=d74_nil (n:=(cs.length:Int)) (by omega)
  have h68:=d88_id c4'
  have ht1:decide (1≤ti)=!decide (ti < 1):=by rw [← decide_not]; exact decide_eq_decide.2 (by omega)
  have ht2:decide (ti≤3)=!decide (3 < ti):=by rw [← decide_not]; exact decide_eq_decide.2 (by omega)
  simp only [d64,letJ,fitB,c1,c1',c2,c2',c3',c3'',c4',c4'',c5,c5',c6,c6',h45,h68,ht1,ht2,Nat.min_eq_right c4',g0,decide_true,decide_false,Bool.not_true,Bool.not_false,cond_false,cond_true,Bool.false_and,Bool.and_false,Bool.true_and,Bool.and_true,Bool.cond_self,Option.bind_some,show ¬ (5:Int)=0 by omega,show ¬ (4:Int)=0 by omega]
  generalize decide (m=2)=b1
  generalize decide (1≤dg)=b2
  generalize decide (dg≤6)=b3
  generalize decide (dg=0)=b4
  generalize decide (m=1)=b5
  generalize decide (s=1)=b6
  generalize decide (ti < 1)=b7
  generalize decide (3 < ti)=b8
  revert b1 b2 b3 b4 b5 b6 b7 b8
  decide +kernel
theorem d57_eq {c:Con} (hc:c.2.1.length≤281474976710656):d57 c=some (fitB c):=by
  unfold d57
  have hmin:(bif (decide (7 < (c.2.1.length:Int))) then (7:Int) else (c.2.1.length:Int))=((min 7 c.2.1.length:Nat):Int):=by
    by_cases h:(7:Int) < (c.2.1.length:Int)
    · simp only [h,decide_true,cond_true]; omega
    · simp only [h,decide_false,cond_false]; omega
  rw [hmin]
  refine while_bind (b:=(c,idL (min 7 c.2.1.length))) (fun i=>(c,idL i,((min 7 c.2.1.length:Nat):Int),(i:Int))) (min 7 c.2.1.length) rfl (fun i hi=>?_) ?_ ?_
  · have e1:(i:Int) < ((min 7 c.2.1.length:Nat):Int):=by omega
    have e2:w ((i:Int)+1)=((i+1:Nat):Int):=by rw [w_id (by omega) (by omega)]; omega
    simp only [e1,e2,decide_true,cond_true,lim_small (idL i) (i:Int) (by rw [idL_len]; omega),idL_succ]
  · have:¬ (((min 7 c.2.1.length:Nat):Int) < ((min 7 c.2.1.length:Nat):Int)):=by omega
    simp only [this,decide_false,cond_false]
  · exact d64_ok c
def sufB (c:Con) (ws:List Int) (l:List Asn):Bool :=
  fitB c && decide (l.length≤1400) && decide (isB (c.2.1.length:Int) ws) && (l.all fun a=>validB (c.2.1.length:Int) a) &&
    (if (c.2.1.length:Int)≤c.2.2.2.1 then decide (ws.length=c.2.1.length) else decide ((ws.length:Int)=c.2.2.2.1) &&
      (if c.2.2.1=1 then (witA (c.2.1.length:Int) l (ws.getD 0 0)).isNone else ws.all fun x=>l.any fun a=>decide (a=(3,x,0,[],c.2.2.2.1+1))))
theorem fit_n {c:Con} (h:fitB c=true):1≤c.2.1.length∧c.2.1.length≤7∧1≤c.2.2.2.1∧c.2.2.2.1≤5∧1≤c.2.2.1∧c.2.2.1≤3∧(c.2.2.1=1→c.2.2.2.1=1):=by
  unfold fitB at h
  simp only [Bool.and_eq_true,decide_eq_true_eq,Bool.or_eq_true,Bool.not_eq_true',decide_eq_false_iff_not] at h
  obtain ⟨⟨⟨⟨⟨⟨⟨⟨⟨h1,h2⟩,h3⟩,h4⟩,h5⟩,h6⟩,h7⟩,h8⟩,h9⟩,h10⟩:=h
  exact ⟨h3,h4,h5,h6,h1,h2,fun e=>h7.resolve_left fun k=>k e⟩
theorem d28_eq {c:Con} {ws:List Int} {l:List Asn} (hc:c.2.1.length≤281474976710656) (hws:ws.length≤281474976710656) (hl:LOK l):d28 c ws l=some (sufB c ws l):=by
  unfold d28 letJ
  simp only
  rw [d57_eq hc]
  simp only [Option.bind_some,Bool.not_not]
  unfold sufB
  cases hf:fitB c
  · simp
  simp only [cond_true,Bool.true_and]
  rcases (Decidable.em (l.length≤1400)).symm with h1 | h1
  · have h1':(1400:Int) < (l.length:Int):=by omega
    simp only [h1,h1',decide_true,decide_false,cond_true,Bool.false_and]
  have h1':¬ (1400:Int) < (l.length:Int):=by omega
  simp only [h1,h1',decide_true,decide_false,cond_false,Bool.true_and]
  obtain ⟨f1,f2,f3,f4,f5,f6,f7⟩:=fit_n hf
  obtain ⟨nm,cs,m,s,x1,dg,ti,x2,x3⟩:=c
  simp only at f1 f2 f3 f4 f5 f6 f7 ⊢
  obtain ⟨n,hn⟩:∃ n:Int,(cs.length:Int)=n:=⟨_,rfl⟩
  have hcn:∀ k:Nat,(k=cs.length)↔((k:Int)=n):=fun k=>by omega
  simp only [hn,hcn]
  have hn1:1≤n:=by omega
  have hn7:n≤7:=by omega
  clear hcn hf f1 f2 hc
  refine while_first (fun i=>(ws,l,(nm,cs,m,s,x1,dg,ti,x2,x3),n,ws,(ws.length:Int),(i:Int))) (fun i=>decide (ws.getD i 0 < 0) || (decide (n≤ws.getD i 0) || decide (ws.getD i 0∈ws.take i))) ws.length (fun _=>.inr false) (.inl (ws,l,(nm,cs,m,s,x1,dg,ti,x2,x3),n)) rfl (fun i hi=>?_) ?_ (fun i hi hp hj=>?_) (fun hall=>?_)
  · have h2:(i:Int) < (ws.length:Int):=by omega
    have h3:(0:Int)≤(i:Int):=by omega
    have hw:w ((i:Int)+1)=((i+1:Nat):Int):=by rw [w_id (by omega) (by omega)]; omega
    simp only [h2,h3,decide_true,cond_true,Bool.and_self,Int.toNat_natCast,hw,cutOK_take (Nat.le_of_lt hi),List.drop_zero,d58_eq (s:=ws.take i) _ (by simp; omega),Option.bind_some]
    by_cases c1:ws.getD i 0 < 0
    · simp only [c1]; rfl
    · by_cases c2:n≤ws.getD i 0
      · simp only [c1,c2]; rfl
      · by_cases c3:ws.getD i 0∈ws.take i
        · simp only [c1,c2,c3]; rfl
        · simp only [c1,c2,c3]; rfl
  · have:¬ ((ws.length:Int) < (ws.length:Int)):=by omega
    simp only [this,decide_false,cond_false]
  · have:¬ isB n ws:=fun h=>by
      have:=(isB_iff n ws).1 h i hi
      simp only [Bool.or_eq_true,decide_eq_true_eq] at hp
      rcases hp with hp | hp | hp
      · omega
      · omega
      · exact this.2.2 hp
    simp only [this,decide_false,Bool.false_and]
  have hB:isB n ws:=(isB_iff n ws).2 fun i hi=>by
    have:=hall i hi
    simp only [Bool.or_eq_false_iff,decide_eq_false_iff_not] at this
    exact ⟨by omega,by omega,this.2.2⟩
  have hwl:=isB_len hB hn7
  simp only [hB,decide_true,Bool.true_and]
  refine while_first (fun i=>(ws,l,(nm,cs,m,s,x1,dg,ti,x2,x3),n,l,(l.length:Int),(i:Int))) (fun i=>!validB n (l.getD i (0,0,0,[],0))) l.length (fun _=>.inr false) (.inl (ws,l,(nm,cs,m,s,x1,dg,ti,x2,x3),n)) rfl (fun i hi=>?_) ?_ (fun i hi hp hj=>?_) (fun hall2=>?_)
  · have h2:(i:Int) < (l.length:Int):=by omega
    have h3:(0:Int)≤(i:Int):=by omega
    have hw:w ((i:Int)+1)=((i+1:Nat):Int):=by rw [w_id (by omega) (by omega)]; omega
    have hm:l.getD i (0,0,0,[],0)∈l:=by rw [getD_get _ _ hi]; exact List.getElem_mem _
    have hlm:=hl.2 _ hm
    simp only [h2,h3,decide_true,cond_true,Bool.and_self,Int.toNat_natCast,hw,d59_eq n (a:=l.getD i (0,0,0,[],0)) (by omega),Option.bind_some]
    cases validB n (l.getD i (0,0,0,[],0))
    · simp only [Bool.not_false,cond_true,if_true]
    · simp only [Bool.not_true,cond_false,Bool.false_eq_true,if_false]
  · have:¬ ((l.length:Int) < (l.length:Int)):=by omega
    simp only [this,decide_false,cond_false]
  · rw [all_false hi (by simpa using hp)]
    simp only [Bool.false_and]
  have hV:(l.all fun a=>validB n a)=true:=all_true fun i hi=>by simpa using hall2 i hi
  simp only [hV,Bool.true_and]
  by_cases c1:n≤s
  · simp only [c1,decide_true,cond_true,if_true]
  simp only [c1,decide_false,cond_false,if_false]
  rcases (Decidable.em ((ws.length:Int)=s)).symm with c2 | c2
  · simp only [c2,decide_false,Bool.not_false,cond_true,Bool.false_and]
  have hpos:(0:Int) < (ws.length:Int):=by omega
  simp only [c2,decide_true,Bool.not_true,cond_false,Bool.true_and]
  by_cases c3:m=1
  · have hs0:(0:Int) < s:=by omega
    have hz:(0:Int)≤0:=by omega
    simp only [c3,hs0,decide_true,cond_true,if_true,Bool.and_self,hz]
    have hw0:=hB.2 (ws.getD 0 0) (by rw [getD_get _ _ (by omega)]; exact List.getElem_mem _)
    rw [d55_eq hl,if_neg (show ¬ badW n (ws.getD 0 0) l by unfold badW; omega)]
    cases witA n l (ws.getD 0 0) <;> rfl
  · simp only [c3,decide_false,cond_false,if_false]
    have hsw:w (s+1)=s+1:=w_id (by omega) (by omega)
    refine while_first (fun i=>(l,(nm,cs,m,s,x1,dg,ti,x2,x3),ws,s,(i:Int))) (fun i=>!(l.any fun a=>decide (a=(3,ws.getD i 0,0,[],s+1)))) ws.length (fun _=>.inr false) (.inl ()) (by rw [← c2]; rfl) (fun i hi=>?_) ?_ (fun i hi hp hj=>?_) (fun hall3=>?_)
    · have h2:(i:Int) < s:=by omega
      have h2':(i:Int) < (ws.length:Int):=by omega
      have h3:(0:Int)≤(i:Int):=by omega
      have hw:w ((i:Int)+1)=((i+1:Nat):Int):=by rw [w_id (by omega) (by omega)]; omega
      have e38:=d60_eq (s:=l) (f:=fun a=>d61 a (3,ws.getD i 0,0,[],s+1)) (g:=fun a=>decide (a=(3,ws.getD i 0,0,[],s+1))) (fun a ha=>by
        unfold d61
        rw [d40_eq (by have:=hl.2 a ha; omega) (by simp)]
        simp only [Option.bind_some,cmpA_zero]) hl.1
      simp only [h2,h2',h3,decide_true,cond_true,Bool.and_self,Int.toNat_natCast,hw,hsw,e38,Option.bind_some]
      cases (l.any fun a=>decide (a=(3,ws.getD i 0,0,[],s+1)))
      · simp only [Bool.not_false,cond_true,if_true]
      · simp only [Bool.not_true,cond_false,Bool.false_eq_true,if_false]
    · have:¬ ((ws.length:Int) < s):=by omega
      simp only [this,decide_false,cond_false]
    · rw [all_false (g:=fun x=>l.any fun a=>decide (a=(3,x,0,[],s+1))) hi (by simpa using hp)]
    · rw [all_true (g:=fun x=>l.any fun a=>decide (a=(3,x,0,[],s+1))) (z:=0) fun i hi=>by simpa using hall3 i hi]
end Go.Proofs.YtieoleabnjdkfaaGreat
set_option linter.unusedSimpArgs false
set_option linter.unusedVariables false
open Go Go.Proofs Go.X
namespace Go.Proofs.YtieoleabnjdkfaaGreat
def nms (n:Nat):List (List Int):=(List.range n).map fun (i:Nat)=>[97+(i:Int)]
theorem nms_succ (n:Nat):nms (n+1)=nms n++[[97+(n:Int)]]:=by simp [nms,List.range_succ]
theorem nms_len (n:Nat):(nms n).length=n:=by simp [nms]
theorem d33_eq {n:Nat} (hn:n≤100):d33 (n:Int)=some (nms n):=by
  unfold d33
  refine while_bind (b:=nms n) (fun i=>((n:Int),nms i,(i:Int))) n rfl (fun i hi=>?_) ?_ rfl
  · have e1:(i:Int) < (n:Int):=by omega
    have e2:w ((i:Int)+1)=((i+1:Nat):Int):=by rw [w_id (by omega) (by omega)]; omega
    have e3:wu8 (w (97+(i:Int)))=97+(i:Int):=by rw [w_id (by omega) (by omega)]; exact w8_id (by omega) (by omega)
    simp only [e1,e2,e3,decide_true,cond_true,lim_small (nms i) [97+(i:Int)] (by rw [nms_len]; omega),nms_succ]
  · have:¬ ((n:Int) < (n:Int)):=by omega
    simp only [this,decide_false,cond_false]
def conB (m:Int) (n:Nat) (s dg ti:Int):Con:=([99],nms n,1+m % 3,(if 1+m % 3=1 then 1 else 1+s % 5),0,(if 1+m % 3=2 then 1+dg % 6 else 0),1+ti % 3,0,0)
theorem d11_eq {m s dg ti:Int} {n:Nat} (hn:n≤100) (hm:WT (.int .i64) m) (hs:WT (.int .i64) s) (hd:WT (.int .i64) dg) (ht:WT (.int .i64) ti):d11 m (n:Int) s dg ti=some (conB m n s dg ti):=by
  unfold d11 letJ
  rw [d33_eq hn,Option.bind_some,d10_eq hm (by omega) (by omega),Option.bind_some,d10_eq hs (by omega) (by omega),Option.bind_some,d10_eq ht (by omega) (by omega),Option.bind_some,d10_eq hd (by omega) (by omega)]
  have b1:=mod_bounds m (n:=3) (by omega)
  have b2:=mod_bounds s (n:=5) (by omega)
  have b3:=mod_bounds ti (n:=3) (by omega)
  have b4:=mod_bounds dg (n:=6) (by omega)
  have w1:w (1+m % 3)=1+m % 3:=w_id (by omega) (by omega)
  have w2:w (1+s % 5)=1+s % 5:=w_id (by omega) (by omega)
  have w3:w (1+ti % 3)=1+ti % 3:=w_id (by omega) (by omega)
  have w4:w (1+dg % 6)=1+dg % 6:=w_id (by omega) (by omega)
  simp only [w1,w2,w3,w4,Option.bind_some]
  unfold conB
  generalize 1+m % 3=M
  by_cases h1:M=1
  · have h2:¬ M=2:=by omega
    simp only [h1,h2,decide_true,decide_false,cond_true,cond_false,if_true,if_false,show ¬ (1:Int)=2 by omega]
  · by_cases h2:M=2
    · simp only [h1,h2,decide_true,decide_false,cond_true,cond_false,if_true,if_false,show ¬ (2:Int)=1 by omega]
    · simp only [h1,h2,decide_true,decide_false,cond_true,cond_false,if_true,if_false]
theorem wt_small {x:Int} (h:-1000000≤x∧x≤1000000):WT (.int .i64) x:=wt_of (by omega) (by omega)
theorem d27_eq:d27=some true:=by
  have hl:LOK [((1:Int),(0:Int),(1:Int),([]:List Int),(0:Int))]:=⟨by decide,by decide⟩
  unfold d27
  rw [d55_eq hl]
  have e1:witA 3 [((1:Int),(0:Int),(1:Int),([]:List Int),(0:Int))] 0=some [1,0,2]:=by decide +kernel
  rw [if_neg (by unfold badW; decide),e1]
  have e2:=d11_eq (m:=0) (s:=0) (dg:=0) (ti:=0) (n:=2) (by omega) (wt_small (by omega)) (wt_small (by omega)) (wt_small (by omega)) (wt_small (by omega))
  have e3:=d11_eq (m:=0) (s:=0) (dg:=0) (ti:=0) (n:=3) (by omega) (wt_small (by omega)) (wt_small (by omega)) (wt_small (by omega)) (wt_small (by omega))
  have e4:sufB (conB 0 2 0 0 0) [0] [((1:Int),(0:Int),(1:Int),([]:List Int),(0:Int))]=true:=by decide +kernel
  have e5:sufB (conB 0 3 0 0 0) [0] [((1:Int),(0:Int),(1:Int),([]:List Int),(0:Int))]=false:=by decide +kernel
  rw [Option.bind_some]
  rw [show (2:Int)=((2:Nat):Int) from rfl,e2,Option.bind_some,d28_eq (by decide) (by decide) hl,e4,Option.bind_some,cond_true]
  rw [show (3:Int)=((3:Nat):Int) from rfl,e3,Option.bind_some,d28_eq (by decide) (by decide) hl,e5,Option.bind_some]
  simp only [Bool.not_false,cond_true]
  rw [d56_eq (by decide) (by decide)]
  rfl
theorem alls_valid {n:Int} (hn:2≤n) (hn':n≤7) (l:List (List Int)):∀ a∈alls n l,validB n a=true:=fun a ha=>by
  obtain ⟨x,_,rfl⟩:=List.mem_map.1 ha
  exact mk_valid hn hn'
end Go.Proofs.YtieoleabnjdkfaaGreat
set_option linter.unusedSimpArgs false
set_option linter.unusedVariables false
open Go Go.Proofs Go.X
namespace Go.Proofs.YtieoleabnjdkfaaGreat
theorem bind_decide {α β:Type} {x:Option α} {g:α→β} {y:β} (h:(x.bind fun r=>some (g r))=some y):∃ r,x=some r∧g r=y:=by
  cases x with
  | none=>cases h
  | some r=>exact ⟨r,rfl,Option.some.inj h⟩
end Go.Proofs.YtieoleabnjdkfaaGreat
set_option linter.unusedSimpArgs false
set_option linter.unusedVariables false
open Go Go.Proofs Go.X
namespace Go.Proofs.YtieoleabnjdkfaaGreat
def zA:Asn:=(0,0,0,[],0)
def risTo (l:List Int) (i:Nat):List Int:=(idL i).filter fun x=>decide (x∈l)
def risL (l:List Int):List Int:=risTo l 7
theorem risTo_len (l:List Int) (i:Nat):(risTo l i).length≤i:=by
  have:=List.length_filter_le (fun x=>decide (x∈l)) (idL i)
  rw [idL_len] at this
  exact this
theorem risL_mem {l:List Int} {x:Int}:x∈risL l↔(0≤x∧x < 7)∧x∈l:=by
  unfold risL risTo
  rw [List.mem_filter,decide_eq_true_eq]
  have:x∈idL 7↔0≤x∧x < 7:=by
    have:=mem_cands (n:=7) (c:=x)
    simpa [cands,idL] using this
  rw [this]
theorem idL_lt (n:Nat):(idL n).Pairwise (· < ·):=List.pairwise_map.2 (List.pairwise_lt_range.imp fun h=>by omega)
theorem risL_lt (l:List Int):(risL l).Pairwise (· < ·):=by unfold risL risTo; exact (idL_lt 7).filter _
def mrg (n:Int) (gs:List Grp) (a:Asn):Int:=(tal n gs a).1 - (tal n gs a).2
def ownA (tail:List Int) (x:Int):Asn:=if x∈tail then (2,tail.getD 0 0,x,risL tail,0) else (1,x,tail.getD 0 0,[],0)
theorem ownA_len (tail:List Int) (x:Int):(ownA tail x).2.2.2.1.length≤7:=by
  unfold ownA
  split
  · exact risTo_len tail 7
  · simp
def better (st:Asn × (Int × Bool)) (a:Asn) (m:Int):Bool:=!st.2.2 || (decide (st.2.1 < m) || (decide (m=st.2.1) && decide (cmpA a st.1 < 0)))
def ownStep (n:Int) (gs:List Grp) (tail:List Int) (st:Asn × (Int × Bool)) (x:Int):Asn × (Int × Bool) :=
  if x=tail.getD 0 0 then st else if better st (ownA tail x) (mrg n gs (ownA tail x)) then (ownA tail x,mrg n gs (ownA tail x),true) else st
def ownTo (n:Int) (gs:List Grp) (tail:List Int) (i:Nat):Asn × (Int × Bool):=(idL i).foldl (ownStep n gs tail) (zA,0,false)
theorem ownTo_succ (n:Int) (gs:List Grp) (tail:List Int) (i:Nat):ownTo n gs tail (i+1)=ownStep n gs tail (ownTo n gs tail i) (i:Int):=by
  unfold ownTo
  rw [idL_succ,List.foldl_append]
  rfl
def ownP (n:Nat) (gs:List Grp) (tail:List Int):Asn × (Int × Bool):=ownTo (n:Int) gs tail n
abbrev VSt:=Int × (Bool × List Asn)
def valStep (f:List Int→Int × List Asn) (tail:List Int) (st:VSt) (c:Int):VSt :=
  if c∈tail then st else (if !st.2.1 || decide ((f (c::tail)).1 < st.1) then ((f (c::tail)).1,true,st.2.2++(f (c::tail)).2) else (st.1,st.2.1,st.2.2++(f (c::tail)).2))
def valTo (f:List Int→Int × List Asn) (tail:List Int) (i:Nat):VSt:=(idL i).foldl (valStep f tail) (0,false,[])
theorem valTo_succ (f:List Int→Int × List Asn) (tail:List Int) (i:Nat):valTo f tail (i+1)=valStep f tail (valTo f tail i) (i:Int):=by
  unfold valTo
  rw [idL_succ,List.foldl_append]
  rfl
def valP (n:Nat) (gs:List Grp):Nat→List Int→Int × List Asn
  | 0,_=>(0,[])
  | k+1,tail =>
    if tail.length=n then ((ownP n gs tail).2.1,[(ownP n gs tail).1])
    else if (valTo (valP n gs k) tail n).1≤(ownP n gs tail).2.1 then ((ownP n gs tail).2.1,[(ownP n gs tail).1])
    else ((valTo (valP n gs k) tail n).1,(valTo (valP n gs k) tail n).2.2)
theorem valP_succ (n:Nat) (gs:List Grp) (k:Nat) (tail:List Int):valP n gs (k+1) tail=if tail.length=n then ((ownP n gs tail).2.1,[(ownP n gs tail).1])
    else if (valTo (valP n gs k) tail n).1≤(ownP n gs tail).2.1 then ((ownP n gs tail).2.1,[(ownP n gs tail).1])
    else ((valTo (valP n gs k) tail n).1,(valTo (valP n gs k) tail n).2.2):=rfl
theorem valTo_len {f:List Int→Int × List Asn} {tail:List Int} {B:Nat}:∀ i,(∀ j:Nat,j < i→(j:Int) ∉ tail→(f ((j:Int)::tail)).2.length≤B)→(valTo f tail i).2.2.length≤i * B
  | 0,_=>by simp [valTo,idL]
  | i+1,h=>by
    have ih:=valTo_len i fun j hj=>h j (by omega)
    rw [valTo_succ,Nat.succ_mul]
    unfold valStep
    by_cases c:(i:Int)∈tail
    · rw [if_pos c]; omega
    · rw [if_neg c]
      have:=h i (by omega) c
      split <;> (simp only [List.length_append]; omega)
theorem valTo_all {f:List Int→Int × List Asn} {tail:List Int} {P:Asn→Prop}:∀ i,(∀ j:Nat,j < i→(j:Int) ∉ tail→∀ a∈(f ((j:Int)::tail)).2,P a)→∀ a∈(valTo f tail i).2.2,P a
  | 0,_=>by simp [valTo,idL]
  | i+1,h=>by
    have ih:=valTo_all i fun j hj=>h j (by omega)
    rw [valTo_succ]
    unfold valStep
    by_cases c:(i:Int)∈tail
    · rw [if_pos c]; exact ih
    · rw [if_neg c]
      have:=h i (by omega) c
      intro a ha
      split at ha <;> (rcases List.mem_append.1 ha with ha | ha; exact ih a ha; exact this a ha)
theorem isB_cons {n:Nat} {j:Nat} {tail:List Int} (h:isB n tail) (hj:j < n) (hm:(j:Int) ∉ tail):isB n ((j:Int)::tail):=⟨List.nodup_cons.2 ⟨hm,h.1⟩,fun x hx=>by
  rcases List.mem_cons.1 hx with rfl | hx
  · omega
  · exact h.2 x hx⟩
theorem valP_len {n:Nat} (hn:n≤7) (gs:List Grp):∀ (k:Nat) (tail:List Int),isB n tail→(valP n gs k tail).2.length≤7 ^ (n - tail.length)
  | 0,tail,_=>by simp [valP]
  | k+1,tail,ht=>by
    have h1:1≤7 ^ (n - tail.length):=Nat.pow_pos (by omega)
    have htl:=nodup_len n tail ht.1 ht.2
    rw [valP_succ]
    split
    · simpa using h1
    · split
      · simpa using h1
      · rename_i c1 c2
        have hp:7 ^ (n - tail.length)=7 * 7 ^ (n - tail.length - 1):=by
          rw [show n - tail.length=(n - tail.length - 1)+1 by omega,Nat.pow_succ,Nat.mul_comm]; rfl
        have:=valTo_len (f:=valP n gs k) (tail:=tail) (B:=7 ^ (n - tail.length - 1)) n (fun j hj hm=>by
          have:=valP_len hn gs k ((j:Int)::tail) (isB_cons ht hj hm)
          rw [List.length_cons,show n - (tail.length+1)=n - tail.length - 1 by omega] at this
          exact this)
        have h7:=Nat.mul_le_mul_right (7 ^ (n - tail.length - 1)) hn
        show (valTo (valP n gs k) tail n).2.2.length≤_
        omega
theorem pow7 {n k:Nat} (hn:n≤7):7 ^ (n - k)≤823543:=Nat.le_trans (Nat.pow_le_pow_right (by omega) (show n - k≤7 by omega)) (by decide)
def setStep (n:Nat) (gs:List Grp) (wn:Int) (st:Int × List Asn) (x:Int):Int × List Asn :=
  if x=wn then st else ((if (valP n gs 10 [x]).1 < st.1 then (valP n gs 10 [x]).1 else st.1),st.2++(valP n gs 10 [x]).2)
def setTo (n:Nat) (gs:List Grp) (wn:Int) (i:Nat):Int × List Asn:=(idL i).foldl (setStep n gs wn) (100000,[])
theorem setTo_succ (n:Nat) (gs:List Grp) (wn:Int) (i:Nat):setTo n gs wn (i+1)=setStep n gs wn (setTo n gs wn i) (i:Int):=by
  unfold setTo
  rw [idL_succ,List.foldl_append]
  rfl
theorem isB_one {n i:Nat} (hi:i < n):isB n [(i:Int)]:=⟨by simp,fun x hx=>by rw [List.mem_singleton.1 hx]; omega⟩
theorem setTo_len {n:Nat} (hn:n≤7) (gs:List Grp) (wn:Int):∀ i,i≤n→(setTo n gs wn i).2.length≤i * 823543
  | 0,_=>by simp [setTo,idL]
  | i+1,hi=>by
    have ih:=setTo_len hn gs wn i (by omega)
    have:=Nat.le_trans (valP_len hn gs 10 [(i:Int)] (isB_one (by omega))) (pow7 hn)
    rw [setTo_succ,Nat.succ_mul]
    unfold setStep
    split
    · exact Nat.le_trans ih (Nat.le_add_right _ _)
    · simp only [List.length_append]; exact Nat.add_le_add ih this
def setP (n:Nat) (gs:List Grp) (wn:Int):Int × List Asn :=
  if pileB (n:Int) gs=true∧0≤wn∧wn < (n:Int) then ((if (setTo n gs wn n).1 < 0 then 0 else (setTo n gs wn n).1),(setTo n gs wn n).2) else (0,[])
def insAt (out:List Asn) (a:Asn):Nat:=firstN (fun k=>!decide (cmpA (out.getD k zA) a < 0)) out.length
def insA (out:List Asn) (a:Asn):List Asn:=if insAt out a < out.length∧cmpA (out.getD (insAt out a) zA) a=0 then out else (out.take (insAt out a)++[a])++out.drop (insAt out a)
def sortedP (l:List Asn):List Asn:=l.foldl insA []
theorem insA_len (out:List Asn) (a:Asn):(insA out a).length≤out.length+1:=by
  unfold insA
  split
  · omega
  · have:=firstN_le (fun k=>!decide (cmpA (out.getD k zA) a < 0)) out.length
    simp only [List.length_append,List.length_take,List.length_drop,List.length_singleton]
    omega
theorem insA_mem {out:List Asn} {a x:Asn} (h:x∈insA out a):x=a∨x∈out:=by
  unfold insA at h
  split at h
  · exact .inr h
  · rcases List.mem_append.1 h with h | h
    · rcases List.mem_append.1 h with h | h
      · exact .inr (List.mem_of_mem_take h)
      · exact .inl (List.mem_singleton.1 h)
    · exact .inr (List.mem_of_mem_drop h)
theorem foldl_take {α β:Type} (f:β→α→β) (b:β) (l:List α) (d:α) {i:Nat} (h:i < l.length):(l.take (i+1)).foldl f b=f ((l.take i).foldl f b) (l.getD i d):=by
  rw [take_get l d h,List.foldl_append]
  rfl
theorem sorted_inv:∀ (l out:List Asn),(l.foldl insA out).length≤out.length+l.length∧∀ x∈l.foldl insA out,x∈out∨x∈l
  | [],out=>by simp
  | a::l,out=>by
    obtain ⟨h1,h2⟩:=sorted_inv l (insA out a)
    have:=insA_len out a
    refine ⟨by simp only [List.foldl_cons,List.length_cons]; omega,fun x hx=>?_⟩
    rcases h2 x hx with h | h
    · rcases insA_mem h with rfl | h
      · exact .inr (by simp)
      · exact .inl h
    · exact .inr (List.mem_cons_of_mem _ h)
theorem sorted_mem {l:List Asn} {x:Asn} (h:x∈sortedP l):x∈l:=by
  rcases (sorted_inv l []).2 x h with h | h
  · simp at h
  · exact h
end Go.Proofs.YtieoleabnjdkfaaGreat
set_option linter.unusedSimpArgs false
set_option linter.unusedVariables false
open Go Go.Proofs Go.X
namespace Go.Proofs.YtieoleabnjdkfaaGreat
def quotaA (x s:Int):Asn:=(3,x,0,[],s+1)
def derP (c:Con) (gs:List Grp) (ws:List Int):List Asn × Bool :=
  if (fitB c && pileB (c.2.1.length:Int) gs)=true∧isB (c.2.1.length:Int) ws then
    if (c.2.1.length:Int)≤c.2.2.2.1 then ([],decide ((ws.length:Int)=(c.2.1.length:Int)))
    else if (ws.length:Int)=c.2.2.2.1 then
      if c.2.2.1=1 then (if (setP c.2.1.length gs (ws.getD 0 0)).1 < 1 then ([],false) else (sortedP (setP c.2.1.length gs (ws.getD 0 0)).2,true))
      else if (ws.all fun x=>decide (1≤mrg (c.2.1.length:Int) gs (quotaA x c.2.2.2.1)))=true then (sortedP (ws.map fun x=>quotaA x c.2.2.2.1),true) else ([],false)
    else ([],false)
  else ([],false)
theorem ownA_valid {n:Nat} (hn:n≤7) {tail:List Int} (ht:isB n tail) (h0:0 < tail.length) {x:Int} (hx:0≤x∧x < (n:Int)) (hne:x ≠ tail.getD 0 0):validB (n:Int) (ownA tail x)=true:=by
  have hm0:tail.getD 0 0∈tail:=by rw [getD_get _ _ h0]; exact List.getElem_mem _
  have hb0:=ht.2 _ hm0
  have g1:¬ (n:Int) < 1:=by omega
  have g2:¬ (7:Int) < (n:Int):=by omega
  have g3:¬ x < 0:=by omega
  have g4:¬ (n:Int)≤x:=by omega
  unfold ownA
  generalize tail.getD 0 0=t at *
  have g5:¬ t < 0:=by omega
  have g6:¬ (n:Int)≤t:=by omega
  by_cases hm:x∈tail
  · have hasc:asc (n:Int) (risL tail)=true:=(asc_iff _ _).2 ⟨risL_lt tail,fun y hy=>ht.2 y (risL_mem.1 hy).2⟩
    have m1:t∈risL tail:=risL_mem.2 ⟨by omega,hm0⟩
    have m2:x∈risL tail:=risL_mem.2 ⟨by omega,hm⟩
    unfold validB
    simp only [hm,if_true,g1,g2,g3,g4,g5,g6,hasc,m1,m2,decide_true,decide_false,Bool.not_false,Bool.and_self,Bool.and_true,show ¬ (2:Int)=1 by omega,if_false,Ne.symm hne,ne_eq,not_false_eq_true]
  · unfold validB
    simp only [hm,if_true,if_false,g1,g2,g3,g4,g5,g6,decide_true,decide_false,Bool.not_false,Bool.and_self,Bool.and_true,List.length_nil,hne,ne_eq,not_false_eq_true]
theorem ownTo_ok {n:Nat} (hn:n≤7) (gs:List Grp) {tail:List Int} (ht:isB n tail) (h0:0 < tail.length):∀ i,i≤n→((ownTo (n:Int) gs tail i).2.2=true→validB (n:Int) (ownTo (n:Int) gs tail i).1=true)∧((∃ j:Nat,j < i∧(j:Int) ≠ tail.getD 0 0)→(ownTo (n:Int) gs tail i).2.2=true)
  | 0,_=>⟨fun h=>by simp [ownTo,idL] at h,fun ⟨j,hj,_⟩=>by omega⟩
  | i+1,hi=>by
    obtain ⟨h1,h2⟩:=ownTo_ok hn gs ht h0 i (by omega)
    rw [ownTo_succ]
    unfold ownStep
    by_cases c:(i:Int)=tail.getD 0 0
    · rw [if_pos c]
      refine ⟨h1,fun ⟨j,hj,hne⟩=>h2 ⟨j,?_,hne⟩⟩
      have:j ≠ i:=fun e=>hne (by rw [e]; exact c)
      omega
    · rw [if_neg c]
      by_cases hb:better (ownTo (n:Int) gs tail i) (ownA tail (i:Int)) (mrg (n:Int) gs (ownA tail (i:Int)))=true
      · rw [if_pos hb]
        exact ⟨fun _=>ownA_valid hn ht h0 (by omega) c,fun _=>rfl⟩
      · rw [if_neg hb]
        refine ⟨h1,fun _=>?_⟩
        unfold better at hb
        simp only [Bool.or_eq_true,not_or,Bool.not_eq_true',Bool.not_eq_false] at hb
        exact hb.1
theorem ownP_valid {n:Nat} (h2:2≤n) (hn:n≤7) (gs:List Grp) {tail:List Int} (ht:isB n tail) (h0:0 < tail.length):validB (n:Int) (ownP n gs tail).1=true:=by
  obtain ⟨a,b⟩:=ownTo_ok hn gs ht h0 n (Nat.le_refl n)
  refine a (b ?_)
  by_cases c:(0:Int)=tail.getD 0 0
  · exact ⟨1,by omega,by rw [← c]; decide⟩
  · exact ⟨0,by omega,c⟩
theorem valP_valid {n:Nat} (h2:2≤n) (hn:n≤7) (gs:List Grp):∀ (k:Nat) (tail:List Int),isB n tail→0 < tail.length→∀ a∈(valP n gs k tail).2,validB (n:Int) a=true
  | 0,tail,_,_=>by simp [valP]
  | k+1,tail,ht,h0=>by
    rw [valP_succ]
    have hown:=ownP_valid h2 hn gs ht h0
    split
    · intro a ha; rw [List.mem_singleton.1 ha]; exact hown
    · split
      · intro a ha; rw [List.mem_singleton.1 ha]; exact hown
      · exact valTo_all (f:=valP n gs k) (tail:=tail) (P:=fun a=>validB (n:Int) a=true) n fun j hj hm=>valP_valid h2 hn gs k _ (isB_cons ht hj hm) (by simp)
theorem setTo_valid {n:Nat} (h2:2≤n) (hn:n≤7) (gs:List Grp) (wn:Int):∀ i,i≤n→∀ a∈(setTo n gs wn i).2,validB (n:Int) a=true
  | 0,_=>by simp [setTo,idL]
  | i+1,hi=>by
    have ih:=setTo_valid h2 hn gs wn i (by omega)
    rw [setTo_succ]
    unfold setStep
    split
    · exact ih
    · intro a ha
      rcases List.mem_append.1 ha with ha | ha
      · exact ih a ha
      · exact valP_valid h2 hn gs 10 [(i:Int)] (isB_one (by omega)) (by simp) a ha
theorem setP_valid {n:Nat} (h2:2≤n) (hn:n≤7) (gs:List Grp) (wn:Int):∀ a∈(setP n gs wn).2,validB (n:Int) a=true:=by
  unfold setP
  split
  · exact setTo_valid h2 hn gs wn n (Nat.le_refl n)
  · simp
theorem setP_len {n:Nat} (hn:n≤7) (gs:List Grp) (wn:Int):(setP n gs wn).2.length≤5764801:=by
  unfold setP
  split
  · have:=setTo_len hn gs wn n (Nat.le_refl n)
    show (setTo n gs wn n).2.length≤_
    omega
  · simp
theorem quotaA_valid {n:Int} (h1:1≤n) (hn:n≤7) {x s:Int} (hx:0≤x∧x < n) (hs:1≤s∧s≤5):validB n (quotaA x s)=true:=by
  unfold validB quotaA
  simp
  omega
theorem derP_valid (c:Con) (gs:List Grp) (ws:List Int):∀ a∈(derP c gs ws).1,validB (c.2.1.length:Int) a=true:=by
  unfold derP
  intro a ha
  split at ha
  · rename_i h
    obtain ⟨h1,h2⟩:=h
    simp only [Bool.and_eq_true] at h1
    obtain ⟨f1,f2,f3,f4,f5,f6,f7⟩:=fit_n h1.1
    split at ha
    · simp at ha
    · rename_i hns
      split at ha
      · split at ha
        · split at ha
          · simp at ha
          · exact setP_valid (by omega) f2 gs _ a (sorted_mem ha)
        · split at ha
          · obtain ⟨x,hx,rfl⟩:=List.mem_map.1 (sorted_mem ha)
            exact quotaA_valid (by omega) (by omega) (h2.2 x hx) ⟨f3,f4⟩
          · simp at ha
      · simp at ha
  · simp at ha
theorem derP_len (c:Con) (gs:List Grp) (ws:List Int):(derP c gs ws).1.length≤5764801:=by
  unfold derP
  split
  · rename_i h
    obtain ⟨h1,h2⟩:=h
    simp only [Bool.and_eq_true] at h1
    obtain ⟨f1,f2,f3,f4,f5,f6,f7⟩:=fit_n h1.1
    split
    · simp
    · split
      · split
        · split
          · simp
          · have:=(sorted_inv (setP c.2.1.length gs (ws.getD 0 0)).2 []).1
            have h3:=setP_len f2 gs (ws.getD 0 0)
            simp only [List.length_nil] at this
            show (sortedP _).length≤_
            unfold sortedP
            omega
        · split
          · have:=(sorted_inv (ws.map fun x=>quotaA x c.2.2.2.1) []).1
            have h3:=isB_len h2 (by omega)
            simp only [List.length_nil,List.length_map] at this
            show (sortedP _).length≤_
            unfold sortedP
            omega
          · simp
      · simp
  · simp
theorem lok_of {n:Int} {l:List Asn} (hl:l.length≤100000) (h:∀ a∈l,validB n a=true):LOK l:=⟨by omega,fun a ha=>by have:=valid_short (h a ha); omega⟩
end Go.Proofs.YtieoleabnjdkfaaGreat
set_option linter.unusedSimpArgs false
set_option linter.unusedVariables false
open Go Go.Proofs Go.X
namespace Go.Proofs.YtieoleabnjdkfaaGreat
def gtP (p q:Asn × Int):Bool:=decide (q.2 < p.2) || (decide (p.2=q.2) && decide (cmpA p.1 q.1 < 0))
theorem gtP_irrefl (p:Asn × Int):gtP p p=false:=by
  unfold gtP
  have:cmpA p.1 p.1=0:=(cmpA_zero _ _).2 rfl
  simp [this]
theorem cmpA_anti (a b:Asn):cmpA a b=-cmpA b a:=keyC_good.anti _ _
theorem cmpA_trans {a b c:Asn} (h:cmpA a b < 0) (h':cmpA b c < 0):cmpA a c < 0:=keyC_good.trans _ _ _ h h'
theorem gtP_trans {p q r:Asn × Int} (h:gtP p q=true) (h':gtP q r=true):gtP p r=true:=by
  unfold gtP at *
  simp only [Bool.or_eq_true,Bool.and_eq_true,decide_eq_true_eq] at *
  rcases h with h | ⟨h1,h2⟩ <;> rcases h' with h' | ⟨h3,h4⟩
  · exact .inl (by omega)
  · exact .inl (by omega)
  · exact .inl (by omega)
  · exact .inr ⟨by omega,cmpA_trans h2 h4⟩
theorem gtP_tri (p q:Asn × Int):gtP p q=true∨p=q∨gtP q p=true:=by
  unfold gtP
  simp only [Bool.or_eq_true,Bool.and_eq_true,decide_eq_true_eq]
  rcases Int.lt_trichotomy p.2 q.2 with h | h | h
  · exact .inr (.inr (.inl h))
  · have ha:=cmpA_anti p.1 q.1
    rcases Int.lt_trichotomy (cmpA p.1 q.1) 0 with h1 | h1 | h1
    · exact .inl (.inr ⟨h,h1⟩)
    · exact .inr (.inl (Prod.ext ((cmpA_zero _ _).1 h1) h))
    · exact .inr (.inr (.inr ⟨h.symm,by omega⟩))
  · exact .inl (.inl h)
def bstep (st:Asn × (Int × Bool)) (p:Asn × Int):Asn × (Int × Bool):=if better st p.1 p.2 then (p.1,p.2,true) else st
theorem better_gt (a:Asn) (m:Int) (p:Asn × Int):better (a,m,true) p.1 p.2=gtP p (a,m):=by
  unfold better gtP
  simp only [Bool.not_true,Bool.false_or]
def bmax (p q:Asn × Int):Asn × Int:=if gtP q p then q else p
theorem bmax_comm3 (s p q:Asn × Int):bmax (bmax s p) q=bmax (bmax s q) p:=by
  unfold bmax
  rcases gtP_tri p s with h1 | h1 | h1
  · rw [if_pos h1]
    rcases gtP_tri q s with h2 | h2 | h2
    · rw [if_pos h2]
      rcases gtP_tri q p with h3 | h3 | h3
      · rw [if_pos h3]
        have:¬ gtP p q=true:=fun h=>by have:=gtP_trans h h3; rw [gtP_irrefl] at this; cases this
        rw [if_neg this]
      · subst h3; rw [gtP_irrefl]
      · have:¬ gtP q p=true:=fun h=>by have:=gtP_trans h h3; rw [gtP_irrefl] at this; cases this
        rw [if_neg this,if_pos h3]
    · subst h2
      have:¬ gtP q p=true:=fun h=>by have:=gtP_trans h h1; rw [gtP_irrefl] at this; cases this
      rw [if_neg this,gtP_irrefl]
      simp [h1]
    · have h4:¬ gtP q s=true:=fun h=>by have:=gtP_trans h h2; rw [gtP_irrefl] at this; cases this
      have h5:=gtP_trans h1 h2
      have h6:¬ gtP q p=true:=fun h=>by have:=gtP_trans h h5; rw [gtP_irrefl] at this; cases this
      rw [if_neg h4,if_neg h6,if_pos h1]
  · subst h1
    rw [gtP_irrefl]
    simp only [Bool.false_eq_true,if_false]
    by_cases h2:gtP q p=true
    · have:¬ gtP p q=true:=fun h=>by have:=gtP_trans h h2; rw [gtP_irrefl] at this; cases this
      rw [if_pos h2,if_neg this]
    · rw [if_neg h2,gtP_irrefl]; rfl
  · have h3:¬ gtP p s=true:=fun h=>by have:=gtP_trans h h1; rw [gtP_irrefl] at this; cases this
    rw [if_neg h3]
    by_cases h2:gtP q s=true
    · have h5:=gtP_trans h2 h1
      have h6:¬ gtP p q=true:=fun h=>by have:=gtP_trans h h5; rw [gtP_irrefl] at this; cases this
      rw [if_pos h2,if_neg h6]
    · rw [if_neg h2,if_neg h3]
theorem bstep_true (a:Asn) (m:Int) (p:Asn × Int):bstep (a,m,true) p=((bmax (a,m) p).1,(bmax (a,m) p).2,true):=by
  unfold bstep bmax
  rw [better_gt]
  split <;> rfl
theorem bstep_false (a:Asn) (m:Int) (p:Asn × Int):bstep (a,m,false) p=(p.1,p.2,true):=by
  unfold bstep better
  simp
theorem bmax_comm (p q:Asn × Int):bmax p q=bmax q p:=by
  unfold bmax
  rcases gtP_tri p q with h | h | h
  · have:¬ gtP q p=true:=fun h'=>by have:=gtP_trans h' h; rw [gtP_irrefl] at this; cases this
    rw [if_neg this,if_pos h]
  · subst h; rfl
  · have:¬ gtP p q=true:=fun h'=>by have:=gtP_trans h' h; rw [gtP_irrefl] at this; cases this
    rw [if_pos h,if_neg this]
theorem bstep_comm (st:Asn × (Int × Bool)) (p q:Asn × Int):bstep (bstep st p) q=bstep (bstep st q) p:=by
  obtain ⟨a,m,f⟩:=st
  cases f
  · rw [bstep_false,bstep_false,bstep_true,bstep_true,bmax_comm (p.1,p.2) q]
  · rw [bstep_true,bstep_true,bstep_true,bstep_true]
    have:=bmax_comm3 (a,m) p q
    show ((bmax (bmax (a,m) p) q).1,(bmax (bmax (a,m) p) q).2,true)=((bmax (bmax (a,m) q) p).1,(bmax (bmax (a,m) q) p).2,true)
    rw [this]
def bestP (L:List (Asn × Int)):Asn × (Int × Bool):=L.foldl bstep (zA,0,false)
theorem bestP_perm {L M:List (Asn × Int)} (h:L.Perm M):bestP L=bestP M:=List.Perm.foldl_eq' h (fun x _ y _ z=>bstep_comm z x y) _
theorem nodup_len_le':∀ {m l:List Int},m.Nodup→(∀ c∈m,c∈l)→m.length≤l.length
  | [],l,_,_=>by simp
  | c::m,l,hd,h=>by
    have hc:c∈l:=h c List.mem_cons_self
    have hd':=List.nodup_cons.1 hd
    have ih:=nodup_len_le' (m:=m) (l:=l.erase c) hd'.2 fun x hx=>(List.mem_erase_of_ne (fun e=>hd'.1 (by rw [← e]; exact hx))).2 (h x (List.mem_cons_of_mem _ hx))
    rw [List.length_erase_of_mem hc] at ih
    have:0 < l.length:=List.length_pos_of_mem hc
    simp
    omega
def pairA (n:Int) (gs:List Grp) (tail:List Int) (x:Int):Asn × Int:=(ownA tail x,mrg n gs (ownA tail x))
def chL (n:Nat) (tail:List Int):List Int:=(idL n).filter fun x=>decide (x ∉ tail)
theorem chL_mem {n:Nat} {tail:List Int} {x:Int}:x∈chL n tail↔(0≤x∧x < (n:Int))∧x ∉ tail:=by
  unfold chL
  rw [List.mem_filter,decide_eq_true_eq]
  have:x∈idL n↔0≤x∧x < (n:Int):=mem_cands (n:=n) (c:=x)
  rw [this]
theorem chL_nodup (n:Nat) (tail:List Int):(chL n tail).Nodup:=(idL_isB n).1.filter _
theorem ownTo_filter (n:Int) (gs:List Grp) (tail:List Int):∀ i,ownTo n gs tail i=bestP (((idL i).filter fun x=>decide (x ≠ tail.getD 0 0)).map (pairA n gs tail))
  | 0=>by simp [ownTo,idL,bestP]
  | i+1=>by
    rw [ownTo_succ,ownTo_filter n gs tail i,idL_succ,List.filter_append,List.map_append]
    unfold ownStep
    by_cases c:(i:Int)=tail.getD 0 0
    · simp [c,List.filter]
    · rw [if_neg c]
      simp only [List.filter,c,ne_eq,not_false_eq_true,decide_true,List.map_cons,List.map_nil]
      unfold bestP
      rw [List.foldl_append]
      rfl
theorem own_split {n:Nat} (gs:List Grp) {t:Int} {r:List Int} (ht:isB n (t::r)):ownP n gs (t::r)=bestP ((chL n (t::r)++r).map (pairA n gs (t::r))):=by
  unfold ownP
  rw [ownTo_filter]
  refine bestP_perm (List.Perm.map _ ?_)
  have hd:=List.nodup_cons.1 ht.1
  have hn1:((idL n).filter fun x=>decide (x ≠ (t::r).getD 0 0)).Nodup:=(idL_isB n).1.filter _
  have hn2:(chL n (t::r)++r).Nodup:=List.nodup_append.2 ⟨chL_nodup n _,hd.2,fun x hx y hy e=>by
    rw [e] at hx
    exact (chL_mem.1 hx).2 (List.mem_cons_of_mem _ hy)⟩
  refine perm_of_sub _ _ hn1 (fun x hx=>?_) ?_
  · rw [List.mem_filter,decide_eq_true_eq] at hx
    have hb:0≤x∧x < (n:Int):=(mem_cands (n:=n) (c:=x)).1 hx.1
    have hne:x ≠ t:=hx.2
    by_cases hm:x∈t::r
    · rcases List.mem_cons.1 hm with h | h
      · exact absurd h hne
      · exact List.mem_append.2 (.inr h)
    · exact List.mem_append.2 (.inl (chL_mem.2 ⟨hb,hm⟩))
  · refine nodup_len_le' hn2 fun x hx=>?_
    rw [List.mem_filter,decide_eq_true_eq]
    rcases List.mem_append.1 hx with h | h
    · obtain ⟨h1,h2⟩:=chL_mem.1 h
      exact ⟨(mem_cands (n:=n) (c:=x)).2 h1,fun e=>h2 (by rw [e]; simp)⟩
    · exact ⟨(mem_cands (n:=n) (c:=x)).2 (ht.2 x (List.mem_cons_of_mem _ h)),fun e=>hd.1 (by have e':x=t:=e; rw [← e']; exact h)⟩
def minF (f:Int→Int):List Int→Int
  | []=>0
  | c::cs=>cs.foldl (fun m c=>if f c < m then f c else m) (f c)
theorem valTo_min (f:List Int→Int × List Asn) (tail:List Int):∀ i,(valTo f tail i).2.1=decide ((idL i).filter (fun x=>decide (x ∉ tail)) ≠ [])∧(valTo f tail i).1=minF (fun c=>(f (c::tail)).1) ((idL i).filter fun x=>decide (x ∉ tail)) ∧
    (valTo f tail i).2.2=((idL i).filter fun x=>decide (x ∉ tail)).flatMap fun c=>(f (c::tail)).2
  | 0=>by simp [valTo,idL,minF]
  | i+1=>by
    obtain ⟨h1,h2,h3⟩:=valTo_min f tail i
    rw [valTo_succ,idL_succ,List.filter_append]
    unfold valStep
    by_cases c:(i:Int)∈tail
    · rw [if_pos c]
      simp [List.filter,c,h1,h2,h3]
    · rw [if_neg c]
      have e:([(i:Int)].filter fun x=>decide (x ∉ tail))=[(i:Int)]:=by simp [List.filter,c]
      rw [e]
      generalize ((idL i).filter fun x=>decide (x ∉ tail))=L at *
      cases L with
      | nil =>
        have:(valTo f tail i).2.1=false:=by rw [h1]; simp
        rw [this]
        simp [minF,h3]
      | cons x L =>
        have:(valTo f tail i).2.1=true:=by rw [h1]; simp
        have hm:minF (fun c=>(f (c::tail)).1) (x::L++[(i:Int)])=if (f ((i:Int)::tail)).1 < minF (fun c=>(f (c::tail)).1) (x::L) then (f ((i:Int)::tail)).1 else minF (fun c=>(f (c::tail)).1) (x::L):=by
          show (L++[(i:Int)]).foldl _ _=_
          rw [List.foldl_append]
          rfl
        rw [this,hm,← h2]
        by_cases c2:(f ((i:Int)::tail)).1 < (valTo f tail i).1
        · simp [c2,h3]
        · simp [c2,h3]
theorem valP_one {n:Nat} (gs:List Grp) (k:Nat) {tail:List Int} (hl:tail.length=n):(valP n gs (k+1) tail).1=(ownP n gs tail).2.1:=by
  rw [valP_succ,if_pos hl]
theorem valP_kids {n:Nat} (gs:List Grp) (k:Nat) {tail:List Int} (hl:tail.length ≠ n):(valP n gs (k+1) tail).1=(if (ownP n gs tail).2.1 < minF (fun c=>(valP n gs k (c::tail)).1) (chL n tail) then minF (fun c=>(valP n gs k (c::tail)).1) (chL n tail) else (ownP n gs tail).2.1):=by
  rw [valP_succ,if_neg hl]
  have h2:=(valTo_min (valP n gs k) tail n).2.1
  rw [h2]
  have e:((idL n).filter fun x=>decide (x ∉ tail))=chL n tail:=rfl
  rw [e]
  generalize minF (fun c=>(valP n gs k (c::tail)).1) (chL n tail)=v
  by_cases c:v≤(ownP n gs tail).2.1
  · rw [if_pos c,if_neg (by omega)]
  · rw [if_neg c,if_pos (by omega)]
theorem valP_list {n:Nat} (gs:List Grp) (k:Nat) {tail:List Int}:(valP n gs (k+1) tail).2=if (ownP n gs tail).2.1=(valP n gs (k+1) tail).1 then [(ownP n gs tail).1] else (chL n tail).flatMap fun c=>(valP n gs k (c::tail)).2:=by
  rw [valP_succ]
  split
  · simp
  · rename_i hl
    have h3:=(valTo_min (valP n gs k) tail n).2.2
    split
    · simp
    · rename_i hc
      rw [if_neg (by simp only; omega)]
      exact h3
end Go.Proofs.YtieoleabnjdkfaaGreat
set_option linter.unusedSimpArgs false
set_option linter.unusedVariables false
open Go Go.Proofs Go.X
namespace Go.Proofs.YtieoleabnjdkfaaGreat
theorem risL_perm {n:Nat} (hn:n≤7) {t:List Int} (ht:isB n t):(risL t).Perm t:=by
  have h1:∀ x∈risL t,x∈t:=fun x hx=>(risL_mem.1 hx).2
  refine perm_of_sub _ _ (nodup_of_lt (risL_lt t)) h1 (nodup_len_le' ht.1 fun x hx=>risL_mem.2 ⟨by have:=ht.2 x hx; omega,hx⟩)
theorem risL_len {n:Nat} (hn:n≤7) {t:List Int} (ht:isB n t):(risL t).length=t.length:=(risL_perm hn ht).length_eq
theorem isTailB_of {n:Nat} {t:List Int} (ht:isB n t) (h0:0 < t.length):isTailB (n:Int) t=true:=by
  unfold isTailB
  simp [ht,h0]
theorem own_contr {n:Nat} (hn:n≤7) {t:List Int} (ht:isB n t) (h0:0 < t.length) {x:Int} (hx:0≤x∧x < (n:Int)) (hne:x ≠ t.getD 0 0):contr (n:Int) (ownA t x) t=true:=by
  have hv:=ownA_valid hn ht h0 hx hne
  have htb:=isTailB_of ht h0
  unfold contr
  rw [hv,htb]
  unfold ownA
  by_cases hm:x∈t
  · have hl:=risL_len hn ht
    simp only [hm,if_true,show ¬ (2:Int)=1 by omega,if_false,Bool.true_and,Bool.and_self,hl,Nat.le_refl,Nat.sub_self,decide_true]
    unfold lastOf
    rw [hl,Nat.sub_self]
    simp only [List.drop_zero,decide_eq_true_eq]
    exact fun c hc=>(risL_mem.1 hc).2
  · simp only [hm,if_false,if_true,Bool.true_and,Bool.and_self]
    have hf:firstAt (fun z=>decide (t.getD 0 0=z)) t=0:=by
      cases t with
      | nil=>simp at h0
      | cons y t=>simp [firstAt]
    rw [hf]
    simp only [h0,decide_true,List.drop_zero,hm,decide_false,Bool.not_false,Bool.and_self]
theorem asc_uniq:∀ {a b:List Int},a.Pairwise (· < ·)→b.Pairwise (· < ·)→a.Perm b→a=b:=fun ha hb hp=>hp.eq_of_pairwise (le:=(·≤·)) (fun x y _ _ h1 h2=>by omega) (ha.imp fun h=>by omega) (hb.imp fun h=>by omega)
def ov (n:Nat) (gs:List Grp) (t:List Int):Int:=(ownP n gs t).2.1
theorem bestP_mem {L:List (Asn × Int)} (hL:L ≠ []):((bestP L).1,(bestP L).2.1)∈L:=by
  have key:∀ (L:List (Asn × Int)) (st:Asn × (Int × Bool)),((L.foldl bstep st).1,(L.foldl bstep st).2.1)∈L∨(L.foldl bstep st=st∧(st.2.2=false→L=[])):=by
    intro L
    induction L with
    | nil=>intro st; exact .inr ⟨rfl,fun _=>rfl⟩
    | cons q L ih =>
      intro st
      rcases ih (bstep st q) with h | ⟨h1,h2⟩
      · exact .inl (List.mem_cons_of_mem _ h)
      · show ((L.foldl bstep (bstep st q)).1,(L.foldl bstep (bstep st q)).2.1)∈q::L∨_
        rw [List.foldl_cons,h1]
        unfold bstep
        by_cases hb:better st q.1 q.2=true
        · rw [if_pos hb]; exact .inl (by simp)
        · rw [if_neg hb]
          refine .inr ⟨rfl,fun hf=>?_⟩
          unfold better at hb
          rw [hf] at hb
          simp at hb
  rcases key L (zA,0,false) with h | ⟨h1,h2⟩
  · exact h
  · exact absurd (h2 rfl) hL
theorem own_list {n:Nat} (gs:List Grp) (t:List Int):ownP n gs t=bestP (((idL n).filter fun x=>decide (x ≠ t.getD 0 0)).map (pairA n gs t)):=ownTo_filter _ _ _ _
theorem ov_at {n:Nat} (h2:2≤n) (gs:List Grp) (t:List Int):∃ x,(0≤x∧x < (n:Int))∧x ≠ t.getD 0 0∧(ownP n gs t).1=ownA t x∧ov n gs t=mrg n gs (ownA t x):=by
  unfold ov
  rw [own_list]
  have hne:((idL n).filter fun x=>decide (x ≠ t.getD 0 0)).map (pairA n gs t) ≠ []:=by
    intro e
    have e:=List.map_eq_nil_iff.1 e
    rw [List.filter_eq_nil_iff] at e
    have h0:=e 0 ((mem_cands (n:=n) (c:=0)).2 (by omega))
    have h1:=e 1 ((mem_cands (n:=n) (c:=1)).2 (by omega))
    simp at h0 h1
    omega
  obtain ⟨x,hx,he⟩:=List.mem_map.1 (bestP_mem hne)
  rw [List.mem_filter,decide_eq_true_eq] at hx
  have hx1:=(mem_cands (n:=n) (c:=x)).1 hx.1
  refine ⟨x,hx1,hx.2,?_,?_⟩
  · exact (congrArg Prod.fst he).symm
  · exact (congrArg Prod.snd he).symm
theorem minF_le {f:Int→Int}:∀ {L:List Int} {c:Int},c∈L→minF f L≤f c:=by
  have key:∀ (L:List Int) (m:Int),L.foldl (fun m c=>if f c < m then f c else m) m≤m∧∀ c∈L,L.foldl (fun m c=>if f c < m then f c else m) m≤f c:=by
    intro L
    induction L with
    | nil=>intro m; exact ⟨Int.le_refl _,fun c hc=>absurd hc (by simp)⟩
    | cons x L ih =>
      intro m
      obtain ⟨h1,h2⟩:=ih (if f x < m then f x else m)
      rw [List.foldl_cons]
      have hb:(if f x < m then f x else m)≤m∧(if f x < m then f x else m)≤f x:=by split <;> omega
      refine ⟨Int.le_trans h1 hb.1,fun c hc=>?_⟩
      rcases List.mem_cons.1 hc with rfl | hc
      · exact Int.le_trans h1 hb.2
      · exact h2 c hc
  intro L c hc
  cases L with
  | nil=>simp at hc
  | cons x L =>
    show L.foldl _ (f x)≤f c
    obtain ⟨h1,h2⟩:=key L (f x)
    rcases List.mem_cons.1 hc with rfl | hc
    · exact h1
    · exact h2 c hc
theorem minF_at {f:Int→Int}:∀ {L:List Int},L ≠ []→∃ c∈L,minF f L=f c:=by
  have key:∀ (L:List Int) (m:Int),L.foldl (fun m c=>if f c < m then f c else m) m=m∨∃ c∈L,L.foldl (fun m c=>if f c < m then f c else m) m=f c:=by
    intro L
    induction L with
    | nil=>intro m; exact .inl rfl
    | cons x L ih =>
      intro m
      rw [List.foldl_cons]
      rcases ih (if f x < m then f x else m) with h | ⟨c,hc,h⟩
      · by_cases hl:f x < m
        · rw [if_pos hl] at h ⊢; exact .inr ⟨x,by simp,h⟩
        · rw [if_neg hl] at h ⊢; exact .inl h
      · exact .inr ⟨c,List.mem_cons_of_mem _ hc,h⟩
  intro L hL
  cases L with
  | nil=>exact absurd rfl hL
  | cons x L =>
    rcases key L (f x) with h | ⟨c,hc,h⟩
    · exact ⟨x,by simp,h⟩
    · exact ⟨c,List.mem_cons_of_mem _ hc,h⟩
theorem chL_ne {n:Nat} {t:List Int} (ht:isB n t) (hl:t.length < n):chL n t ≠ []:=by
  intro e
  have:=nodup_len_le' (m:=idL n) (l:=t) (idL_isB n).1 fun c hc=>Classical.byContradiction fun hm=>by
    have h1:c∈chL n t:=chL_mem.2 ⟨(mem_cands (n:=n) (c:=c)).1 hc,hm⟩
    rw [e] at h1
    simp at h1
  rw [idL_len] at this
  omega
def Ends (n:Nat) (t o:List Int):Prop:=isB n o∧o.length=n∧∃ s,o=s++t
theorem Ends.step {n:Nat} {t o:List Int} (h:Ends n t o) (hl:t.length < n):∃ c,c∈chL n t∧Ends n (c::t) o:=by
  obtain ⟨h1,h2,s,rfl⟩:=h
  have hne:s ≠ []:=fun e=>by rw [e] at h2; simp at h2; omega
  obtain ⟨s',c,rfl⟩:∃ s' c,s=s'++[c]:=⟨s.dropLast,s.getLast hne,(List.dropLast_concat_getLast hne).symm⟩
  refine ⟨c,chL_mem.2 ⟨h1.2 c (by simp),fun hm=>(List.nodup_append.1 h1.1).2.2 c (by simp) c hm rfl⟩,h1,h2,s',by simp⟩
theorem Ends.drop {n:Nat} {t o:List Int} (h:Ends n t o):o.drop (n - t.length)=t:=by
  obtain ⟨h1,h2,s,rfl⟩:=h
  have:n - t.length=s.length:=by rw [List.length_append] at h2; omega
  rw [this]; simp
theorem isB_kid {n:Nat} {t:List Int} (ht:isB n t) {c:Int} (hc:c∈chL n t):isB n (c::t):=by
  obtain ⟨h1,h2⟩:=chL_mem.1 hc
  exact ⟨List.nodup_cons.2 ⟨h2,ht.1⟩,fun x hx=>by
    rcases List.mem_cons.1 hx with rfl | hx
    · exact h1
    · exact ht.2 x hx⟩
theorem list_ok {n:Nat} (h2:2≤n) (hn:n≤7) (gs:List Grp):∀ (k:Nat) (t:List Int),isB n t→0 < t.length→n < k+t.length →
    (∀ a∈(valP n gs k t).2,(valP n gs k t).1≤mrg n gs a∧(a.1=1∨a.1=2))∧(∃ a∈(valP n gs k t).2,mrg n gs a=(valP n gs k t).1)∧∀ o,Ends n t o→∃ a∈(valP n gs k t).2,∃ j,j≤n - t.length∧contr (n:Int) a (o.drop j)=true
  | 0,t,ht,_,hk=>by
    have:=nodup_len n t ht.1 ht.2
    omega
  | k+1,t,ht,h0,hk=>by
    have htl:=nodup_len n t ht.1 ht.2
    obtain ⟨x,hx,hne,e1,e2⟩:=ov_at h2 gs t
    have hkind:∀ y,(ownA t y).1=1∨(ownA t y).1=2:=fun y=>by unfold ownA; split <;> simp
    have hone:∀ v:Int,v=ov n gs t→(∀ a∈[(ownP n gs t).1],v≤mrg n gs a∧(a.1=1∨a.1=2))∧(∃ a∈[(ownP n gs t).1],mrg n gs a=v)∧∀ o,Ends n t o→∃ a∈[(ownP n gs t).1],∃ j,j≤n - t.length∧contr (n:Int) a (o.drop j)=true:=by
      rintro v rfl
      refine ⟨fun a ha=>?_,⟨_,List.mem_singleton.2 rfl,by rw [e1,e2]⟩,fun o ho=>⟨_,List.mem_singleton.2 rfl,n - t.length,Nat.le_refl _,?_⟩⟩
      · rw [List.mem_singleton.1 ha,e1,e2]
        exact ⟨Int.le_refl _,hkind x⟩
      · rw [ho.drop,e1]
        exact own_contr hn ht h0 hx hne
    by_cases hl:t.length=n
    · rw [valP_succ,if_pos hl]
      exact hone _ rfl
    · have hlt:t.length < n:=by omega
      rw [valP_list]
      by_cases hc:(ownP n gs t).2.1=(valP n gs (k+1) t).1
      · rw [if_pos hc]
        exact hone _ hc.symm
      · rw [if_neg hc]
        have hkids:=valP_kids gs k (tail:=t) hl
        obtain ⟨f,hf⟩:∃ f:Int→Int,(fun c=>(valP n gs k (c::t)).1)=f:=⟨_,rfl⟩
        rw [hf] at hkids
        have hf':∀ c,f c=(valP n gs k (c::t)).1:=fun c=>by rw [← hf]
        have hmin:(valP n gs (k+1) t).1=minF f (chL n t):=by
          rw [hkids] at hc ⊢
          by_cases hq:(ownP n gs t).2.1 < minF f (chL n t)
          · rw [if_pos hq]
          · rw [if_neg hq] at hc; exact absurd rfl hc
        have hrec:=fun c (hcm:c∈chL n t)=>list_ok h2 hn gs k (c::t) (isB_kid ht hcm) (by simp) (by simp; omega)
        rw [hmin]
        refine ⟨fun a ha=>?_,?_,fun o ho=>?_⟩
        · obtain ⟨c,hcm,hac⟩:=List.mem_flatMap.1 ha
          obtain ⟨r1,r2⟩:=(hrec c hcm).1 a hac
          exact ⟨Int.le_trans (by have:=minF_le (f:=f) hcm; rw [hf'] at this; exact this) r1,r2⟩
        · obtain ⟨c,hcm,he⟩:=minF_at (f:=f) (chL_ne ht hlt)
          obtain ⟨a,ha,hm⟩:=(hrec c hcm).2.1
          exact ⟨a,List.mem_flatMap.2 ⟨c,hcm,ha⟩,by rw [he,hf',hm]⟩
        · obtain ⟨c,hcm,hE⟩:=ho.step hlt
          obtain ⟨a,ha,j,hj,hcj⟩:=(hrec c hcm).2.2 o hE
          exact ⟨a,List.mem_flatMap.2 ⟨c,hcm,ha⟩,j,by simp only [List.length_cons] at hj; omega,hcj⟩
end Go.Proofs.YtieoleabnjdkfaaGreat
set_option linter.unusedSimpArgs false
set_option linter.unusedVariables false
open Go Go.Proofs Go.X
namespace Go.Proofs.YtieoleabnjdkfaaGreat
def ascA (l:List Asn):Prop:=l.Pairwise fun a b=>cmpA a b < 0
theorem cmpA_refl (a:Asn):cmpA a a=0:=(cmpA_zero _ _).2 rfl
theorem insA_mem' {out:List Asn} {a x:Asn}:x∈insA out a↔x=a∨x∈out:=by
  refine ⟨insA_mem,fun h=>?_⟩
  unfold insA
  split
  · rename_i hc
    rcases h with rfl | h
    · have:=(cmpA_zero _ _).1 hc.2
      rw [← this,getD_get _ _ hc.1]
      exact List.getElem_mem _
    · exact h
  · rcases h with rfl | h
    · simp
    · rw [← List.take_append_drop (insAt out a) out] at h
      rcases List.mem_append.1 h with h | h
      · exact List.mem_append.2 (.inl (List.mem_append.2 (.inl h)))
      · exact List.mem_append.2 (.inr h)
theorem insA_asc {out:List Asn} {a:Asn} (h:ascA out):ascA (insA out a):=by
  unfold insA
  split
  · exact h
  · rename_i hc
    have hk:=firstN_le (fun k=>!decide (cmpA (out.getD k zA) a < 0)) out.length
    have hlow:∀ x∈out.take (insAt out a),cmpA x a < 0:=fun x hx=>by
      obtain ⟨i,hi,rfl⟩:=List.getElem_of_mem hx
      rw [List.length_take] at hi
      have:=firstN_lt (fun k=>!decide (cmpA (out.getD k zA) a < 0)) out.length i (by unfold insAt at hi; omega)
      simp only [Bool.not_eq_false',decide_eq_true_eq] at this
      rw [getD_get _ _ (by omega)] at this
      rw [List.getElem_take]
      exact this
    have hhigh:∀ x∈out.drop (insAt out a),cmpA a x < 0:=by
      rcases Nat.lt_or_ge (insAt out a) out.length with hlt | hge
      · have h1:=firstN_at (fun k=>!decide (cmpA (out.getD k zA) a < 0)) out.length (by unfold insAt at hlt; exact hlt)
        simp only [Bool.not_eq_true',decide_eq_false_iff_not] at h1
        have h2:¬ cmpA (out.getD (insAt out a) zA) a=0:=fun e=>hc ⟨hlt,e⟩
        have h3:cmpA a (out.getD (insAt out a) zA) < 0:=by
          have:=cmpA_anti a (out.getD (insAt out a) zA)
          unfold insAt at h2 this ⊢
          omega
        intro x hx
        have hd:out.drop (insAt out a)=out.getD (insAt out a) zA::out.drop (insAt out a+1):=by
          rw [List.drop_eq_getElem_cons hlt,getD_get _ _ hlt]
        have hp:ascA (out.drop (insAt out a)):=h.sublist (List.drop_sublist _ _)
        rw [hd] at hx hp
        rcases List.mem_cons.1 hx with rfl | hx
        · exact h3
        · exact cmpA_trans h3 ((List.pairwise_cons.1 hp).1 x hx)
      · intro x hx
        rw [List.drop_of_length_le hge] at hx
        simp at hx
    refine List.pairwise_append.2 ⟨List.pairwise_append.2 ⟨h.sublist (List.take_sublist _ _),List.pairwise_singleton _ _,fun x hx y hy=>by rw [List.mem_singleton.1 hy]; exact hlow x hx⟩,h.sublist (List.drop_sublist _ _),fun x hx y hy=>?_⟩
    rcases List.mem_append.1 hx with hx | hx
    · exact cmpA_trans (hlow x hx) (hhigh y hy)
    · rw [List.mem_singleton.1 hx]; exact hhigh y hy
theorem sorted_all:∀ (l out:List Asn),ascA out→ascA (l.foldl insA out)∧∀ x,x∈l.foldl insA out↔x∈out∨x∈l
  | [],out,h=>⟨h,fun x=>by simp⟩
  | a::l,out,h=>by
    obtain ⟨h1,h2⟩:=sorted_all l (insA out a) (insA_asc h)
    refine ⟨h1,fun x=>?_⟩
    rw [List.foldl_cons,h2,insA_mem',List.mem_cons]
    constructor
    · rintro ((h | h) | h)
      · exact .inr (.inl h)
      · exact .inl h
      · exact .inr (.inr h)
    · rintro (h | h | h)
      · exact .inl (.inr h)
      · exact .inl (.inl h)
      · exact .inr h
theorem sortedP_asc (l:List Asn):ascA (sortedP l):=(sorted_all l [] List.Pairwise.nil).1
theorem sortedP_iff {l:List Asn} {x:Asn}:x∈sortedP l↔x∈l:=by
  have:=(sorted_all l [] List.Pairwise.nil).2 x
  unfold sortedP
  rw [this]
  simp
theorem ascA_uniq:∀ {a b:List Asn},ascA a→ascA b→(∀ x,x∈a↔x∈b)→a=b
  | [],[],_,_,_=>rfl
  | [],y::b,_,_,h=>absurd ((h y).2 (by simp)) (by simp)
  | x::a,[],_,_,h=>absurd ((h x).1 (by simp)) (by simp)
  | x::a,y::b,ha,hb,h=>by
    have ha':=List.pairwise_cons.1 ha
    have hb':=List.pairwise_cons.1 hb
    have hxy:x=y:=by
      rcases List.mem_cons.1 ((h x).1 (by simp)) with h1 | h1
      · exact h1
      · rcases List.mem_cons.1 ((h y).2 (by simp)) with h2 | h2
        · exact h2.symm
        · have:=cmpA_trans (ha'.1 y h2) (hb'.1 x h1)
          rw [cmpA_refl] at this
          omega
    subst hxy
    have hnot:∀ {l:List Asn},(∀ z∈l,cmpA x z < 0)→x ∉ l:=fun hl hm=>by have:=hl x hm; rw [cmpA_refl] at this; omega
    rw [ascA_uniq ha'.2 hb'.2 fun z=>by
      have:=h z
      rw [List.mem_cons,List.mem_cons] at this
      constructor
      · intro hz
        rcases this.1 (.inr hz) with h1 | h1
        · rw [h1] at hz; exact absurd hz (hnot ha'.1)
        · exact h1
      · intro hz
        rcases this.2 (.inr hz) with h1 | h1
        · rw [h1] at hz; exact absurd hz (hnot hb'.1)
        · exact h1]
theorem wsum_mono1 {n:Int}:∀ {gs:List Grp},(∀ g∈gs,isB n g.1∧1≤g.2)→∀ {f h:List Int→Int},(∀ g∈gs,f g.1≤h g.1)→wsum f gs≤wsum h gs
  | [],_,f,h,_=>Int.le_refl _
  | g::gs,hg,f,h,hf=>by
    have ih:=wsum_mono1 (fun x hx=>hg x (List.mem_cons_of_mem _ hx)) fun x hx=>hf x (List.mem_cons_of_mem _ hx)
    have h1:=(hg g (by simp)).2
    have h2:=hf g (by simp)
    have h3:=Int.mul_le_mul_of_nonneg_left h2 (show 0≤g.2 by omega)
    unfold wsum
    omega
theorem mrg_le {n:Int} {gs:List Grp} {N:Int} (h:PileOK n gs N) (h1:1≤n) (hn:n≤7) {a:Asn} (hk:a.1=1∨a.1=2):mrg n gs a≤N:=by
  unfold mrg tal
  rw [h.pileB h1 hn,Bool.and_true]
  have hN:0≤N:=by
    have:=h.part (f:=fun _=>(0:Int)) (fun _=>by omega) 0
    have h2:=(h.part (f:=fun _=>(1:Int)) (fun _=>by omega) gs.length)
    rw [List.take_length] at h2
    have:=h.total
    omega
  by_cases hv:validB n a=true
  · rw [if_pos hv]
    have hb:=fun (f:List Int→Int) (hf:∀ p,0≤f p∧f p≤1)=>h.part hf gs.length
    unfold fav
    rcases hk with k | k
    · simp only [k,if_true]
      have b0:=wsum_mono1 h.ballots (f:=isFirst a.2.1) (h:=fun _=>1) fun g _=>(isFirst01 _ g.1).2
      have b1:=hb (isFirst a.2.1) fun p=>isFirst01 _ p
      have b2:=hb (isBefore a.2.2.1 a.2.1) fun p=>by unfold isBefore; simp only; split <;> omega
      rw [List.take_length] at b1 b2
      have:=h.total
      omega
    · simp only [k,if_true,if_false,show ¬ (2:Int)=1 by omega]
      have b0:=wsum_mono1 h.ballots (f:=isTopM a.2.2.2.1 a.2.1) (h:=fun _=>1) fun g _=>by unfold isTopM; split <;> omega
      have b1:=hb (isTopM a.2.2.2.1 a.2.1) fun p=>by unfold isTopM; split <;> omega
      have b2:=hb (isTopM a.2.2.2.1 a.2.2.1) fun p=>by unfold isTopM; split <;> omega
      rw [List.take_length] at b1 b2
      have:=h.total
      omega
  · rw [if_neg hv]; simpa using hN
theorem setTo_le {n:Nat} (gs:List Grp) (wn:Int) {v:Int} (hv:v < 100000):∀ i,((setTo n gs wn i).1≤v↔∃ c:Nat,c < i∧(c:Int) ≠ wn∧(valP n gs 10 [(c:Int)]).1≤v)
  | 0=>by
    simp [setTo,idL]
    omega
  | i+1=>by
    have ih:=setTo_le gs wn hv (n:=n) i
    rw [setTo_succ]
    unfold setStep
    by_cases c1:(i:Int)=wn
    · rw [if_pos c1,ih]
      constructor
      · rintro ⟨c,h1,h2,h3⟩; exact ⟨c,by omega,h2,h3⟩
      · rintro ⟨c,h1,h2,h3⟩
        have:c ≠ i:=fun e=>h2 (by rw [e]; exact c1)
        exact ⟨c,by omega,h2,h3⟩
    · rw [if_neg c1]
      have:(if (valP n gs 10 [(i:Int)]).1 < (setTo n gs wn i).1 then (valP n gs 10 [(i:Int)]).1 else (setTo n gs wn i).1)≤v↔(valP n gs 10 [(i:Int)]).1≤v∨(setTo n gs wn i).1≤v:=by split <;> omega
      simp only
      rw [this,ih]
      constructor
      · rintro (h | ⟨c,h1,h2,h3⟩)
        · exact ⟨i,by omega,c1,h⟩
        · exact ⟨c,by omega,h2,h3⟩
      · rintro ⟨c,h1,h2,h3⟩
        by_cases e:c=i
        · subst e; exact .inl h3
        · exact .inr ⟨c,by omega,h2,h3⟩
theorem setTo_list {n:Nat} (gs:List Grp) (wn:Int) {a:Asn}:∀ i,(a∈(setTo n gs wn i).2↔∃ c:Nat,c < i∧(c:Int) ≠ wn∧a∈(valP n gs 10 [(c:Int)]).2)
  | 0=>by simp [setTo,idL]
  | i+1=>by
    have ih:=setTo_list gs wn (a:=a) (n:=n) i
    rw [setTo_succ]
    unfold setStep
    by_cases c1:(i:Int)=wn
    · rw [if_pos c1,ih]
      constructor
      · rintro ⟨c,h1,h2,h3⟩; exact ⟨c,by omega,h2,h3⟩
      · rintro ⟨c,h1,h2,h3⟩
        have:c ≠ i:=fun e=>h2 (by rw [e]; exact c1)
        exact ⟨c,by omega,h2,h3⟩
    · rw [if_neg c1,List.mem_append,ih]
      constructor
      · rintro (⟨c,h1,h2,h3⟩ | h)
        · exact ⟨c,by omega,h2,h3⟩
        · exact ⟨i,by omega,c1,h⟩
      · rintro ⟨c,h1,h2,h3⟩
        by_cases e:c=i
        · subst e; exact .inr h3
        · exact .inl ⟨c,by omega,h2,h3⟩
theorem setTo_cap {n:Nat} (gs:List Grp) (wn:Int):∀ i,(setTo n gs wn i).1≤100000
  | 0=>by simp [setTo,idL]
  | i+1=>by
    have:=setTo_cap gs wn (n:=n) i
    rw [setTo_succ]
    unfold setStep
    split
    · exact this
    · simp only; split <;> omega
def OtherO (n:Nat) (wn:Int) (o:List Int):Prop:=isB n o∧o.length=n∧o.getD (n - 1) 0 ≠ wn
theorem ends_one {n:Nat} (h1:1≤n) {o:List Int} {c:Int}:Ends n [c] o↔isB n o∧o.length=n∧o.getD (n - 1) 0=c:=by
  constructor
  · rintro ⟨a,b,s,rfl⟩
    have:n - 1=s.length:=by rw [List.length_append] at b; simp at b; omega
    exact ⟨a,b,by rw [this]; simp [List.getD_eq_getElem?_getD]⟩
  · rintro ⟨a,b,c1⟩
    have hne:o ≠ []:=fun e=>by rw [e] at b; simp at b; omega
    obtain ⟨s,d,rfl⟩:∃ s d,o=s++[d]:=⟨o.dropLast,o.getLast hne,(List.dropLast_concat_getLast hne).symm⟩
    have:n - 1=s.length:=by rw [List.length_append] at b; simp at b; omega
    rw [this] at c1
    have hd:d=c:=by simpa [List.getD_eq_getElem?_getD] using c1
    exact ⟨a,b,s,by rw [hd]⟩
theorem setP_bounds {n:Nat} (gs:List Grp) (wn:Int):0≤(setP n gs wn).1∧(setP n gs wn).1≤100000:=by
  unfold setP
  split
  · have:=setTo_cap gs wn (n:=n) n
    simp only
    split <;> omega
  · simp
theorem setP_list {n:Nat} (h2:2≤n) (hn:n≤7) {gs:List Grp} {N:Int} (h:PileOK (n:Int) gs N) (hN:N < 100000) {wn:Int} (hw:0≤wn∧wn < (n:Int)) :
    (∀ a∈(setP n gs wn).2,(a.1=1∨a.1=2)∧(1≤(setP n gs wn).1→(setP n gs wn).1≤mrg n gs a))∧(1≤(setP n gs wn).1→∃ a∈(setP n gs wn).2,mrg n gs a=(setP n gs wn).1) ∧
    ∀ o,OtherO n wn o→∃ a∈(setP n gs wn).2,∃ j,j < n∧contr (n:Int) a (o.drop j)=true:=by
  have hp:=h.pileB (by omega) (by omega)
  have hval:∀ c:Nat,c < n→(valP n gs 10 [(c:Int)]).1≤N:=fun c hc=>by
    obtain ⟨r1,⟨a,ha,hm⟩,_⟩:=list_ok h2 hn gs 10 [(c:Int)] (isB_one hc) (by simp) (by simp; omega)
    rw [← hm]
    exact mrg_le h (by omega) (by omega) (r1 a ha).2
  have hle:∀ c:Nat,c < n→(c:Int) ≠ wn→(setTo n gs wn n).1≤(valP n gs 10 [(c:Int)]).1:=fun c hc hne =>
    (setTo_le gs wn (show (valP n gs 10 [(c:Int)]).1 < 100000 by have:=hval c hc; omega) n).2 ⟨c,hc,hne,Int.le_refl _⟩
  obtain ⟨d,hd,hdne⟩:∃ d:Nat,d < n∧(d:Int) ≠ wn:=by
    by_cases c:wn=0
    · exact ⟨1,by omega,by omega⟩
    · exact ⟨0,by omega,fun e=>c (by omega)⟩
  have hcap:(setTo n gs wn n).1 < 100000:=by have:=hle d hd hdne; have:=hval d hd; omega
  obtain ⟨c0,c1,c2,c3⟩:=(setTo_le gs wn hcap n).1 (Int.le_refl _)
  have hmin:(setTo n gs wn n).1=(valP n gs 10 [(c0:Int)]).1:=by have:=hle c0 c1 c2; omega
  unfold setP
  rw [if_pos ⟨hp,hw⟩]
  simp only
  refine ⟨fun a ha=>?_,fun hV=>?_,fun o ⟨o1,o2,o3⟩=>?_⟩
  · obtain ⟨c,d1,d2,d3⟩:=(setTo_list gs wn n).1 ha
    obtain ⟨r1,_,_⟩:=list_ok h2 hn gs 10 [(c:Int)] (isB_one d1) (by simp) (by simp; omega)
    obtain ⟨r2,r3⟩:=r1 a d3
    refine ⟨r3,fun hV=>?_⟩
    have:=hle c d1 d2
    split at hV <;> split <;> omega
  · obtain ⟨_,⟨a,ha,hm⟩,_⟩:=list_ok h2 hn gs 10 [(c0:Int)] (isB_one c1) (by simp) (by simp; omega)
    refine ⟨a,(setTo_list gs wn n).2 ⟨c0,c1,c2,ha⟩,?_⟩
    rw [hm,← hmin]
    split at hV
    · omega
    · rename_i hc
      rw [if_neg hc]
  · have hm:o.getD (n - 1) 0∈o:=by rw [getD_get _ _ (by omega)]; exact List.getElem_mem _
    have hb:=o1.2 _ hm
    obtain ⟨c,hc⟩:∃ c:Nat,o.getD (n - 1) 0=(c:Int):=⟨(o.getD (n - 1) 0).toNat,by omega⟩
    obtain ⟨_,_,r3⟩:=list_ok h2 hn gs 10 [(c:Int)] (isB_one (by omega)) (by simp) (by simp; omega)
    obtain ⟨a,ha,j,hj,hcj⟩:=r3 o ((ends_one (by omega)).2 ⟨o1,o2,hc⟩)
    exact ⟨a,(setTo_list gs wn n).2 ⟨c,by omega,by rw [← hc]; exact o3,ha⟩,j,by simp at hj; omega,hcj⟩
end Go.Proofs.YtieoleabnjdkfaaGreat
