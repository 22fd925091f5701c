/- Part 8 of what stands below the statement. -/
import Derived.Test.YtieoleabnjdkfaaR7
set_option linter.unusedSimpArgs false
set_option linter.unusedVariables false
open Go Go.Proofs Go.X
namespace Go.Proofs.Ytieoleabnjdkfaa
def quotaA (x s:Int):Asn:=(3,x,0,[],s+1)
def derP (c:Con) (gs:List Grp) (ws:List Int):List Asn × Bool :=
  if (fitB c && pileB (c.2.1.length:Int) gs)=true∧isB (c.2.1.length:Int) ws then
    if (c.2.1.length:Int)≤c.2.2.2.1 then ([],decide ((ws.length:Int)=(c.2.1.length:Int)))
    else if (ws.length:Int)=c.2.2.2.1 then
      if c.2.2.1=1 then (if (setP c.2.1.length gs (ws.getD 0 0)).1 < 1 then ([],false) else (sortedP (setP c.2.1.length gs (ws.getD 0 0)).2,true))
      else if (ws.all fun x=>decide (1≤mrg (c.2.1.length:Int) gs (quotaA x c.2.2.2.1)))=true then (sortedP (ws.map fun x=>quotaA x c.2.2.2.1),true) else ([],false)
    else ([],false)
  else ([],false)
theorem ownA_valid {n:Nat} (hn:n≤7) {tail:List Int} (ht:isB n tail) (h0:0 < tail.length) {x:Int} (hx:0≤x∧x < (n:Int)) (hne:x ≠ tail.getD 0 0):validB (n:Int) (ownA tail x)=true:=by
  have hm0:tail.getD 0 0∈tail:=by rw [getD_get _ _ h0]; exact List.getElem_mem _
  have hb0:=ht.2 _ hm0
  have g1:¬ (n:Int) < 1:=by omega
  have g2:¬ (7:Int) < (n:Int):=by omega
  have g3:¬ x < 0:=by omega
  have g4:¬ (n:Int)≤x:=by omega
  unfold ownA
  generalize tail.getD 0 0=t at *
  have g5:¬ t < 0:=by omega
  have g6:¬ (n:Int)≤t:=by omega
  by_cases hm:x∈tail
  · have hasc:asc (n:Int) (risL tail)=true:=(asc_iff _ _).2 ⟨risL_lt tail,fun y hy=>ht.2 y (risL_mem.1 hy).2⟩
    have m1:t∈risL tail:=risL_mem.2 ⟨by omega,hm0⟩
    have m2:x∈risL tail:=risL_mem.2 ⟨by omega,hm⟩
    unfold validB
    simp only [hm,if_true,g1,g2,g3,g4,g5,g6,hasc,m1,m2,decide_true,decide_false,Bool.not_false,Bool.and_self,Bool.and_true,show ¬ (2:Int)=1 by omega,if_false,Ne.symm hne,ne_eq,not_false_eq_true]
  · unfold validB
    simp only [hm,if_true,if_false,g1,g2,g3,g4,g5,g6,decide_true,decide_false,Bool.not_false,Bool.and_self,Bool.and_true,List.length_nil,hne,ne_eq,not_false_eq_true]
theorem ownTo_ok {n:Nat} (hn:n≤7) (gs:List Grp) {tail:List Int} (ht:isB n tail) (h0:0 < tail.length):∀ i,i≤n→((ownTo (n:Int) gs tail i).2.2=true→validB (n:Int) (ownTo (n:Int) gs tail i).1=true)∧((∃ j:Nat,j < i∧(j:Int) ≠ tail.getD 0 0)→(ownTo (n:Int) gs tail i).2.2=true)
  | 0,_=>⟨fun h=>by simp [ownTo,idL] at h,fun ⟨j,hj,_⟩=>by omega⟩
  | i+1,hi=>by
    obtain ⟨h1,h2⟩:=ownTo_ok hn gs ht h0 i (by omega)
    rw [ownTo_succ]
    unfold ownStep
    by_cases c:(i:Int)=tail.getD 0 0
    · rw [if_pos c]
      refine ⟨h1,fun ⟨j,hj,hne⟩=>h2 ⟨j,?_,hne⟩⟩
      have:j ≠ i:=fun e=>hne (by rw [e]; exact c)
      omega
    · rw [if_neg c]
      by_cases hb:better (ownTo (n:Int) gs tail i) (ownA tail (i:Int)) (mrg (n:Int) gs (ownA tail (i:Int)))=true
      · rw [if_pos hb]
        exact ⟨fun _=>ownA_valid hn ht h0 (by omega) c,fun _=>rfl⟩
      · rw [if_neg hb]
        refine ⟨h1,fun _=>?_⟩
        unfold better at hb
        simp only [Bool.or_eq_true,not_or,Bool.not_eq_true',Bool.not_eq_false] at hb
        exact hb.1
theorem ownP_valid {n:Nat} (h2:2≤n) (hn:n≤7) (gs:List Grp) {tail:List Int} (ht:isB n tail) (h0:0 < tail.length):validB (n:Int) (ownP n gs tail).1=true:=by
  obtain ⟨a,b⟩:=ownTo_ok hn gs ht h0 n (Nat.le_refl n)
  refine a (b ?_)
  by_cases c:(0:Int)=tail.getD 0 0
  · exact ⟨1,by omega,by rw [← c]; decide⟩
  · exact ⟨0,by omega,c⟩
theorem valP_valid {n:Nat} (h2:2≤n) (hn:n≤7) (gs:List Grp):∀ (k:Nat) (tail:List Int),isB n tail→0 < tail.length→∀ a∈(valP n gs k tail).2,validB (n:Int) a=true
  | 0,tail,_,_=>by simp [valP]
  | k+1,tail,ht,h0=>by
    rw [valP_succ]
    have hown:=ownP_valid h2 hn gs ht h0
    split
    · intro a ha; rw [List.mem_singleton.1 ha]; exact hown
    · split
      · intro a ha; rw [List.mem_singleton.1 ha]; exact hown
      · exact valTo_all (f:=valP n gs k) (tail:=tail) (P:=fun a=>validB (n:Int) a=true) n fun j hj hm=>valP_valid h2 hn gs k _ (isB_cons ht hj hm) (by simp)
theorem setTo_valid {n:Nat} (h2:2≤n) (hn:n≤7) (gs:List Grp) (wn:Int):∀ i,i≤n→∀ a∈(setTo n gs wn i).2,validB (n:Int) a=true
  | 0,_=>by simp [setTo,idL]
  | i+1,hi=>by
    have ih:=setTo_valid h2 hn gs wn i (by omega)
    rw [setTo_succ]
    unfold setStep
    split
    · exact ih
    · intro a ha
      rcases List.mem_append.1 ha with ha | ha
      · exact ih a ha
      · exact valP_valid h2 hn gs 10 [(i:Int)] (isB_one (by omega)) (by simp) a ha
theorem setP_valid {n:Nat} (h2:2≤n) (hn:n≤7) (gs:List Grp) (wn:Int):∀ a∈(setP n gs wn).2,validB (n:Int) a=true:=by
  unfold setP
  split
  · exact setTo_valid h2 hn gs wn n (Nat.le_refl n)
  · simp
theorem setP_len {n:Nat} (hn:n≤7) (gs:List Grp) (wn:Int):(setP n gs wn).2.length≤5764801:=by
  unfold setP
  split
  · have:=setTo_len hn gs wn n (Nat.le_refl n)
    show (setTo n gs wn n).2.length≤_
    omega
  · simp
theorem quotaA_valid {n:Int} (h1:1≤n) (hn:n≤7) {x s:Int} (hx:0≤x∧x < n) (hs:1≤s∧s≤5):validB n (quotaA x s)=true:=by
  unfold validB quotaA
  simp
  omega
theorem derP_valid (c:Con) (gs:List Grp) (ws:List Int):∀ a∈(derP c gs ws).1,validB (c.2.1.length:Int) a=true:=by
  unfold derP
  intro a ha
  split at ha
  · rename_i h
    obtain ⟨h1,h2⟩:=h
    simp only [Bool.and_eq_true] at h1
    obtain ⟨f1,f2,f3,f4,f5,f6,f7⟩:=fit_n h1.1
    split at ha
    · simp at ha
    · rename_i hns
      split at ha
      · split at ha
        · split at ha
          · simp at ha
          · exact setP_valid (by omega) f2 gs _ a (sorted_mem ha)
        · split at ha
          · obtain ⟨x,hx,rfl⟩:=List.mem_map.1 (sorted_mem ha)
            exact quotaA_valid (by omega) (by omega) (h2.2 x hx) ⟨f3,f4⟩
          · simp at ha
      · simp at ha
  · simp at ha
theorem derP_len (c:Con) (gs:List Grp) (ws:List Int):(derP c gs ws).1.length≤5764801:=by
  unfold derP
  split
  · rename_i h
    obtain ⟨h1,h2⟩:=h
    simp only [Bool.and_eq_true] at h1
    obtain ⟨f1,f2,f3,f4,f5,f6,f7⟩:=fit_n h1.1
    split
    · simp
    · split
      · split
        · split
          · simp
          · have:=(sorted_inv (setP c.2.1.length gs (ws.getD 0 0)).2 []).1
            have h3:=setP_len f2 gs (ws.getD 0 0)
            simp only [List.length_nil] at this
            show (sortedP _).length≤_
            unfold sortedP
            omega
        · split
          · have:=(sorted_inv (ws.map fun x=>quotaA x c.2.2.2.1) []).1
            have h3:=isB_len h2 (by omega)
            simp only [List.length_nil,List.length_map] at this
            show (sortedP _).length≤_
            unfold sortedP
            omega
          · simp
      · simp
  · simp
end Go.Proofs.Ytieoleabnjdkfaa
set_option linter.unusedSimpArgs false
set_option linter.unusedVariables false
open Go Go.Proofs Go.X
namespace Go.Proofs.Ytieoleabnjdkfaa
def gtP (p q:Asn × Int):Bool:=decide (q.2 < p.2) || (decide (p.2=q.2) && decide (cmpA p.1 q.1 < 0))
theorem gtP_irrefl (p:Asn × Int):gtP p p=false:=by
  unfold gtP
  have:cmpA p.1 p.1=0:=(cmpA_zero _ _).2 rfl
  simp [this]
theorem cmpA_anti (a b:Asn):cmpA a b=-cmpA b a:=keyC_good.anti _ _
theorem cmpA_trans {a b c:Asn} (h:cmpA a b < 0) (h':cmpA b c < 0):cmpA a c < 0:=keyC_good.trans _ _ _ h h'
theorem gtP_trans {p q r:Asn × Int} (h:gtP p q=true) (h':gtP q r=true):gtP p r=true:=by
  unfold gtP at *
  simp only [Bool.or_eq_true,Bool.and_eq_true,decide_eq_true_eq] at *
  rcases h with h | ⟨h1,h2⟩ <;> rcases h' with h' | ⟨h3,h4⟩
  · exact .inl (by omega)
  · exact .inl (by omega)
  · exact .inl (by omega)
  · exact .inr ⟨by omega,cmpA_trans h2 h4⟩
theorem gtP_tri (p q:Asn × Int):gtP p q=true∨p=q∨gtP q p=true:=by
  unfold gtP
  simp only [Bool.or_eq_true,Bool.and_eq_true,decide_eq_true_eq]
  rcases Int.lt_trichotomy p.2 q.2 with h | h | h
  · exact .inr (.inr (.inl h))
  · have ha:=cmpA_anti p.1 q.1
    rcases Int.lt_trichotomy (cmpA p.1 q.1) 0 with h1 | h1 | h1
    · exact .inl (.inr ⟨h,h1⟩)
    · exact .inr (.inl (Prod.ext ((cmpA_zero _ _).1 h1) h))
    · exact .inr (.inr (.inr ⟨h.symm,by omega⟩))
  · exact .inl (.inl h)
def bstep (st:Asn × (Int × Bool)) (p:Asn × Int):Asn × (Int × Bool):=if better st p.1 p.2 then (p.1,p.2,true) else st
theorem better_gt (a:Asn) (m:Int) (p:Asn × Int):better (a,m,true) p.1 p.2=gtP p (a,m):=by
  unfold better gtP
  simp only [Bool.not_true,Bool.false_or]
def bmax (p q:Asn × Int):Asn × Int:=if gtP q p then q else p
theorem bmax_comm3 (s p q:Asn × Int):bmax (bmax s p) q=bmax (bmax s q) p:=by
  unfold bmax
  rcases gtP_tri p s with h1 | h1 | h1
  · rw [if_pos h1]
    rcases gtP_tri q s with h2 | h2 | h2
    · rw [if_pos h2]
      rcases gtP_tri q p with h3 | h3 | h3
      · rw [if_pos h3]
        have:¬ gtP p q=true:=fun h=>by have:=gtP_trans h h3; rw [gtP_irrefl] at this; cases this
        rw [if_neg this]
      · subst h3; rw [gtP_irrefl]
      · have:¬ gtP q p=true:=fun h=>by have:=gtP_trans h h3; rw [gtP_irrefl] at this; cases this
        rw [if_neg this,if_pos h3]
    · subst h2
      have:¬ gtP q p=true:=fun h=>by have:=gtP_trans h h1; rw [gtP_irrefl] at this; cases this
      rw [if_neg this,gtP_irrefl]
      simp [h1]
    · have h4:¬ gtP q s=true:=fun h=>by have:=gtP_trans h h2; rw [gtP_irrefl] at this; cases this
      have h5:=gtP_trans h1 h2
      have h6:¬ gtP q p=true:=fun h=>by have:=gtP_trans h h5; rw [gtP_irrefl] at this; cases this
      rw [if_neg h4,if_neg h6,if_pos h1]
  · subst h1
    rw [gtP_irrefl]
    simp only [Bool.false_eq_true,if_false]
    by_cases h2:gtP q p=true
    · have:¬ gtP p q=true:=fun h=>by have:=gtP_trans h h2; rw [gtP_irrefl] at this; cases this
      rw [if_pos h2,if_neg this]
    · rw [if_neg h2,gtP_irrefl]; rfl
  · have h3:¬ gtP p s=true:=fun h=>by have:=gtP_trans h h1; rw [gtP_irrefl] at this; cases this
    rw [if_neg h3]
    by_cases h2:gtP q s=true
    · have h5:=gtP_trans h2 h1
      have h6:¬ gtP p q=true:=fun h=>by have:=gtP_trans h h5; rw [gtP_irrefl] at this; cases this
      rw [if_pos h2,if_neg h6]
    · rw [if_neg h2,if_neg h3]
theorem bstep_true (a:Asn) (m:Int) (p:Asn × Int):bstep (a,m,true) p=((bmax (a,m) p).1,(bmax (a,m) p).2,true):=by
  unfold bstep bmax
  rw [better_gt]
  split <;> rfl
theorem bstep_false (a:Asn) (m:Int) (p:Asn × Int):bstep (a,m,false) p=(p.1,p.2,true):=by
  unfold bstep better
  simp
theorem bmax_comm (p q:Asn × Int):bmax p q=bmax q p:=by
  unfold bmax
  rcases gtP_tri p q with h | h | h
  · have:¬ gtP q p=true:=fun h'=>by have:=gtP_trans h' h; rw [gtP_irrefl] at this; cases this
    rw [if_neg this,if_pos h]
  · subst h; rfl
  · have:¬ gtP p q=true:=fun h'=>by have:=gtP_trans h' h; rw [gtP_irrefl] at this; cases this
    rw [if_pos h,if_neg this]
theorem bstep_comm (st:Asn × (Int × Bool)) (p q:Asn × Int):bstep (bstep st p) q=bstep (bstep st q) p:=by
  obtain ⟨a,m,f⟩:=st
  cases f
  · rw [bstep_false,bstep_false,bstep_true,bstep_true,bmax_comm (p.1,p.2) q]
  · rw [bstep_true,bstep_true,bstep_true,bstep_true]
    have:=bmax_comm3 (a,m) p q
    show ((bmax (bmax (a,m) p) q).1,(bmax (bmax (a,m) p) q).2,true)=((bmax (bmax (a,m) q) p).1,(bmax (bmax (a,m) q) p).2,true)
    rw [this]
def bestP (L:List (Asn × Int)):Asn × (Int × Bool):=L.foldl bstep (zA,0,false)
theorem bestP_perm {L M:List (Asn × Int)} (h:L.Perm M):bestP L=bestP M:=List.Perm.foldl_eq' h (fun x _ y _ z=>bstep_comm z x y) _
theorem nodup_len_le':∀ {m l:List Int},m.Nodup→(∀ c∈m,c∈l)→m.length≤l.length
  | [],l,_,_=>by simp
  | c::m,l,hd,h=>by
    have hc:c∈l:=h c List.mem_cons_self
    have hd':=List.nodup_cons.1 hd
    have ih:=nodup_len_le' (m:=m) (l:=l.erase c) hd'.2 fun x hx=>(List.mem_erase_of_ne (fun e=>hd'.1 (by rw [← e]; exact hx))).2 (h x (List.mem_cons_of_mem _ hx))
    rw [List.length_erase_of_mem hc] at ih
    have:0 < l.length:=List.length_pos_of_mem hc
    simp
    omega
def pairA (n:Int) (gs:List Grp) (tail:List Int) (x:Int):Asn × Int:=(ownA tail x,mrg n gs (ownA tail x))
def chL (n:Nat) (tail:List Int):List Int:=(idL n).filter fun x=>decide (x ∉ tail)
theorem chL_mem {n:Nat} {tail:List Int} {x:Int}:x∈chL n tail↔(0≤x∧x < (n:Int))∧x ∉ tail:=by
  unfold chL
  rw [List.mem_filter,decide_eq_true_eq]
  have:x∈idL n↔0≤x∧x < (n:Int):=mem_cands (n:=n) (c:=x)
  rw [this]
theorem chL_nodup (n:Nat) (tail:List Int):(chL n tail).Nodup:=(idL_isB n).1.filter _
theorem ownTo_filter (n:Int) (gs:List Grp) (tail:List Int):∀ i,ownTo n gs tail i=bestP (((idL i).filter fun x=>decide (x ≠ tail.getD 0 0)).map (pairA n gs tail))
  | 0=>by simp [ownTo,idL,bestP]
  | i+1=>by
    rw [ownTo_succ,ownTo_filter n gs tail i,idL_succ,List.filter_append,List.map_append]
    unfold ownStep
    by_cases c:(i:Int)=tail.getD 0 0
    · simp [c,List.filter]
    · rw [if_neg c]
      simp only [List.filter,c,ne_eq,not_false_eq_true,decide_true,List.map_cons,List.map_nil]
      unfold bestP
      rw [List.foldl_append]
      rfl
theorem own_split {n:Nat} (gs:List Grp) {t:Int} {r:List Int} (ht:isB n (t::r)):ownP n gs (t::r)=bestP ((chL n (t::r)++r).map (pairA n gs (t::r))):=by
  unfold ownP
  rw [ownTo_filter]
  refine bestP_perm (List.Perm.map _ ?_)
  have hd:=List.nodup_cons.1 ht.1
  have hn1:((idL n).filter fun x=>decide (x ≠ (t::r).getD 0 0)).Nodup:=(idL_isB n).1.filter _
  have hn2:(chL n (t::r)++r).Nodup:=List.nodup_append.2 ⟨chL_nodup n _,hd.2,fun x hx y hy e=>by
    rw [e] at hx
    exact (chL_mem.1 hx).2 (List.mem_cons_of_mem _ hy)⟩
  refine perm_of_sub _ _ hn1 (fun x hx=>?_) ?_
  · rw [List.mem_filter,decide_eq_true_eq] at hx
    have hb:0≤x∧x < (n:Int):=(mem_cands (n:=n) (c:=x)).1 hx.1
    have hne:x ≠ t:=hx.2
    by_cases hm:x∈t::r
    · rcases List.mem_cons.1 hm with h | h
      · exact absurd h hne
      · exact List.mem_append.2 (.inr h)
    · exact List.mem_append.2 (.inl (chL_mem.2 ⟨hb,hm⟩))
  · refine nodup_len_le' hn2 fun x hx=>?_
    rw [List.mem_filter,decide_eq_true_eq]
    rcases List.mem_append.1 hx with h | h
    · obtain ⟨h1,h2⟩:=chL_mem.1 h
      exact ⟨(mem_cands (n:=n) (c:=x)).2 h1,fun e=>h2 (by rw [e]; simp)⟩
    · exact ⟨(mem_cands (n:=n) (c:=x)).2 (ht.2 x (List.mem_cons_of_mem _ h)),fun e=>hd.1 (by have e':x=t:=e; rw [← e']; exact h)⟩
def minF (f:Int→Int):List Int→Int
  | []=>0
  | c::cs=>cs.foldl (fun m c=>if f c < m then f c else m) (f c)
theorem valTo_min (f:List Int→Int × List Asn) (tail:List Int):∀ i,(valTo f tail i).2.1=decide ((idL i).filter (fun x=>decide (x ∉ tail)) ≠ [])∧(valTo f tail i).1=minF (fun c=>(f (c::tail)).1) ((idL i).filter fun x=>decide (x ∉ tail)) ∧
    (valTo f tail i).2.2=((idL i).filter fun x=>decide (x ∉ tail)).flatMap fun c=>(f (c::tail)).2
  | 0=>by simp [valTo,idL,minF]
  | i+1=>by
    obtain ⟨h1,h2,h3⟩:=valTo_min f tail i
    rw [valTo_succ,idL_succ,List.filter_append]
    unfold valStep
    by_cases c:(i:Int)∈tail
    · rw [if_pos c]
      simp [List.filter,c,h1,h2,h3]
    · rw [if_neg c]
      have e:([(i:Int)].filter fun x=>decide (x ∉ tail))=[(i:Int)]:=by simp [List.filter,c]
      rw [e]
      generalize ((idL i).filter fun x=>decide (x ∉ tail))=L at *
      cases L with
      | nil =>
        have:(valTo f tail i).2.1=false:=by rw [h1]; simp
        rw [this]
        simp [minF,h3]
      | cons x L =>
        have:(valTo f tail i).2.1=true:=by rw [h1]; simp
        have hm:minF (fun c=>(f (c::tail)).1) (x::L++[(i:Int)])=if (f ((i:Int)::tail)).1 < minF (fun c=>(f (c::tail)).1) (x::L) then (f ((i:Int)::tail)).1 else minF (fun c=>(f (c::tail)).1) (x::L):=by
          show (L++[(i:Int)]).foldl _ _=_
          rw [List.foldl_append]
          rfl
        rw [this,hm,← h2]
        by_cases c2:(f ((i:Int)::tail)).1 < (valTo f tail i).1
        · simp [c2,h3]
        · simp [c2,h3]
theorem valP_one {n:Nat} (gs:List Grp) (k:Nat) {tail:List Int} (hl:tail.length=n):(valP n gs (k+1) tail).1=(ownP n gs tail).2.1:=by
  rw [valP_succ,if_pos hl]
theorem valP_kids {n:Nat} (gs:List Grp) (k:Nat) {tail:List Int} (hl:tail.length ≠ n):(valP n gs (k+1) tail).1=(if (ownP n gs tail).2.1 < minF (fun c=>(valP n gs k (c::tail)).1) (chL n tail) then minF (fun c=>(valP n gs k (c::tail)).1) (chL n tail) else (ownP n gs tail).2.1):=by
  rw [valP_succ,if_neg hl]
  have h2:=(valTo_min (valP n gs k) tail n).2.1
  rw [h2]
  have e:((idL n).filter fun x=>decide (x ∉ tail))=chL n tail:=rfl
  rw [e]
  generalize minF (fun c=>(valP n gs k (c::tail)).1) (chL n tail)=v
  by_cases c:v≤(ownP n gs tail).2.1
  · rw [if_pos c,if_neg (by omega)]
  · rw [if_neg c,if_pos (by omega)]
theorem valP_list {n:Nat} (gs:List Grp) (k:Nat) {tail:List Int}:(valP n gs (k+1) tail).2=if (ownP n gs tail).2.1=(valP n gs (k+1) tail).1 then [(ownP n gs tail).1] else (chL n tail).flatMap fun c=>(valP n gs k (c::tail)).2:=by
  rw [valP_succ]
  split
  · simp
  · rename_i hl
    have h3:=(valTo_min (valP n gs k) tail n).2.2
    split
    · simp
    · rename_i hc
      rw [if_neg (by simp only; omega)]
      exact h3
end Go.Proofs.Ytieoleabnjdkfaa
set_option linter.unusedSimpArgs false
set_option linter.unusedVariables false
open Go Go.Proofs Go.X
namespace Go.Proofs.Ytieoleabnjdkfaa
theorem risL_perm {n:Nat} (hn:n≤7) {t:List Int} (ht:isB n t):(risL t).Perm t:=by
  have h1:∀ x∈risL t,x∈t:=fun x hx=>(risL_mem.1 hx).2
  refine perm_of_sub _ _ (nodup_of_lt (risL_lt t)) h1 (nodup_len_le' ht.1 fun x hx=>risL_mem.2 ⟨by have:=ht.2 x hx; omega,hx⟩)
theorem risL_len {n:Nat} (hn:n≤7) {t:List Int} (ht:isB n t):(risL t).length=t.length:=(risL_perm hn ht).length_eq
theorem isTailB_of {n:Nat} {t:List Int} (ht:isB n t) (h0:0 < t.length):isTailB (n:Int) t=true:=by
  unfold isTailB
  simp [ht,h0]
theorem own_contr {n:Nat} (hn:n≤7) {t:List Int} (ht:isB n t) (h0:0 < t.length) {x:Int} (hx:0≤x∧x < (n:Int)) (hne:x ≠ t.getD 0 0):contr (n:Int) (ownA t x) t=true:=by
  have hv:=ownA_valid hn ht h0 hx hne
  have htb:=isTailB_of ht h0
  unfold contr
  rw [hv,htb]
  unfold ownA
  by_cases hm:x∈t
  · have hl:=risL_len hn ht
    simp only [hm,if_true,show ¬ (2:Int)=1 by omega,if_false,Bool.true_and,Bool.and_self,hl,Nat.le_refl,Nat.sub_self,decide_true]
    unfold lastOf
    rw [hl,Nat.sub_self]
    simp only [List.drop_zero,decide_eq_true_eq]
    exact fun c hc=>(risL_mem.1 hc).2
  · simp only [hm,if_false,if_true,Bool.true_and,Bool.and_self]
    have hf:firstAt (fun z=>decide (t.getD 0 0=z)) t=0:=by
      cases t with
      | nil=>simp at h0
      | cons y t=>simp [firstAt]
    rw [hf]
    simp only [h0,decide_true,List.drop_zero,hm,decide_false,Bool.not_false,Bool.and_self]
theorem drop_isB {n:Int} {t:List Int} (ht:isB n t) (j:Nat):isB n (t.drop j):=⟨ht.1.sublist (List.drop_sublist _ _),fun x hx=>ht.2 x (List.mem_of_mem_drop hx)⟩
def ov (n:Nat) (gs:List Grp) (t:List Int):Int:=(ownP n gs t).2.1
theorem bestP_ge {L:List (Asn × Int)}:∀ p∈L,p.2≤(bestP L).2.1:=by
  have key:∀ (L:List (Asn × Int)) (st:Asn × (Int × Bool)),(st.2.2=true→st.2.1≤(L.foldl bstep st).2.1)∧∀ p∈L,p.2≤(L.foldl bstep st).2.1:=by
    intro L
    induction L with
    | nil=>intro st; exact ⟨fun _=>Int.le_refl _,fun p hp=>absurd hp (by simp)⟩
    | cons q L ih =>
      intro st
      obtain ⟨h1,h2⟩:=ih (bstep st q)
      have hb:(bstep st q).2.2=true∧q.2≤(bstep st q).2.1∧(st.2.2=true→st.2.1≤(bstep st q).2.1):=by
        obtain ⟨a,m,f⟩:=st
        cases f
        · rw [bstep_false]; exact ⟨rfl,Int.le_refl _,fun h=>by cases h⟩
        · rw [bstep_true]
          unfold bmax
          by_cases hg:gtP q (a,m)=true
          · rw [if_pos hg]
            unfold gtP at hg
            simp only [Bool.or_eq_true,Bool.and_eq_true,decide_eq_true_eq] at hg
            exact ⟨rfl,Int.le_refl _,fun _=>by simp only; omega⟩
          · rw [if_neg hg]
            unfold gtP at hg
            simp only [Bool.or_eq_true,Bool.and_eq_true,decide_eq_true_eq,not_or] at hg
            exact ⟨rfl,by simp only; omega,fun _=>Int.le_refl _⟩
      refine ⟨fun hs=>Int.le_trans (hb.2.2 hs) (h1 hb.1),fun p hp=>?_⟩
      rcases List.mem_cons.1 hp with rfl | hp
      · exact Int.le_trans hb.2.1 (h1 hb.1)
      · exact h2 p hp
  exact (key L _).2
theorem bestP_mem {L:List (Asn × Int)} (hL:L ≠ []):((bestP L).1,(bestP L).2.1)∈L:=by
  have key:∀ (L:List (Asn × Int)) (st:Asn × (Int × Bool)),((L.foldl bstep st).1,(L.foldl bstep st).2.1)∈L∨(L.foldl bstep st=st∧(st.2.2=false→L=[])):=by
    intro L
    induction L with
    | nil=>intro st; exact .inr ⟨rfl,fun _=>rfl⟩
    | cons q L ih =>
      intro st
      rcases ih (bstep st q) with h | ⟨h1,h2⟩
      · exact .inl (List.mem_cons_of_mem _ h)
      · show ((L.foldl bstep (bstep st q)).1,(L.foldl bstep (bstep st q)).2.1)∈q::L∨_
        rw [List.foldl_cons,h1]
        unfold bstep
        by_cases hb:better st q.1 q.2=true
        · rw [if_pos hb]; exact .inl (by simp)
        · rw [if_neg hb]
          refine .inr ⟨rfl,fun hf=>?_⟩
          unfold better at hb
          rw [hf] at hb
          simp at hb
  rcases key L (zA,0,false) with h | ⟨h1,h2⟩
  · exact h
  · exact absurd (h2 rfl) hL
theorem own_list {n:Nat} (gs:List Grp) (t:List Int):ownP n gs t=bestP (((idL n).filter fun x=>decide (x ≠ t.getD 0 0)).map (pairA n gs t)):=ownTo_filter _ _ _ _
theorem ov_ge {n:Nat} (gs:List Grp) {t:List Int} {x:Int} (hx:0≤x∧x < (n:Int)) (hne:x ≠ t.getD 0 0):mrg n gs (ownA t x)≤ov n gs t:=by
  unfold ov
  rw [own_list]
  exact bestP_ge (pairA n gs t x) (List.mem_map.2 ⟨x,by rw [List.mem_filter,decide_eq_true_eq]; exact ⟨(mem_cands (n:=n) (c:=x)).2 hx,hne⟩,rfl⟩)
theorem ov_at {n:Nat} (h2:2≤n) (gs:List Grp) (t:List Int):∃ x,(0≤x∧x < (n:Int))∧x ≠ t.getD 0 0∧(ownP n gs t).1=ownA t x∧ov n gs t=mrg n gs (ownA t x):=by
  unfold ov
  rw [own_list]
  have hne:((idL n).filter fun x=>decide (x ≠ t.getD 0 0)).map (pairA n gs t) ≠ []:=by
    intro e
    have e:=List.map_eq_nil_iff.1 e
    rw [List.filter_eq_nil_iff] at e
    have h0:=e 0 ((mem_cands (n:=n) (c:=0)).2 (by omega))
    have h1:=e 1 ((mem_cands (n:=n) (c:=1)).2 (by omega))
    simp at h0 h1
    omega
  obtain ⟨x,hx,he⟩:=List.mem_map.1 (bestP_mem hne)
  rw [List.mem_filter,decide_eq_true_eq] at hx
  have hx1:=(mem_cands (n:=n) (c:=x)).1 hx.1
  refine ⟨x,hx1,hx.2,?_,?_⟩
  · exact (congrArg Prod.fst he).symm
  · exact (congrArg Prod.snd he).symm
theorem minF_le {f:Int→Int}:∀ {L:List Int} {c:Int},c∈L→minF f L≤f c:=by
  have key:∀ (L:List Int) (m:Int),L.foldl (fun m c=>if f c < m then f c else m) m≤m∧∀ c∈L,L.foldl (fun m c=>if f c < m then f c else m) m≤f c:=by
    intro L
    induction L with
    | nil=>intro m; exact ⟨Int.le_refl _,fun c hc=>absurd hc (by simp)⟩
    | cons x L ih =>
      intro m
      obtain ⟨h1,h2⟩:=ih (if f x < m then f x else m)
      rw [List.foldl_cons]
      have hb:(if f x < m then f x else m)≤m∧(if f x < m then f x else m)≤f x:=by split <;> omega
      refine ⟨Int.le_trans h1 hb.1,fun c hc=>?_⟩
      rcases List.mem_cons.1 hc with rfl | hc
      · exact Int.le_trans h1 hb.2
      · exact h2 c hc
  intro L c hc
  cases L with
  | nil=>simp at hc
  | cons x L =>
    show L.foldl _ (f x)≤f c
    obtain ⟨h1,h2⟩:=key L (f x)
    rcases List.mem_cons.1 hc with rfl | hc
    · exact h1
    · exact h2 c hc
theorem minF_at {f:Int→Int}:∀ {L:List Int},L ≠ []→∃ c∈L,minF f L=f c:=by
  have key:∀ (L:List Int) (m:Int),L.foldl (fun m c=>if f c < m then f c else m) m=m∨∃ c∈L,L.foldl (fun m c=>if f c < m then f c else m) m=f c:=by
    intro L
    induction L with
    | nil=>intro m; exact .inl rfl
    | cons x L ih =>
      intro m
      rw [List.foldl_cons]
      rcases ih (if f x < m then f x else m) with h | ⟨c,hc,h⟩
      · by_cases hl:f x < m
        · rw [if_pos hl] at h ⊢; exact .inr ⟨x,by simp,h⟩
        · rw [if_neg hl] at h ⊢; exact .inl h
      · exact .inr ⟨c,List.mem_cons_of_mem _ hc,h⟩
  intro L hL
  cases L with
  | nil=>exact absurd rfl hL
  | cons x L =>
    rcases key L (f x) with h | ⟨c,hc,h⟩
    · exact ⟨x,by simp,h⟩
    · exact ⟨c,List.mem_cons_of_mem _ hc,h⟩
theorem chL_ne {n:Nat} {t:List Int} (ht:isB n t) (hl:t.length < n):chL n t ≠ []:=by
  intro e
  have:=nodup_len_le' (m:=idL n) (l:=t) (idL_isB n).1 fun c hc=>Classical.byContradiction fun hm=>by
    have h1:c∈chL n t:=chL_mem.2 ⟨(mem_cands (n:=n) (c:=c)).1 hc,hm⟩
    rw [e] at h1
    simp at h1
  rw [idL_len] at this
  omega
def Ends (n:Nat) (t o:List Int):Prop:=isB n o∧o.length=n∧∃ s,o=s++t
theorem Ends.step {n:Nat} {t o:List Int} (h:Ends n t o) (hl:t.length < n):∃ c,c∈chL n t∧Ends n (c::t) o:=by
  obtain ⟨h1,h2,s,rfl⟩:=h
  have hne:s ≠ []:=fun e=>by rw [e] at h2; simp at h2; omega
  obtain ⟨s',c,rfl⟩:∃ s' c,s=s'++[c]:=⟨s.dropLast,s.getLast hne,(List.dropLast_concat_getLast hne).symm⟩
  refine ⟨c,chL_mem.2 ⟨h1.2 c (by simp),fun hm=>(List.nodup_append.1 h1.1).2.2 c (by simp) c hm rfl⟩,h1,h2,s',by simp⟩
theorem Ends.drop {n:Nat} {t o:List Int} (h:Ends n t o):o.drop (n - t.length)=t:=by
  obtain ⟨h1,h2,s,rfl⟩:=h
  have:n - t.length=s.length:=by rw [List.length_append] at h2; omega
  rw [this]; simp
theorem isB_kid {n:Nat} {t:List Int} (ht:isB n t) {c:Int} (hc:c∈chL n t):isB n (c::t):=by
  obtain ⟨h1,h2⟩:=chL_mem.1 hc
  exact ⟨List.nodup_cons.2 ⟨h2,ht.1⟩,fun x hx=>by
    rcases List.mem_cons.1 hx with rfl | hx
    · exact h1
    · exact ht.2 x hx⟩
theorem val_le {n:Nat} (gs:List Grp) (v:Int):∀ (k:Nat) (t:List Int),isB n t→0 < t.length→n < k+t.length→((valP n gs k t).1≤v↔∃ o,Ends n t o∧∀ j,j≤n - t.length→ov n gs (o.drop j)≤v)
  | 0,t,ht,_,hk=>by
    have:=nodup_len n t ht.1 ht.2
    omega
  | k+1,t,ht,h0,hk=>by
    have htl:=nodup_len n t ht.1 ht.2
    by_cases hl:t.length=n
    · rw [valP_one gs k hl]
      constructor
      · intro h
        refine ⟨t,⟨ht,hl,[],rfl⟩,fun j hj=>?_⟩
        have:j=0:=by omega
        subst this
        exact h
      · rintro ⟨o,⟨h1,h2,s,rfl⟩,h4⟩
        have:s=[]:=List.eq_nil_of_length_eq_zero (by rw [List.length_append] at h2; omega)
        subst this
        exact h4 0 (by omega)
    · have hlt:t.length < n:=by omega
      rw [valP_kids gs k hl]
      obtain ⟨f,hf⟩:∃ f:Int→Int,(fun c=>(valP n gs k (c::t)).1)=f:=⟨_,rfl⟩
      rw [hf]
      have hf':∀ c,f c=(valP n gs k (c::t)).1:=fun c=>by rw [← hf]
      have hsplit:(if (ownP n gs t).2.1 < minF f (chL n t) then minF f (chL n t) else (ownP n gs t).2.1)≤v↔ov n gs t≤v∧minF f (chL n t)≤v:=by
        unfold ov
        split <;> omega
      rw [hsplit]
      constructor
      · rintro ⟨h1,h2⟩
        obtain ⟨c,hc,he⟩:=minF_at (f:=f) (chL_ne ht hlt)
        rw [he,hf'] at h2
        obtain ⟨o,ho,h4⟩:=(val_le gs v k (c::t) (isB_kid ht hc) (by simp) (by simp; omega)).1 h2
        obtain ⟨o1,o2,s,rfl⟩:=ho
        have hE:Ends n t (s++c::t):=⟨o1,o2,s++[c],by simp⟩
        refine ⟨_,hE,fun j hj=>?_⟩
        rcases Nat.lt_or_ge j (n - t.length) with h | h
        · exact h4 j (by simp only [List.length_cons]; omega)
        · have:j=n - t.length:=by omega
          rw [this,hE.drop]; exact h1
      · rintro ⟨o,ho,h4⟩
        refine ⟨by have:=h4 (n - t.length) (Nat.le_refl _); rwa [ho.drop] at this,?_⟩
        obtain ⟨c,hc,hE⟩:=ho.step hlt
        refine Int.le_trans (minF_le hc) ?_
        rw [hf']
        exact (val_le gs v k (c::t) (isB_kid ht hc) (by simp) (by simp; omega)).2 ⟨o,hE,fun j hj=>h4 j (by simp only [List.length_cons] at hj; omega)⟩
end Go.Proofs.Ytieoleabnjdkfaa
set_option linter.unusedSimpArgs false
set_option linter.unusedVariables false
open Go Go.Proofs Go.X
namespace Go.Proofs.Ytieoleabnjdkfaa
def ascA (l:List Asn):Prop:=l.Pairwise fun a b=>cmpA a b < 0
theorem cmpA_refl (a:Asn):cmpA a a=0:=(cmpA_zero _ _).2 rfl
theorem insA_mem' {out:List Asn} {a x:Asn}:x∈insA out a↔x=a∨x∈out:=by
  refine ⟨insA_mem,fun h=>?_⟩
  unfold insA
  split
  · rename_i hc
    rcases h with rfl | h
    · have:=(cmpA_zero _ _).1 hc.2
      rw [← this,getD_get _ _ hc.1]
      exact List.getElem_mem _
    · exact h
  · rcases h with rfl | h
    · simp
    · rw [← List.take_append_drop (insAt out a) out] at h
      rcases List.mem_append.1 h with h | h
      · exact List.mem_append.2 (.inl (List.mem_append.2 (.inl h)))
      · exact List.mem_append.2 (.inr h)
theorem insA_asc {out:List Asn} {a:Asn} (h:ascA out):ascA (insA out a):=by
  unfold insA
  split
  · exact h
  · rename_i hc
    have hk:=firstN_le (fun k=>!decide (cmpA (out.getD k zA) a < 0)) out.length
    have hlow:∀ x∈out.take (insAt out a),cmpA x a < 0:=fun x hx=>by
      obtain ⟨i,hi,rfl⟩:=List.getElem_of_mem hx
      rw [List.length_take] at hi
      have:=firstN_lt (fun k=>!decide (cmpA (out.getD k zA) a < 0)) out.length i (by unfold insAt at hi; omega)
      simp only [Bool.not_eq_false',decide_eq_true_eq] at this
      rw [getD_get _ _ (by omega)] at this
      rw [List.getElem_take]
      exact this
    have hhigh:∀ x∈out.drop (insAt out a),cmpA a x < 0:=by
      rcases Nat.lt_or_ge (insAt out a) out.length with hlt | hge
      · have h1:=firstN_at (fun k=>!decide (cmpA (out.getD k zA) a < 0)) out.length (by unfold insAt at hlt; exact hlt)
        simp only [Bool.not_eq_true',decide_eq_false_iff_not] at h1
        have h2:¬ cmpA (out.getD (insAt out a) zA) a=0:=fun e=>hc ⟨hlt,e⟩
        have h3:cmpA a (out.getD (insAt out a) zA) < 0:=by
          have:=cmpA_anti a (out.getD (insAt out a) zA)
          unfold insAt at h2 this ⊢
          omega
        intro x hx
        have hd:out.drop (insAt out a)=out.getD (insAt out a) zA::out.drop (insAt out a+1):=by
          rw [List.drop_eq_getElem_cons hlt,getD_get _ _ hlt]
        have hp:ascA (out.drop (insAt out a)):=h.sublist (List.drop_sublist _ _)
        rw [hd] at hx hp
        rcases List.mem_cons.1 hx with rfl | hx
        · exact h3
        · exact cmpA_trans h3 ((List.pairwise_cons.1 hp).1 x hx)
      · intro x hx
        rw [List.drop_of_length_le hge] at hx
        simp at hx
    refine List.pairwise_append.2 ⟨List.pairwise_append.2 ⟨h.sublist (List.take_sublist _ _),List.pairwise_singleton _ _,fun x hx y hy=>by rw [List.mem_singleton.1 hy]; exact hlow x hx⟩,h.sublist (List.drop_sublist _ _),fun x hx y hy=>?_⟩
    rcases List.mem_append.1 hx with hx | hx
    · exact cmpA_trans (hlow x hx) (hhigh y hy)
    · rw [List.mem_singleton.1 hx]; exact hhigh y hy
theorem sorted_all:∀ (l out:List Asn),ascA out→ascA (l.foldl insA out)∧∀ x,x∈l.foldl insA out↔x∈out∨x∈l
  | [],out,h=>⟨h,fun x=>by simp⟩
  | a::l,out,h=>by
    obtain ⟨h1,h2⟩:=sorted_all l (insA out a) (insA_asc h)
    refine ⟨h1,fun x=>?_⟩
    rw [List.foldl_cons,h2,insA_mem',List.mem_cons]
    constructor
    · rintro ((h | h) | h)
      · exact .inr (.inl h)
      · exact .inl h
      · exact .inr (.inr h)
    · rintro (h | h | h)
      · exact .inl (.inr h)
      · exact .inl (.inl h)
      · exact .inr h
theorem sortedP_asc (l:List Asn):ascA (sortedP l):=(sorted_all l [] List.Pairwise.nil).1
theorem sortedP_iff {l:List Asn} {x:Asn}:x∈sortedP l↔x∈l:=by
  have:=(sorted_all l [] List.Pairwise.nil).2 x
  unfold sortedP
  rw [this]
  simp
theorem ascA_uniq:∀ {a b:List Asn},ascA a→ascA b→(∀ x,x∈a↔x∈b)→a=b
  | [],[],_,_,_=>rfl
  | [],y::b,_,_,h=>absurd ((h y).2 (by simp)) (by simp)
  | x::a,[],_,_,h=>absurd ((h x).1 (by simp)) (by simp)
  | x::a,y::b,ha,hb,h=>by
    have ha':=List.pairwise_cons.1 ha
    have hb':=List.pairwise_cons.1 hb
    have hxy:x=y:=by
      rcases List.mem_cons.1 ((h x).1 (by simp)) with h1 | h1
      · exact h1
      · rcases List.mem_cons.1 ((h y).2 (by simp)) with h2 | h2
        · exact h2.symm
        · have:=cmpA_trans (ha'.1 y h2) (hb'.1 x h1)
          rw [cmpA_refl] at this
          omega
    subst hxy
    have hnot:∀ {l:List Asn},(∀ z∈l,cmpA x z < 0)→x ∉ l:=fun hl hm=>by have:=hl x hm; rw [cmpA_refl] at this; omega
    rw [ascA_uniq ha'.2 hb'.2 fun z=>by
      have:=h z
      rw [List.mem_cons,List.mem_cons] at this
      constructor
      · intro hz
        rcases this.1 (.inr hz) with h1 | h1
        · rw [h1] at hz; exact absurd hz (hnot ha'.1)
        · exact h1
      · intro hz
        rcases this.2 (.inr hz) with h1 | h1
        · rw [h1] at hz; exact absurd hz (hnot hb'.1)
        · exact h1]
theorem setTo_le {n:Nat} (gs:List Grp) (wn:Int) {v:Int} (hv:v < 100000):∀ i,((setTo n gs wn i).1≤v↔∃ c:Nat,c < i∧(c:Int) ≠ wn∧(valP n gs 10 [(c:Int)]).1≤v)
  | 0=>by
    simp [setTo,idL]
    omega
  | i+1=>by
    have ih:=setTo_le gs wn hv (n:=n) i
    rw [setTo_succ]
    unfold setStep
    by_cases c1:(i:Int)=wn
    · rw [if_pos c1,ih]
      constructor
      · rintro ⟨c,h1,h2,h3⟩; exact ⟨c,by omega,h2,h3⟩
      · rintro ⟨c,h1,h2,h3⟩
        have:c ≠ i:=fun e=>h2 (by rw [e]; exact c1)
        exact ⟨c,by omega,h2,h3⟩
    · rw [if_neg c1]
      have:(if (valP n gs 10 [(i:Int)]).1 < (setTo n gs wn i).1 then (valP n gs 10 [(i:Int)]).1 else (setTo n gs wn i).1)≤v↔(valP n gs 10 [(i:Int)]).1≤v∨(setTo n gs wn i).1≤v:=by split <;> omega
      simp only
      rw [this,ih]
      constructor
      · rintro (h | ⟨c,h1,h2,h3⟩)
        · exact ⟨i,by omega,c1,h⟩
        · exact ⟨c,by omega,h2,h3⟩
      · rintro ⟨c,h1,h2,h3⟩
        by_cases e:c=i
        · subst e; exact .inl h3
        · exact .inr ⟨c,by omega,h2,h3⟩
theorem setTo_list {n:Nat} (gs:List Grp) (wn:Int) {a:Asn}:∀ i,(a∈(setTo n gs wn i).2↔∃ c:Nat,c < i∧(c:Int) ≠ wn∧a∈(valP n gs 10 [(c:Int)]).2)
  | 0=>by simp [setTo,idL]
  | i+1=>by
    have ih:=setTo_list gs wn (a:=a) (n:=n) i
    rw [setTo_succ]
    unfold setStep
    by_cases c1:(i:Int)=wn
    · rw [if_pos c1,ih]
      constructor
      · rintro ⟨c,h1,h2,h3⟩; exact ⟨c,by omega,h2,h3⟩
      · rintro ⟨c,h1,h2,h3⟩
        have:c ≠ i:=fun e=>h2 (by rw [e]; exact c1)
        exact ⟨c,by omega,h2,h3⟩
    · rw [if_neg c1,List.mem_append,ih]
      constructor
      · rintro (⟨c,h1,h2,h3⟩ | h)
        · exact ⟨c,by omega,h2,h3⟩
        · exact ⟨i,by omega,c1,h⟩
      · rintro ⟨c,h1,h2,h3⟩
        by_cases e:c=i
        · subst e; exact .inr h3
        · exact .inl ⟨c,by omega,h2,h3⟩
theorem setTo_cap {n:Nat} (gs:List Grp) (wn:Int):∀ i,(setTo n gs wn i).1≤100000
  | 0=>by simp [setTo,idL]
  | i+1=>by
    have:=setTo_cap gs wn (n:=n) i
    rw [setTo_succ]
    unfold setStep
    split
    · exact this
    · simp only; split <;> omega
def OtherO (n:Nat) (wn:Int) (o:List Int):Prop:=isB n o∧o.length=n∧o.getD (n - 1) 0 ≠ wn
theorem ends_one {n:Nat} (h1:1≤n) {o:List Int} {c:Int}:Ends n [c] o↔isB n o∧o.length=n∧o.getD (n - 1) 0=c:=by
  constructor
  · rintro ⟨a,b,s,rfl⟩
    have:n - 1=s.length:=by rw [List.length_append] at b; simp at b; omega
    exact ⟨a,b,by rw [this]; simp [List.getD_eq_getElem?_getD]⟩
  · rintro ⟨a,b,c1⟩
    have hne:o ≠ []:=fun e=>by rw [e] at b; simp at b; omega
    obtain ⟨s,d,rfl⟩:∃ s d,o=s++[d]:=⟨o.dropLast,o.getLast hne,(List.dropLast_concat_getLast hne).symm⟩
    have:n - 1=s.length:=by rw [List.length_append] at b; simp at b; omega
    rw [this] at c1
    have hd:d=c:=by simpa [List.getD_eq_getElem?_getD] using c1
    exact ⟨a,b,s,by rw [hd]⟩
theorem setP_le {n:Nat} (h1:1≤n) (hn:n≤7) {gs:List Grp} (hp:pileB (n:Int) gs=true) {wn:Int} (hw:0≤wn∧wn < (n:Int)) {v:Int} (h0:0≤v) (hv:v < 100000) :
    (setP n gs wn).1≤v↔∃ o,OtherO n wn o∧∀ j,j < n→ov n gs (o.drop j)≤v:=by
  unfold setP
  rw [if_pos ⟨hp,hw⟩]
  simp only
  have e:(if (setTo n gs wn n).1 < 0 then 0 else (setTo n gs wn n).1)≤v↔(setTo n gs wn n).1≤v:=by split <;> omega
  rw [e,setTo_le gs wn hv]
  constructor
  · rintro ⟨c,c1,c2,c3⟩
    obtain ⟨o,ho,h4⟩:=(val_le gs v 10 [(c:Int)] (isB_one c1) (by simp) (by simp; omega)).1 c3
    obtain ⟨o1,o2,o3⟩:=(ends_one h1).1 ho
    exact ⟨o,⟨o1,o2,by rw [o3]; exact c2⟩,fun j hj=>h4 j (by simp; omega)⟩
  · rintro ⟨o,⟨o1,o2,o3⟩,h4⟩
    have hm:o.getD (n - 1) 0∈o:=by rw [getD_get _ _ (by omega)]; exact List.getElem_mem _
    have hb:=o1.2 _ hm
    refine ⟨(o.getD (n - 1) 0).toNat,by omega,by rw [show (((o.getD (n - 1) 0).toNat:Nat):Int)=o.getD (n - 1) 0 by omega]; exact o3,?_⟩
    rw [show (((o.getD (n - 1) 0).toNat:Nat):Int)=o.getD (n - 1) 0 by omega]
    exact (val_le gs v 10 [o.getD (n - 1) 0] ⟨by simp,fun x hx=>by rw [List.mem_singleton.1 hx]; exact hb⟩ (by simp) (by simp; omega)).2 ⟨o,(ends_one h1).2 ⟨o1,o2,rfl⟩,fun j hj=>h4 j (by simp at hj; omega)⟩
theorem setP_bounds {n:Nat} (gs:List Grp) (wn:Int):0≤(setP n gs wn).1∧(setP n gs wn).1≤100000:=by
  unfold setP
  split
  · have:=setTo_cap gs wn (n:=n) n
    simp only
    split <;> omega
  · simp
end Go.Proofs.Ytieoleabnjdkfaa
set_option linter.unusedSimpArgs false
set_option linter.unusedVariables false
namespace Go.X
open Go Go.RowKit
section
variable {P:Program}
theorem region_inv (hm:P.follows .mixedOrders=true) {id:Nat} {ops:Array Oper} {Q:Exit→Act→World→Prop} (J:(Nat→Bool)→Act→World→Prop)
    (hac:∀ k o,ops[k]? = some o→o.guard=none∧∀ e∈o.after,Region.binds .any e=true→e.on < k)
    (step:∀ (D:Nat→Bool) i o a w,ops[i]? = some o→D i=false→(∀ e∈o.after,Region.binds .any e=true→D e.on=true)→J D a w→o.wp P a w (fun a' w'=>J (fun k=>D k || k == i) a' w') Q)
    (fin:∀ (D:Nat→Bool) a w,(∀ k,k < ops.size→D k=true)→J D a w→Q .normal a w)
    {a:Act} {w:World} (h0:J (fun _=>false) a w.drew):(Code.region id ops true).wp P Q a w:=by
  have hready:∀ (listed:Array Bool),listed.size=ops.size→Region.ready .any ops listed=[]→∀ k,k < ops.size→listed.getD k true=true:=fun listed hs hr=>by
    intro k
    induction k using Nat.strongRecOn with
    | _ k ih =>
      intro hk
      cases hl:listed.getD k true with
      | true=>rfl
      | false =>
        exfalso
        have hmem:k∈Region.ready .any ops listed:=mem_ready.2 ⟨hl,ops[k],Array.getElem?_eq_getElem hk,fun e he hb=>by
          have hlt:=(hac k _ (Array.getElem?_eq_getElem hk)).2 e he hb
          have:=ih e.on hlt (by omega)
          simpa [hs,show e.on < ops.size from by omega] using this⟩
        rw [hr] at hmem
        cases hmem
  have hdone:∀ (listed:Array Bool) (k:Nat),listed.size=ops.size→k < ops.size→listed.getD k true=true→listed.getD k false=true:=fun listed k hs hk h=>by simpa [hs,hk] using h
  have key:∀ (fuel:Nat) (listed:Array Bool) (a:Act) (w:World),listed.size=ops.size→((List.range ops.size).filter fun k=>!listed.getD k true).length=fuel →
      J (fun k=>listed.getD k false) a w→wpAny P .any ops Q fuel listed a w:=by
    intro fuel
    induction fuel with
    | zero =>
      intro listed a w hs hf h
      have hall:∀ k,k < ops.size→listed.getD k true=true:=fun k hk=>by
        have:=List.eq_nil_of_length_eq_zero hf
        rw [List.filter_eq_nil_iff] at this
        simpa using this k (List.mem_range.2 hk)
      refine ⟨?_,fin _ a w (fun k hk=>hdone listed k hs hk (hall k hk)) h⟩
      apply List.eq_nil_iff_forall_not_mem.2
      intro k hk
      obtain ⟨h1,o,ho,_⟩:=mem_ready.1 hk
      rw [hall k (Array.getElem?_eq_some_iff.1 ho).1] at h1
      cases h1
    | succ fuel ih =>
      intro listed a w hs hf h
      refine ⟨fun hr=>fin _ a w (fun k hk=>hdone listed k hs hk (hready listed hs hr k hk)) h,fun i hi=>?_⟩
      obtain ⟨hun,o,ho,hedge⟩:=mem_ready.1 hi
      have hin:i < ops.size:=(Array.getElem?_eq_some_iff.1 ho).1
      have hiun:listed.getD i false=false:=by simpa [hs,hin] using hun
      have hset:(listed.setIfInBounds i true).size=ops.size:=by simpa using hs
      have hwant:Region.wanted o (yielded ops a.tmps)=true:=by unfold Region.wanted; rw [(hac i o ho).1]
      unfold wpOp
      rw [ho]
      show if Region.wanted o (yielded ops a.tmps)=true then _ else _
      rw [if_pos hwant]
      refine .inl (Oper.wp_mono (fun a' w' h'=>?_) (step _ i o a w ho hiun hedge h))
      refine ih _ a' w' hset ?_ ?_
      · have key:∀ (l:List Nat),l.Nodup→i∈l→(l.filter fun k=>!listed.getD k true).length=(l.filter fun k=>!(listed.setIfInBounds i true).getD k true).length+1:=by
          intro l
          induction l with
          | nil=>intro _ h; cases h
          | cons x l ih2 =>
            intro hnd hmem
            obtain ⟨hx,hnd'⟩:=List.nodup_cons.1 hnd
            rw [List.filter_cons,List.filter_cons]
            by_cases hxi:x=i
            · subst hxi
              have e1:(!listed.getD x true)=true:=by rw [hun]; rfl
              have e2:(!(listed.setIfInBounds x true).getD x true)=false:=by simp [hs,hin]
              rw [if_pos e1,e2]
              simp only [Bool.false_eq_true,if_false,List.length_cons]
              congr 1
              congr 1
              apply List.filter_congr
              intro k hk
              have hkx:x ≠ k:=fun he=>hx (he ▸ hk)
              rw [getD_set_ne true hkx]
            · have hmem':i∈l:=(List.mem_cons.1 hmem).resolve_left (fun e=>hxi e.symm)
              have:=ih2 hnd' hmem'
              rw [getD_set_ne true (Ne.symm hxi)]
              split
              · rw [List.length_cons,List.length_cons,this]
              · exact this
        have:=key _ List.nodup_range (List.mem_range.2 hin)
        omega
      · have e:(fun k=>(listed.setIfInBounds i true).getD k false)=fun k=>listed.getD k false || k == i:=by
          funext k
          by_cases hki:k=i
          · subst hki; simp [hs,hin]
          · rw [getD_set_ne false (Ne.symm hki)]
            simp [hki]
        rw [e]
        exact h'
  refine wp_region_any hm ?_
  have hrep:∀ (k:Nat) (d:Bool),k < ops.size→(Array.replicate ops.size false).getD k d=false:=fun k d hk=>by simp [hk]
  have hself:((List.range ops.size).filter fun k=>!(Array.replicate ops.size false).getD k true)=List.range ops.size:=by
    rw [List.filter_eq_self]
    intro k hk
    rw [List.mem_range] at hk
    rw [hrep k true hk]; rfl
  refine key ops.size _ a _ (by simp) (by rw [hself,List.length_range]) ?_
  have e:(fun k=>(Array.replicate ops.size false).getD k false)=fun _=>false:=by
    funext k
    by_cases hk:k < ops.size
    · exact hrep k false hk
    · simp [hk]
  rw [e]
  exact h0
end
end Go.X
