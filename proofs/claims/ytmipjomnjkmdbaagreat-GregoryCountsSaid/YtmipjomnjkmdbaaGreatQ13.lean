/- Part 13 of what stands below the statement. -/
import Derived.Test.YtmipjomnjkmdbaaGreatQ12
set_option linter.unusedSimpArgs false
set_option linter.unusedVariables false
open Go Go.Proofs Go.X
namespace Go.Proofs.YtmipjomnjkmdbaaGreat
def zcl (p:Nat→Bool):Nat→Nat
  | 0=>0
  | n+1=>if zcl p n < n then zcl p n else if p n then n else n+1
theorem zfk (p:Nat→Bool):∀ n,zcl p n≤n
  | 0=>Nat.le_refl 0
  | n+1=>by
    unfold zcl
    have:=zfk p n
    split
    · omega
    · split <;> omega
theorem zcz (p:Nat→Bool):∀ n i,i < zcl p n→p i=false
  | 0,i,h=>by simp [zcl] at h
  | n+1,i,h=>by
    unfold zcl at h
    have hle:=zfk p n
    split at h
    · exact zcz p n i h
    · split at h
      · rename_i h1 h2
        exact zcz p n i (by omega)
      · rename_i h1 h2
        rcases Nat.lt_or_ge i n with h3 | h3
        · exact zcz p n i (by omega)
        · have:i=n:=by omega
          subst this
          simpa using h2
theorem zfl (p:Nat→Bool):∀ n,zcl p n < n→p (zcl p n)=true
  | 0,h=>by simp at h
  | n+1,h=>by
    unfold zcl at h ⊢
    have hle:=zfk p n
    split
    · rename_i h1; exact zfl p n h1
    · rename_i h1
      rw [if_neg h1] at h
      split
      · rename_i h2; exact h2
      · rename_i h2; rw [if_neg h2] at h; omega
theorem zox (p:Nat→Bool) (n:Nat):¬ zcl p n < n↔∀ i,i < n→p i=false:=by
  constructor
  · intro h i hi
    have:=zfk p n
    exact zcz p n i (by omega)
  · intro h hlt
    have:=zfl p n hlt
    rw [h _ hlt] at this
    cases this
def badAt (n:Int) (l:List Int) (i:Nat):Bool:=decide (l.getD i 0 < 0) || decide (n≤l.getD i 0) || (decide (0 < i) && decide (l.getD i 0≤l.getD (i - 1) 0))
def asc (n:Int) (l:List Int):Bool:=decide (¬ zcl (badAt n l) l.length < l.length)
def validB (n:Int) (a:Int × (Int × (Int × (List Int × Int)))):Bool :=
  !(decide (n < 1)) && !(decide (7 < n)) && !(decide (a.2.1 < 0)) && !(decide (n≤a.2.1)) && !(decide (a.2.2.1 < 0)) && !(decide (n≤a.2.2.1)) &&
  (if a.1=1 then decide (a.2.1 ≠ a.2.2.1) && decide (a.2.2.2.1.length=0) && decide (a.2.2.2.2=0)
   else if a.1=2 then decide (a.2.1 ≠ a.2.2.1) && decide (a.2.2.2.2=0) && asc n a.2.2.2.1 && decide (a.2.1∈a.2.2.2.1) && decide (a.2.2.1∈a.2.2.2.1)
   else if a.1=3 then decide (a.2.2.1=0) && decide (a.2.2.2.1.length=0) && decide (2≤a.2.2.2.2) && decide (a.2.2.2.2≤6) else false)
end Go.Proofs.YtmipjomnjkmdbaaGreat
set_option linter.unusedSimpArgs false
set_option linter.unusedVariables false
open Go Go.Proofs Go.X
namespace Go.Proofs.YtmipjomnjkmdbaaGreat
def zjd (l:List Int):Nat→List Bool
  | 0=>[false,false,false,false,false,false,false]
  | i+1=>(zjd l i).set (Int.toNat (l.getD i 0)) true
def badB (l:List Int) (i:Nat):Bool:=decide (l.getD i 0 < 0) || decide (7≤l.getD i 0) || (zjd l i).getD (Int.toNat (l.getD i 0)) false
def ballotB (l:List Int):Bool:=decide (¬ zcl (badB l) l.length < l.length)
def vBeats (a b:Int) (l:List Int):Int :=
  let x:=if zas (fun z=>decide (a=z)) l < l.length then (zas (fun z=>decide (a=z)) l:Int) else -1
  let y:=if zas (fun z=>decide (b=z)) l < l.length then (zas (fun z=>decide (b=z)) l:Int) else -1
  if x=0 then 2 else if 0≤y∧(x < 0∨y < x) then 0 else 1
def vNext (a b:Int) (m l:List Int):Int :=
  let r:=zas (fun c=>decide (c∈m)) l
  if r < l.length then (if l.getD r 0=a then 2 else if l.getD r 0=b then 0 else 1) else 1
def vQuota (a q:Int) (l:List Int):Int:=if l.length=0 then 1 else if l.getD 0 0=a then q else 0
def val (a:Int × (Int × (Int × (List Int × Int)))) (l:List Int):Int :=
  let p:=if ballotB l then l else []
  if validB 7 a then (if a.1=1 then vBeats a.2.1 a.2.2.1 p else if a.1=2 then vNext a.2.1 a.2.2.1 a.2.2.2.1 p else vQuota a.2.1 a.2.2.2.2 p) else 0
end Go.Proofs.YtmipjomnjkmdbaaGreat
set_option linter.unusedSimpArgs false
set_option linter.unusedVariables false
open Go Go.Proofs Go.X
namespace Go.Proofs.YtmipjomnjkmdbaaGreat
def outs (n:Int) (l:List Int):Nat→List Int
  | 0=>[]
  | i+1=>if l.getD i 0 % n∈outs n l i then outs n l i else outs n l i++[l.getD i 0 % n]
def bal (n:Int) (l:List Int):List Int:=outs n l (zcl (fun i=>decide (n≤((outs n l i).length:Int))) l.length)
theorem outs_len (n:Int) (l:List Int):∀ i,(outs n l i).length≤i
  | 0=>Nat.le_refl 0
  | i+1=>by
    have:=outs_len n l i
    unfold outs
    split
    · omega
    · simp; omega
theorem outs_in {n:Int} (hn:0 < n) (l:List Int):∀ i,∀ x∈outs n l i,0≤x∧x < n
  | 0,x,hx=>by simp [outs] at hx
  | i+1,x,hx=>by
    unfold outs at hx
    split at hx
    · exact outs_in hn l i x hx
    · rcases List.mem_append.1 hx with hx | hx
      · exact outs_in hn l i x hx
      · simp at hx
        rw [hx]
        exact zkq _ hn
theorem zkn (n:Int) (l:List Int):∀ i,(outs n l i).Nodup
  | 0=>List.nodup_nil
  | i+1=>by
    unfold outs
    split
    · exact zkn n l i
    · rename_i h
      refine List.nodup_append.2 ⟨zkn n l i,by simp,fun x hx y hy=>?_⟩
      simp at hy
      rintro rfl
      exact h (by rw [List.getD_eq_getElem?_getD,← hy]; exact hx)
theorem d99_eq {n:Int} {l:List Int} (hn:0 < n) (hn':n≤1000) (hl:WT (.slice (.int .i64)) l):d99 n l=some (bal n l):=by
  unfold d99 bal
  have hlen:=wt_len hl
  have hle:=zfk (fun i=>decide (n≤((outs n l i).length:Int))) l.length
  have hstep:∀ i:Nat,i < l.length→w ((i:Int)+1)=((i+1:Nat):Int):=fun i hi=>by rw [w_id (by omega) (by omega)]; omega
  refine zac (b:=outs n l (zcl (fun i=>decide (n≤((outs n l i).length:Int))) l.length)) (fun i=>(n,l,outs n l i,(i:Int))) (zcl (fun i=>decide (n≤((outs n l i).length:Int))) l.length) rfl (fun i hi=>?_) ?_ rfl
  · have h1:=zcz _ _ i hi
    simp only [decide_eq_false_iff_not] at h1
    have h1':((outs n l i).length:Int) < n:=by omega
    have h2:(i:Int) < (l.length:Int):=by omega
    have h3:(0:Int)≤(i:Int):=by omega
    have hx:WT (.int .i64) (l.getD i 0):=by
      rw [List.getD_eq_getElem?_getD,List.getElem?_eq_getElem (by omega)]
      exact hl.2 _ (List.getElem_mem _)
    have hlim:((outs n l i).length:Int)+(([l.getD i 0 % n]:List Int).length:Int)≤LIM:=by rw [zge]; simp; omega
    have ho:=outs_len n l i
    simp only [h2,h3,h1',decide_true,cond_true,Bool.and_self,letJ,Int.toNat_natCast,znn hx hn (by omega),Option.bind_some,d49_eq (l:=outs n l i) _ (by omega),hstep i (by omega),hlim]
    have e:outs n l (i+1)=if l.getD i 0 % n∈outs n l i then outs n l i else outs n l i++[l.getD i 0 % n]:=rfl
    by_cases c:l.getD i 0 % n∈outs n l i
    · rw [if_pos c] at e
      simp only [c,e]; rfl
    · rw [if_neg c] at e
      simp only [c,e]; rfl
  · by_cases h:zcl (fun i=>decide (n≤((outs n l i).length:Int))) l.length < l.length
    · have h1:=zfl _ _ h
      simp only [decide_eq_true_eq] at h1
      have h1':¬ ((outs n l (zcl (fun i=>decide (n≤((outs n l i).length:Int))) l.length)).length:Int) < n:=by omega
      have h2:((zcl (fun i=>decide (n≤((outs n l i).length:Int))) l.length:Nat):Int) < (l.length:Int):=by omega
      simp only [h2,h1',letJ,decide_true,decide_false,cond_true,cond_false]
    · have h2:¬ ((zcl (fun i=>decide (n≤((outs n l i).length:Int))) l.length:Nat):Int) < (l.length:Int):=by omega
      simp only [h2,letJ,decide_false,cond_false]
end Go.Proofs.YtmipjomnjkmdbaaGreat
set_option linter.unusedSimpArgs false
set_option linter.unusedVariables false
open Go Go.Proofs Go.X
namespace Go.Proofs.YtmipjomnjkmdbaaGreat
theorem zfc {α β γ:Type} {f:α→Option (α ⊕ β)} {k:β→Option γ} {a0:α} {r:Option γ} (st:Nat→α) (p:Nat→Bool) (n:Nat) (bx:Nat→β) (e:β) (h0:st 0=a0)
    (hs:∀ i,i < n→f (st i)=if p i then some (.inr (bx i)) else some (.inl (st (i+1)))) (he:f (st n)=some (.inr e))
    (h1:∀ i,i < n→p i=true→(∀ j,j < i→p j=false)→k (bx i)=r) (h2:(∀ i,i < n→p i=false)→k e=r):(zae f a0).bind k=r:=by
  have hle:=zfk p n
  by_cases h:zcl p n < n
  · refine zac (b:=bx (zcl p n)) st (zcl p n) h0 (fun i hi=>?_) ?_ (h1 _ h (zfl p n h) (zcz p n))
    · have:=hs i (by omega)
      rw [zcz p n i hi] at this
      exact this
    · have:=hs _ h
      rw [zfl p n h] at this
      exact this
  · have hall:=(zox p n).1 h
    refine zac (b:=e) st n h0 (fun i hi=>?_) he (h2 hall)
    have:=hs i hi
    rw [hall i hi] at this
    exact this
theorem zbw {α:Type} (l:List α) (d:α) {i:Nat} (h:i < l.length):l.getD i d=l[i]:=by
  rw [List.getD_eq_getElem?_getD,List.getElem?_eq_getElem h,Option.getD_some]
def isB (n:Int) (l:List Int):Prop:=l.Nodup∧∀ x∈l,0≤x∧x < n
instance (n:Int) (l:List Int):Decidable (isB n l):=inferInstanceAs (Decidable (_∧_))
theorem zqm (n:Int) (l:List Int):isB n l↔∀ i,i < l.length→0≤l.getD i 0∧l.getD i 0 < n∧l.getD i 0 ∉ l.take i:=by
  constructor
  · rintro ⟨h1,h2⟩ i hi
    rw [zbw l 0 hi]
    refine ⟨(h2 _ (List.getElem_mem hi)).1,(h2 _ (List.getElem_mem hi)).2,fun hm=>?_⟩
    obtain ⟨j,hj,e⟩:=List.mem_take_iff_getElem.1 hm
    exact List.pairwise_iff_getElem.1 h1 j i (by omega) hi (by omega) e
  · intro h
    refine ⟨List.pairwise_iff_getElem.2 fun i j hi hj hij e=>?_,fun x hx=>?_⟩
    · have:=(h j hj).2.2
      rw [zbw l 0 hj,← e] at this
      exact this (List.mem_take_iff_getElem.2 ⟨i,by omega,rfl⟩)
    · obtain ⟨i,hi,rfl⟩:=List.getElem_of_mem hx
      have:=h i hi
      rw [zbw l 0 hi] at this
      exact ⟨this.1,this.2.1⟩
theorem zoo (l:List Int):∀ i,(zjd l i).length=7
  | 0=>rfl
  | i+1=>by unfold zjd; rw [List.length_set]; exact zoo l i
theorem zmp (l:List Int):∀ i,i≤l.length→(∀ j,j < i→0≤l.getD j 0∧l.getD j 0 < 7)→∀ c:Nat,c < 7→(zjd l i).getD c false=decide ((c:Int)∈l.take i)
  | 0,_,_,c,hc=>by
    have:c=0∨c=1∨c=2∨c=3∨c=4∨c=5∨c=6:=by omega
    rcases this with h | h | h | h | h | h | h <;> subst h <;> rfl
  | i+1,hi,hb,c,hc=>by
    have ih:=zmp l i (by omega) (fun j hj=>hb j (by omega)) c hc
    have hl:=zoo l i
    have hx:=hb i (by omega)
    unfold zjd
    rw [Bool.eq_iff_iff,decide_eq_true_iff] at ih
    rw [Bool.eq_iff_iff,decide_eq_true_iff,List.getD_eq_getElem?_getD,List.getElem?_set,hl,List.take_add_one,List.mem_append,← ih,List.getElem?_eq_getElem (by omega:i < l.length)]
    rw [zbw l 0 (by omega:i < l.length)] at hx ⊢
    generalize l[i]=x at hx
    by_cases e:x.toNat=c
    · have e':(c:Int)=x:=by omega
      rw [if_pos e,if_pos (by omega)]
      simp [e']
    · have e':¬ (c:Int)=x:=by omega
      rw [if_neg e]
      simp [e',List.getD_eq_getElem?_getD]
theorem zkw {i n:Nat} (h:i≤n):zdg 0 (i:Int) n=true:=by
  unfold zdg
  simp only [Bool.and_eq_true,decide_eq_true_eq]
  omega
theorem d32_eq (n:Int) {l:List Int} (hl:l.length≤281474976710656):d32 n l=some (decide (isB n l)):=by
  unfold d32
  have hstep:∀ i:Nat,i < l.length→w ((i:Int)+1)=((i+1:Nat):Int):=fun i hi=>by rw [w_id (by omega) (by omega)]; omega
  refine zfc (fun i=>(n,l,(i:Int))) (fun i=>decide (l.getD i 0 < 0) || (decide (n≤l.getD i 0) || decide (l.getD i 0∈l.take i))) l.length (fun _=>.inr false) (.inl ()) rfl (fun i hi=>?_) ?_ (fun i hi hp hj=>?_) (fun hall=>?_)
  · have h2:(i:Int) < (l.length:Int):=by omega
    have h3:(0:Int)≤(i:Int):=by omega
    simp only [h2,h3,letJ,decide_true,cond_true,Bool.and_self,Int.toNat_natCast,hstep i hi,zkw (Nat.le_of_lt hi),List.drop_zero,d49_eq (l:=l.take i) _ (by simp; omega),Option.bind_some]
    by_cases c1:l.getD i 0 < 0
    · simp only [c1]; rfl
    · by_cases c2:n≤l.getD i 0
      · simp only [c1,c2]; rfl
      · by_cases c3:l.getD i 0∈l.take i
        · simp only [c1,c2,c3]; rfl
        · simp only [c1,c2,c3]; rfl
  · simp
  · have:¬ isB n l:=fun h=>by
      have:=(zqm n l).1 h i hi
      simp only [Bool.or_eq_true,decide_eq_true_eq] at hp
      rcases hp with hp | hp | hp
      · omega
      · omega
      · exact this.2.2 hp
    simp [this]
  · have:isB n l:=(zqm n l).2 fun i hi=>by
      have:=hall i hi
      simp only [Bool.or_eq_false_iff,decide_eq_false_iff_not] at this
      exact ⟨by omega,by omega,this.2.2⟩
    simp [this]
theorem d149_eq {l:List Int} (x:Int) (hl:l.length≤281474976710656):d149 l x=some (zas (fun z=>decide (x=z)) l:Int):=by
  unfold d149
  have hle:=zey (fun z=>decide (x=z)) l
  have hstep:∀ i:Nat,i < l.length→w ((i:Int)+1)=((i+1:Nat):Int):=fun i hi=>by rw [w_id (by omega) (by omega)]; omega
  by_cases h:zas (fun z=>decide (x=z)) l < l.length
  · have hat:=zez _ l h
    refine zac (b:=.inr (zas (fun z=>decide (x=z)) l:Int)) (fun i=>(l,x,(i:Int))) (zas (fun z=>decide (x=z)) l) rfl ?_ ?_ rfl
    · intro i hi
      have h1:=of_decide_eq_false (zcq _ l i hi)
      have h2:(i:Int) < (l.length:Int):=by omega
      have h3:(0:Int)≤(i:Int):=by omega
      have h4:¬ l.getD i 0=x:=fun e=>h1 e.symm
      simp only [h2,h3,h4,decide_true,decide_false,cond_true,cond_false,Bool.and_self,Int.toNat_natCast,hstep i (by omega)]
    · have h1:=of_decide_eq_true hat
      have h2:(zas (fun z=>decide (x=z)) l:Int) < (l.length:Int):=by omega
      have h3:(0:Int)≤(zas (fun z=>decide (x=z)) l:Int):=by omega
      simp only [h2,h3,← h1,decide_true,cond_true,Bool.and_self,Int.toNat_natCast]
  · refine zac (b:=.inl l) (fun i=>(l,x,(i:Int))) l.length rfl ?_ ?_ (by simp; omega)
    · intro i hi
      have h1:=of_decide_eq_false (zcq (fun z=>decide (x=z)) l i (by omega))
      have h2:(i:Int) < (l.length:Int):=by omega
      have h3:(0:Int)≤(i:Int):=by omega
      have h4:¬ l.getD i 0=x:=fun e=>h1 e.symm
      simp only [h2,h3,h4,decide_true,decide_false,cond_true,cond_false,Bool.and_self,Int.toNat_natCast,hstep i (by omega)]
    · simp
end Go.Proofs.YtmipjomnjkmdbaaGreat
set_option linter.unusedSimpArgs false
set_option linter.unusedVariables false
open Go Go.Proofs Go.X
namespace Go.Proofs.YtmipjomnjkmdbaaGreat
theorem zkz {α β γ:Type} {f:α→Option (α ⊕ β)} {k:β→Option γ} {a0:α} {r:Option γ} (st:Nat→α) (p:Nat→Bool) (n:Nat) (bx:Nat→β) (e:β) (h0:st 0=a0)
    (hs:∀ i,i < n→(∀ j,j < i→p j=false)→f (st i)=if p i then some (.inr (bx i)) else some (.inl (st (i+1)))) (he:(∀ j,j < n→p j=false)→f (st n)=some (.inr e))
    (h1:∀ i,i < n→p i=true→(∀ j,j < i→p j=false)→k (bx i)=r) (h2:(∀ i,i < n→p i=false)→k e=r):(zae f a0).bind k=r:=by
  have hle:=zfk p n
  by_cases h:zcl p n < n
  · refine zac (b:=bx (zcl p n)) st (zcl p n) h0 (fun i hi=>?_) ?_ (h1 _ h (zfl p n h) (zcz p n))
    · have:=hs i (by omega) (fun j hj=>zcz p n j (by omega))
      rw [zcz p n i hi] at this
      exact this
    · have:=hs _ h (zcz p n)
      rw [zfl p n h] at this
      exact this
  · have hall:=(zox p n).1 h
    refine zac (b:=e) st n h0 (fun i hi=>?_) (he hall) (h2 hall)
    have:=hs i hi (fun j hj=>hall j (by omega))
    rw [hall i hi] at this
    exact this
theorem lt_at:∀ (i:Nat) (a b:List Int),i < a.length→i < b.length→(∀ j,j < i→a.getD j 0=b.getD j 0)→a.getD i 0 ≠ b.getD i 0→(a < b↔a.getD i 0 < b.getD i 0)
  | _,[],_,h,_,_,_=>by simp at h
  | _,_::_,[],_,h,_,_=>by simp at h
  | 0,x::a,y::b,_,_,_,hne=>by
    rw [List.cons_lt_cons_iff]
    simp only [List.getD_cons_zero] at hne ⊢
    constructor
    · rintro (h | ⟨h,_⟩)
      · exact h
      · exact absurd h hne
    · exact .inl
  | i+1,x::a,y::b,h1,h2,h3,hne=>by
    rw [List.cons_lt_cons_iff]
    have h0:=h3 0 (by omega)
    simp only [List.getD_cons_zero] at h0
    subst h0
    simp only [List.getD_cons_succ] at hne ⊢
    have:=lt_at i a b (by simp at h1; omega) (by simp at h2; omega) (fun j hj=>by have:=h3 (j+1) (by omega); simpa using this) hne
    constructor
    · rintro (h | ⟨_,h⟩)
      · omega
      · exact this.1 h
    · exact fun h=>.inr ⟨by first | rfl | trivial,this.2 h⟩
theorem lt_end:∀ (a b:List Int),(∀ j,j < a.length→j < b.length→a.getD j 0=b.getD j 0)→(a < b↔a.length < b.length)
  | [],[],_=>by simp
  | [],y::b,_=>by simp
  | x::a,[],_=>by simp
  | x::a,y::b,h=>by
    have h0:=h 0 (by simp) (by simp)
    simp only [List.getD_cons_zero] at h0
    subst h0
    have:=lt_end a b fun j h1 h2=>by have:=h (j+1) (by simp; omega) (by simp; omega); simpa using this
    rw [List.cons_lt_cons_iff]
    simp only [List.length_cons,Nat.add_lt_add_iff_right]
    rw [← this]
    constructor
    · rintro (h | ⟨_,h⟩)
      · omega
      · exact h
    · exact fun h=>.inr ⟨by first | rfl | trivial,h⟩
theorem lex_tri:∀ (a b:List Int),a < b∨a=b∨b < a
  | [],[]=>.inr (.inl rfl)
  | [],y::b=>.inl (by simp)
  | x::a,[]=>.inr (.inr (by simp))
  | x::a,y::b=>by
    simp only [List.cons_lt_cons_iff]
    rcases Int.lt_trichotomy x y with h | h | h
    · exact .inl (.inl h)
    · subst h
      rcases lex_tri a b with h | h | h
      · exact .inl (.inr ⟨rfl,h⟩)
      · subst h; exact .inr (.inl rfl)
      · exact .inr (.inr (.inr ⟨rfl,h⟩))
    · exact .inr (.inr (.inl h))
theorem zex:∀ (a:List Int),¬ a < a
  | []=>by simp
  | x::a=>by
    rw [List.cons_lt_cons_iff]
    rintro (h | ⟨_,h⟩)
    · omega
    · exact zex a h
theorem zjn:∀ {a b c:List Int},a < b→b < c→a < c
  | [],_,[],_,h=>by simp at h
  | [],_,z::c,_,_=>by simp
  | x::a,[],_,h,_=>by simp at h
  | x::a,y::b,[],_,h=>by simp at h
  | x::a,y::b,z::c,h1,h2=>by
    rw [List.cons_lt_cons_iff] at *
    rcases h1 with h1 | ⟨h1,h3⟩
    · rcases h2 with h2 | ⟨h2,_⟩
      · exact .inl (by omega)
      · exact .inl (by omega)
    · rcases h2 with h2 | ⟨h2,h4⟩
      · exact .inl (by omega)
      · exact .inr ⟨by omega,zjn h3 h4⟩
theorem lex_asymm {a b:List Int} (h:a < b):¬ b < a:=fun h'=>zex a (zjn h h')
theorem d97_eq {a b:List Int} (ha:a.length≤281474976710656) (hb:b.length≤281474976710656):d97 a b=some (decide (a < b)):=by
  unfold d97
  refine zfc (fun i=>(a,b,(i:Int))) (fun i=>!decide (a.getD i 0=b.getD i 0)) (min a.length b.length) (fun i=>.inr (decide (a.getD i 0 < b.getD i 0))) (.inl (a,b)) rfl (fun i hi=>?_) ?_ (fun i hi hp hj=>?_) (fun hall=>?_)
  · have h1:(i:Int) < (a.length:Int):=by omega
    have h2:(i:Int) < (b.length:Int):=by omega
    have h3:(0:Int)≤(i:Int):=by omega
    have hw:w ((i:Int)+1)=((i+1:Nat):Int):=by rw [w_id (by omega) (by omega)]; omega
    simp only [h1,h2,h3,hw,letJ,decide_true,cond_true,Bool.and_self,Int.toNat_natCast]
    by_cases c:a.getD i 0=b.getD i 0
    · simp only [c]; rfl
    · simp only [c]; rfl
  · simp only [letJ]
    by_cases c:a.length≤b.length
    · have h1:¬ ((min a.length b.length:Nat):Int) < (a.length:Int):=by omega
      simp only [h1,decide_false,cond_false]
    · have h1:((min a.length b.length:Nat):Int) < (a.length:Int):=by omega
      have h2:¬ ((min a.length b.length:Nat):Int) < (b.length:Int):=by omega
      simp only [h1,h2,decide_true,decide_false,cond_true,cond_false]
  · have hne:a.getD i 0 ≠ b.getD i 0:=by simpa using hp
    have:=lt_at i a b (by omega) (by omega) (fun j hj'=>by have:=hj j hj'; simpa using this) hne
    simp [this]
  · have:=lt_end a b fun j h1 h2=>by have:=hall j (by omega); simpa using this
    have e:((a.length:Int) < (b.length:Int))↔a < b:=by rw [this]; omega
    simp [e]
theorem zpd {a b:List Int} (ha:a.length≤281474976710656) (hb:b.length≤281474976710656):d38 a b=some (decide (a=b)):=by
  unfold d38
  rw [d97_eq ha hb,d97_eq hb ha]
  simp only [Option.bind_some]
  rcases lex_tri a b with h | h | h
  · have:a ≠ b:=fun e=>zex a (by rw [← e] at h; exact h)
    simp [h,this]
  · subst h
    simp [zex a]
  · have:a ≠ b:=fun e=>zex a (by rw [← e] at h; exact h)
    have h':=lex_asymm h
    simp [h,h',this]
theorem d198_eq (x y:Int):d198 x y=some (if x < y then -1 else if y < x then 1 else 0):=by
  unfold d198 d215
  by_cases h:x < y
  · simp [h]
  · by_cases h':y < x
    · simp [h,h']
    · simp [h,h']
def cmpL (a b:List Int):Int:=if a < b then -1 else if b < a then 1 else 0
theorem d166_eq {a b:List Int} (ha:a.length≤281474976710656) (hb:b.length≤281474976710656):d166 a b=some (cmpL a b):=by
  unfold d166 cmpL
  refine zfc (fun i=>(a,b,a,(a.length:Int),(i:Int))) (fun i=>decide (b.length≤i) || !decide (a.getD i 0=b.getD i 0)) a.length (fun i=>.inr (if b.length≤i then 1 else if a.getD i 0 < b.getD i 0 then -1 else 1)) (.inl (a,b)) rfl (fun i hi=>?_) ?_ (fun i hi hp hj=>?_) (fun hall=>?_)
  · have h1:(i:Int) < (a.length:Int):=by omega
    have h3:(0:Int)≤(i:Int):=by omega
    have hw:w ((i:Int)+1)=((i+1:Nat):Int):=by rw [w_id (by omega) (by omega)]; omega
    simp only [h1,h3,hw,decide_true,cond_true,Bool.and_self,Int.toNat_natCast,d198_eq,Option.bind_some]
    by_cases c0:b.length≤i
    · have h2:(b.length:Int)≤(i:Int):=by omega
      simp [h2,c0]
    · have h2:¬ (b.length:Int)≤(i:Int):=by omega
      have h4:(i:Int) < (b.length:Int):=by omega
      simp only [h2,h4,c0,decide_true,decide_false,cond_true,cond_false,if_false,Bool.false_or]
      rcases Int.lt_trichotomy (a.getD i 0) (b.getD i 0) with h | h | h
      · have h5:¬ a.getD i 0=b.getD i 0:=by omega
        simp only [h,h5,if_true]; rfl
      · have h5:¬ a.getD i 0 < b.getD i 0:=by omega
        have h6:¬ b.getD i 0 < a.getD i 0:=by omega
        simp only [h,if_false]; simp
      · have h5:¬ a.getD i 0=b.getD i 0:=by omega
        have h6:¬ a.getD i 0 < b.getD i 0:=by omega
        simp only [h,h5,h6,if_true,if_false]; rfl
  · simp
  · simp only [Option.some.injEq]
    by_cases c0:b.length≤i
    · have h1:=lt_end b a fun j h1 h2=>by
        have:=hj j (by omega)
        simp only [Bool.or_eq_false_iff,decide_eq_false_iff_not,Bool.not_eq_false',decide_eq_true_eq] at this
        exact this.2.symm
      have h2:b < a:=h1.2 (by omega)
      simp [c0,h2,lex_asymm h2]
    · have heq:∀ j,j < i→a.getD j 0=b.getD j 0:=fun j hj'=>by
        have:=hj j hj'
        simp only [Bool.or_eq_false_iff,decide_eq_false_iff_not,Bool.not_eq_false',decide_eq_true_eq] at this
        exact this.2
      have hne:a.getD i 0 ≠ b.getD i 0:=by simpa [c0] using hp
      have h1:=lt_at i a b hi (by omega) heq hne
      have h2:=lt_at i b a (by omega) hi (fun j hj'=>(heq j hj').symm) (Ne.symm hne)
      simp only [c0,if_false,h1,h2]
      by_cases c:a.getD i 0 < b.getD i 0
      · simp only [c,if_true]
      · have:b.getD i 0 < a.getD i 0:=by omega
        simp only [c,this,if_true,if_false]
  · have key:∀ j,j < a.length→j < b.length∧a.getD j 0=b.getD j 0:=fun j h1=>by
      have:=hall j h1
      simp only [Bool.or_eq_false_iff,decide_eq_false_iff_not,Bool.not_eq_false',decide_eq_true_eq] at this
      omega
    have h1:=lt_end a b fun j h1 h2=>(key j h1).2
    have h2:=lt_end b a fun j h1 h2=>(key j h2).2.symm
    have h3:a.length≤b.length:=by
      rcases Nat.eq_zero_or_pos a.length with h | h
      · omega
      · have:=(key (a.length - 1) (by omega)).1; omega
    have h4:¬ b < a:=by rw [h2]; omega
    simp only [h4,if_false]
    by_cases c:a < b
    · have:(a.length:Int) < (b.length:Int):=by have:=h1.1 c; omega
      simp [c,this]
    · have:¬ (a.length:Int) < (b.length:Int):=by rw [h1] at c; omega
      simp [c,this]
abbrev Grp:=List Int × Int
def addG:List Grp→List Int→Int→List Grp
  | [],p,k=>[(p,k)]
  | g::gs,p,k=>if g.1 < p then g::addG gs p k else if g.1=p then (g.1,g.2+k)::gs else (p,k)::g::gs
def zjz (gs:List Grp) (p:List Int):Bool:=gs.all fun g=>decide (g.1 < p)
theorem addG_app:∀ (gs:List Grp) (g:Grp) (p:List Int) (k:Int),addG (gs++[g]) p k=if zjz gs p then gs++addG [g] p k else addG gs p k++[g]
  | [],g,p,k=>by simp [zjz]
  | h::gs,g,p,k=>by
    have ih:=addG_app gs g p k
    unfold zjz at ih ⊢
    rw [List.cons_append]
    unfold addG
    by_cases c:h.1 < p
    · simp only [c,if_true,ih,List.all_cons,decide_true,Bool.true_and]
      by_cases c2:(gs.all fun g=>decide (g.1 < p))=true
      · rw [if_pos c2,if_pos c2]
        simp [addG]
      · rw [if_neg c2,if_neg c2]
        simp
    · by_cases c2:h.1=p
      · have:¬ h.1 < h.1:=zex _
        subst c2
        simp [this]
      · simp [c,c2]
theorem addG_all {gs:List Grp} {p:List Int} (k:Int) (h:zjz gs p=true):addG gs p k=gs++[(p,k)]:=by
  induction gs with
  | nil=>rfl
  | cons g gs ih =>
    unfold zjz at h ih
    simp only [List.all_cons,Bool.and_eq_true,decide_eq_true_eq] at h
    unfold addG
    simp only [h.1,if_true,ih h.2,List.cons_append]
theorem zjb {α:Type} (l:List α) (d:α) {i:Nat} (h:i < l.length):l.take (i+1)=l.take i++[l.getD i d]:=by
  rw [List.take_add_one,List.getElem?_eq_getElem h,zbw l d h]
  rfl
theorem addG_len:∀ (gs:List Grp) (p:List Int) (k:Int),(addG gs p k).length≤gs.length+1
  | [],p,k=>by simp [addG]
  | g::gs,p,k=>by
    have:=addG_len gs p k
    unfold addG
    split
    · simp; omega
    · split <;> simp
theorem d98_eq {gs:List Grp} {p:List Int} {k:Int} (hl:gs.length≤1000000) (hp:p.length≤281474976710656) (hk:0≤k∧k≤1000000) (hg:∀ g∈gs,g.1.length≤281474976710656∧0≤g.2∧g.2≤1000000):d98 gs p k=some (addG gs p k):=by
  unfold d98
  refine zac (b:=(p,k,(if zjz gs p then gs else addG gs p k),!zjz gs p)) (fun i=>(gs,p,k,(if zjz (gs.take i) p then gs.take i else addG (gs.take i) p k),!zjz (gs.take i) p,(i:Int))) gs.length rfl (fun i hi=>?_) ?_ ?_
  · have h1:(i:Int) < (gs.length:Int):=by omega
    have h3:(0:Int)≤(i:Int):=by omega
    have hw:w ((i:Int)+1)=((i+1:Nat):Int):=by rw [w_id (by omega) (by omega)]; omega
    have hm:gs.getD i ([],0)∈gs:=by rw [zbw gs _ hi]; exact List.getElem_mem _
    obtain ⟨g1,g2,g3⟩:=hg _ hm
    have ht:=zjb gs ([],0) hi
    have hw2:w ((gs.getD i ([],0)).2+k)=(gs.getD i ([],0)).2+k:=w_id (by omega) (by omega)
    simp only [h1,h3,hw,letJ,decide_true,cond_true,Bool.and_self,Int.toNat_natCast]
    generalize gs.getD i ([],0)=g at *
    have hl1:(gs.take i).length≤1000000:=by simp; omega
    have hl2:=addG_len (gs.take i) p k
    have hlim:∀ (l:List Grp) (z:Grp),l.length≤1000002→((l.length:Int)+(([z]:List Grp).length:Int)≤LIM):=fun l z h=>by rw [zge]; simp; omega
    have happ:=addG_app (gs.take i) g p k
    have hall:zjz (gs.take i++[g]) p=(zjz (gs.take i) p && decide (g.1 < p)):=by simp [zjz]
    rw [ht,hall,happ]
    generalize gs.take i=T at *
    have e1:∀ z,((T.length:Int)+(([z]:List Grp).length:Int)≤LIM):=fun z=>hlim T z (by omega)
    have e2:∀ z,(((addG T p k).length:Int)+(([z]:List Grp).length:Int)≤LIM):=fun z=>hlim _ z (by omega)
    have e3:∀ z z',(((T++[z']).length:Int)+(([z]:List Grp).length:Int)≤LIM):=fun z z'=>hlim _ z (by simp; omega)
    simp only [d97_eq g1 hp,zpd g1 hp,Option.bind_some,hw2]
    cases hT:zjz T p
    · simp only [Bool.false_eq_true,if_false,e2,Bool.not_false,Bool.not_true,cond_false,Bool.false_and,decide_true,cond_true]
    · simp only [Bool.not_true,Bool.not_false,cond_true,Bool.true_and,if_true]
      by_cases c:g.1 < p
      · simp only [c,e1,decide_true,Bool.not_true,cond_false,cond_true,if_true]
      · by_cases c2:g.1=p
        · subst c2
          simp only [c,e1,decide_true,decide_false,Bool.not_false,cond_true,addG,if_true,if_false]
          simp
        · simp only [c,c2,e1,e3,decide_true,decide_false,Bool.not_false,cond_true,cond_false,addG,if_false]
          simp
  · have h1:¬ ((gs.length:Int) < (gs.length:Int)):=by omega
    simp only [h1,decide_false,cond_false,List.take_length]
  · cases hT:zjz gs p
    · simp [letJ]
    · have hlim:((gs.length:Int)+(([(p,k)]:List Grp).length:Int)≤LIM):=by rw [zge]; simp; omega
      simp only [Bool.not_true,Bool.not_false,cond_true,letJ,if_true,hlim,decide_true,addG_all k hT]
def wsum (f:List Int→Int):List Grp→Int
  | []=>0
  | g::gs=>g.2 * f g.1+wsum f gs
theorem zlo (f:List Int→Int):∀ (a b:List Grp),wsum f (a++b)=wsum f a+wsum f b
  | [],b=>by simp [wsum]
  | g::a,b=>by
    have:=zlo f a b
    simp only [List.cons_append,wsum,this]
    omega
theorem zmb (f:List Int→Int):∀ (gs:List Grp) (p:List Int) (k:Int),wsum f (addG gs p k)=wsum f gs+k * f p
  | [],p,k=>by simp [addG,wsum]
  | g::gs,p,k=>by
    have ih:=zmb f gs p k
    unfold addG
    split
    · simp only [wsum,ih]; omega
    · split
      · rename_i h
        simp only [wsum,h,Int.add_mul]; omega
      · simp only [wsum]; omega
theorem zrg:∀ {gs:List Grp} {p:List Int} {k:Int} {g:Grp},g∈addG gs p k→(g.1=p∧(g.2=k∨∃ h∈gs,h.1=p∧g.2=h.2+k))∨g∈gs
  | [],p,k,g,h=>by
    simp [addG] at h
    exact .inl ⟨by rw [h],.inl (by rw [h])⟩
  | a::gs,p,k,g,h=>by
    unfold addG at h
    split at h
    · rcases List.mem_cons.1 h with h | h
      · exact .inr (by simp [h])
      · rcases zrg h with ⟨h1,h2⟩ | h1
        · refine .inl ⟨h1,h2.imp id fun ⟨x,h3,h4⟩=>⟨x,List.mem_cons_of_mem _ h3,h4⟩⟩
        · exact .inr (List.mem_cons_of_mem _ h1)
    · split at h
      · rename_i hp
        rcases List.mem_cons.1 h with h | h
        · exact .inl ⟨by rw [h]; exact hp,.inr ⟨a,by simp,hp,by rw [h]⟩⟩
        · exact .inr (List.mem_cons_of_mem _ h)
      · rcases List.mem_cons.1 h with h | h
        · exact .inl ⟨by rw [h],.inl (by rw [h])⟩
        · exact .inr h
def zki (gs:List Grp):Prop:=gs.Pairwise fun g h=>g.1 < h.1
theorem znx:∀ {gs:List Grp} (p:List Int) (k:Int),zki gs→zki (addG gs p k)
  | [],p,k,_=>by simp [addG,zki]
  | a::gs,p,k,h=>by
    unfold zki at h
    rw [List.pairwise_cons] at h
    unfold addG
    split
    · rename_i hlt
      refine List.pairwise_cons.2 ⟨fun g hg=>?_,znx p k h.2⟩
      rcases zrg hg with ⟨h1,_⟩ | h1
      · rw [h1]; exact hlt
      · exact h.1 g h1
    · rename_i hlt
      split
      · exact List.pairwise_cons.2 ⟨fun g hg=>h.1 g hg,h.2⟩
      · rename_i hne
        have hp:p < a.1:=by
          rcases lex_tri a.1 p with h | h | h
          · exact absurd h hlt
          · exact absurd h hne
          · exact h
        refine List.pairwise_cons.2 ⟨fun g hg=>?_,List.pairwise_cons.2 h⟩
        rcases List.mem_cons.1 hg with rfl | hg
        · exact hp
        · exact zjn hp (h.1 g hg)
structure PileOK (n:Int) (gs:List Grp) (N:Int):Prop where
  ballots:∀ g∈gs,isB n g.1∧1≤g.2
  sorted:zki gs
  total:wsum (fun _=>1) gs=N
  most:N≤100000
theorem zgh {n:Int}:∀ {gs:List Grp},(∀ g∈gs,isB n g.1∧1≤g.2)→∀ {f:List Int→Int},(∀ p,0≤f p∧f p≤1)→0≤wsum f gs∧wsum f gs≤wsum (fun _=>1) gs
  | [],_,f,_=>by simp [wsum]
  | g::gs,h,f,hf=>by
    have ih:=zgh (gs:=gs) (fun x hx=>h x (List.mem_cons_of_mem _ hx)) hf
    have h1:=(h g (by simp)).2
    have h2:=hf g.1
    have h3:0≤g.2 * f g.1:=Int.mul_nonneg (by omega) h2.1
    have h4:g.2 * f g.1≤g.2 * 1:=Int.mul_le_mul_of_nonneg_left h2.2 (by omega)
    simp only [wsum]
    omega
theorem zqd {n:Int}:∀ {gs:List Grp},(∀ g∈gs,isB n g.1∧1≤g.2)→∀ g∈gs,g.2≤wsum (fun _=>1) gs
  | [],_,g,hg=>by cases hg
  | a::gs,h,g,hg=>by
    have h0:=(zgh (n:=n) (gs:=gs) (fun x hx=>h x (List.mem_cons_of_mem _ hx)) (f:=fun _=>1) (fun _=>by omega)).1
    have h1:=(h a (by simp)).2
    simp only [wsum]
    rcases List.mem_cons.1 hg with rfl | hg
    · omega
    · have:=zqd (n:=n) (gs:=gs) (fun x hx=>h x (List.mem_cons_of_mem _ hx)) g hg
      omega
theorem zlr {n:Int}:∀ {gs:List Grp},(∀ g∈gs,isB n g.1∧1≤g.2)→(gs.length:Int)≤wsum (fun _=>1) gs
  | [],_=>by simp [wsum]
  | a::gs,h=>by
    have h1:=(h a (by simp)).2
    have:=zlr (n:=n) (gs:=gs) (fun x hx=>h x (List.mem_cons_of_mem _ hx))
    simp only [wsum,List.length_cons]
    omega
theorem zji:∀ (n:Nat) (l:List Int),l.Nodup→(∀ x∈l,0≤x∧x < (n:Int))→l.length≤n
  | 0,l,_,h=>by
    cases l with
    | nil=>simp
    | cons x l=>have:=h x (by simp); omega
  | n+1,l,hd,h=>by
    by_cases hm:(n:Int)∈l
    · have h1:=zji n (l.erase (n:Int)) (hd.erase _) fun x hx=>by
        have h2:=(hd.mem_erase_iff).1 hx
        have:=h x h2.2
        have:=h2.1
        omega
      rw [List.length_erase_of_mem hm] at h1
      omega
    · have:=zji n l hd fun x hx=>by
        have h1:=h x hx
        have:x ≠ (n:Int):=fun e=>hm (e ▸ hx)
        omega
      omega
theorem zql {n:Int} {l:List Int} (h:isB n l) (hn:n≤7):l.length≤7:=zji 7 l h.1 fun x hx=>by have:=h.2 x hx; omega
theorem PileOK.add {n:Int} {gs:List Grp} {N:Int} (h:PileOK n gs N) {p:List Int} (hp:isB n p) (hN:N+1≤100000):PileOK n (addG gs p 1) (N+1) where
  ballots:=fun g hg=>by
    rcases zrg hg with ⟨h1,h2⟩ | h1
    · refine ⟨by rw [h1]; exact hp,?_⟩
      rcases h2 with h2 | ⟨x,hx,_,h2⟩
      · omega
      · have:=(h.ballots x hx).2; omega
    · exact h.ballots g h1
  sorted:=znx _ _ h.sorted
  total:=by rw [zmb,h.total]; omega
  most:=hN
theorem PileOK.nil (n:Int):PileOK n [] 0:=⟨fun _ hg=>absurd hg (by simp),List.Pairwise.nil,rfl,by omega⟩
theorem PileOK.d98 {n:Int} {gs:List Grp} {N:Int} (h:PileOK n gs N) (hn:n≤7) {p:List Int} (hp:isB n p):d98 gs p 1=some (addG gs p 1):=by
  have h1:=zlr h.ballots
  have h2:=h.total
  have h3:=h.most
  refine d98_eq (by omega) (by have:=zql hp hn; omega) (by omega) fun g hg=>?_
  have h4:=zqd h.ballots g hg
  have h5:=h.ballots g hg
  have:=zql h5.1 hn
  omega
end Go.Proofs.YtmipjomnjkmdbaaGreat
set_option linter.unusedSimpArgs false
set_option linter.unusedVariables false
open Go Go.Proofs Go.X
namespace Go.Proofs.YtmipjomnjkmdbaaGreat
theorem d165_eq {n:Int} (hn:n≤7) {l:List Int} (hl:l.length≤281474976710656):d165 n l=some (decide (isB n l)):=by
  unfold d165
  refine zfc (fun i=>(n,zjd l i,l,(l.length:Int),(i:Int))) (fun i=>decide (l.getD i 0 < 0) || (decide (n≤l.getD i 0) || (zjd l i).getD (Int.toNat (l.getD i 0)) false)) l.length (fun _=>.inr false) (.inl ()) rfl (fun i hi=>?_) ?_ (fun i hi hp hj=>?_) (fun hall=>?_)
  · have h2:(i:Int) < (l.length:Int):=by omega
    have h3:(0:Int)≤(i:Int):=by omega
    have hw:w ((i:Int)+1)=((i+1:Nat):Int):=by rw [w_id (by omega) (by omega)]; omega
    simp only [h2,h3,letJ,decide_true,cond_true,Bool.and_self,Int.toNat_natCast,hw]
    by_cases c1:l.getD i 0 < 0
    · simp only [c1]; rfl
    · by_cases c2:n≤l.getD i 0
      · simp only [c1,c2]; rfl
      · have c3:0≤l.getD i 0:=by omega
        have c4:l.getD i 0 < 7:=by omega
        simp only [c1,c2,c3,c4]
        cases (zjd l i).getD (Int.toNat (l.getD i 0)) false <;> rfl
  · simp
  · have:¬ isB n l:=fun h=>by
      have hb:=(zqm n l).1 h
      have h1:=hb i hi
      have h2:=zmp l i (by omega) (fun j hj=>by have:=hb j (by omega); omega) (Int.toNat (l.getD i 0)) (by omega)
      rw [show ((l.getD i 0).toNat:Int)=l.getD i 0 by omega] at h2
      rw [h2] at hp
      simp only [Bool.or_eq_true,decide_eq_true_eq] at hp
      rcases hp with hp | hp | hp
      · omega
      · omega
      · exact h1.2.2 hp
    simp [this]
  · have hb:∀ i,i < l.length→0≤l.getD i 0∧l.getD i 0 < n:=fun i hi=>by
      have:=hall i hi
      simp only [Bool.or_eq_false_iff,decide_eq_false_iff_not] at this
      omega
    have:isB n l:=(zqm n l).2 fun i hi=>by
      have h1:=hb i hi
      have h0:=hall i hi
      simp only [Bool.or_eq_false_iff,decide_eq_false_iff_not] at h0
      have h2:=zmp l i (by omega) (fun j hj=>by have:=hb j (by omega); omega) (Int.toNat (l.getD i 0)) (by omega)
      rw [show ((l.getD i 0).toNat:Int)=l.getD i 0 by omega,h0.2.2] at h2
      exact ⟨h1.1,h1.2,fun hm=>of_decide_eq_false h2.symm hm⟩
    simp [this]
def tot (gs:List Grp) (i:Nat):Int:=wsum (fun _=>1) (gs.take i)
def badG (n:Int) (gs:List Grp) (i:Nat):Bool:=decide ((gs.getD i ([],0)).2 < 1) || (decide (100000 - tot gs i < (gs.getD i ([],0)).2) || (!decide (isB n (gs.getD i ([],0)).1) || (decide (0 < i) && decide (0≤cmpL (gs.getD (i - 1) ([],0)).1 (gs.getD i ([],0)).1))))
theorem zdn (f:List Int→Int) (gs:List Grp) {i:Nat} (h:i < gs.length):wsum f (gs.take (i+1))=wsum f (gs.take i)+(gs.getD i ([],0)).2 * f (gs.getD i ([],0)).1:=by
  rw [zjb gs ([],0) h,zlo]
  simp [wsum]
theorem zia {n:Int} {gs:List Grp}:∀ {i:Nat},i≤gs.length→(∀ j,j < i→badG n gs j=false)→0≤tot gs i∧tot gs i≤100000
  | 0,_,_=>by simp [tot,wsum]
  | i+1,h,hb=>by
    have ih:=zia (n:=n) (gs:=gs) (i:=i) (by omega) fun j hj=>hb j (by omega)
    have h1:=hb i (by omega)
    unfold badG at h1
    simp only [Bool.or_eq_false_iff,decide_eq_false_iff_not] at h1
    have h2:tot gs (i+1)=tot gs i+(gs.getD i ([],0)).2 * 1:=zdn _ gs (by omega)
    omega
theorem d124_eq {n:Int} (hn:n≤7) {gs:List Grp} (hl:gs.length≤281474976710656) (hg:∀ g∈gs,g.1.length≤281474976710656∧-9223372036854775808≤g.2∧g.2≤9223372036854775807):d124 n gs=some (decide (∀ i,i < gs.length→badG n gs i=false)):=by
  unfold d124
  have hgi:∀ i,i < gs.length→(gs.getD i ([],0)).1.length≤281474976710656:=fun i hi=>by
    rw [zbw gs _ hi]
    exact (hg _ (List.getElem_mem _)).1
  refine zkz (fun i=>(n,gs,tot gs i,gs,(gs.length:Int),(i:Int))) (badG n gs) gs.length (fun _=>.inr false) (.inl ()) rfl (fun i hi hj=>?_) (fun _=>?_) (fun i hi hp hj=>?_) (fun hall=>?_)
  · have h2:(i:Int) < (gs.length:Int):=by omega
    have h3:(0:Int)≤(i:Int):=by omega
    have hw:w ((i:Int)+1)=((i+1:Nat):Int):=by rw [w_id (by omega) (by omega)]; omega
    have ht:=zia (n:=n) (gs:=gs) (i:=i) (by omega) hj
    have hw2:w (100000 - tot gs i)=100000 - tot gs i:=w_id (by omega) (by omega)
    have hgl:=hgi i hi
    have hgp:=hgi (i - 1) (by omega)
    have hts:tot gs (i+1)=tot gs i+(gs.getD i ([],0)).2 * 1:=zdn _ gs (by omega)
    have hw3:1≤(gs.getD i ([],0)).2→(gs.getD i ([],0)).2≤100000 - tot gs i→w (tot gs i+(gs.getD i ([],0)).2)=tot gs (i+1):=fun a b=>by rw [w_id (by omega) (by omega)]; omega
    have hb:badG n gs i=(decide ((gs.getD i ([],0)).2 < 1) || (decide (100000 - tot gs i < (gs.getD i ([],0)).2) || (!decide (isB n (gs.getD i ([],0)).1) || (decide (0 < i) && decide (0≤cmpL (gs.getD (i - 1) ([],0)).1 (gs.getD i ([],0)).1))))):=rfl
    rw [hb]
    simp only [h2,h3,letJ,decide_true,cond_true,Bool.and_self,Int.toNat_natCast,hw,hw2]
    rw [d165_eq hn hgl]
    obtain ⟨g,hgd⟩:∃ g,gs.getD i ([],0)=g:=⟨_,rfl⟩
    simp only [hgd] at hgl hts hw3 ⊢
    by_cases c1:g.2 < 1
    · simp only [c1]; rfl
    · by_cases c2:100000 - tot gs i < g.2
      · simp only [c1,c2]; rfl
      · rw [hw3 (by omega) (by omega)]
        by_cases c3:isB n g.1
        · by_cases c4:0 < i
          · have c5:(0:Int) < (i:Int):=by omega
            have hwp:w ((i:Int) - 1)=((i - 1:Nat):Int):=by rw [w_id (by omega) (by omega)]; omega
            have h5:(0:Int)≤((i - 1:Nat):Int):=by omega
            have h6:((i - 1:Nat):Int) < (gs.length:Int):=by omega
            simp only [c1,c2,c3,c4,c5,hwp,h5,h6,Int.toNat_natCast,d166_eq hgp hgl,Option.bind_some,decide_true,decide_false,Bool.not_true,Bool.not_false,cond_true,cond_false,Bool.and_self,Bool.true_and,Bool.false_or]
            cases decide (0≤cmpL (gs.getD (i - 1) ([],0)).1 g.1) <;> rfl
          · have c5:¬ (0:Int) < (i:Int):=by omega
            simp only [c1,c2,c3,c4,c5]; rfl
        · simp only [c1,c2,c3]; rfl
  · simp
  · have:¬ ∀ i,i < gs.length→badG n gs i=false:=fun h=>by rw [h i hi] at hp; cases hp
    simp [this]
  · have:∀ i,i < gs.length→badG n gs i=false:=hall
    simp only [decide_eq_true this]
theorem PileOK.good {n:Int} {gs:List Grp} {N:Int} (h:PileOK n gs N):∀ i,i < gs.length→badG n gs i=false:=fun i hi=>by
  have hm:gs.getD i ([],0)∈gs:=by rw [zbw gs _ hi]; exact List.getElem_mem _
  have h1:=h.ballots _ hm
  have h2:tot gs (i+1)=tot gs i+(gs.getD i ([],0)).2 * 1:=zdn _ gs hi
  have h3:wsum (fun _=>1) gs=tot gs (i+1)+wsum (fun _=>1) (gs.drop (i+1)):=by
    unfold tot
    rw [← zlo,List.take_append_drop]
  have h4:=(zgh (n:=n) (gs:=gs.drop (i+1)) (fun x hx=>h.ballots x (List.mem_of_mem_drop hx)) (f:=fun _=>1) (fun _=>by omega)).1
  have h5:=h.total
  have h6:=h.most
  unfold badG
  have c1:¬ (gs.getD i ([],0)).2 < 1:=by omega
  have c2:¬ 100000 - tot gs i < (gs.getD i ([],0)).2:=by omega
  simp only [c1,c2,h1.1,decide_true,decide_false,Bool.not_true,Bool.false_or]
  by_cases c3:0 < i
  · have h7:(gs.getD (i - 1) ([],0)).1 < (gs.getD i ([],0)).1:=by
      rw [zbw gs _ hi,zbw gs _ (by omega:i - 1 < gs.length)]
      exact List.pairwise_iff_getElem.1 h.sorted (i - 1) i (by omega) hi (by omega)
    have c4:cmpL (gs.getD (i - 1) ([],0)).1 (gs.getD i ([],0)).1=-1:=if_pos h7
    rw [c4]
    simp
  · simp [c3]
theorem PileOK.sizes {n:Int} {gs:List Grp} {N:Int} (h:PileOK n gs N) (hn:n≤7):gs.length≤100000∧∀ g∈gs,g.1.length≤7∧1≤g.2∧g.2≤100000:=by
  have h1:=zlr h.ballots
  have h2:=h.total
  have h3:=h.most
  refine ⟨by omega,fun g hg=>?_⟩
  have h4:=zqd h.ballots g hg
  have h5:=h.ballots g hg
  exact ⟨zql h5.1 hn,by omega,by omega⟩
theorem PileOK.d124 {n:Int} {gs:List Grp} {N:Int} (h:PileOK n gs N) (hn:n≤7):d124 n gs=some true:=by
  obtain ⟨h1,h2⟩:=h.sizes hn
  rw [d124_eq hn (by omega) fun g hg=>by have:=h2 g hg; omega]
  rw [decide_eq_true h.good]
theorem PileOK.wide {n:Int} {gs:List Grp} {N:Int} (h:PileOK n gs N) (hn:n≤7):PileOK 7 gs N where
  ballots:=fun g hg=>by
    have:=h.ballots g hg
    exact ⟨⟨this.1.1,fun x hx=>by have:=this.1.2 x hx; omega⟩,this.2⟩
  sorted:=h.sorted
  total:=h.total
  most:=h.most
theorem PileOK.d100 {n:Int} {gs:List Grp} {N:Int} (h:PileOK n gs N) (hn:n≤7):d100 gs=some true:=by
  unfold Go.Proofs.YtmipjomnjkmdbaaGreat.d100
  rw [(h.wide hn).d124 (by omega)]
  rfl
theorem PileOK.part {n:Int} {gs:List Grp} {N:Int} (h:PileOK n gs N) {f:List Int→Int} (hf:∀ p,0≤f p∧f p≤1) (i:Nat):0≤wsum f (gs.take i)∧wsum f (gs.take i)≤100000:=by
  have h1:=zgh (n:=n) (gs:=gs.take i) (fun x hx=>h.ballots x (List.mem_of_mem_take hx)) hf
  have h2:=zgh (n:=n) (gs:=gs.drop i) (fun x hx=>h.ballots x (List.mem_of_mem_drop hx)) (f:=fun _=>1) (fun _=>by omega)
  have h3:wsum (fun _=>1) gs=wsum (fun _=>1) (gs.take i)+wsum (fun _=>1) (gs.drop i):=by rw [← zlo,List.take_append_drop]
  have h4:=h.total
  have h5:=h.most
  omega
def zar (p:List Int):Int:=if p=[] then 0 else 1
theorem PileOK.d52 {n:Int} {gs:List Grp} {N:Int} (h:PileOK n gs N) (hn:n≤7):d52 gs=some (wsum zar gs):=by
  obtain ⟨hl,hg⟩:=h.sizes hn
  have hf:∀ p,0≤zar p∧zar p≤1:=fun p=>by unfold zar; split <;> omega
  unfold Go.Proofs.YtmipjomnjkmdbaaGreat.d52
  rw [h.d100 hn]
  simp only [Option.bind_some,Bool.not_true,cond_false]
  have:d104 gs (fun a=>d105 a)=some (wsum zar gs):=by
    unfold d104
    refine zac (b:=wsum zar gs) (fun i=>(fun a=>d105 a,wsum zar (gs.take i),gs,(gs.length:Int),(i:Int))) gs.length rfl (fun i hi=>?_) ?_ rfl
    · have h2:(i:Int) < (gs.length:Int):=by omega
      have h3:(0:Int)≤(i:Int):=by omega
      have hw:w ((i:Int)+1)=((i+1:Nat):Int):=by rw [w_id (by omega) (by omega)]; omega
      have e:=zdn zar gs hi
      have b0:=h.part hf i
      have b1:=h.part hf (i+1)
      simp only [h2,h3,hw,decide_true,cond_true,Bool.and_self,Int.toNat_natCast]
      obtain ⟨g,hgd⟩:∃ g,gs.getD i ([],0)=g:=⟨_,rfl⟩
      simp only [hgd] at e ⊢
      obtain ⟨p,k⟩:=g
      unfold d105
      simp only at e ⊢
      match p with
      | [] =>
        have h0:zar []=0:=by simp [zar]
        rw [h0] at e
        have hw2:w (wsum zar (gs.take i)+0)=wsum zar (gs.take (i+1)):=by rw [w_id (by omega) (by omega)]; omega
        simp only [List.length_nil,Int.ofNat_zero,decide_true,cond_true,Option.bind_some,hw2]
      | y::p =>
        have h0:zar (y::p)=1:=by simp [zar]
        rw [h0] at e
        have h4:¬ ((((y::p).length:Nat):Int)=0):=by simp; omega
        have hw2:w (wsum zar (gs.take i)+k)=wsum zar (gs.take (i+1)):=by rw [w_id (by omega) (by omega)]; omega
        simp only [h4,decide_false,cond_false,Option.bind_some,hw2]
    · have h1:¬ ((gs.length:Int) < (gs.length:Int)):=by omega
      simp only [h1,decide_false,cond_false,List.take_length]
  rw [this]
  rfl
end Go.Proofs.YtmipjomnjkmdbaaGreat
set_option linter.unusedSimpArgs false
set_option linter.unusedVariables false
open Go Go.Proofs Go.X
namespace Go.Proofs.YtmipjomnjkmdbaaGreat
theorem d101_on {s:List Int} {f:Int→Option Bool} {g:Int→Bool} (hf:∀ c∈s,f c=some (g c)) (hs:s.length≤281474976710656):d101 s f=some (if zas g s < s.length then (zas g s:Int) else -1):=by
  have hle:=zey g s
  unfold d101
  have hstep:∀ i,i < zas g s→w ((i:Int)+1)=((i+1:Nat):Int):=fun i hi=>by rw [w_id (by omega) (by omega)]; omega
  have hfi:∀ i,i < s.length→f (s.getD i 0)=some (g (s.getD i 0)):=fun i hi=>by rw [zbw s 0 hi]; exact hf _ (List.getElem_mem _)
  by_cases h:zas g s < s.length
  · have hat:=zez _ s h
    refine zac (b:=.inr (zas g s:Int)) (fun i=>(s,f,(s.length:Int),(i:Int))) (zas g s) rfl ?_ ?_ (by simp [h])
    · intro i hi
      have h1:=zcq g s i hi
      have h2:(i:Int) < (s.length:Int):=by omega
      have h3:(0:Int)≤(i:Int):=by omega
      simp only [h2,h3,decide_true,cond_true,Bool.and_self,Int.toNat_natCast,hfi i (by omega),h1,Option.bind_some,hstep i hi,cond_false]
    · have h2:(zas g s:Int) < (s.length:Int):=by omega
      have h3:(0:Int)≤(zas g s:Int):=by omega
      simp only [h2,h3,decide_true,cond_true,Bool.and_self,Int.toNat_natCast,hfi _ h,hat,Option.bind_some]
  · refine zac (b:=.inl ()) (fun i=>(s,f,(s.length:Int),(i:Int))) s.length rfl ?_ ?_ (by simp [h])
    · intro i hi
      have h1:=zcq g s i (by omega)
      have h2:(i:Int) < (s.length:Int):=by omega
      have h3:(0:Int)≤(i:Int):=by omega
      simp only [h2,h3,decide_true,cond_true,Bool.and_self,Int.toNat_natCast,hfi i (by omega),h1,Option.bind_some,hstep i (by omega),cond_false]
    · simp
end Go.Proofs.YtmipjomnjkmdbaaGreat
set_option linter.unusedSimpArgs false
set_option linter.unusedVariables false
open Go Go.Proofs Go.X
namespace Go.Proofs.YtmipjomnjkmdbaaGreat
theorem wt_part {l:List Int} (h:WT (.slice (.int .i64)) l) (k:Nat):WT (.slice (.int .i64)) (l.take k):=⟨by have:=h.1; simp; omega,fun x hx=>h.2 x (List.mem_of_mem_take hx)⟩
theorem bal_isB {n:Int} (hn:0 < n) (l:List Int):isB n (bal n l):=⟨zkn n l _,fun x hx=>outs_in hn l _ x hx⟩
def balF (n:Int) (x:List Int):List Int:=bal n (x.take 12)
def bals (n:Int) (l:List (List Int)) (most:Nat):List (List Int):=(l.take most).map (balF n)
theorem lim_small {α:Type} (l:List α) (z:α) (h:l.length≤1000000):((l.length:Int)+(([z]:List α).length:Int)≤LIM):=by rw [zge]; simp; omega
theorem d46_eq {n:Int} (hn:0 < n) (hn':n≤7) {l:List (List Int)} (hl:l.length≤281474976710656) (hw:∀ x∈l,WT (.slice (.int .i64)) x) {most:Nat} (hm:most≤100):d46 n l (most:Int)=some (bals n l most):=by
  unfold d46
  refine zac (b:=bals n l most) (fun i=>(n,l,(most:Int),(l.take i).map (balF n),(i:Int))) (min l.length most) rfl (fun i hi=>?_) ?_ rfl
  · have h1:(i:Int) < (l.length:Int):=by omega
    have h2:(i:Int) < (most:Int):=by omega
    have h3:(0:Int)≤(i:Int):=by omega
    have hwi:w ((i:Int)+1)=((i+1:Nat):Int):=by rw [w_id (by omega) (by omega)]; omega
    have hx:=hw (l.getD i []) (by rw [zbw l [] (by omega)]; exact List.getElem_mem _)
    have ht:=zjb l [] (by omega:i < l.length)
    simp only [h1,h2,h3,hwi,letJ,decide_true,cond_true,Bool.and_self,Int.toNat_natCast]
    obtain ⟨x,hxd⟩:∃ x,l.getD i []=x:=⟨_,rfl⟩
    simp only [hxd] at hx ht ⊢
    have hc:zdg 0 (bif decide (12 < (x.length:Int)) then 12 else (x.length:Int)) x.length=true∧List.drop 0 (List.take (Int.toNat (bif decide (12 < (x.length:Int)) then 12 else (x.length:Int))) x)=x.take 12:=by
      by_cases c:12 < x.length
      · have c':(12:Int) < (x.length:Int):=by omega
        simp only [c',decide_true,cond_true,List.drop_zero]
        exact ⟨zkw (i:=12) (by omega),rfl⟩
      · have c':¬ (12:Int) < (x.length:Int):=by omega
        simp only [c',decide_false,cond_false,List.drop_zero,Int.toNat_natCast]
        exact ⟨zkw (Nat.le_refl _),by rw [List.take_of_length_le (Nat.le_refl _),List.take_of_length_le (by omega)]⟩
    rw [hc.1,hc.2,d99_eq hn (by omega) (wt_part hx 12)]
    have hlim:=lim_small ((l.take i).map (balF n)) (bal n (x.take 12)) (by simp; omega)
    simp only [cond_true,Option.bind_some,hlim,decide_true,ht,List.map_append,List.map_cons,List.map_nil]
    rfl
  · have hb:(l.take (min l.length most)).map (balF n)=bals n l most:=by
      unfold bals
      congr 1
      by_cases c:l.length≤most
      · rw [Nat.min_eq_left c,List.take_of_length_le (Nat.le_refl _),List.take_of_length_le c]
      · rw [Nat.min_eq_right (by omega)]
    simp only [letJ,hb]
    by_cases c:l.length≤most
    · have h1:¬ ((min l.length most:Nat):Int) < (l.length:Int):=by omega
      simp only [h1,decide_false,cond_false]
    · have h1:((min l.length most:Nat):Int) < (l.length:Int):=by omega
      have h2:¬ ((min l.length most:Nat):Int) < (most:Int):=by omega
      simp only [h1,h2,decide_true,decide_false,cond_true,cond_false]
theorem bals_isB {n:Int} (hn:0 < n) {l:List (List Int)} {most:Nat}:∀ b∈bals n l most,isB n b:=fun b hb=>by
  obtain ⟨x,_,rfl⟩:=List.mem_map.1 hb
  exact bal_isB hn _
theorem bals_len {n:Int} {l:List (List Int)} {most:Nat}:(bals n l most).length≤most:=by simp [bals]; omega
def zdh (bs:List (List Int)):List Grp:=bs.foldl (fun gs b=>addG gs b 1) []
def bsum (f:List Int→Int):List (List Int)→Int
  | []=>0
  | b::bs=>f b+bsum f bs
theorem bsum_app (f:List Int→Int):∀ a b,bsum f (a++b)=bsum f a+bsum f b
  | [],b=>by simp [bsum]
  | x::a,b=>by have:=bsum_app f a b; simp only [List.cons_append,bsum,this]; omega
theorem zmv (bs:List (List Int)) (b:List Int):zdh (bs++[b])=addG (zdh bs) b 1:=by simp [zdh]
theorem zmw {n:Int} (bs:List (List Int)) (hb:∀ b∈bs,isB n b) (hl:bs.length≤100000):PileOK n (zdh bs) (bs.length:Int)∧∀ f,wsum f (zdh bs)=bsum f bs:=by
  have key:∀ k,k≤bs.length→PileOK n (zdh (bs.take k)) (k:Int)∧∀ f,wsum f (zdh (bs.take k))=bsum f (bs.take k):=by
    intro k
    induction k with
    | zero=>intro _; exact ⟨PileOK.nil n,fun f=>rfl⟩
    | succ k ih =>
      intro hk
      obtain ⟨h1,h2⟩:=ih (by omega)
      have ht:=zjb bs [] (by omega:k < bs.length)
      have hm:=hb (bs.getD k []) (by rw [zbw bs [] (by omega)]; exact List.getElem_mem _)
      rw [ht,zmv]
      refine ⟨?_,fun f=>by rw [zmb,h2 f,bsum_app]; simp [bsum]⟩
      have:=h1.add hm (by omega)
      rwa [show (k:Int)+1=((k+1:Nat):Int) by omega] at this
  have:=key bs.length (Nat.le_refl _)
  rwa [List.take_length] at this
theorem d48_eq {n:Int} (h1:1≤n) (hn:n≤7) {bs:List (List Int)} (hb:∀ b∈bs,isB n b) (hl:bs.length≤100000):d48 n bs=some (zdh bs,0):=by
  unfold d48 letJ
  have c1:¬ n < 1:=by omega
  have c2:¬ 7 < n:=by omega
  have c3:¬ (100000:Int) < (bs.length:Int):=by omega
  simp only [c1,c2,c3,decide_false,Bool.not_false,cond_true,cond_false]
  refine zac (b:=.inl (zdh bs)) (fun i=>(n,bs,zdh (bs.take i),(i:Int))) bs.length rfl (fun i hi=>?_) ?_ rfl
  · have h2:(i:Int) < (bs.length:Int):=by omega
    have h3:(0:Int)≤(i:Int):=by omega
    have hwi:w ((i:Int)+1)=((i+1:Nat):Int):=by rw [w_id (by omega) (by omega)]; omega
    have hm:=hb (bs.getD i []) (by rw [zbw bs [] hi]; exact List.getElem_mem _)
    have hbl:=zql hm hn
    have ht:=zjb bs [] hi
    have hp:=(zmw (bs.take i) (fun b h=>hb b (List.mem_of_mem_take h)) (by simp; omega)).1
    simp only [h2,h3,hwi,decide_true,cond_true,Bool.and_self,Int.toNat_natCast,ht,zmv]
    obtain ⟨x,hxd⟩:∃ x,bs.getD i []=x:=⟨_,rfl⟩
    simp only [hxd] at hm hbl ⊢
    have hlim:(([]:List Int).length:Int)+(x.length:Int)≤LIM:=by rw [zge]; simp; omega
    rw [d32_eq n (by omega),hp.d98 hn hm]
    simp only [hm,hlim,decide_true,cond_true,Bool.not_true,cond_false,Option.bind_some]
  · have h1:¬ ((bs.length:Int) < (bs.length:Int)):=by omega
    simp only [h1,decide_false,cond_false,List.take_length]
theorem d26_eq {n:Int} (h1:1≤n) (hn:n≤7) {l:List (List Int)} (hl:l.length≤281474976710656) (hw:∀ x∈l,WT (.slice (.int .i64)) x) {most:Nat} (hm:most≤100):d26 n l (most:Int)=some (zdh (bals n l most)):=by
  have hbl:=bals_len (n:=n) (l:=l) (most:=most)
  unfold d26
  rw [d46_eq (by omega) hn hl hw hm]
  simp only [Option.bind_some]
  rw [d48_eq h1 hn (bals_isB (by omega)) (by omega)]
  rfl
end Go.Proofs.YtmipjomnjkmdbaaGreat
set_option linter.unusedSimpArgs false
set_option linter.unusedVariables false
open Go Go.Proofs Go.X
namespace Go.Proofs.YtmipjomnjkmdbaaGreat
def GsOK (gs:List Grp):Prop:=gs.length≤281474976710656∧∀ g∈gs,g.1.length≤281474976710656∧-9223372036854775808≤g.2∧g.2≤9223372036854775807
theorem GsOK.at {gs:List Grp} (h:GsOK gs) {i:Nat} (hi:i < gs.length):(gs.getD i ([],0)).1.length≤281474976710656∧-9223372036854775808≤(gs.getD i ([],0)).2∧(gs.getD i ([],0)).2≤9223372036854775807:=by
  rw [zbw gs _ hi]
  exact h.2 _ (List.getElem_mem _)
def goodP (n:Int) (gs:List Grp):Bool:=decide (∀ i,i < gs.length→badG n gs i=false)
def pileB (n:Int) (gs:List Grp):Bool:=decide (1≤n∧n≤7) && goodP n gs
theorem cmpL_lt (a b:List Int):decide (0≤cmpL a b)=!decide (a < b):=by
  unfold cmpL
  by_cases h:a < b
  · simp [h]
  · by_cases h':b < a
    · simp [h,h']
    · simp [h,h']
theorem d70_eq {n:Int} {gs:List Grp} (h:GsOK gs):d70 n gs=some (pileB n gs):=by
  unfold d70 pileB
  simp only [letJ]
  by_cases h1:n < 1
  · have:¬ (1≤n∧n≤7):=by omega
    simp [h1,this]
  · by_cases h2:7 < n
    · have:¬ (1≤n∧n≤7):=by omega
      simp [h1,h2,this]
    · have hn:1≤n∧n≤7:=by omega
      simp only [h1,h2,hn,and_self,decide_true,decide_false,Bool.not_false,cond_true,cond_false,Bool.true_and]
      refine zkz (fun i=>(n,gs,100000 - tot gs i,(i:Int))) (badG n gs) gs.length (fun _=>.inr false) (.inl ()) rfl (fun i hi hj=>?_) (fun _=>?_) (fun i hi hp hj=>?_) (fun hall=>?_)
      · have hl:=h.1
        have g2:(i:Int) < (gs.length:Int):=by omega
        have g3:(0:Int)≤(i:Int):=by omega
        have hw:w ((i:Int)+1)=((i+1:Nat):Int):=by rw [w_id (by omega) (by omega)]; omega
        have ht:=zia (n:=n) (gs:=gs) (i:=i) (by omega) hj
        have hgl:=(h.at hi).1
        have hgp:=(h.at (show i - 1 < gs.length by omega)).1
        have hts:tot gs (i+1)=tot gs i+(gs.getD i ([],0)).2 * 1:=zdn _ gs (by omega)
        have hw3:1≤(gs.getD i ([],0)).2→(gs.getD i ([],0)).2≤100000 - tot gs i→w (100000 - tot gs i - (gs.getD i ([],0)).2)=100000 - tot gs (i+1):=fun a b=>by rw [w_id (by omega) (by omega)]; omega
        have hb:badG n gs i=(decide ((gs.getD i ([],0)).2 < 1) || (decide (100000 - tot gs i < (gs.getD i ([],0)).2) || (!decide (isB n (gs.getD i ([],0)).1) || (decide (0 < i) && decide (0≤cmpL (gs.getD (i - 1) ([],0)).1 (gs.getD i ([],0)).1))))):=rfl
        rw [hb]
        simp only [g2,g3,decide_true,cond_true,Bool.and_self,Int.toNat_natCast,hw]
        obtain ⟨g,hgd⟩:∃ g,gs.getD i ([],0)=g:=⟨_,rfl⟩
        simp only [hgd] at hgl hts hw3 ⊢
        rw [d32_eq n hgl]
        simp only [Option.bind_some,cmpL_lt]
        by_cases c3:isB n g.1
        · by_cases c1:g.2 < 1
          · simp only [c1,c3]; rfl
          · by_cases c2:100000 - tot gs i < g.2
            · simp only [c1,c2,c3]; rfl
            · rw [hw3 (by omega) (by omega)]
              by_cases c4:0 < i
              · have c5:(0:Int) < (i:Int):=by omega
                have hwp:w ((i:Int) - 1)=((i - 1:Nat):Int):=by rw [w_id (by omega) (by omega)]; omega
                have h5:(0:Int)≤((i - 1:Nat):Int):=by omega
                have h6:((i - 1:Nat):Int) < (gs.length:Int):=by omega
                simp only [c1,c2,c3,c4,c5,hwp,h5,h6,Int.toNat_natCast,d97_eq hgp hgl,Option.bind_some,decide_true,decide_false,Bool.not_true,Bool.not_false,cond_true,cond_false,Bool.and_self,Bool.true_and,Bool.false_or]
                cases decide ((gs.getD (i - 1) ([],0)).1 < g.1) <;> rfl
              · have c5:¬ (0:Int) < (i:Int):=by omega
                simp only [c1,c2,c3,c4,c5]; rfl
        · have hor:(decide (g.2 < 1) || (decide (100000 - tot gs i < g.2) || (!decide (isB n g.1) || (decide (0 < i) && !decide ((gs.getD (i - 1) ([],0)).1 < g.1)))))=true:=by simp [c3]
          rw [hor]
          simp only [c3]; rfl
      · have g1:¬ ((gs.length:Int) < (gs.length:Int)):=by omega
        simp only [g1,decide_false,cond_false]
      · have:goodP n gs=false:=decide_eq_false fun hh=>by rw [hh i hi] at hp; cases hp
        simp [this]
      · have:goodP n gs=true:=decide_eq_true hall
        simp [this]
theorem good_tot {n:Int} {gs:List Grp} (h:∀ i,i < gs.length→badG n gs i=false):PileOK n gs (wsum (fun _=>1) gs) where
  ballots:=fun g hg=>by
    obtain ⟨i,hi,rfl⟩:=List.getElem_of_mem hg
    have:=h i hi
    unfold badG at this
    rw [zbw gs _ hi] at this
    simp only [Bool.or_eq_false_iff,decide_eq_false_iff_not,Bool.not_eq_false',decide_eq_true_eq] at this
    exact ⟨this.2.2.1,by omega⟩
  sorted:=by
    have step:∀ i,i+1 < gs.length→(gs.getD i ([],0)).1 < (gs.getD (i+1) ([],0)).1:=fun i hi=>by
      have:=h (i+1) hi
      unfold badG at this
      simp only [Bool.or_eq_false_iff] at this
      have:=this.2.2.2
      rw [cmpL_lt] at this
      simpa using this
    refine List.pairwise_iff_getElem.2 fun i j hi hj hij=>?_
    have key:∀ k,i+k+1 < gs.length→(gs.getD i ([],0)).1 < (gs.getD (i+k+1) ([],0)).1:=by
      intro k
      induction k with
      | zero=>intro hk; exact step i hk
      | succ k ih =>
        intro hk
        exact zjn (ih (by omega)) (step (i+k+1) (by omega))
    have:=key (j - i - 1) (by omega)
    rw [show i+(j - i - 1)+1=j by omega,zbw gs _ hi,zbw gs _ hj] at this
    exact this
  total:=rfl
  most:=by
    have:=(zia (n:=n) (gs:=gs) (i:=gs.length) (Nat.le_refl _) fun j hj=>h j hj).2
    unfold tot at this
    rwa [List.take_length] at this
theorem pileB_ok {n:Int} {gs:List Grp} (h:pileB n gs=true):1≤n∧n≤7∧PileOK n gs (wsum (fun _=>1) gs):=by
  unfold pileB at h
  simp only [Bool.and_eq_true,decide_eq_true_eq] at h
  exact ⟨h.1.1,h.1.2,good_tot (of_decide_eq_true h.2)⟩
theorem PileOK.gs {n:Int} {gs:List Grp} {N:Int} (h:PileOK n gs N) (hn:n≤7):GsOK gs:=by
  obtain ⟨h1,h2⟩:=h.sizes hn
  exact ⟨by omega,fun g hg=>by have:=h2 g hg; omega⟩
theorem PileOK.pileB {n:Int} {gs:List Grp} {N:Int} (h:PileOK n gs N) (h1:1≤n) (hn:n≤7):pileB n gs=true:=by
  unfold Go.Proofs.YtmipjomnjkmdbaaGreat.pileB goodP
  simp only [Bool.and_eq_true,decide_eq_true_eq]
  exact ⟨⟨h1,hn⟩,h.good⟩
theorem PileOK.d146 {n:Int} {gs:List Grp} {N:Int} (h:PileOK n gs N) (hn:n≤7):d146 gs=some true:=by
  unfold Go.Proofs.YtmipjomnjkmdbaaGreat.d146
  rw [d70_eq (h.gs hn),(h.wide hn).pileB (by omega) (by omega)]
  rfl
theorem PileOK.d83 {n:Int} {gs:List Grp} {N:Int} (h:PileOK n gs N) (hn:n≤7):d83 gs=some (wsum (fun _=>1) gs):=by
  obtain ⟨hl,hg⟩:=h.sizes hn
  have hf:∀ p:List Int,0≤(1:Int)∧(1:Int)≤1:=fun p=>by omega
  unfold Go.Proofs.YtmipjomnjkmdbaaGreat.d83
  refine zac (b:=wsum (fun _=>1) gs) (fun i=>(gs,wsum (fun _=>1) (gs.take i),(i:Int))) gs.length rfl (fun i hi=>?_) ?_ rfl
  · have h2:(i:Int) < (gs.length:Int):=by omega
    have h3:(0:Int)≤(i:Int):=by omega
    have hw:w ((i:Int)+1)=((i+1:Nat):Int):=by rw [w_id (by omega) (by omega)]; omega
    have e:=zdn (fun _=>1) gs hi
    have b0:=h.part hf i
    have b1:=h.part hf (i+1)
    have hw2:w (wsum (fun _=>1) (gs.take i)+(gs.getD i ([],0)).2)=wsum (fun _=>1) (gs.take (i+1)):=by rw [w_id (by omega) (by omega)]; omega
    simp only [h.d146 hn,h2,h3,hw,letJ,decide_true,cond_true,Bool.and_self,Int.toNat_natCast,Option.bind_some,hw2]
  · have h1:¬ ((gs.length:Int) < (gs.length:Int)):=by omega
    simp only [h1,letJ,decide_false,cond_false,List.take_length]
theorem zmy:∀ {gs:List Grp},zki gs→(∀ g∈gs,g.1 ≠ [])→wsum zar gs=wsum (fun _=>1) gs
  | [],_,_=>rfl
  | g::gs,hs,h=>by
    have ih:=zmy (gs:=gs) (List.pairwise_cons.1 hs).2 fun x hx=>h x (List.mem_cons_of_mem _ hx)
    have:zar g.1=1:=by unfold zar; rw [if_neg (h g (by simp))]
    simp only [wsum,ih,this]
theorem nil_first {a b:List Int} (h:a < b):b ≠ []:=by
  rintro rfl
  cases a <;> simp at h
theorem PileOK.d74 {n:Int} {gs:List Grp} {N:Int} (h:PileOK n gs N) (hn:n≤7):d74 gs=some (wsum zar gs):=by
  unfold Go.Proofs.YtmipjomnjkmdbaaGreat.d74
  rw [h.d83 hn]
  have hN:=h.most
  have ht:=h.total
  have hp:=zgh (n:=n) h.ballots (f:=zar) fun p=>by unfold zar; split <;> omega
  have hl:=zlr h.ballots
  match gs,h with
  | [],h=>simp [wsum,letJ]
  | g::gs,h =>
    have hg:=h.ballots g (by simp)
    have h0:=(zgh (n:=n) (gs:=gs) (fun x hx=>h.ballots x (List.mem_cons_of_mem _ hx)) (f:=fun _=>1) (fun _=>by omega)).1
    have hsort:=List.pairwise_cons.1 h.sorted
    have hm:=zmy hsort.2 fun x hx=>nil_first (hsort.1 x hx)
    have c1:0 < wsum (fun _=>1) (g::gs):=by simp only [wsum]; omega
    have c2:(0:Int) < (((g::gs).length:Nat):Int):=by simp
    simp only [Option.bind_some,letJ,c1,c2,decide_true,cond_true,List.getD_cons_zero]
    obtain ⟨p,k⟩:=g
    match p with
    | [] =>
      have e:wsum zar ((([]:List Int),k)::gs)=wsum (fun _=>1) ((([]:List Int),k)::gs) - k:=by
        have:zar []=0:=rfl
        simp only [wsum,hm,this]
        omega
      rw [e]
      rw [w_id (by simp only at hg; omega) (by simp only at hg; omega)]
      rfl
    | y::p =>
      have e:wsum zar ((y::p,k)::gs)=wsum (fun _=>1) ((y::p,k)::gs):=by
        have:zar (y::p)=1:=rfl
        simp only [wsum,hm,this]
      have c3:¬ ((((y::p).length:Nat):Int)=0):=by simp; omega
      rw [e]
      simp only [c3,decide_false]
      rfl
end Go.Proofs.YtmipjomnjkmdbaaGreat
set_option linter.unusedSimpArgs false
set_option linter.unusedVariables false
namespace Go.Proofs.YtmipjomnjkmdbaaGreat
open Go Go.X
def nv:List Int→Nat
  | []=>0
  | x::l=>x.toNat+4294967296 * nv l
def IsL (l:List Int):Prop:=∀ x∈l,0≤x∧x < 4294967296
def NF (l:List Int):Prop:=IsL l∧l.getLast? ≠ some 0
theorem IsL.nil:IsL []:=fun _ h=>absurd h (by simp)
theorem IsL.cons {x:Int} {l:List Int} (h0:0≤x) (h1:x < 4294967296) (h:IsL l):IsL (x::l):=fun y hy=>by
  rcases List.mem_cons.1 hy with rfl | hy
  · exact ⟨h0,h1⟩
  · exact h y hy
theorem IsL.tail {x:Int} {l:List Int} (h:IsL (x::l)):IsL l:=fun y hy=>h y (List.mem_cons_of_mem _ hy)
theorem IsL.head {x:Int} {l:List Int} (h:IsL (x::l)):0≤x∧x < 4294967296:=h x List.mem_cons_self
theorem IsL.take {l:List Int} (h:IsL l) (k:Nat):IsL (l.take k):=fun y hy=>h y (List.mem_of_mem_take hy)
theorem IsL.getD {l:List Int} (h:IsL l) (i:Nat):0≤l.getD i 0∧l.getD i 0 < 4294967296:=by
  rw [List.getD_eq_getElem?_getD]
  cases hi:l[i]? with
  | none=>simp
  | some x =>
    obtain ⟨h1,h2⟩:=List.getElem?_eq_some_iff.1 hi
    exact h x (h2 ▸ List.getElem_mem h1)
theorem IsL.set {l:List Int} (h:IsL l) (i:Nat) {x:Int} (h0:0≤x) (h1:x < 4294967296):IsL (l.set i x):=fun y hy=>by
  rcases List.mem_or_eq_of_mem_set hy with hy | rfl
  · exact h y hy
  · exact ⟨h0,h1⟩
theorem IsL.zeros (n:Nat):IsL (List.replicate n 0):=fun y hy=>by rw [List.eq_of_mem_replicate hy]; omega
theorem zjh:∀ (a b:List Int),nv (a++b)=nv a+4294967296 ^ a.length * nv b
  | [],b=>by simp [nv]
  | x::a,b=>by
    simp only [List.cons_append,nv,zjh a b,List.length_cons,Nat.pow_succ]
    generalize 4294967296 ^ a.length=P
    rw [Nat.mul_add,Nat.add_assoc,← Nat.mul_assoc,Nat.mul_comm P 4294967296]
theorem zds:∀ n:Nat,nv (List.replicate n 0)=0
  | 0=>rfl
  | n+1=>by simp [List.replicate_succ,nv,zds n]
theorem zod:∀ {l:List Int},IsL l→nv l < 4294967296 ^ l.length
  | [],_=>by simp [nv]
  | x::l,h=>by
    have ih:=zod h.tail
    have hx:=h.head
    simp only [nv,List.length_cons,Nat.pow_succ]
    generalize 4294967296 ^ l.length=P at *
    have:x.toNat < 4294967296:=by omega
    omega
theorem NF.tail {x:Int} {l:List Int} (h:NF (x::l)):NF l:=⟨h.1.tail,fun he=>h.2 (by
  cases l with
  | nil=>simp at he
  | cons y l=>rw [List.getLast?_cons_cons]; exact he)⟩
theorem NF.nil:NF []:=⟨IsL.nil,by simp⟩
theorem NF.pos:∀ {l:List Int},NF l→l ≠ []→0 < nv l
  | [],_,h=>absurd rfl h
  | [x],h,_=>by
    have hx:=h.1.head
    have:x ≠ 0:=fun e=>h.2 (by simp [e])
    simp only [nv]; omega
  | x::y::l,h,_=>by
    have:=NF.pos h.tail (by simp)
    simp only [nv] at this ⊢; omega
theorem nv_inj:∀ {a b:List Int},NF a→NF b→nv a=nv b→a=b
  | [],[],_,_,_=>rfl
  | [],y::b,_,hb,h=>absurd (NF.pos hb (by simp)) (by rw [← h]; simp [nv])
  | x::a,[],ha,_,h=>absurd (NF.pos ha (by simp)) (by rw [h]; simp [nv])
  | x::a,y::b,ha,hb,h=>by
    have hx:=ha.1.head
    have hy:=hb.1.head
    simp only [nv] at h
    have h1:nv a=nv b:=by omega
    have h2:x=y:=by omega
    rw [h2,nv_inj ha.tail hb.tail h1]
def zap (n:Nat):List Int:=if h:n=0 then [] else ((n % 4294967296:Nat):Int)::zap (n / 4294967296)
  termination_by n
  decreasing_by exact Nat.div_lt_self (Nat.pos_of_ne_zero h) (by omega)
theorem zch:zap 0=[]:=by rw [zap]; simp
theorem zfg {n:Nat} (h:n ≠ 0):zap n=((n % 4294967296:Nat):Int)::zap (n / 4294967296):=by rw [zap]; simp [h]
theorem zqg (n:Nat):NF (zap n)∧nv (zap n)=n:=by
  induction n using Nat.strongRecOn with
  | _ n ih =>
    by_cases h:n=0
    · subst h; rw [zch]; exact ⟨NF.nil,rfl⟩
    · have ⟨h1,h2⟩:=ih (n / 4294967296) (Nat.div_lt_self (by omega) (by omega))
      rw [zfg h]
      refine ⟨⟨h1.1.cons (by omega) (by omega),?_⟩,?_⟩
      · cases hl:zap (n / 4294967296) with
        | nil =>
          rw [hl] at h2
          simp only [nv] at h2
          simp only [List.getLast?_singleton,ne_eq,Option.some.injEq]
          omega
        | cons y l =>
          rw [List.getLast?_cons_cons,← hl]
          exact h1.2
      · simp only [nv,h2]; omega
theorem zka (n:Nat):NF (zap n):=(zqg n).1
theorem zan (n:Nat):IsL (zap n):=(zqg n).1.1
theorem zat (n:Nat):nv (zap n)=n:=(zqg n).2
theorem limbs_nv {l:List Int} (h:NF l):zap (nv l)=l:=nv_inj (zka _) h (zat _)
theorem limbs_inj {a b:Nat} (h:zap a=zap b):a=b:=by rw [← zat a,h,zat]
theorem znb {n:Nat}:zap n=[]↔n=0:=⟨fun h=>by rw [← zat n,h]; rfl,fun h=>by rw [h,zch]⟩
theorem zet {n:Nat}:0 < (zap n).length↔0 < n:=by
  rw [List.length_pos_iff,ne_eq,znb]; omega
theorem zaw (n:Nat):∀ k:Nat,(zap n).length≤k↔n < 4294967296 ^ k:=by
  induction n using Nat.strongRecOn with
  | _ n ih =>
    intro k
    by_cases h:n=0
    · subst h; rw [zch]; simp; exact Nat.pow_pos (by omega)
    · rw [zfg h,List.length_cons]
      cases k with
      | zero=>simp; omega
      | succ k =>
        have:=ih (n / 4294967296) (Nat.div_lt_self (by omega) (by omega)) k
        rw [Nat.succ_le_succ_iff,this,Nat.pow_succ]
        exact Nat.div_lt_iff_lt_mul (by omega)
theorem zja (l:List Int) {n:Nat} (h:n < l.length):l.take (n+1)=l.take n++[l.getD n 0]:=by
  rw [List.take_add_one,List.getD_eq_getElem?_getD,List.getElem?_eq_getElem h]; rfl
theorem take_tlen {l:List Int} (h:IsL l):∀ n,n≤l.length→l.take (tlen l n)=zap (nv (l.take n))
  | 0,_=>by simp [tlen,nv,zch]
  | n+1,hn=>by
    have ih:=take_tlen h n (by omega)
    have hs:=zja l (n:=n) (by omega)
    unfold tlen
    split
    · rename_i h0
      rw [ih,hs,zjh,h0]; simp [nv]
    · rename_i h0
      refine (limbs_nv ⟨h.take _,?_⟩).symm
      rw [hs,List.getLast?_append]; simp; exact h0
theorem take_tl {l:List Int} (h:IsL l):l.take (tlen l l.length)=zap (nv l):=by
  have:=take_tlen h l.length (Nat.le_refl _)
  rwa [List.take_length] at this
theorem tlen_eq {l:List Int} (h:IsL l):tlen l l.length=(zap (nv l)).length:=by
  have:=congrArg List.length (take_tl h)
  rw [List.length_take,Nat.min_eq_left (tlen_le _ _)] at this
  exact this
theorem limbs_le {l:List Int} (h:IsL l):(zap (nv l)).length≤l.length:=by rw [← tlen_eq h]; exact tlen_le _ _
theorem digit_low {U V W top s t u0 z q r h:Nat} (hV:V=(h * 4294967296+s) * W+t) (hU:U=(top * 4294967296+u0) * W+z) (hz:z < W) (hq:q * h+r=top) (hc:r * 4294967296+u0 < q * s):U < q * V:=by
  have h1:(top * 4294967296+u0)+1≤q * (h * 4294967296+s):=by
    rw [← hq,Nat.mul_add,Nat.add_mul,← Nat.mul_assoc]; omega
  have h2:=Nat.mul_le_mul_right W h1
  rw [Nat.add_mul,Nat.one_mul] at h2
  rw [hV,Nat.mul_add,← Nat.mul_assoc,hU]
  omega
theorem zpb {U V W top s t u0 z q r h:Nat} (hV:V=(h * 4294967296+s) * W+t) (hU:U=(top * 4294967296+u0) * W+z) (ht:t < W) (hh:1≤h) (hq:q * h+r=top) (hq2:q < 4294967296) (hc:q * s≤r * 4294967296+u0):q * V < U+V:=by
  have h1:q * (h * 4294967296+s)≤top * 4294967296+u0:=by
    rw [← hq,Nat.mul_add,Nat.add_mul,← Nat.mul_assoc]; omega
  have h2:=Nat.mul_le_mul_right W h1
  have h3:q * t≤4294967296 * W:=Nat.mul_le_mul (by omega) (by omega)
  have h4:q * t < 4294967296 * W:=by
    rcases Nat.eq_zero_or_pos q with h0 | h0
    · subst h0; rw [Nat.zero_mul]; omega
    · exact Nat.lt_of_lt_of_le (Nat.mul_lt_mul_of_pos_left ht h0) (Nat.mul_le_mul_right _ (by omega))
  have h5:4294967296 * W≤V:=by
    rw [hV]
    have:4294967296 * W≤(h * 4294967296+s) * W:=Nat.mul_le_mul_right _ (by omega)
    omega
  have h6:q * V=q * (h * 4294967296+s) * W+q * t:=by rw [hV,Nat.mul_add,← Nat.mul_assoc]
  omega
end Go.Proofs.YtmipjomnjkmdbaaGreat
set_option linter.unusedSimpArgs false
set_option linter.unusedVariables false
namespace Go.Proofs.YtmipjomnjkmdbaaGreat
open Go Go.X
theorem znz (i:Nat):0 < 4294967296 ^ i:=Nat.pow_pos (by decide)
theorem nv_split (l:List Int) (i:Nat) (h:i≤l.length):nv l=nv (l.take i)+4294967296 ^ i * nv (l.drop i):=by
  have:=zjh (l.take i) (l.drop i)
  rw [List.take_append_drop,List.length_take,Nat.min_eq_left h] at this
  exact this
theorem nv_drop {l:List Int} (hl:IsL l) {i:Nat} (h:i≤l.length):nv (l.drop i)=nv l / 4294967296 ^ i:=by
  have h1:=zod (hl.take i)
  rw [List.length_take,Nat.min_eq_left h] at h1
  rw [nv_split l i h,Nat.add_mul_div_left _ _ (znz i),Nat.div_eq_of_lt h1,Nat.zero_add]
theorem znk (l:List Int) {i:Nat} (h:i < l.length):l.drop i=l.getD i 0::l.drop (i+1):=by
  rw [List.getD_eq_getElem?_getD,List.getElem?_eq_getElem h]
  exact List.drop_eq_getElem_cons h
theorem zep {l:List Int} (hl:IsL l) (i:Nat):l.getD i 0=((nv l / 4294967296 ^ i % 4294967296:Nat):Int):=by
  by_cases h:i < l.length
  · have h1:=nv_drop hl (Nat.le_of_lt h)
    rw [znk l h] at h1
    simp only [nv] at h1
    have h2:=hl.getD i
    rw [← h1]
    omega
  · have h1:=zod hl
    rw [List.getD_eq_getElem?_getD,List.getElem?_eq_none (by omega)]
    have h2:nv l < 4294967296 ^ i:=Nat.lt_of_lt_of_le h1 (Nat.pow_le_pow_right (by decide) (by omega))
    rw [Nat.div_eq_of_lt h2]
    rfl
theorem zip:∀ (l:List Int) (i:Nat) (x:Int),i < l.length→nv (l.set i x)+4294967296 ^ i * (l.getD i 0).toNat=nv l+4294967296 ^ i * x.toNat
  | [],i,x,h=>by simp at h
  | y::l,0,x,h=>by simp [nv]; omega
  | y::l,i+1,x,h=>by
    have ih:=zip l i x (by simpa using h)
    simp only [List.set_cons_succ,nv,List.getD_cons_succ,Nat.pow_succ]
    generalize hP:4294967296 ^ i=P at ih ⊢
    generalize (l.getD i 0).toNat=c at ih ⊢
    generalize x.toNat=e at ih ⊢
    have e1:P * 4294967296 * c=4294967296 * (P * c):=by rw [Nat.mul_comm P 4294967296,Nat.mul_assoc]
    have e2:P * 4294967296 * e=4294967296 * (P * e):=by rw [Nat.mul_comm P 4294967296,Nat.mul_assoc]
    rw [e1,e2]
    omega
theorem zkp {l:List Int} (hl:IsL l) {i:Nat} (x:Int) (h:i < l.length) (h0:nv l < 4294967296 ^ i):nv (l.set i x)=nv l+4294967296 ^ i * x.toNat:=by
  have h1:=zip l i x h
  rw [zep hl,Nat.div_eq_of_lt h0] at h1
  simpa using h1
theorem zbs {n:Nat} (h:n≤4294967296):decide ((n:Int)≤LIM)=true:=by
  rw [zge]; exact decide_eq_true (by omega)
theorem zcf {l:List Int} (h:IsL l):l.take (zav l)=zap (nv l):=take_tl h
theorem zbq {l:List Int} (h:IsL l):(zap (nv l)).length≤l.length:=limbs_le h
theorem zbt {n:Int} (h0:0≤n) (h1:n < 18446744073709551616):wu64 n=n:=by
  show IntKind.u64.wrap n=n
  simp [IntKind.wrap,IntKind.bits,IntKind.signed]; omega
theorem zgg (n:Int):wu32 n=n % 4294967296:=by
  show IntKind.u32.wrap n=_
  simp [IntKind.wrap,IntKind.bits,IntKind.signed]
theorem wu64_mod (n:Int):wu64 n=n % 18446744073709551616:=by
  show IntKind.u64.wrap n=_
  simp [IntKind.wrap,IntKind.bits,IntKind.signed]
theorem zbl {n:Int} (h0:-9223372036854775808≤n) (h1:n≤9223372036854775807):w n=n:=IntWalk.i64_in n ⟨h0,h1⟩
theorem sh32 (n:Int):Int.fdiv n (2 ^ (min (Int.toNat 32) 64))=n / 4294967296:=by
  show Int.fdiv n 4294967296=_
  exact Int.fdiv_eq_ediv_of_nonneg n (by decide)
theorem zah {α β R:Type} (f:α→β) (g:(α→β)→Option R):letJ f g=g f:=by
  cases h:letJ f g
  · exact h.symm
  · exact h.symm
theorem zbo {α β γ:Type} {f:α→Option (α ⊕ β)} {k:β→Option γ} {a0:α} {Q:Option γ→Prop} (R:Nat→α→Prop) (n:Nat) (h0:R 0 a0) (hs:∀ i a,i < n→R i a→∃ a',f a=some (.inl a')∧R (i+1) a') (he:∀ a,R n a→∃ b,f a=some (.inr b)∧Q (k b)):Q ((zae f a0).bind k):=by
  have key:∀ m i a,i+m=n→R i a→∃ b,zae f a=some b∧Q (k b):=by
    intro m
    induction m with
    | zero =>
      intro i a hi hr
      obtain rfl:i=n:=by omega
      obtain ⟨b,h1,h2⟩:=he a hr
      exact ⟨b,zdz h1,h2⟩
    | succ m ih =>
      intro i a hi hr
      obtain ⟨a',h1,h2⟩:=hs i a (by omega) hr
      obtain ⟨b,h3,h4⟩:=ih (i+1) a' (by omega) h2
      exact ⟨b,zhx h1 h3,h4⟩
  obtain ⟨b,h1,h2⟩:=key n 0 a0 (by omega) h0
  rw [h1]
  exact h2
end Go.Proofs.YtmipjomnjkmdbaaGreat
set_option linter.unusedSimpArgs false
set_option linter.unusedVariables false
namespace Go.Proofs.YtmipjomnjkmdbaaGreat
open Go Go.X
theorem zqx {xs:List Int} (h:xs.length≤4294967296):d173 xs=some xs:=by
  unfold d173; rw [zbs h]; rfl
theorem zgx {a:List Int} (ha:IsL a) (h:a.length≤4294967296):d171 a=some (zap (nv a)):=by
  unfold d171
  have:=zbq ha
  rw [zbs h,cond_true,Option.bind_some,zcf ha,zqx (by omega)]
  rfl
theorem znp {n:Int} (h0:0≤n) (h1:n < 18446744073709551616):d129 n=some (zap n.toNat):=by
  unfold d129
  have e1:wu32 n=n % 4294967296:=zgg n
  have e2:wu32 (wu64 (Int.fdiv n (2 ^ (min (Int.toNat 32) 64))))=n / 4294967296:=by
    rw [sh32,zbt (by omega) (by omega),zgg]
    omega
  rw [e1,e2]
  have hL:IsL [n % 4294967296,n / 4294967296]:=IsL.cons (by omega) (by omega) (IsL.cons (by omega) (by omega) IsL.nil)
  rw [zgx hL (by simp)]
  have:nv [n % 4294967296,n / 4294967296]=n.toNat:=by simp only [nv]; omega
  rw [this]
  rfl
theorem d217_eq {a:List Int} (ha:IsL a) {i:Int} (h0:0≤i):d217 a i=some (a.getD i.toNat 0):=by
  unfold d217
  have hg:=ha.getD i.toNat
  by_cases h:i < (a.length:Int)
  · simp only [h,h0,decide_true,cond_true,Bool.and_self]
    rw [zbt hg.1 (by omega)]
  · simp only [h,decide_false,cond_false]
    rw [List.getD_eq_getElem?_getD,List.getElem?_eq_none (by omega)]
    rfl
theorem zgw {a:List Int} (ha:IsL a) (i:Nat):d217 a (i:Int)=some (a.getD i 0):=by
  rw [d217_eq ha (by omega)]; rfl
def cmpN (x y:Nat):Int:=if x < y then -1 else if y < x then 1 else 0
theorem zhk {l:List Int} {k:Nat} (h:k < l.length):nv (l.take (k+1))=nv (l.take k)+4294967296 ^ k * (l.getD k 0).toNat:=by
  rw [zja l h,zjh,List.length_take,Nat.min_eq_left (by omega)]
  simp [nv]
theorem top_lt {l:List Int} (hl:IsL l) (k:Nat):nv (l.take k) < 4294967296 ^ k:=by
  have h1:=zod (hl.take k)
  exact Nat.lt_of_lt_of_le h1 (Nat.pow_le_pow_right (by decide) (by rw [List.length_take]; omega))
theorem digit_cmp {P p q x y:Nat} (hp:p < P) (hq:q < P) (h:x < y):p+P * x < q+P * y:=by
  have:P * (x+1)≤P * y:=Nat.mul_le_mul_left _ h
  rw [Nat.mul_add,Nat.mul_one] at this
  omega
theorem d201_eq {a b:List Int} (ha:IsL a) (hb:IsL b) (la:a.length≤4294967296) (lb:b.length≤4294967296):d201 a b=some (cmpN (nv a) (nv b)):=by
  unfold d201
  rw [zbs la,zbs lb]
  simp only [cond_true,Option.bind_some,zcf ha,zcf hb]
  have hla:=zbq ha
  have hlb:=zbq hb
  have hA:=zan (nv a)
  have hB:=zan (nv b)
  have eA:=zat (nv a)
  have eB:=zat (nv b)
  have cA:=zaw (nv a)
  have cB:=zaw (nv b)
  generalize hxA:zap (nv a)=A at *
  generalize hxB:zap (nv b)=B at *
  by_cases hne:A.length=B.length
  · have e1:decide ((A.length:Int)=(B.length:Int))=true:=decide_eq_true (by omega)
    simp only [e1,Bool.not_true,cond_false]
    have key:∀ k,k≤A.length→nv (A.drop k)=nv (B.drop k)→(zae (β:=Unit ⊕ Int) (fun ((a_1,b_1,i):(List Int) × (List Int) × Int) =>
        bif (decide (0≤i)) then
          bif (decide (0≤i) && decide (i < (a_1.length:Int))) then
            bif (decide (0≤i) && decide (i < (b_1.length:Int))) then
              bif (decide ((List.getD a_1 (Int.toNat i) 0) < (List.getD b_1 (Int.toNat i) 0))) then
                some (Sum.inr (Sum.inr (-1)))
              else
                bif (decide (0≤i) && decide (i < (a_1.length:Int))) then
                  bif (decide (0≤i) && decide (i < (b_1.length:Int))) then
                    bif (decide ((List.getD b_1 (Int.toNat i) 0) < (List.getD a_1 (Int.toNat i) 0))) then
                      some (Sum.inr (Sum.inr 1))
                    else
                      some (Sum.inl (a_1,b_1,(w (i - 1))))
                  else none
                else none
            else none
          else none
        else
          some (Sum.inr (Sum.inl ()))) (A,B,(k:Int) - 1)).bind (fun
    | Sum.inl _ =>
      some 0
    | Sum.inr t4 =>
      some t4)=some (cmpN (nv (A.take k)) (nv (B.take k))):=by
      intro k
      induction k with
      | zero =>
        intro _ _
        rw [zdz (b:=Sum.inl ()) (by rfl)]
        rfl
      | succ k ih =>
        intro hk hd
        have hkA:k < A.length:=by omega
        have hkB:k < B.length:=by omega
        have i1:((k+1:Nat):Int) - 1=(k:Int):=by omega
        rw [i1]
        have d0:decide ((0:Int)≤(k:Int))=true:=decide_eq_true (by omega)
        have dA:decide ((k:Int) < (A.length:Int))=true:=decide_eq_true (by omega)
        have dB:decide ((k:Int) < (B.length:Int))=true:=decide_eq_true (by omega)
        have tA:=zhk hkA
        have tB:=zhk hkB
        have lA:=top_lt hA k
        have lB:=top_lt hB k
        have gA:=hA.getD k
        have gB:=hB.getD k
        rw [tA,tB]
        have hkn:Int.toNat (k:Int)=k:=rfl
        rcases Int.lt_trichotomy (A.getD k 0) (B.getD k 0) with h | h | h
        · rw [zdz (b:=Sum.inr (-1)) (by simp only [d0,dA,dB,hkn,decide_eq_true h,cond_true,Bool.and_self])]
          have:=digit_cmp lA lB (show (A.getD k 0).toNat < (B.getD k 0).toNat by omega)
          simp only [Option.bind_some]
          unfold cmpN
          rw [if_pos this]
        · have hd':nv (A.drop k)=nv (B.drop k):=by
            rw [znk A hkA,znk B hkB]
            simp only [nv,hd,h]
          have:=ih (by omega) hd'
          have hw:w ((k:Int) - 1)=(k:Int) - 1:=zbl (by omega) (by omega)
          obtain ⟨z,hz⟩:∃ z,cmpN (nv (A.take k)+4294967296 ^ k * (A.getD k 0).toNat) (nv (B.take k)+4294967296 ^ k * (B.getD k 0).toNat)=z:=⟨_,rfl⟩
          have hzz:cmpN (nv (A.take k)) (nv (B.take k))=z:=by
            rw [← hz,h]; unfold cmpN
            generalize 4294967296 ^ k * (B.getD k 0).toNat=q
            (repeat' split) <;> omega
          rw [hz]
          rw [hzz] at this
          simp only [Option.bind_eq_some_iff] at this ⊢
          obtain ⟨b,hb1,hb2⟩:=this
          refine ⟨b,zhx ?_ hb1,hb2⟩
          have n1:decide (A.getD k 0 < B.getD k 0)=false:=decide_eq_false (by omega)
          have n2:decide (B.getD k 0 < A.getD k 0)=false:=decide_eq_false (by omega)
          simp only [d0,dA,dB,hkn,n1,n2,cond_true,cond_false,Bool.and_self,hw]
        · have n1:decide (A.getD k 0 < B.getD k 0)=false:=decide_eq_false (by omega)
          rw [zdz (b:=Sum.inr 1) (by simp only [d0,dA,dB,hkn,n1,decide_eq_true h,cond_true,cond_false,Bool.and_self])]
          have:=digit_cmp lB lA (show (B.getD k 0).toNat < (A.getD k 0).toNat by omega)
          simp only [Option.bind_some]
          unfold cmpN
          rw [if_neg (by omega),if_pos this]
    have:=key A.length (Nat.le_refl _) (by rw [List.drop_length,hne,List.drop_length])
    rw [List.take_length,hne,List.take_length,eA,eB] at this
    rw [zbl (by omega) (by omega),hne]
    exact this
  · have e1:decide ((A.length:Int)=(B.length:Int))=false:=decide_eq_false (by omega)
    simp only [e1,Bool.not_false,cond_true]
    rcases Nat.lt_or_ge A.length B.length with h | h
    · have e2:decide ((A.length:Int) < (B.length:Int))=true:=decide_eq_true (by omega)
      have h1:=(cA A.length).1 (Nat.le_refl _)
      have h2:¬ nv b < 4294967296 ^ A.length:=fun hh=>by have:=(cB A.length).2 hh; omega
      simp only [e2,cond_true]
      unfold cmpN
      rw [if_pos (by omega)]
    · have e2:decide ((A.length:Int) < (B.length:Int))=false:=decide_eq_false (by omega)
      have h1:=(cB B.length).1 (Nat.le_refl _)
      have h2:¬ nv a < 4294967296 ^ B.length:=fun hh=>by have:=(cA B.length).2 hh; omega
      simp only [e2,cond_false]
      unfold cmpN
      rw [if_neg (by omega),if_pos (by omega)]
end Go.Proofs.YtmipjomnjkmdbaaGreat
set_option linter.unusedSimpArgs false
set_option linter.unusedVariables false
namespace Go.Proofs.YtmipjomnjkmdbaaGreat
open Go Go.X
theorem nv_takeS {l:List Int} (k:Nat):nv (l.take (k+1))=nv (l.take k)+4294967296 ^ k * (l.getD k 0).toNat:=by
  by_cases h:k < l.length
  · exact zhk h
  · rw [List.take_of_length_le (by omega),List.take_of_length_le (by omega),List.getD_eq_getElem?_getD,List.getElem?_eq_none (by omega)]
    simp
theorem zdx {l:List Int} (hl:IsL l) (k:Nat):∃ x:Nat,l.getD k 0=(x:Int)∧x < 4294967296∧nv (l.take (k+1))=nv (l.take k)+4294967296 ^ k * x:=by
  have:=hl.getD k
  refine ⟨(l.getD k 0).toNat,by omega,by omega,nv_takeS k⟩
theorem pow_digit {P v x:Nat} (hv:v < P) (hx:x < 4294967296):v+P * x < P * 4294967296:=by
  have:P * (x+1)≤P * 4294967296:=Nat.mul_le_mul_left _ hx
  rw [Nat.mul_add,Nat.mul_one] at this
  omega
theorem lenmax (x y:Nat):(bif decide ((x:Int) < (y:Int)) then (y:Int) else (x:Int))=((max x y:Nat):Int):=by
  by_cases h:(x:Int) < (y:Int)
  · rw [decide_eq_true h,cond_true]; omega
  · rw [decide_eq_false h,cond_false]; omega
theorem carry_step {P v s lo hi c x y a b:Nat} (hs:s=x+y+c) (hlo:lo=s % 4294967296) (hhi:hi=s / 4294967296) (h:v+P * c=a+b):v+P * lo+P * 4294967296 * hi=a+P * x+(b+P * y):=by
  have e:s=lo+4294967296 * hi:=by omega
  have:P * s=P * lo+P * 4294967296 * hi:=by rw [e,Nat.mul_add,Nat.mul_assoc]
  have e2:P * s=P * x+P * y+P * c:=by rw [hs,Nat.mul_add,Nat.mul_add]
  omega
theorem d209_eq {a b:List Int} (ha:IsL a) (hb:IsL b) (la:a.length≤1073741824) (lb:b.length≤1073741824):d209 a b=some (zap (nv a+nv b)):=by
  unfold d209
  rw [zbs (by omega),zbs (by omega)]
  simp only [cond_true,Option.bind_some,zcf ha,zcf hb]
  have hla:=zbq ha
  have hlb:=zbq hb
  have hA:=zan (nv a)
  have hB:=zan (nv b)
  have eA:=zat (nv a)
  have eB:=zat (nv b)
  generalize hxA:zap (nv a)=A at *
  generalize hxB:zap (nv b)=B at *
  clear hxA hxB
  simp only [lenmax]
  obtain ⟨n,hn⟩:∃ n,max A.length B.length=n:=⟨_,rfl⟩
  have hnA:A.length≤n:=by omega
  have hnB:B.length≤n:=by omega
  have hn1:n≤1073741824:=by omega
  rw [hn]
  have w1:w ((n:Int)+1)=((n+1:Nat):Int):=by rw [zbl (by omega) (by omega)]; omega
  have g1:decide ((0:Int)≤((n+1:Nat):Int))=true:=decide_eq_true (by omega)
  simp only [w1,decide_true,g1,zbs (n:=n+1) (by omega),Bool.and_self,cond_true]
  refine zbo (Q:=fun r=>r=some (zap (nv a+nv b))) (fun (i:Nat) (st:(List Int) × (List Int) × Int × (List Int) × Int × Int × Int)=>∃ (out:List Int) (c:Nat),st=(A,B,(n:Int),out,(c:Int),(n:Int),(i:Int))∧IsL out∧out.length=n+1∧c≤1∧nv out+4294967296 ^ i * c=nv (A.take i)+nv (B.take i)∧nv out < 4294967296 ^ i) n ?_ ?_ ?_
  · exact ⟨List.replicate (n+1) 0,0,rfl,IsL.zeros _,by simp,by omega,by simp [zds,nv],by simp [zds]⟩
  · rintro i st hi ⟨out,c,rfl,hL,hlen,hc,hv,hlt⟩
    obtain ⟨x,hx1,hx2,hx3⟩:=zdx hA i
    obtain ⟨y,hy1,hy2,hy3⟩:=zdx hB i
    have q1:decide ((i:Int) < (n:Int))=true:=decide_eq_true (by omega)
    have q2:decide ((0:Int)≤(i:Int))=true:=decide_eq_true (by omega)
    have q3:decide ((i:Int) < (out.length:Int))=true:=decide_eq_true (by omega)
    have w2:w ((i:Int)+1)=((i+1:Nat):Int):=by rw [zbl (by omega) (by omega)]; omega
    have s1:wu64 ((x:Int)+(y:Int))=(x:Int)+y:=zbt (by omega) (by omega)
    have s2:wu64 ((x:Int)+(y:Int)+(c:Int))=(x:Int)+y+c:=zbt (by omega) (by omega)
    have s3:wu32 ((x:Int)+(y:Int)+(c:Int))=(((x+y+c) % 4294967296:Nat):Int):=by rw [zgg]; omega
    have s4:wu64 (((x:Int)+(y:Int)+(c:Int)) / 4294967296)=(((x+y+c) / 4294967296:Nat):Int):=by rw [zbt (by omega) (by omega)]; omega
    simp only [zgw hA,zgw hB,q1,q2,q3,w2,hx1,hy1,s1,s2,s3,sh32,s4,cond_true,Bool.and_self,Option.bind_some,show Int.toNat (i:Int)=i from rfl]
    have e1:=zkp hL (i:=i) (((x+y+c) % 4294967296:Nat):Int) (by omega) hlt
    rw [Int.toNat_natCast] at e1
    refine ⟨_,rfl,_,_,rfl,hL.set i (by omega) (by omega),by simpa using hlen,by omega,?_,?_⟩
    · rw [e1,hx3,hy3,Nat.pow_succ]
      exact carry_step rfl rfl rfl hv
    · rw [e1,Nat.pow_succ]
      exact pow_digit hlt (by omega)
  · rintro st ⟨out,c,rfl,hL,hlen,hc,hv,hlt⟩
    have q1:decide ((n:Int) < (n:Int))=false:=decide_eq_false (by omega)
    have q2:decide ((0:Int)≤(n:Int))=true:=decide_eq_true (by omega)
    have q3:decide ((n:Int) < (out.length:Int))=true:=decide_eq_true (by omega)
    have s3:wu32 (c:Int)=(c:Int):=by rw [zgg]; omega
    refine ⟨((n:Int),out,(c:Int)),by simp only [q1,cond_false],?_⟩
    simp only [q2,q3,s3,cond_true,Bool.and_self,show Int.toNat (n:Int)=n from rfl]
    have e1:=zkp hL (i:=n) (c:Int) (by omega) hlt
    rw [Int.toNat_natCast] at e1
    rw [List.take_of_length_le hnA,List.take_of_length_le hnB,eA,eB] at hv
    rw [zgx (hL.set n (by omega) (by omega)) (by simp; omega),e1,hv]
    rfl
end Go.Proofs.YtmipjomnjkmdbaaGreat
set_option linter.unusedSimpArgs false
set_option linter.unusedVariables false
namespace Go.Proofs.YtmipjomnjkmdbaaGreat
open Go Go.X
theorem zjg {l:List Int} (hl:IsL l) {k m:Nat} {x:Int} (h0:0≤x) (h1:x < 4294967296) (hk:k < m) (hv:nv l < 4294967296 ^ m):nv (l.set k x) < 4294967296 ^ m:=by
  have hs:=hl.set k h0 h1
  by_cases h:m≤l.length
  · have e1:(l.set k x).drop m=l.drop m:=List.drop_set_of_lt hk
    have e2:=nv_drop hl h
    rw [Nat.div_eq_of_lt hv] at e2
    rw [nv_split (l.set k x) m (by simpa using h),e1,e2,Nat.mul_zero,Nat.add_zero]
    exact top_lt hs m
  · have:=zod hs
    rw [List.length_set] at this
    exact Nat.lt_of_lt_of_le this (Nat.pow_le_pow_right (by decide) (by omega))
theorem or_add {a b n:Nat} (h:a < 2 ^ n):a ||| b * 2 ^ n=a+b * 2 ^ n:=by
  rw [Nat.or_comm,Nat.mul_comm b,Nat.add_comm,← Nat.two_pow_add_eq_or_of_lt h b]
theorem zej (k n:Nat) (h:n < 2 ^ k):(BitVec.ofInt k (n:Int)).toNat=n:=by
  rw [BitVec.ofInt_natCast,BitVec.toNat_ofNat,Nat.mod_eq_of_lt h]
theorem or64 {a b:Nat} (ha:a < 4294967296) (hb:b < 4294967296):(BitVec.ofInt 64 ((a * 4294967296:Nat):Int) ||| BitVec.ofInt 64 (b:Int)).toNat=a * 4294967296+b:=by
  rw [BitVec.toNat_or,zej 64 _ (by omega),zej 64 _ (by omega),Nat.or_comm]
  have:=or_add (a:=b) (b:=a) (n:=32) hb
  rw [show (2:Nat) ^ 32=4294967296 from rfl] at this
  rw [this]; omega
theorem zaq {n:Nat} (h:n < 18446744073709551616):wu64 (n:Int)=(n:Int):=zbt (by omega) (by omega)
theorem zbz {n:Nat}:wu32 (n:Int)=((n % 4294967296:Nat):Int):=by rw [zgg]; omega
theorem shl32 (n:Nat):(n:Int) * 2 ^ (min (Int.toNat 32) 64)=((n * 4294967296:Nat):Int):=by
  show (n:Int) * 4294967296=_
  omega
theorem shr32 (n:Nat):Int.fdiv (n:Int) (2 ^ (min (Int.toNat 32) 64))=((n / 4294967296:Nat):Int):=by
  rw [sh32]; omega
theorem or64w {a b:Nat} (ha:a < 4294967296) (hb:b < 4294967296):wu64 (((BitVec.ofInt 64 (wu64 ((a:Int) * 2 ^ (min (Int.toNat 32) 64))) ||| BitVec.ofInt 64 (wu64 (b:Int))).toNat:Nat):Int)=((a * 4294967296+b:Nat):Int):=by
  rw [shl32,zaq (n:=a * 4294967296) (by omega),zaq (n:=b) (by omega),or64 ha hb,zaq (by omega)]
theorem wadd {a b:Nat} (h:a+b≤9223372036854775807):w ((a:Int)+(b:Int))=((a+b:Nat):Int):=by rw [zbl (by omega) (by omega)]; omega
theorem zaz {a:Nat} (h:a < 9223372036854775807):w ((a:Int)+1)=((a+1:Nat):Int):=by rw [zbl (by omega) (by omega)]; omega
theorem wpred {a:Nat} (h:a < 9223372036854775807):w (((a+1:Nat):Int) - 1)=(a:Int):=by rw [zbl (by omega) (by omega)]; omega
theorem dlt {a b:Nat} (h:a < b):decide ((a:Int) < (b:Int))=true:=decide_eq_true (by omega)
theorem nlt {a b:Nat} (h:b≤a):decide ((a:Int) < (b:Int))=false:=decide_eq_false (by omega)
theorem d0le (a:Nat):decide ((0:Int)≤(a:Int))=true:=decide_eq_true (by omega)
theorem tn (a:Nat):Int.toNat (a:Int)=a:=rfl
theorem cmpN_lt (x y:Nat):decide (cmpN x y < 0)=decide (x < y):=by
  unfold cmpN
  by_cases h:x < y
  · rw [if_pos h,decide_eq_true h]; rfl
  · rw [if_neg h,decide_eq_false h]; split <;> rfl
theorem zeb {x y:Nat} (h:x≤y):(zap x).length≤(zap y).length:=by
  have h1:=(zaw y (zap y).length).1 (Nat.le_refl _)
  exact (zaw x _).2 (by omega)
theorem borrow_step {P v s lo h c c' x y a b:Nat} (hs:s+y+c=4294967296+x) (hlo:s=lo+4294967296 * h) (hc:c'+h=1) (e:v+b=a+P * c):v+P * lo+(b+P * y)=a+P * x+P * 4294967296 * c':=by
  have e1:lo+y+c=x+4294967296 * c':=by omega
  have e2:=congrArg (P * ·) e1
  simp only [Nat.mul_add,← Nat.mul_assoc] at e2
  omega
theorem d210_eq {a b:List Int} (ha:IsL a) (hb:IsL b) (la:a.length≤1073741824) (lb:b.length≤1073741824):d210 a b=some (if nv a < nv b then ([],false) else (zap (nv a - nv b),true)):=by
  unfold d210
  rw [zbs (by omega),zbs (by omega)]
  simp only [cond_true,Option.bind_some,zcf ha,zcf hb]
  have hla:=zbq ha
  have hlb:=zbq hb
  have hA:=zan (nv a)
  have hB:=zan (nv b)
  have eA:=zat (nv a)
  have eB:=zat (nv b)
  have hm:=@zeb (nv b) (nv a)
  generalize hxA:zap (nv a)=A at *
  generalize hxB:zap (nv b)=B at *
  clear hxA hxB
  rw [d201_eq hA hB (by omega) (by omega),eA,eB]
  simp only [Option.bind_some,cmpN_lt]
  by_cases hlt:nv a < nv b
  · rw [decide_eq_true hlt,if_pos hlt]; rfl
  rw [decide_eq_false hlt,if_neg hlt]
  have hBA:=hm (by omega)
  simp only [cond_false,decide_true,d0le,zbs (n:=A.length) (by omega),Bool.and_self,cond_true,tn]
  refine zbo (Q:=fun r=>r=some (zap (nv a - nv b),true)) (fun (i:Nat) (st:(List Int) × (List Int) × (List Int) × Int × Int × Int)=>∃ (out:List Int) (c:Nat),st=(A,B,out,(c:Int),(A.length:Int),(i:Int))∧IsL out∧out.length=A.length∧c≤1∧nv out+nv (B.take i)=nv (A.take i)+4294967296 ^ i * c∧nv out < 4294967296 ^ i) A.length ?_ ?_ ?_
  · exact ⟨List.replicate A.length 0,0,rfl,IsL.zeros _,by simp,by omega,by simp [zds,nv],by simp [zds]⟩
  · rintro i st hi ⟨out,c,rfl,hL,hlen,hc,hv,hv2⟩
    obtain ⟨x,hx1,hx2,hx3⟩:=zdx hA i
    obtain ⟨y,hy1,hy2,hy3⟩:=zdx hB i
    obtain ⟨s,hs⟩:∃ s,4294967296+x - y - c=s:=⟨_,rfl⟩
    have s1:wu64 (4294967296+(x:Int))=4294967296+(x:Int):=zbt (by omega) (by omega)
    have s2:wu64 (4294967296+(x:Int) - (y:Int))=4294967296+(x:Int) - y:=zbt (by omega) (by omega)
    have s3:wu64 (4294967296+(x:Int) - (y:Int) - (c:Int))=(s:Int):=by rw [zbt (by omega) (by omega)]; omega
    have s4:wu64 (((s / 4294967296:Nat):Int))=((s / 4294967296:Nat):Int):=zaq (by omega)
    have s5:wu64 (1 - ((s / 4294967296:Nat):Int))=((1 - s / 4294967296:Nat):Int):=by rw [zbt (by omega) (by omega)]; omega
    simp only [zgw hA,zgw hB,dlt hi,d0le,dlt (show i < out.length by omega),zaz (show i < 9223372036854775807 by omega),hx1,hy1,s1,s2,s3,shr32,s4,s5,zbz,cond_true,Bool.and_self,Option.bind_some,tn]
    have e1:=zkp hL (i:=i) (((s % 4294967296:Nat):Int)) (by omega) hv2
    rw [Int.toNat_natCast] at e1
    refine ⟨_,rfl,_,_,rfl,hL.set i (by omega) (by omega),by simpa using hlen,by omega,?_,?_⟩
    · rw [e1,hx3,hy3,Nat.pow_succ]
      exact borrow_step (s:=s) (h:=s / 4294967296) (by omega) (by omega) (by omega) hv
    · rw [e1,Nat.pow_succ]
      exact pow_digit hv2 (by omega)
  · rintro st ⟨out,c,rfl,hL,hlen,hc,hv,hv2⟩
    refine ⟨out,by simp only [nlt (Nat.le_refl A.length),cond_false],?_⟩
    rw [List.take_of_length_le (Nat.le_refl _),List.take_of_length_le hBA,eA,eB] at hv
    have hc0:c=0:=by
      rcases Nat.eq_zero_or_pos c with h | h
      · exact h
      · have:c=1:=by omega
        subst this
        omega
    subst hc0
    show (d171 out).bind _=_
    rw [zgx hL (by omega),show nv out=nv a - nv b by omega]
    rfl
theorem mul_step {P v s lo hi c x y o t:Nat} (hs:s=x * y+o+c) (hlo:s=lo+4294967296 * hi):P * lo+P * 4294967296 * hi=P * (x * y)+P * o+P * c:=by
  have e2:=congrArg (P * ·) (hlo.symm.trans hs)
  simp only [Nat.mul_add,← Nat.mul_assoc] at e2 ⊢
  omega
theorem ziv {a b:List Int} (ha:IsL a) (hb:IsL b) (la:a.length≤1073741824) (lb:b.length≤1073741824):d177 a b=some (zap (nv a * nv b)):=by
  unfold d177
  rw [zbs (by omega),zbs (by omega)]
  simp only [cond_true,Option.bind_some,zcf ha,zcf hb]
  have hla:=zbq ha
  have hlb:=zbq hb
  have hA:=zan (nv a)
  have hB:=zan (nv b)
  have eA:=zat (nv a)
  have eB:=zat (nv b)
  generalize hxA:zap (nv a)=A at *
  generalize hxB:zap (nv b)=B at *
  clear hxA hxB
  simp only [wadd (show A.length+B.length≤9223372036854775807 by omega),decide_true,d0le,zbs (n:=A.length+B.length) (by omega),Bool.and_self,cond_true,tn]
  refine zbo (Q:=fun r=>r=some (zap (nv a * nv b))) (fun (i:Nat) (st:(List Int) × (List Int) × (List Int) × Int × Int)=>∃ (out:List Int),st=(B,out,A,(A.length:Int),(i:Int))∧IsL out∧out.length=A.length+B.length∧nv out=nv (A.take i) * nv B) A.length ?_ ?_ ?_
  · exact ⟨_,rfl,IsL.zeros _,by simp,by simp [zds,nv]⟩
  · rintro i st hi ⟨out,rfl,hL,hlen,hv⟩
    obtain ⟨x,hx1,hx2,hx3⟩:=zdx hA i
    have hlt0:nv out < 4294967296 ^ (i+B.length):=by
      rw [hv,Nat.pow_add]
      exact Nat.mul_lt_mul'' (top_lt hA i) (zod hB)
    simp only [dlt hi,d0le,cond_true,Bool.and_self,tn,hx1]
    refine zbo (Q:=fun (r:Option (((List Int) × (List Int) × (List Int) × Int × Int) ⊕ (List Int)))=>∃ a',r=some (.inl a')∧∃ (out:List Int),a'=(B,out,A,(A.length:Int),((i+1:Nat):Int))∧IsL out∧out.length=A.length+B.length∧nv out=nv (A.take (i+1)) * nv B)
      (fun (j:Nat) (st:(List Int) × (List Int) × Int × Int × Int × (List Int) × Int × Int × (List Int) × Int × Int)=>∃ (o:List Int) (c:Nat),st=(B,o,(i:Int),(x:Int),(c:Int),A,(A.length:Int),(i:Int),B,(B.length:Int),(j:Int))∧IsL o∧o.length=A.length+B.length∧c < 4294967296∧nv o+4294967296 ^ i * 4294967296 ^ j * c=nv out+4294967296 ^ i * (x * nv (B.take j))∧nv o < 4294967296 ^ (i+B.length)) B.length ?_ ?_ ?_
    · exact ⟨out,0,rfl,hL,hlen,by omega,by simp [nv],hlt0⟩
    · rintro j st hj ⟨o,c,rfl,hL',hlen',hc,hv',hlt'⟩
      obtain ⟨y,hy1,hy2,hy3⟩:=zdx hB j
      have hz:=hL'.getD (i+j)
      obtain ⟨z,hz1⟩:∃ z:Nat,o.getD (i+j) 0=(z:Int):=⟨_,(Int.toNat_of_nonneg hz.1).symm⟩
      rw [hz1] at hz
      obtain ⟨p,hp⟩:∃ p,x * y=p:=⟨_,rfl⟩
      have hpl:p≤4294967295 * 4294967295:=by rw [← hp]; exact Nat.mul_le_mul (by omega) (by omega)
      have hxy:(x:Int) * (y:Int)=(p:Int):=by rw [← hp]; simp
      have s1:wu64 ((p:Int)+(z:Int))=((p+z:Nat):Int):=by rw [zbt (by omega) (by omega)]; omega
      have s2:wu64 (((p+z:Nat):Int)+(c:Int))=((p+z+c:Nat):Int):=by rw [zbt (by omega) (by omega)]; omega
      obtain ⟨s,hs⟩:∃ s,p+z+c=s:=⟨_,rfl⟩
      have s4:wu64 (((s / 4294967296:Nat):Int))=((s / 4294967296:Nat):Int):=zaq (by omega)
      simp only [dlt hj,d0le,wadd (show i+j≤9223372036854775807 by omega),dlt (show i+j < o.length by omega),cond_true,Bool.and_self,tn,hy1,hz1,zaq (show x < 18446744073709551616 by omega),zaq (show y < 18446744073709551616 by omega),zaq (show z < 18446744073709551616 by omega),hxy,zaq (show p < 18446744073709551616 by omega),s1,s2,hs,zbz,shr32,s4,zaz (show j < 9223372036854775807 by omega)]
      have e1:=zip o (i+j) (((s % 4294967296:Nat):Int)) (by omega)
      rw [Int.toNat_natCast,hz1,Int.toNat_natCast] at e1
      refine ⟨_,rfl,_,_,rfl,hL'.set _ (by omega) (by omega),by simpa using hlen',by omega,?_,zjg hL' (by omega) (by omega) (by omega) hlt'⟩
      rw [hy3,Nat.pow_succ]
      rw [Nat.pow_add] at e1
      have e2:s=x * y+z+c:=by rw [hp,hs]
      have e3:=mul_step (P:=4294967296 ^ i * 4294967296 ^ j) (v:=0) (t:=0) e2 (show s=s % 4294967296+4294967296 * (s / 4294967296) by omega)
      have e4:4294967296 ^ i * (x * (nv (B.take j)+4294967296 ^ j * y))=4294967296 ^ i * (x * nv (B.take j))+4294967296 ^ i * 4294967296 ^ j * (x * y):=by
        rw [Nat.mul_add,Nat.mul_add]
        congr 1
        rw [Nat.mul_left_comm x,← Nat.mul_assoc]
      rw [e4]
      rw [← Nat.mul_assoc (4294967296 ^ i) (4294967296 ^ j) 4294967296]
      omega
    · rintro st ⟨o,c,rfl,hL',hlen',hc,hv',hlt'⟩
      refine ⟨_,by simp only [nlt (Nat.le_refl B.length),cond_false]; rfl,?_⟩
      simp only [d0le,wadd (show i+B.length≤9223372036854775807 by omega),dlt (show i+B.length < o.length by omega),cond_true,Bool.and_self,tn,zaz (show i < 9223372036854775807 by omega),zbz,Nat.mod_eq_of_lt hc]
      have e1:=zkp hL' (i:=i+B.length) (c:Int) (by omega) hlt'
      rw [Int.toNat_natCast] at e1
      refine ⟨_,rfl,_,rfl,hL'.set _ (by omega) (by omega),by simpa using hlen',?_⟩
      rw [List.take_of_length_le (Nat.le_refl _)] at hv'
      rw [e1,hx3,Nat.add_mul,Nat.pow_add,hv',hv,Nat.mul_assoc]
  · rintro st ⟨out,rfl,hL,hlen,hv⟩
    refine ⟨out,by simp only [nlt (Nat.le_refl A.length),cond_false],?_⟩
    rw [List.take_of_length_le (Nat.le_refl _),eA,eB] at hv
    show (d171 out).bind _=_
    rw [zgx hL (by omega),hv]
    rfl
end Go.Proofs.YtmipjomnjkmdbaaGreat
set_option linter.unusedSimpArgs false
set_option linter.unusedVariables false
namespace Go.Proofs.YtmipjomnjkmdbaaGreat
open Go Go.X
theorem zkb {α β γ:Type} {f:α→Option (α ⊕ β)} {k:β→Option γ} {a0:α} {Q:Option γ→Prop} (R:Nat→α→Prop) (n:Nat) (h0:R n a0) (hs:∀ i a,i < n→R (i+1) a→∃ a',f a=some (.inl a')∧R i a') (he:∀ a,R 0 a→∃ b,f a=some (.inr b)∧Q (k b)):Q ((zae f a0).bind k):=by
  refine zbo (Q:=Q) (fun i a=>i≤n∧R (n - i) a) n ⟨Nat.zero_le _,h0⟩ ?_ ?_
  · rintro i a hi ⟨h1,h2⟩
    rw [show n - i=n - (i+1)+1 by omega] at h2
    obtain ⟨a',h3,h4⟩:=hs (n - (i+1)) a (by omega) h2
    exact ⟨a',h3,hi,h4⟩
  · rintro a ⟨_,h⟩
    rw [Nat.sub_self] at h
    exact he a h
theorem getD_set_ne (l:List Int) {i j:Nat} (x:Int) (h:i ≠ j):(l.set i x).getD j 0=l.getD j 0:=by
  simp only [List.getD_eq_getElem?_getD,List.getElem?_set_ne h]
theorem zow (n i:Nat):(List.replicate n (0:Int)).getD i 0=0:=by
  rw [List.getD_eq_getElem?_getD,List.getElem?_replicate]
  split <;> rfl
theorem short_step {P V q r t x d X:Nat} (h:V=q * d+P * 4294967296 * r+(t+P * x)) (hX:X=r * 4294967296+x):V=(q+P * (X / d)) * d+P * (X % d)+t:=by
  have e:=Nat.div_add_mod X d
  have e1:P * X=P * (X / d) * d+P * (X % d):=by
    rw [Nat.mul_assoc,Nat.mul_comm (X / d),← Nat.mul_add,e]
  have e2:P * X=P * 4294967296 * r+P * x:=by rw [hX,Nat.mul_add,Nat.mul_assoc,Nat.mul_comm r]
  rw [Nat.add_mul]
  omega
theorem d202_eq {a:List Int} (ha:IsL a) (la:a.length≤1073741824) {d:Nat} (hd:0 < d) (hd2:d < 4294967296):∃ q,d202 a (d:Int)=some (q,((nv a % d:Nat):Int))∧IsL q∧q.length=a.length∧nv q=nv a / d:=by
  unfold d202
  simp only [decide_true,d0le,zbs (n:=a.length) (by omega),Bool.and_self,cond_true,tn]
  have hd0:decide ((d:Int)=0)=false:=decide_eq_false (by omega)
  refine zkb (Q:=fun r=>∃ q,r=some (q,((nv a % d:Nat):Int))∧IsL q∧q.length=a.length∧nv q=nv a / d) (fun (i:Nat) (st:(List Int) × Int × (List Int) × Int × Int)=>∃ (q:List Int) (r:Nat),st=(a,(d:Int),q,(r:Int),(i:Int) - 1)∧i≤a.length∧IsL q∧q.length=a.length∧r < d∧(∀ k,k < i→q.getD k 0=0)∧nv a=nv q * d+4294967296 ^ i * r+nv (a.take i)) a.length ?_ ?_ ?_
  · refine ⟨_,0,by rw [zbl (by omega) (by omega)]; rfl,Nat.le_refl _,IsL.zeros _,by simp,hd,fun k _=>zow _ k,by simp [zds]⟩
  · rintro i st hi ⟨q,r,rfl,hia,hL,hlen,hr,hz,hv⟩
    obtain ⟨x,hx1,hx2,hx3⟩:=zdx ha i
    have hi1:(((i+1:Nat):Int)) - 1=(i:Int):=by omega
    obtain ⟨X,hX⟩:∃ X,r * 4294967296+x=X:=⟨_,rfl⟩
    have hX1:X / d < 4294967296:=by
      rw [Nat.div_lt_iff_lt_mul hd]
      have:(r+1) * 4294967296≤d * 4294967296:=Nat.mul_le_mul_right _ hr
      rw [Nat.mul_comm 4294967296]
      omega
    have hX2:X % d < d:=Nat.mod_lt _ hd
    have t1:Int.tdiv (X:Int) (d:Int)=((X / d:Nat):Int):=rfl
    have t2:Int.tmod (X:Int) (d:Int)=((X % d:Nat):Int):=rfl
    have hw:w ((i:Int) - 1)=(i:Int) - 1:=zbl (by omega) (by omega)
    simp only [hi1,d0le,dlt (show i < a.length by omega),dlt (show i < q.length by omega),hd0,Bool.not_false,cond_true,Bool.and_self,tn,hx1,or64w (show r < 4294967296 by omega) hx2,hX,t1,t2,zaq (show X / d < 18446744073709551616 by omega),zaq (show X % d < 18446744073709551616 by omega),zbz,Nat.mod_eq_of_lt hX1,hw]
    have e1:=zip q i (((X / d:Nat):Int)) (by omega)
    rw [hz i (by omega),Int.toNat_natCast] at e1
    refine ⟨_,rfl,_,_,rfl,by omega,hL.set i (Int.natCast_nonneg _) (by rw [show (4294967296:Int)=((4294967296:Nat):Int) from rfl]; exact Int.ofNat_lt.2 hX1),by simpa using hlen,hX2,fun k hk=>by rw [getD_set_ne _ _ (by omega)]; exact hz k (by omega),?_⟩
    have e2:nv (q.set i (((X / d:Nat):Int)))=nv q+4294967296 ^ i * (X / d):=by simpa using e1
    rw [e2]
    rw [Nat.pow_succ,hx3] at hv
    exact short_step hv hX.symm
  · rintro st ⟨q,r,rfl,hia,hL,hlen,hr,hz,hv⟩
    refine ⟨(q,(r:Int)),rfl,q,?_,hL,hlen,?_⟩
    · simp only [List.take_zero,nv,Nat.pow_zero,Nat.one_mul,Nat.add_zero] at hv
      rw [hv,Nat.mul_comm,Nat.mul_add_mod,Nat.mod_eq_of_lt hr]
    · simp only [List.take_zero,nv,Nat.pow_zero,Nat.one_mul,Nat.add_zero] at hv
      rw [hv,Nat.mul_comm,Nat.mul_add_div hd,Nat.div_eq_of_lt hr,Nat.add_zero]
theorem shl_nat {x n:Nat} (hn:n≤31):(x:Int) * 2 ^ (min (Int.toNat (n:Int)) 64)=((x * 2 ^ n:Nat):Int):=by
  rw [tn,show min n 64=n by omega]; simp
theorem shr_nat {x n:Nat} (hn:n≤31):Int.fdiv (x:Int) (2 ^ (min (Int.toNat (n:Int)) 64))=((x / 2 ^ n:Nat):Int):=by
  rw [tn,show min n 64=n by omega]
  have:((2:Int) ^ n)=((2 ^ n:Nat):Int):=by simp
  rw [this,Int.fdiv_eq_ediv_of_nonneg _ (Int.natCast_nonneg _)]
  rfl
theorem zmu {n:Nat} (hn:n≤31):2 ^ n * 2 ^ (32 - n)=4294967296:=by
  rw [← Nat.pow_add,show n+(32 - n)=32 by omega]
theorem low_half {x n:Nat} (hn:n≤31):x * 2 ^ n % 4294967296=x % 2 ^ (32 - n) * 2 ^ n:=by
  rw [← zmu hn,Nat.mul_comm x,Nat.mul_mod_mul_left,Nat.mul_comm]
theorem low_top {x n o:Nat} (hn:n≤31) (ho:o < 2 ^ n):o+x * 2 ^ n % 4294967296 < 4294967296:=by
  rw [low_half hn]
  have h1:x % 2 ^ (32 - n) < 2 ^ (32 - n):=Nat.mod_lt _ (Nat.pow_pos (by decide))
  have h2:=Nat.mul_le_mul_right (2 ^ n) h1
  rw [Nat.mul_comm (2 ^ (32 - n)),zmu hn,Nat.succ_mul] at h2
  omega
theorem or32 {o x n:Nat} (hn:n≤31) (ho:o < 2 ^ n):(BitVec.ofInt 32 (o:Int) ||| BitVec.ofInt 32 ((x * 2 ^ n % 4294967296:Nat):Int)).toNat=o+x * 2 ^ n % 4294967296:=by
  have h2:o < 4294967296:=by have:=low_top (x:=x) hn ho; omega
  rw [BitVec.toNat_or,zej 32 _ (by omega),zej 32 _ (Nat.mod_lt _ (by decide)),low_half hn]
  exact or_add ho
theorem left_step {P v lo hi x t T:Nat} (hv:v=t * T) (hlo:x * T=lo+4294967296 * hi):v+P * lo+P * 4294967296 * hi=(t+P * x) * T:=by
  rw [Nat.add_mul,← hv,Nat.mul_assoc P x T,hlo,Nat.mul_add,← Nat.mul_assoc]; omega
theorem set_set_nv {out:List Int} (hL:IsL out) {i o lo hi:Nat} (h:i+1 < out.length) (ho:out.getD i 0=(o:Int)) (hlt:nv out < 4294967296 ^ (i+1)) (h1:o+lo < 4294967296) (h2:hi < 4294967296) :
    IsL ((out.set i ((o+lo:Nat):Int)).set (i+1) (hi:Int))∧nv ((out.set i ((o+lo:Nat):Int)).set (i+1) (hi:Int))=nv out+4294967296 ^ i * lo+4294967296 ^ i * 4294967296 * hi:=by
  have q1:=hL.set i (x:=((o+lo:Nat):Int)) (by omega) (by omega)
  refine ⟨q1.set _ (by omega) (by omega),?_⟩
  have e1:=zip out i ((o+lo:Nat):Int) (by omega)
  rw [ho,Int.toNat_natCast,Int.toNat_natCast,Nat.mul_add] at e1
  have e2:=zkp q1 (i:=i+1) (hi:Int) (by simpa using h) (zjg hL (by omega) (by omega) (by omega) hlt)
  rw [e2,Int.toNat_natCast,Nat.pow_succ]
  omega
theorem d204_eq {a:List Int} (ha:IsL a) (la:a.length≤1073741824) {n:Nat} (hn:n≤31):∃ out,d204 a (n:Int)=some out∧IsL out∧out.length=a.length+1∧nv out=nv a * 2 ^ n:=by
  unfold d204
  have hT:2 ^ n < 4294967296:=Nat.pow_lt_pow_right (by decide) (show n < 32 by omega)
  have hT0:0 < 2 ^ n:=Nat.pow_pos (by decide)
  simp only [zaz (show a.length < 9223372036854775807 by omega),decide_true,d0le,zbs (n:=a.length+1) (by omega),Bool.and_self,cond_true,tn]
  refine zbo (Q:=fun r=>∃ out,r=some out∧IsL out∧out.length=a.length+1∧nv out=nv a * 2 ^ n) (fun (i:Nat) (st:Int × (List Int) × (List Int) × Int × Int)=>∃ (out:List Int),st=((n:Int),out,a,(a.length:Int),(i:Int))∧IsL out∧out.length=a.length+1∧nv out=nv (a.take i) * 2 ^ n) a.length ?_ ?_ ?_
  · exact ⟨_,rfl,IsL.zeros _,by simp,by simp [zds,nv]⟩
  · rintro i st hi ⟨out,rfl,hL,hlen,hv⟩
    obtain ⟨x,hx1,hx2,hx3⟩:=zdx ha i
    have htop:=top_lt ha i
    have hlt:nv out < 4294967296 ^ i * 2 ^ n:=by rw [hv]; exact Nat.mul_lt_mul_of_pos_right htop hT0
    have ho1:out.getD i 0=((nv out / 4294967296 ^ i:Nat):Int):=by
      rw [zep hL]
      have:nv out / 4294967296 ^ i < 2 ^ n:=Nat.div_lt_of_lt_mul hlt
      rw [Nat.mod_eq_of_lt (by omega)]
    have ho2:nv out / 4294967296 ^ i < 2 ^ n:=Nat.div_lt_of_lt_mul hlt
    obtain ⟨o,ho⟩:∃ o,nv out / 4294967296 ^ i=o:=⟨_,rfl⟩
    rw [ho] at ho1 ho2
    have hlt1:nv out < 4294967296 ^ (i+1):=by
      rw [Nat.pow_succ]
      exact Nat.lt_of_lt_of_le hlt (Nat.mul_le_mul_left _ (by omega))
    obtain ⟨v,hvx⟩:∃ v,x * 2 ^ n=v:=⟨_,rfl⟩
    have hv64:v < 4294967296 * 4294967296:=by rw [← hvx]; exact Nat.mul_lt_mul'' hx2 hT
    have hor:=or32 (x:=x) hn ho2
    have hlo:=low_top (x:=x) hn ho2
    rw [hvx] at hor hlo
    have s1:wu32 ((o+v % 4294967296:Nat):Int)=((o+v % 4294967296:Nat):Int):=by rw [zbz,Nat.mod_eq_of_lt hlo]
    have hhi:v / 4294967296 < 4294967296:=by omega
    have s2:wu32 ((v / 4294967296:Nat):Int)=((v / 4294967296:Nat):Int):=by rw [zbz,Nat.mod_eq_of_lt hhi]
    simp only [dlt hi,d0le,dlt (show i < out.length by omega),zaz (show i < 9223372036854775807 by omega),List.length_set,dlt (show i+1 < out.length by omega),cond_true,Bool.and_self,tn,hx1,ho1,zaq (show x < 18446744073709551616 by omega)]
    rw [show (x:Int) * 2 ^ (min n 64)=(v:Int) by have:=shl_nat (x:=x) hn; rw [tn,hvx] at this; exact this]
    simp only [zaq (show v < 18446744073709551616 by omega),zbz (n:=v),hor,s1,shr32,zaq (show v / 4294967296 < 18446744073709551616 by omega),s2]
    obtain ⟨q1,q2⟩:=set_set_nv hL (i:=i) (lo:=v % 4294967296) (hi:=v / 4294967296) (by omega) ho1 hlt1 hlo hhi
    refine ⟨_,rfl,_,rfl,q1,by simpa using hlen,?_⟩
    rw [q2,hx3]
    exact left_step hv (by rw [hvx]; omega)
  · rintro st ⟨out,rfl,hL,hlen,hv⟩
    rw [List.take_of_length_le (Nat.le_refl _)] at hv
    exact ⟨out,by simp only [nlt (Nat.le_refl a.length),cond_false],out,rfl,hL,hlen,hv⟩
theorem right_digit {X n:Nat} (hn:n≤31):(X % 4294967296+X / 4294967296 % 4294967296 * 4294967296) / 2 ^ n % 4294967296=X / 2 ^ n % 4294967296:=by
  have hT0:0 < 2 ^ n:=Nat.pow_pos (by decide)
  obtain ⟨z,hz⟩:∃ z,X % 4294967296+X / 4294967296 % 4294967296 * 4294967296=z:=⟨_,rfl⟩
  have e:X=z+2 ^ n * (2 ^ (32 - n) * (X / 4294967296 / 4294967296) * 4294967296):=by
    rw [Nat.mul_assoc,← Nat.mul_assoc (2 ^ n),zmu hn]
    omega
  rw [hz]
  conv=>rhs; rw [e]
  rw [Nat.add_mul_div_left _ _ hT0,Nat.add_mul_mod_self_right]
theorem or64r {a b:Nat} (ha:a < 4294967296) (hb:b < 4294967296):wu64 (((BitVec.ofInt 64 (b:Int) ||| BitVec.ofInt 64 (wu64 ((a:Int) * 2 ^ (min (Int.toNat 32) 64)))).toNat:Nat):Int)=((b+a * 4294967296:Nat):Int):=by
  rw [shl32,zaq (n:=a * 4294967296) (by omega),BitVec.toNat_or,Nat.or_comm,← BitVec.toNat_or,or64 ha hb,zaq (by omega)]
  congr 1
  omega
theorem d206_eq {a:List Int} (ha:IsL a) (la:a.length≤1073741824) {n:Nat} (hn:n≤31):∃ out,d206 a (n:Int)=some out∧IsL out∧out.length=a.length∧nv out=nv a / 2 ^ n:=by
  unfold d206
  have hT0:0 < 2 ^ n:=Nat.pow_pos (by decide)
  simp only [decide_true,d0le,zbs (n:=a.length) (by omega),Bool.and_self,cond_true,tn]
  refine zbo (Q:=fun r=>∃ out,r=some out∧IsL out∧out.length=a.length∧nv out=nv a / 2 ^ n) (fun (i:Nat) (st:(List Int) × Int × (List Int) × Int × Int)=>∃ (out:List Int),st=(a,(n:Int),out,(a.length:Int),(i:Int))∧IsL out∧out.length=a.length∧nv out=nv a / 2 ^ n % 4294967296 ^ i) a.length ?_ ?_ ?_
  · exact ⟨_,rfl,IsL.zeros _,by simp,by simp [zds,nv,Nat.mod_one]⟩
  · rintro i st hi ⟨out,rfl,hL,hlen,hv⟩
    have g0:=zep ha i
    have g1:=zep ha (i+1)
    rw [Nat.pow_succ,← Nat.div_div_eq_div_mul] at g1
    have hlt:nv out < 4294967296 ^ i:=by rw [hv]; exact Nat.mod_lt _ (znz i)
    have hd:=right_digit (X:=nv a / 4294967296 ^ i) hn
    obtain ⟨X,hX⟩:∃ X,nv a / 4294967296 ^ i=X:=⟨_,rfl⟩
    rw [hX] at g0 g1 hd
    have b0:X % 4294967296 < 4294967296:=Nat.mod_lt _ (by decide)
    have b1:X / 4294967296 % 4294967296 < 4294967296:=Nat.mod_lt _ (by decide)
    obtain ⟨z,hz⟩:∃ z,X % 4294967296+X / 4294967296 % 4294967296 * 4294967296=z:=⟨_,rfl⟩
    rw [hz] at hd
    have hzb:z < 18446744073709551616:=by omega
    have hzd:z / 2 ^ n < 18446744073709551616:=Nat.lt_of_le_of_lt (Nat.div_le_self _ _) hzb
    have sh:Int.fdiv (z:Int) (2 ^ (min n 64))=((z / 2 ^ n:Nat):Int):=by have:=shr_nat (x:=z) hn; rwa [tn] at this
    simp only [dlt hi,zgw ha,zaz (show i < 9223372036854775807 by omega),d0le,dlt (show i < out.length by omega),cond_true,Bool.and_self,Option.bind_some,g0,g1,or64r b1 b0,hz,tn,sh,zaq hzd,zbz,hd]
    have e1:=zkp hL (i:=i) (((X / 2 ^ n % 4294967296:Nat):Int)) (by omega) hlt
    rw [Int.toNat_natCast] at e1
    refine ⟨_,rfl,_,rfl,hL.set i (by omega) (by omega),by simpa using hlen,?_⟩
    rw [e1,hv,← hX,Nat.div_div_eq_div_mul,Nat.mul_comm (4294967296 ^ i) (2 ^ n),← Nat.div_div_eq_div_mul,Nat.mod_pow_succ]
  · rintro st ⟨out,rfl,hL,hlen,hv⟩
    refine ⟨out,by simp only [nlt (Nat.le_refl a.length),cond_false],out,rfl,hL,hlen,?_⟩
    rw [hv]
    exact Nat.mod_eq_of_lt (Nat.lt_of_le_of_lt (Nat.div_le_self _ _) (zod ha))
end Go.Proofs.YtmipjomnjkmdbaaGreat
set_option linter.unusedSimpArgs false
set_option linter.unusedVariables false
namespace Go.Proofs.YtmipjomnjkmdbaaGreat
open Go Go.X
theorem zda {α β γ:Type} {f:α→Option (α ⊕ β)} {k:β→Option γ} {a0:α} {Q:Option γ→Prop} (R:Nat→α→Prop) (n:Nat) (h0:R n a0) (hs:∀ m a,R m a→(∃ a' m',f a=some (.inl a')∧m' < m∧R m' a')∨∃ b,f a=some (.inr b)∧Q (k b)):Q ((zae f a0).bind k):=by
  have key:∀ M m a,m < M→R m a→∃ b,zae f a=some b∧Q (k b):=by
    intro M
    induction M with
    | zero=>intro m a h; omega
    | succ M ih =>
      intro m a hm hr
      rcases hs m a hr with ⟨a',m',h1,h2,h3⟩ | ⟨b,h1,h2⟩
      · obtain ⟨b,h4,h5⟩:=ih m' a' (by omega) h3
        exact ⟨b,zhx h1 h4,h5⟩
      · exact ⟨b,zdz h1,h2⟩
  obtain ⟨b,h1,h2⟩:=key (n+1) n a0 (by omega) h0
  rw [h1]
  exact h2
theorem two_top {v:List Int} (hv:IsL v) {m:Nat} (hm:v.length=m+2):∃ h s t:Nat,v.getD (m+1) 0=(h:Int)∧v.getD m 0=(s:Int)∧h < 4294967296∧s < 4294967296∧t < 4294967296 ^ m∧nv v=(h * 4294967296+s) * 4294967296 ^ m+t:=by
  have g0:=zep hv m
  have g1:=zep hv (m+1)
  rw [Nat.pow_succ,← Nat.div_div_eq_div_mul] at g1
  have hlt:=zod hv
  rw [hm,show m+2=m+1+1 by omega,Nat.pow_succ,Nat.pow_succ,Nat.mul_assoc] at hlt
  have hY:=Nat.div_lt_of_lt_mul hlt
  have hdm:=Nat.div_add_mod (nv v) (4294967296 ^ m)
  have hml:=Nat.mod_lt (nv v) (znz m)
  generalize nv v / 4294967296 ^ m=Y at *
  refine ⟨Y / 4294967296,Y % 4294967296,nv v % 4294967296 ^ m,?_,g0,by omega,by omega,hml,?_⟩
  · rw [g1]; omega
  · rw [show Y / 4294967296 * 4294967296+Y % 4294967296=Y by omega,Nat.mul_comm Y]; omega
theorem three_top {u:List Int} (hu:IsL u) {j m:Nat} (hlt:nv u < 4294967296 ^ (j+m+3)):∃ a b c z:Nat,u.getD (j+m+2) 0=(a:Int)∧u.getD (j+m+1) 0=(b:Int)∧u.getD (j+m) 0=(c:Int)∧a < 4294967296∧b < 4294967296∧c < 4294967296∧z < 4294967296 ^ m∧nv u / 4294967296 ^ j=((a * 4294967296+b) * 4294967296+c) * 4294967296 ^ m+z:=by
  have g0:=zep hu (j+m)
  have g1:=zep hu (j+m+1)
  have g2:=zep hu (j+m+2)
  rw [show j+m+2=j+m+1+1 by omega,Nat.pow_succ,← Nat.div_div_eq_div_mul] at g2
  rw [Nat.pow_succ,← Nat.div_div_eq_div_mul] at g1 g2
  rw [Nat.pow_add,← Nat.div_div_eq_div_mul] at g0 g1 g2
  have hl2:nv u / 4294967296 ^ j / 4294967296 ^ m < 4294967296 * 4294967296 * 4294967296:=by
    rw [Nat.div_div_eq_div_mul,← Nat.pow_add]
    refine Nat.div_lt_of_lt_mul ?_
    rw [show j+m+3=j+m+1+1+1 by omega,Nat.pow_succ,Nat.pow_succ,Nat.pow_succ] at hlt
    rw [← Nat.mul_assoc,← Nat.mul_assoc]
    exact hlt
  generalize nv u / 4294967296 ^ j=U at *
  have hdm:=Nat.div_add_mod U (4294967296 ^ m)
  have hml:=Nat.mod_lt U (znz m)
  generalize U / 4294967296 ^ m=Y at *
  refine ⟨Y / 4294967296 / 4294967296,Y / 4294967296 % 4294967296,Y % 4294967296,U % 4294967296 ^ m,?_,g1,g0,by omega,by omega,by omega,hml,?_⟩
  · rw [show j+m+2=j+m+1+1 by omega,g2]; omega
  · rw [show (Y / 4294967296 / 4294967296 * 4294967296+Y / 4294967296 % 4294967296) * 4294967296+Y % 4294967296=Y by omega,Nat.mul_comm Y]; omega
theorem guess_low {U V W top h s t u0 z q r:Nat} (hV:V=(h * 4294967296+s) * W+t) (hU:U=(top * 4294967296+u0) * W+z) (hz:z < W) (hu:u0 < 4294967296) (hq:q * h+r=top) (hr:r < h):U < (q+1) * V:=by
  have h1:top+1≤(q+1) * h:=by rw [Nat.succ_mul]; omega
  have h2:top * 4294967296+u0+1≤(q+1) * (h * 4294967296+s):=by
    rw [Nat.mul_add,← Nat.mul_assoc]
    have:=Nat.mul_le_mul_right 4294967296 h1
    omega
  have h3:=Nat.mul_le_mul_right W h2
  rw [hV,Nat.mul_add,← Nat.mul_assoc,hU]
  rw [Nat.succ_mul] at h3
  omega
theorem top_bound {B U V W x c y t z:Nat} (hV:V=y * W+t) (hU:U=(x * B+c) * W+z) (ht:t < W) (hlt:U < B * V):x≤y:=by
  refine Nat.not_lt.1 fun h1=>?_
  have h2:(y+1) * B≤x * B:=Nat.mul_le_mul_right B h1
  have h3:=Nat.mul_le_mul_right W h2
  have h4:B * V≤B * ((y+1) * W):=by
    refine Nat.mul_le_mul_left B ?_
    rw [hV,Nat.succ_mul]; omega
  rw [Nat.mul_comm (y+1) B,Nat.mul_assoc] at h3
  rw [Nat.add_mul] at hU
  omega
theorem q_small {q h r:Nat} (hq:q * h+r≤h * 4294967296+4294967295) (hr:4294967296≤r):q < 4294967296:=by
  refine Nat.not_le.1 fun h1=>?_
  have:=Nat.mul_le_mul_right h h1
  rw [Nat.mul_comm 4294967296] at this
  omega
theorem d216_eq {u v:List Int} (hu:IsL u) (hv:IsL v) {j m:Nat} (hm:v.length=m+2) (hlen:j+m+2 < u.length) (lu:u.length≤1073741825) (hlt:nv u < 4294967296 ^ (j+m+3)) (hh:v.getD (m+1) 0 ≠ 0) (hUV:nv u / 4294967296 ^ j < 4294967296 * nv v) :
    ∃ q:Nat,d216 u v (j:Int)=some (q:Int)∧q < 4294967296∧nv u / 4294967296 ^ j < (q+1) * nv v∧q * nv v < nv u / 4294967296 ^ j+nv v:=by
  obtain ⟨h,s,t,v1,v2,hh1,hs1,ht1,hV⟩:=two_top hv hm
  obtain ⟨a,b,c,z,u1,u2,u3,ha1,hb1,hc1,hz1,hU⟩:=three_top hu hlt
  have hb0:=top_bound hV hU ht1 hUV
  generalize nv u / 4294967296 ^ j=U at *
  generalize nv v=V at *
  generalize 4294967296 ^ m=W at *
  rw [v1] at hh
  have hh0:0 < h:=by omega
  obtain ⟨top,htop⟩:∃ top,a * 4294967296+b=top:=⟨_,rfl⟩
  rw [htop] at hU hb0
  have htl:top < 18446744073709551616:=by omega
  unfold d216
  have i1:w ((j:Int)+((m+2:Nat):Int))=((j+m+2:Nat):Int):=by rw [zbl (by omega) (by omega)]; omega
  have i2:w (((j+m+2:Nat):Int) - 1)=((j+m+1:Nat):Int):=by rw [zbl (by omega) (by omega)]; omega
  have i3:w (((m+2:Nat):Int) - 1)=((m+1:Nat):Int):=by rw [zbl (by omega) (by omega)]; omega
  have i4:w (((m+2:Nat):Int) - 2)=((m:Nat):Int):=by rw [zbl (by omega) (by omega)]; omega
  have i5:w (((j+m+2:Nat):Int) - 2)=((j+m:Nat):Int):=by rw [zbl (by omega) (by omega)]; omega
  have hne:decide ((h:Int)=0)=false:=decide_eq_false (by omega)
  have hd1:top / h < 18446744073709551616:=Nat.lt_of_le_of_lt (Nat.div_le_self _ _) htl
  have hd2:top % h < h:=Nat.mod_lt _ hh0
  have t1:Int.tdiv (top:Int) (h:Int)=((top / h:Nat):Int):=rfl
  have t2:Int.tmod (top:Int) (h:Int)=((top % h:Nat):Int):=rfl
  simp only [hm,i1,i2,i3,d0le,dlt (show j+m+2 < u.length by omega),dlt (show j+m+1 < u.length by omega),dlt (show m+1 < m+2 by omega),cond_true,Bool.and_self,tn,v1,u1,u2,zaq (show h < 18446744073709551616 by omega),zaq (show a < 18446744073709551616 by omega),hne,Bool.not_false,or64w ha1 hb1,htop,t1,t2,zaq hd1,zaq (show top % h < 18446744073709551616 by omega)]
  refine zda (Q:=fun r=>∃ q:Nat,r=some (q:Int)∧q < 4294967296∧U < (q+1) * V∧q * V < U+V) (fun (M:Nat) (st:(List Int) × (List Int) × Int × Int × Int × Int × Int)=>∃ (q r:Nat),M=q∧st=(u,v,(j:Int),((m+2:Nat):Int),(h:Int),(q:Int),(r:Int))∧q * h+r=top∧r < 4294967296∧q < 18446744073709551616∧U < (q+1) * V) (top / h) ?_ ?_
  · exact ⟨_,_,rfl,rfl,by rw [Nat.mul_comm]; exact Nat.div_add_mod top h,by omega,hd1,guess_low hV hU hz1 hc1 (by rw [Nat.mul_comm]; exact Nat.div_add_mod top h) hd2⟩
  · rintro M st ⟨q,r,rfl,rfl,hq,hr,hq64,hlow⟩
    have e2:wu64 ((r:Int)+(h:Int))=((r+h:Nat):Int):=by rw [zbt (by omega) (by omega)]; omega
    have e1:0 < M→wu64 ((M:Int) - 1)=((M - 1:Nat):Int):=fun h0=>by rw [zbt (by omega) (by omega)]; omega
    have down:0 < M→U < M * V→(4294967296≤r+h∧M - 1 < 4294967296∧U < (M - 1+1) * V∧(M - 1) * V < U+V)∨(r+h < 4294967296∧(M - 1) * h+(r+h)=top∧U < (M - 1+1) * V):=by
      intro h0 hU1
      have e3:(M - 1) * h+(r+h)=top:=by
        rw [← hq]
        obtain ⟨M',rfl⟩:∃ M',M=M'+1:=⟨M - 1,by omega⟩
        rw [Nat.add_sub_cancel,Nat.succ_mul]; omega
      have e4:M - 1+1=M:=by omega
      rw [e4]
      by_cases hb:4294967296≤r+h
      · have hqs:=q_small (h:=h) (r:=r+h) (by rw [e3]; omega) hb
        refine .inl ⟨hb,hqs,hU1,zpb hV hU ht1 hh0 e3 hqs ?_⟩
        have:(M - 1) * s≤4294967296 * 4294967296:=Nat.mul_le_mul (by omega) (by omega)
        omega
      · exact .inr ⟨by omega,e3,hU1⟩
    by_cases hq1:4294967296≤M
    · have d1:decide ((4294967296:Int)≤(M:Int))=true:=decide_eq_true (by omega)
      have hM:0 < M:=by omega
      rcases down hM (Nat.lt_of_lt_of_le hUV (Nat.mul_le_mul_right V hq1)) with ⟨k1,k2,k3,k4⟩ | ⟨k1,k2,k3⟩
      · have d2:decide ((4294967296:Int)≤((r+h:Nat):Int))=true:=decide_eq_true (by omega)
        exact .inr ⟨((M - 1:Nat):Int),by simp only [zah,d1,Bool.not_true,cond_false,cond_true,e1 hM,e2,d2],M - 1,rfl,k2,k3,k4⟩
      · have d2:decide ((4294967296:Int)≤((r+h:Nat):Int))=false:=decide_eq_false (by omega)
        exact .inl ⟨_,M - 1,by simp only [zah,d1,Bool.not_true,cond_false,cond_true,e1 hM,e2,d2],by omega,M - 1,r+h,rfl,rfl,k2,k1,by omega,k3⟩
    · have d1:decide ((4294967296:Int)≤(M:Int))=false:=decide_eq_false (by omega)
      obtain ⟨p,hp⟩:∃ p,M * s=p:=⟨_,rfl⟩
      have hpl:p≤4294967295 * 4294967295:=by rw [← hp]; exact Nat.mul_le_mul (by omega) (by omega)
      have hpi:(M:Int) * (s:Int)=(p:Int):=by rw [← hp]; simp
      simp only [zah,d1,Bool.not_false,cond_true,i1,i4,i5,d0le,dlt (show m < m+2 by omega),hm,dlt (show j+m < u.length by omega),Bool.and_self,tn,v2,u3,or64w hr hc1,zaq (show s < 18446744073709551616 by omega),hpi,zaq (show p < 18446744073709551616 by omega)]
      by_cases hc:r * 4294967296+c < p
      · simp only [dlt hc]
        rw [← hp] at hc
        have hM:0 < M:=by
          rcases Nat.eq_zero_or_pos M with h0 | h0
          · subst h0; rw [Nat.zero_mul] at hc; omega
          · exact h0
        rcases down hM (digit_low hV hU hz1 hq hc) with ⟨k1,k2,k3,k4⟩ | ⟨k1,k2,k3⟩
        · have d2:decide ((4294967296:Int)≤((r+h:Nat):Int))=true:=decide_eq_true (by omega)
          exact .inr ⟨((M - 1:Nat):Int),by simp only [cond_false,cond_true,e1 hM,e2,d2],M - 1,rfl,k2,k3,k4⟩
        · have d2:decide ((4294967296:Int)≤((r+h:Nat):Int))=false:=decide_eq_false (by omega)
          exact .inl ⟨_,M - 1,by simp only [cond_false,cond_true,e1 hM,e2,d2],by omega,M - 1,r+h,rfl,rfl,k2,k1,by omega,k3⟩
      · rw [nlt (a:=r * 4294967296+c) (b:=p) (by omega)]
        refine .inr ⟨(M:Int),by simp only [cond_false],M,rfl,by omega,hlow,?_⟩
        exact zpb hV hU ht1 hh0 hq (by omega) (by rw [hp]; omega)
end Go.Proofs.YtmipjomnjkmdbaaGreat
set_option linter.unusedSimpArgs false
set_option linter.unusedVariables false
namespace Go.Proofs.YtmipjomnjkmdbaaGreat
open Go Go.X
theorem and_low {p:Nat} (h:p < 18446744073709551616):wu64 (((BitVec.ofInt 64 (p:Int) &&& BitVec.ofInt 64 4294967295).toNat:Nat):Int)=((p % 4294967296:Nat):Int):=by
  have:BitVec.ofInt 64 4294967295=BitVec.ofNat 64 4294967295:=rfl
  rw [this,BitVec.toNat_and,zej 64 _ (by omega),BitVec.toNat_ofNat]
  have e:=Nat.and_two_pow_sub_one_eq_mod p 32
  rw [show (2:Nat) ^ 32 - 1=4294967295 from rfl,show (2:Nat) ^ 32=4294967296 from rfl] at e
  rw [show 4294967295 % 2 ^ 64=4294967295 from rfl,e,zaq (by omega)]
theorem sub_step {X N N' N2 T x y q dig lo h bo bo' ca ca' s p Y:Nat} (hN:N+X * (q * T)=N'+X * Y * (bo+ca)) (h2:N2+X * Y * x=N+X * Y * dig) (hp:q * y+ca=p) (hlo:p=lo+4294967296 * ca') (hs:s+lo+bo=4294967296+x) (hd:s=dig+4294967296 * h) (hb:bo'+h=1):N2+X * (q * (T+Y * y))=N'+X * (Y * 4294967296) * (bo'+ca'):=by
  have e:dig+q * y+ca+bo=x+4294967296 * (bo'+ca'):=by omega
  have e1:=congrArg ((X * Y) * ·) e
  simp only [Nat.mul_add] at e1 hN ⊢
  have e2:X * (q * (Y * y))=X * Y * (q * y):=by rw [Nat.mul_left_comm q,← Nat.mul_assoc]
  have e3:X * Y * (4294967296 * bo')=X * (Y * 4294967296) * bo':=by simp only [Nat.mul_assoc]
  have e4:X * Y * (4294967296 * ca')=X * (Y * 4294967296) * ca':=by simp only [Nat.mul_assoc]
  omega
theorem add_step {X N N' N2 T x y dig c c' s Y:Nat} (hN:N+X * Y * c=N'+X * T) (h2:N2+X * Y * x=N+X * Y * dig) (hs:x+y+c=s) (hd:s=dig+4294967296 * c'):N2+X * (Y * 4294967296) * c'=N'+X * (T+Y * y):=by
  have e:dig+4294967296 * c'=x+y+c:=by omega
  have e1:=congrArg ((X * Y) * ·) e
  simp only [Nat.mul_add] at e1 hN ⊢
  have e2:X * (Y * y)=X * Y * y:=by rw [Nat.mul_assoc]
  have e4:X * Y * (4294967296 * c')=X * (Y * 4294967296) * c':=by simp only [Nat.mul_assoc]
  omega
theorem below_next {N X U q V:Nat} (hX:0 < X) (hU:N / X=U) (h:U < (q+1) * V):N < X * (q * V)+X * V:=by
  have h1:N < X * (U+1):=by
    have:=Nat.div_add_mod N X
    have:=Nat.mod_lt N hX
    rw [hU] at *
    rw [Nat.mul_add,Nat.mul_one]
    omega
  have h2:X * (U+1)≤X * ((q+1) * V):=Nat.mul_le_mul_left _ h
  have e:X * ((q+1) * V)=X * (q * V)+X * V:=by rw [Nat.succ_mul,Nat.mul_add]
  omega
theorem floor_le {N X U Y:Nat} (hU:N / X=U) (h:Y≤U):X * Y≤N:=by
  have:=Nat.div_add_mod N X
  rw [hU] at this
  have h2:X * Y≤X * U:=Nat.mul_le_mul_left _ h
  omega
set_option maxHeartbeats 1000000 in
theorem d205_eq {u v:List Int} (hu:IsL u) (hv:IsL v) {m k:Nat} (hm:v.length=m+2) (hk:u.length=k+(m+2)) (lu:u.length≤1073741825) (hh:v.getD (m+1) 0 ≠ 0) (hlt:nv u < nv v * 4294967296 ^ k) :
    ∃ q r,d205 u v=some (q,r)∧IsL q∧IsL r∧q.length=k∧r.length=u.length∧nv q=nv u / nv v∧nv r=nv u % nv v:=by
  have hV0:0 < nv v:=by
    rcases Nat.eq_zero_or_pos (nv v) with h0 | h0
    · rw [h0,Nat.zero_mul] at hlt; omega
    · exact h0
  have hVB:=zod hv
  unfold d205
  have i1:w ((u.length:Int) - (v.length:Int))=(k:Int):=by rw [zbl (by omega) (by omega)]; omega
  have i2:w ((v.length:Int)+1)=((m+3:Nat):Int):=by rw [zbl (by omega) (by omega)]; omega
  have i3:w ((k:Int) - 1)=(k:Int) - 1:=zbl (by omega) (by omega)
  simp only [i1,decide_true,d0le,zbs (n:=k) (by omega),Bool.and_self,cond_true,tn,i3]
  refine zkb (Q:=fun r=>∃ q r',r=some (q,r')∧IsL q∧IsL r'∧q.length=k∧r'.length=u.length∧nv q=nv u / nv v∧nv r'=nv u % nv v) (fun (i:Nat) (st:(List Int) × (List Int) × Int × (List Int) × Int)=>∃ (u' out:List Int),st=(u',v,(v.length:Int),out,(i:Int) - 1)∧i≤k∧IsL u'∧u'.length=u.length∧IsL out∧out.length=k∧(∀ t,t < i→out.getD t 0=0)∧nv u=nv u'+nv out * nv v∧nv u' < nv v * 4294967296 ^ i) k ?_ ?_ ?_
  · exact ⟨u,_,rfl,Nat.le_refl _,hu,rfl,IsL.zeros _,by simp,fun t _=>zow _ t,by rw [zds]; omega,hlt⟩
  · rintro i st hi ⟨u',out,rfl,hik,hu',hlu,hL,hlo,hz,hv1,hv2⟩
    obtain ⟨X,hX⟩:∃ X,4294967296 ^ i=X:=⟨_,rfl⟩
    have hX0:0 < X:=by rw [← hX]; exact znz i
    rw [Nat.pow_succ,hX] at hv2
    have hB3:nv u' < 4294967296 ^ (i+m+3):=by
      refine Nat.lt_of_lt_of_le hv2 ?_
      rw [show i+m+3=(m+2)+(i+1) by omega,Nat.pow_add,Nat.pow_succ _ i,hX,← hm]
      exact Nat.mul_le_mul_right _ (Nat.le_of_lt hVB)
    have hUV:nv u' / 4294967296 ^ i < 4294967296 * nv v:=by
      rw [hX]
      refine Nat.div_lt_of_lt_mul ?_
      rw [← Nat.mul_assoc,Nat.mul_comm]
      exact hv2
    obtain ⟨q,hq0,hq1,hq2,hq3⟩:=d216_eq hu' hv (j:=i) hm (by omega) (by omega) hB3 hh hUV
    have j1:((i+1:Nat):Int) - 1=(i:Int):=by omega
    have wi1:w ((i:Int) - 1)=(i:Int) - 1:=zbl (by omega) (by omega)
    rw [hX] at hq2 hq3
    simp only [j1,d0le,cond_true,hq0,Option.bind_some,i2]
    refine zbo (Q:=fun (r:Option (((List Int) × (List Int) × Int × (List Int) × Int) ⊕ ((List Int) × (List Int))))=>∃ a',r=some (.inl a')∧∃ (u' out:List Int),a'=(u',v,(v.length:Int),out,(i:Int) - 1)∧i≤k∧IsL u'∧u'.length=u.length∧IsL out∧out.length=k∧(∀ t,t < i→out.getD t 0=0)∧nv u=nv u'+nv out * nv v∧nv u' < nv v * 4294967296 ^ i)
      (fun (d:Nat) (st:(List Int) × (List Int) × Int × (List Int) × Int × Int × Int × Int × Int × Int)=>∃ (z:List Int) (bo ca:Nat),st=(z,v,(v.length:Int),out,(i:Int),(q:Int),(bo:Int),(ca:Int),((m+3:Nat):Int),(d:Int))∧IsL z∧z.length=u.length∧bo≤1∧ca < 4294967296∧(d≤m+2∨ca=0)∧nv z+X * (q * nv (v.take d))=nv u'+X * 4294967296 ^ d * (bo+ca)∧nv z < 4294967296 ^ (i+m+3)) (m+3) ?_ ?_ ?_
    · exact ⟨u',0,0,rfl,hu',hlu,by omega,by omega,.inl (by omega),by simp [nv],hB3⟩
    · rintro d st hd ⟨z,bo,ca,rfl,hzL,hzl,hbo,hca,hor,heq,hzb⟩
      obtain ⟨y,hy1,hy2,hy3⟩:=zdx hv d
      have hx:=hzL.getD (d+i)
      obtain ⟨x,hx1⟩:∃ x:Nat,z.getD (d+i) 0=(x:Int):=⟨_,(Int.toNat_of_nonneg hx.1).symm⟩
      rw [hx1] at hx
      obtain ⟨qy,hqy⟩:∃ p,q * y=p:=⟨_,rfl⟩
      have hpl:qy≤4294967295 * 4294967295:=by rw [← hqy]; exact Nat.mul_le_mul (by omega) (by omega)
      have hqi:(q:Int) * (y:Int)=(qy:Int):=by rw [← hqy]; simp
      have s1:wu64 ((qy:Int)+(ca:Int))=((qy+ca:Nat):Int):=by rw [zbt (by omega) (by omega)]; omega
      obtain ⟨p,hp⟩:∃ p,qy+ca=p:=⟨_,rfl⟩
      obtain ⟨lo,hlo'⟩:∃ lo,p % 4294967296=lo:=⟨_,rfl⟩
      have s2:wu64 (4294967296+(x:Int))=4294967296+(x:Int):=zbt (by omega) (by omega)
      have s3:wu64 (4294967296+(x:Int) - (lo:Int))=4294967296+(x:Int) - lo:=zbt (by omega) (by omega)
      obtain ⟨s,hs⟩:∃ s,4294967296+x - lo - bo=s:=⟨_,rfl⟩
      have s4:wu64 (4294967296+(x:Int) - (lo:Int) - (bo:Int))=(s:Int):=by rw [zbt (by omega) (by omega)]; omega
      have s5:wu64 (1 - ((s / 4294967296:Nat):Int))=((1 - s / 4294967296:Nat):Int):=by rw [zbt (by omega) (by omega)]; omega
      simp only [dlt hd,zgw hv,hy1,Option.bind_some,wadd (show d+i≤9223372036854775807 by omega),d0le,dlt (show d+i < z.length by omega),cond_true,Bool.and_self,tn,hx1,hqi,zaq (show qy < 18446744073709551616 by omega),s1,hp,and_low (show p < 18446744073709551616 by omega),hlo',zaq (show x < 18446744073709551616 by omega),s2,s3,s4,shr32,zaq (show s / 4294967296 < 18446744073709551616 by omega),s5,zaq (show p / 4294967296 < 18446744073709551616 by omega),zbz,zaz (show d < 9223372036854775807 by omega)]
      have e1:=zip z (d+i) (((s % 4294967296:Nat):Int)) (by omega)
      rw [hx1,Int.toNat_natCast,Int.toNat_natCast,Nat.add_comm d i,Nat.pow_add,hX,Nat.add_comm i d] at e1
      refine ⟨_,rfl,_,_,_,rfl,hzL.set _ (by omega) (by omega),by simpa using hzl,by omega,by omega,?_,?_,zjg hzL (by omega) (by omega) (by omega) hzb⟩
      · by_cases hdm:d+1≤m+2
        · exact .inl hdm
        · right
          have hy0:y=0:=by
            have:v.getD d 0=0:=by rw [List.getD_eq_getElem?_getD,List.getElem?_eq_none (by omega)]; rfl
            omega
          rw [hy0,Nat.mul_zero] at hqy
          omega
      · rw [hy3,Nat.pow_succ]
        exact sub_step heq e1 (by rw [hqy]; exact hp) (show p=lo+4294967296 * (p / 4294967296) by omega) (s:=s) (by omega) (h:=s / 4294967296) (by omega) (by omega)
    · rintro st ⟨z,bo,ca,rfl,hzL,hzl,hbo,hca,hor,heq,hzb⟩
      have hca0:ca=0:=by omega
      subst hca0
      rw [List.take_of_length_le (by omega),Nat.add_zero] at heq
      have hX3:X * 4294967296 ^ (m+3)=4294967296 ^ (i+m+3):=by rw [← hX,← Nat.pow_add]; rfl
      rw [hX3] at heq
      refine ⟨_,by simp only [nlt (Nat.le_refl (m+3)),cond_false]; rfl,?_⟩
      obtain ⟨TT,hTT⟩:∃ TT,4294967296 ^ (i+m+3)=TT:=⟨_,rfl⟩
      rw [hTT] at heq hzb hX3
      rcases Nat.eq_zero_or_pos bo with hb0 | hb0
      · subst hb0
        simp only [show decide ((0:Int) < ((0:Nat):Int))=false from rfl,cond_false,zah,d0le,dlt (show i < out.length by omega),Bool.and_self,cond_true,tn,zbz,Nat.mod_eq_of_lt hq1,wi1]
        have e1:=zip out i (q:Int) (by omega)
        rw [hz i (by omega),Int.toNat_natCast,hX] at e1
        have e2:nv (out.set i (q:Int))=nv out+X * q:=by simpa using e1
        refine ⟨_,rfl,_,_,rfl,by omega,hzL,hzl,hL.set _ (by omega) (by omega),by simpa using hlo,fun t ht=>by rw [getD_set_ne _ _ (by omega)]; exact hz t (by omega),?_,?_⟩
        · rw [e2,hv1,Nat.add_mul,Nat.mul_assoc]; omega
        · have:=below_next hX0 rfl hq2
          rw [hX,Nat.mul_comm (nv v) X]
          omega
      · have hb1:bo=1:=by omega
        subst hb1
        rw [Nat.mul_one] at heq
        have hqV:nv u' < X * (q * nv v):=by omega
        have hq0':0 < q:=by
          rcases Nat.eq_zero_or_pos q with h0 | h0
          · subst h0; rw [Nat.zero_mul,Nat.mul_zero] at hqV; omega
          · exact h0
        obtain ⟨q',rfl⟩:∃ q',q=q'+1:=⟨q - 1,by omega⟩
        have hqm:wu64 (((q'+1:Nat):Int) - 1)=(q':Int):=by rw [zbt (by omega) (by omega)]; omega
        simp only [show decide ((0:Int) < ((1:Nat):Int))=true from rfl,cond_true,hqm,i2]
        refine zbo (Q:=fun (r:Option (((List Int) × (List Int) × Int × (List Int) × Int) ⊕ ((List Int) × (List Int))))=>∃ a',r=some (.inl a')∧∃ (u' out:List Int),a'=(u',v,(v.length:Int),out,(i:Int) - 1)∧i≤k∧IsL u'∧u'.length=u.length∧IsL out∧out.length=k∧(∀ t,t < i→out.getD t 0=0)∧nv u=nv u'+nv out * nv v∧nv u' < nv v * 4294967296 ^ i)
          (fun (d:Nat) (st:(List Int) × (List Int) × Int × (List Int) × Int × Int × Int × Int × Int)=>∃ (z2:List Int) (c:Nat),st=(z2,v,(v.length:Int),out,(i:Int),(q':Int),(c:Int),((m+3:Nat):Int),(d:Int))∧IsL z2∧z2.length=u.length∧c≤1∧nv z2+X * 4294967296 ^ d * c=nv z+X * nv (v.take d)∧nv z2 < 4294967296 ^ (i+m+3)) (m+3) ?_ ?_ ?_
        · exact ⟨z,0,rfl,hzL,hzl,by omega,by simp [nv],by rw [hTT]; exact hzb⟩
        · rintro d st hd ⟨z2,c,rfl,hzL2,hzl2,hc,heq2,hzb2⟩
          obtain ⟨y,hy1,hy2,hy3⟩:=zdx hv d
          have hx:=hzL2.getD (d+i)
          obtain ⟨x,hx1⟩:∃ x:Nat,z2.getD (d+i) 0=(x:Int):=⟨_,(Int.toNat_of_nonneg hx.1).symm⟩
          rw [hx1] at hx
          have s1:wu64 ((x:Int)+(y:Int))=((x+y:Nat):Int):=by rw [zbt (by omega) (by omega)]; omega
          have s2:wu64 (((x+y:Nat):Int)+(c:Int))=((x+y+c:Nat):Int):=by rw [zbt (by omega) (by omega)]; omega
          obtain ⟨s,hs⟩:∃ s,x+y+c=s:=⟨_,rfl⟩
          simp only [dlt hd,zgw hv,hy1,Option.bind_some,wadd (show d+i≤9223372036854775807 by omega),d0le,dlt (show d+i < z2.length by omega),cond_true,Bool.and_self,tn,hx1,zaq (show x < 18446744073709551616 by omega),s1,s2,hs,shr32,zaq (show s / 4294967296 < 18446744073709551616 by omega),zbz,zaz (show d < 9223372036854775807 by omega)]
          have e1:=zip z2 (d+i) (((s % 4294967296:Nat):Int)) (by omega)
          rw [hx1,Int.toNat_natCast,Int.toNat_natCast,Nat.add_comm d i,Nat.pow_add,hX,Nat.add_comm i d] at e1
          refine ⟨_,rfl,_,_,rfl,hzL2.set _ (by omega) (by omega),by simpa using hzl2,by omega,?_,zjg hzL2 (by omega) (by omega) (by omega) hzb2⟩
          rw [hy3,Nat.pow_succ]
          exact add_step heq2 e1 hs (by omega)
        · rintro st ⟨z2,c,rfl,hzL2,hzl2,hc,heq2,hzb2⟩
          rw [List.take_of_length_le (by omega),hX3] at heq2
          rw [hTT] at hzb2
          refine ⟨_,by simp only [nlt (Nat.le_refl (m+3)),cond_false]; rfl,?_⟩
          simp only [zah,d0le,dlt (show i < out.length by omega),Bool.and_self,cond_true,tn,zbz,Nat.mod_eq_of_lt (show q' < 4294967296 by omega),wi1]
          have e1:=zip out i (q':Int) (by omega)
          rw [hz i (by omega),Int.toNat_natCast,hX] at e1
          have e2:nv (out.set i (q':Int))=nv out+X * q':=by simpa using e1
          have hfl:X * (q' * nv v)≤nv u':=by
            refine floor_le rfl ?_
            rw [Nat.succ_mul] at hq3
            omega
          rw [Nat.succ_mul,Nat.mul_add] at hqV heq
          have hc1:c=1:=by
            rcases Nat.eq_zero_or_pos c with h0 | h0
            · subst h0; rw [Nat.mul_zero] at heq2; omega
            · omega
          subst hc1
          rw [Nat.mul_one] at heq2
          refine ⟨_,rfl,_,_,rfl,by omega,hzL2,hzl2,hL.set _ (by omega) (by omega),by simpa using hlo,fun t ht=>by rw [getD_set_ne _ _ (by omega)]; exact hz t (by omega),?_,?_⟩
          · rw [e2,hv1,Nat.add_mul,Nat.mul_assoc]; omega
          · rw [hX,Nat.mul_comm (nv v) X]
            omega
  · rintro st ⟨u',out,rfl,hik,hu',hlu,hL,hlo,hz,hv1,hv2⟩
    rw [Nat.pow_zero,Nat.mul_one] at hv2
    refine ⟨(u',out),rfl,out,u',rfl,hL,hu',hlo,hlu,?_,?_⟩
    · rw [hv1,Nat.mul_comm,Nat.add_mul_div_left _ _ hV0,Nat.div_eq_of_lt hv2,Nat.zero_add]
    · rw [hv1,Nat.mul_comm,Nat.add_mul_mod_self_left,Nat.mod_eq_of_lt hv2]
end Go.Proofs.YtmipjomnjkmdbaaGreat
set_option linter.unusedSimpArgs false
set_option linter.unusedVariables false
namespace Go.Proofs.YtmipjomnjkmdbaaGreat
open Go Go.X
theorem bl_zero (f:Nat):Lib.bitLenAux f 0=0:=by cases f <;> simp [Lib.bitLenAux]
theorem bl_bounds:∀ (f x:Nat),x < 2 ^ f→x ≠ 0→1≤Lib.bitLenAux f x∧Lib.bitLenAux f x≤f∧x < 2 ^ Lib.bitLenAux f x
  | 0,x,h,h0=>by rw [Nat.pow_zero] at h; omega
  | f+1,x,h,h0=>by
    have e:Lib.bitLenAux (f+1) x=1+Lib.bitLenAux f (x / 2):=by simp [Lib.bitLenAux,h0]
    rw [e]
    by_cases h2:x / 2=0
    · rw [h2,bl_zero]
      exact ⟨by omega,by omega,by rw [Nat.add_zero,Nat.pow_one]; omega⟩
    · obtain ⟨q1,q2,q3⟩:=bl_bounds f (x / 2) (by rw [Nat.pow_succ] at h; omega) h2
      refine ⟨by omega,by omega,?_⟩
      rw [Nat.add_comm,Nat.pow_succ]; omega
theorem bl_more:∀ (f x:Nat),x < 2 ^ f→∀ g,f≤g→Lib.bitLenAux g x=Lib.bitLenAux f x
  | 0,x,h,g,_=>by
    rw [Nat.pow_zero] at h
    obtain rfl:x=0:=by omega
    rw [bl_zero,bl_zero]
  | f+1,x,h,g,hg=>by
    obtain ⟨g',rfl⟩:∃ g',g=g'+1:=⟨g - 1,by omega⟩
    simp only [Lib.bitLenAux]
    by_cases h0:x=0
    · rw [if_pos h0,if_pos h0]
    · rw [if_neg h0,if_neg h0,bl_more f (x / 2) (by rw [Nat.pow_succ] at h; omega) g' (by omega)]
theorem d200_eq {x:Nat} (h0:0 < x) (h1:x < 4294967296):∃ L:Nat,d200 (x:Int)=some (L:Int)∧1≤L∧L≤32∧x < 2 ^ L:=by
  have hx:x < 2 ^ 32:=h1
  have e:Lib.bitLen x=Lib.bitLenAux 32 x:=bl_more 32 x hx 64 (by decide)
  refine ⟨Lib.bitLen x,rfl,?_⟩
  rw [e]
  exact bl_bounds 32 x hx (by omega)
theorem zpo {v:List Int} (hv:NF v) {m:Nat} (hm:v.length=m+1):∃ h:Nat,v.getD m 0=(h:Int)∧0 < h∧h < 4294967296:=by
  have g:=hv.1.getD m
  refine ⟨(v.getD m 0).toNat,by omega,?_,by omega⟩
  have:v.getD m 0 ≠ 0:=by
    intro e
    refine hv.2 ?_
    rw [List.getLast?_eq_getElem?,hm,Nat.add_sub_cancel,List.getElem?_eq_getElem (by omega)]
    rw [List.getD_eq_getElem?_getD,List.getElem?_eq_getElem (by omega)] at e
    simpa using e
  omega
set_option maxHeartbeats 1000000 in
theorem d170_eq {a b:List Int} (ha:IsL a) (hb:IsL b) (la:a.length≤1073741823) (lb:b.length≤1073741823) (h0:nv b ≠ 0):d170 a b=some (zap (nv a / nv b),zap (nv a % nv b),true):=by
  unfold d170
  rw [zbs (by omega),zbs (by omega)]
  simp only [cond_true,Option.bind_some,zcf ha,zcf hb]
  have hla:=zbq ha
  have hlb:=zbq hb
  have hNA:=zka (nv a)
  have hNB:=zka (nv b)
  have hA:=zan (nv a)
  have hB:=zan (nv b)
  have eA:=zat (nv a)
  have eB:=zat (nv b)
  have hm:=@zeb (nv b) (nv a)
  have hBl:=zaw (nv b)
  have hAl:=zaw (nv a)
  have hBp:=@zet (nv b)
  have hxA:zap (nv a)=zap (nv a):=rfl
  have hxB:zap (nv b)=zap (nv b):=rfl
  generalize hyA:zap (nv a)=A at *
  generalize hyB:zap (nv b)=B at *
  have hB0:0 < B.length:=hBp.2 (Nat.pos_of_ne_zero h0)
  rw [show decide ((B.length:Int)=0)=false from decide_eq_false (by omega),d201_eq hA hB (by omega) (by omega),eA,eB]
  simp only [cond_false,Option.bind_some,cmpN_lt]
  by_cases hlt:nv a < nv b
  · rw [decide_eq_true hlt,cond_true,zqx (by omega),Nat.div_eq_of_lt hlt,Nat.mod_eq_of_lt hlt,zch,hyA]
    rfl
  rw [decide_eq_false hlt,cond_false]
  have hBA:=hm (by omega)
  by_cases h1:B.length=1
  · have q1:decide ((B.length:Int)=1)=true:=decide_eq_true (by omega)
    have q2:decide ((0:Int) < (B.length:Int))=true:=decide_eq_true (by omega)
    obtain ⟨h,hh1,hh2,hh3⟩:=zpo hNB (m:=0) h1
    have hbv:nv b=h:=by
      rw [← eB]
      obtain ⟨y,rfl⟩:=List.length_eq_one_iff.1 h1
      simp only [List.getD_cons_zero] at hh1
      simp only [nv,hh1]; omega
    obtain ⟨q,r1,r2,r3,r4⟩:=d202_eq hA (by omega) hh2 hh3
    have hml:nv A % h < h:=Nat.mod_lt _ hh2
    rw [eA] at r1 r4 hml
    have q3:d129 ((nv a % h:Nat):Int)=some (zap (nv a % h)):=by rw [znp (by omega) (by omega)]; rfl
    simp only [q1,q2,q3,decide_true,Int.le_refl,Bool.and_self,cond_true,hh1,zaq (show h < 18446744073709551616 by omega),r1,Option.bind_some,zgx r2 (show q.length≤4294967296 by omega),r4,hbv]
    rfl
  · obtain ⟨m,hmB⟩:∃ m,B.length=m+2:=⟨B.length - 2,by omega⟩
    have q1:decide (((m+2:Nat):Int)=1)=false:=decide_eq_false (by omega)
    have i1:w (((m+2:Nat):Int) - 1)=((m+1:Nat):Int):=by rw [zbl (by omega) (by omega)]; omega
    obtain ⟨h,hh1,hh2,hh3⟩:=zpo hNB (m:=m+1) hmB
    obtain ⟨L,hL0,hL1,hL2,hL3⟩:=d200_eq hh2 hh3
    have e203:d203 (h:Int)=some ((32 - L:Nat):Int):=by
      unfold d203
      rw [hL0]
      simp only [Option.bind_some]
      rw [zbl (by omega) (by omega)]
      congr 1; omega
    have hn:32 - L≤31:=by omega
    have hpow:2 ^ L * 2 ^ (32 - L)=4294967296:=by rw [← Nat.pow_add,show L+(32 - L)=32 by omega]
    obtain ⟨n,hnn⟩:∃ n,32 - L=n:=⟨_,rfl⟩
    rw [hnn] at e203 hn hpow
    have hT0:0 < 2 ^ n:=Nat.pow_pos (by decide)
    obtain ⟨u,u1,u2,u3,u4⟩:=d204_eq hA (by omega) hn
    obtain ⟨v0,v1,v2,v3,v4⟩:=d204_eq hB (by omega) hn
    rw [eA] at u4
    rw [eB] at v4
    simp only [hmB,q1,cond_false,i1,d0le,dlt (show m+1 < m+2 by omega),Bool.and_self,cond_true,tn,hh1,e203,Option.bind_some,u1,v1,zbs (n:=v0.length) (by omega),zcf v2]
    have hbl:4294967296 ^ (m+1)≤nv b:=by
      refine Nat.not_lt.1 fun hc=>?_
      have:=(hBl (m+1)).2 hc
      omega
    have hbu:nv b < 2 ^ L * 4294967296 ^ (m+1):=by
      have g:=zep hB (m+1)
      rw [hh1,eB] at g
      have hlt2:=(hBl (m+2)).1 (by omega)
      have hd:nv b / 4294967296 ^ (m+1) < 4294967296:=Nat.div_lt_of_lt_mul (by rw [← Nat.pow_succ]; exact hlt2)
      rw [Nat.mod_eq_of_lt hd] at g
      have:nv b / 4294967296 ^ (m+1) < 2 ^ L:=by omega
      exact (Nat.div_lt_iff_lt_mul (znz _)).1 this
    have hvu:nv v0 < 4294967296 ^ (m+2):=by
      have e:4294967296 ^ (m+2)=2 ^ L * 4294967296 ^ (m+1) * 2 ^ n:=by
        rw [show m+2=(m+1)+1 by omega,Nat.pow_succ,Nat.mul_right_comm,hpow,Nat.mul_comm]
      rw [v4,e]
      exact Nat.mul_lt_mul_of_pos_right hbu hT0
    have hvl:4294967296 ^ (m+1)≤nv v0:=by
      rw [v4]
      exact Nat.le_trans hbl (Nat.le_mul_of_pos_right _ hT0)
    have hV:=zan (nv v0)
    have eV:=zat (nv v0)
    have hVlen:(zap (nv v0)).length=m+2:=by
      have r1:=(zaw (nv v0) (m+2)).2 hvu
      have r2:¬ (zap (nv v0)).length≤m+1:=fun hc=>by
        have:=(zaw (nv v0) (m+1)).1 hc
        omega
      omega
    obtain ⟨hv,w1,w2,_⟩:=zpo (zka (nv v0)) (m:=m+1) hVlen
    obtain ⟨k,hk⟩:∃ k,A.length=k+(m+1):=⟨A.length - (m+1),by omega⟩
    have hal:nv a < 4294967296 ^ (k+(m+1)):=(hAl _).1 (by omega)
    have hkey:nv u < nv (zap (nv v0)) * 4294967296 ^ k:=by
      rw [eV,u4,v4,Nat.mul_right_comm]
      refine Nat.mul_lt_mul_of_pos_right ?_ hT0
      rw [Nat.pow_add,Nat.mul_comm] at hal
      exact Nat.lt_of_lt_of_le hal (Nat.mul_le_mul_right _ hbl)
    obtain ⟨q,r,z1,z2,z3,z4,z5,z6,z7⟩:=d205_eq u2 hV hVlen (k:=k) (by omega) (by omega) (by omega) hkey
    rw [eV,u4,v4,Nat.mul_div_mul_right _ _ hT0] at z6
    rw [eV,u4,v4,Nat.mul_mod_mul_right] at z7
    obtain ⟨o,o1,o2,o3,o4⟩:=d206_eq z3 (by omega) hn
    rw [z7,Nat.mul_div_cancel _ hT0] at o4
    simp only [z1,Option.bind_some,zgx z2 (show q.length≤4294967296 by omega),z6,o1,zgx o2 (show o.length≤4294967296 by omega),o4]
theorem d169_eq {a b:List Int} (ha:IsL a) (hb:IsL b) (la:a.length≤1073741823) (lb:b.length≤1073741823):d169 a b=some (zap (Nat.gcd (nv a) (nv b))):=by
  unfold d169
  rw [zgx ha (by omega),zgx hb (by omega)]
  simp only [Option.bind_some]
  have hla:=zbq ha
  have hlb:=zbq hb
  refine zda (Q:=fun r=>r=some (zap (Nat.gcd (nv a) (nv b)))) (fun (M:Nat) (st:(List Int) × (List Int))=>∃ x:Nat,st=(zap x,zap M)∧(zap x).length≤1073741823∧(zap M).length≤1073741823∧Nat.gcd x M=Nat.gcd (nv a) (nv b)) (nv b) ⟨nv a,rfl,by omega,by omega,rfl⟩ ?_
  rintro M st ⟨x,rfl,h1,h2,h3⟩
  rcases Nat.eq_zero_or_pos M with h0 | h0
  · subst h0
    refine .inr ⟨zap x,by simp [zch],?_⟩
    rw [Nat.gcd_zero_right] at h3
    rw [h3]
  · have hp:=zet.2 h0
    have hd:=d170_eq (zan x) (zan M) h1 h2 (by rw [zat]; omega)
    rw [zat,zat] at hd
    refine .inl ⟨(zap M,zap (x % M)),x % M,?_,Nat.mod_lt _ h0,M,rfl,h2,?_,?_⟩
    · rw [show decide ((0:Int) < ((zap M).length:Int))=true from decide_eq_true (by omega),cond_true,hd]; rfl
    · have:=zeb (Nat.le_of_lt (Nat.mod_lt x h0)); omega
    · rw [← h3,Nat.gcd_comm x M,Nat.gcd_rec M x,Nat.gcd_comm]
theorem d167_eq {a:List Int} (ha:IsL a) (la:a.length≤1073741824):∃ k:Int,d167 a=some k∧decide (k=0)=decide (nv a=0):=by
  unfold d167
  rw [zbs (by omega)]
  simp only [cond_true,Option.bind_some,zcf ha]
  have hla:=zbq ha
  have hNA:=zka (nv a)
  have hp:=@zet (nv a)
  generalize hyA:zap (nv a)=A at *
  rcases Nat.eq_zero_or_pos A.length with h0 | h0
  · refine ⟨0,by rw [decide_eq_true (show (A.length:Int)=0 by omega)]; rfl,?_⟩
    rw [decide_eq_true rfl,decide_eq_true (show nv a=0 by omega)]
  · obtain ⟨m,hm⟩:∃ m,A.length=m+1:=⟨A.length - 1,by omega⟩
    obtain ⟨h,hh1,hh2,hh3⟩:=zpo hNA hm
    obtain ⟨L,hL0,hL1,hL2,hL3⟩:=d200_eq hh2 hh3
    have i1:w (((m+1:Nat):Int) - 1)=(m:Int):=wpred (by omega)
    have i2:w (32 * (m:Int))=32 * (m:Int):=zbl (by omega) (by omega)
    have i3:w (32 * (m:Int)+(L:Int))=32 * (m:Int)+L:=zbl (by omega) (by omega)
    refine ⟨32 * (m:Int)+L,?_,?_⟩
    · rw [hm,decide_eq_false (show ¬ (((m+1:Nat):Int)=0) by omega)]
      simp only [cond_false,i1,d0le,dlt (show m < m+1 by omega),Bool.and_self,cond_true,tn,hh1,hL0,Option.bind_some,i2,i3]
    · rw [decide_eq_false (by omega),decide_eq_false (by omega)]
end Go.Proofs.YtmipjomnjkmdbaaGreat
set_option linter.unusedSimpArgs false
set_option linter.unusedVariables false
namespace Go.Proofs.YtmipjomnjkmdbaaGreat
open Go Go.X
abbrev Rt:=Bool × (List Int × List Int)
def sgnN (neg:Bool) (n:Nat):Int:=if neg then -(n:Int) else n
theorem sgnN_abs (neg:Bool) (n:Nat):(sgnN neg n).natAbs=n:=by unfold sgnN; split <;> simp
theorem zml (neg:Bool):sgnN neg 0=0:=by cases neg <;> rfl
theorem sgnN_not (neg:Bool) (n:Nat):sgnN (!neg) n=- sgnN neg n:=by cases neg <;> simp [sgnN]
def rv (r:Rt):Rat:=mkRat (sgnN r.1 (nv r.2.1)) (nv r.2.2)
def rr (q:Rat):Rt:=(decide (q.num < 0),zap q.num.natAbs,zap q.den)
def RtOK (r:Rt):Prop:=IsL r.2.1∧IsL r.2.2
theorem zoc (q:Rat):RtOK (rr q):=⟨zan _,zan _⟩
theorem zkj (q:Rat):sgnN (decide (q.num < 0)) q.num.natAbs=q.num:=by
  unfold sgnN
  by_cases h:q.num < 0
  · simp only [h,decide_true,if_true]; omega
  · simp only [h,decide_false]; simp; omega
theorem zoa (q:Rat):rv (rr q)=q:=by
  unfold rv rr
  simp only [zat,zkj,Rat.mkRat_self]
theorem rr_inj {p q:Rat} (h:rr p=rr q):p=q:=by rw [← zoa p,h,zoa]
theorem zpw:rr 0=(false,[],[1]):=by
  unfold rr
  simp only [Rat.zero_num,Rat.zero_den]
  rw [zfg (n:=1) (by omega)]
  simp [zch]
theorem zpx (neg:Bool) {a b:Nat} (ha:a ≠ 0) (hb:b ≠ 0):rr (mkRat (sgnN neg a) b)=(neg,zap (a / Nat.gcd a b),zap (b / Nat.gcd a b)):=by
  unfold rr
  rw [Rat.num_mkRat,Rat.den_mkRat,if_neg hb,if_neg hb,sgnN_abs,Nat.gcd_comm b a]
  obtain ⟨g,hg⟩:∃ g,Nat.gcd a b=g:=⟨_,rfl⟩
  have hd:g ∣ a:=by rw [← hg]; exact Nat.gcd_dvd_left a b
  have hgp:0 < g:=by rw [← hg]; exact Nat.gcd_pos_of_pos_left b (Nat.pos_of_ne_zero ha)
  rw [hg]
  obtain ⟨c,rfl⟩:=hd
  have hc:0 < c:=Nat.pos_of_ne_zero fun e=>ha (by rw [e,Nat.mul_zero])
  rw [Nat.mul_div_cancel_left c hgp]
  have h1:sgnN neg (g * c) / (g:Int)=sgnN neg c:=by
    unfold sgnN
    cases neg
    · simp only [Bool.false_eq_true,if_false,Int.natCast_mul]
      exact Int.mul_ediv_cancel_left _ (by omega)
    · simp only [if_true,Int.natCast_mul]
      rw [← Int.mul_neg]
      exact Int.mul_ediv_cancel_left _ (by omega)
  rw [h1,sgnN_abs]
  have h2:decide (sgnN neg c < 0)=neg:=by
    unfold sgnN
    cases neg
    · simp
    · simp; omega
  rw [h2]
theorem zkl (q:Rat):(rr q).2.1=[]↔q=0:=by
  unfold rr
  rw [znb,Int.natAbs_eq_zero,Rat.num_eq_zero]
theorem rr_neg (q:Rat):(rr q).1=decide (q < 0):=by
  unfold rr
  have:q.num < 0↔q < 0:=by
    have h:=Rat.num_nonneg (q:=q)
    rw [← Rat.not_le,← h]; omega
  simp only [this]
theorem sgnN_mul (x y:Bool) (a b:Nat):sgnN (!(x == y)) (a * b)=sgnN x a * sgnN y b:=by
  unfold sgnN
  cases x <;> cases y <;> simp [Int.natCast_mul,Int.neg_mul,Int.mul_neg]
def Sz (k:Nat) (r:Rt):Prop:=r.2.1.length≤k∧r.2.2.length≤k
theorem d168_eq:d168=some (rr 0):=by
  unfold d168
  rw [znp (by omega) (by omega),zpw,show (1:Int).toNat=1 from rfl,zfg (n:=1) (by omega)]
  simp [zch]
theorem znq (neg:Bool) {a b:List Int} (ha:IsL a) (hb:IsL b) (la:a.length≤1073741823) (lb:b.length≤1073741823):d127 neg a b=some (rr (mkRat (sgnN neg (nv a)) (nv b))):=by
  unfold d127
  obtain ⟨k,k1,k2⟩:=d167_eq ha (by omega)
  obtain ⟨l,l1,l2⟩:=d167_eq hb (by omega)
  rw [zah,k1,l1]
  simp only [Option.bind_some,k2,l2]
  by_cases ha0:nv a=0
  · rw [ha0,decide_eq_true rfl]
    simp only [Bool.not_true,cond_false,cond_true,d168_eq,zml,Rat.zero_mkRat,Option.bind_some]
  · rw [decide_eq_false ha0]
    by_cases hb0:nv b=0
    · rw [hb0,decide_eq_true rfl,Rat.mkRat_zero]
      simp only [Bool.not_false,cond_true,d168_eq,Option.bind_some]
    · rw [decide_eq_false hb0,zpx neg ha0 hb0]
      have hg:Nat.gcd (nv a) (nv b) ≠ 0:=fun e=>ha0 (Nat.eq_zero_of_gcd_eq_zero_left e)
      have hgl:(zap (Nat.gcd (nv a) (nv b))).length≤1073741823:=by
        have:=zeb (Nat.le_of_dvd (Nat.pos_of_ne_zero ha0) (Nat.gcd_dvd_left (nv a) (nv b)))
        have:=zbq ha
        omega
      have e1:=d170_eq ha (zan (Nat.gcd (nv a) (nv b))) la hgl (by rw [zat]; exact hg)
      have e2:=d170_eq hb (zan (Nat.gcd (nv a) (nv b))) lb hgl (by rw [zat]; exact hg)
      rw [zat] at e1 e2
      simp only [Bool.not_false,cond_true,cond_false,d169_eq ha hb la lb,e1,e2,Option.bind_some]
theorem rr_len (neg:Bool) (a b:Nat):(rr (mkRat (sgnN neg a) b)).2.1.length≤(zap a).length∧(rr (mkRat (sgnN neg a) b)).2.2.length≤max 1 (zap b).length:=by
  by_cases ha:a=0
  · subst ha
    rw [zml,Rat.zero_mkRat,zpw]
    exact ⟨Nat.zero_le _,Nat.le_max_left _ _⟩
  · by_cases hb:b=0
    · subst hb
      rw [Rat.mkRat_zero,zpw]
      exact ⟨Nat.zero_le _,Nat.le_max_left _ _⟩
    · rw [zpx neg ha hb]
      exact ⟨zeb (Nat.div_le_self _ _),Nat.le_trans (zeb (Nat.div_le_self _ _)) (Nat.le_max_right _ _)⟩
theorem rr_sz {r:Rt} (h:RtOK r) {k:Nat} (hk:Sz k r) (h1:1≤k):Sz k (rr (rv r)):=by
  obtain ⟨q1,q2⟩:=rr_len r.1 (nv r.2.1) (nv r.2.2)
  have:=zbq h.1
  have:=zbq h.2
  have:=hk.1
  have:=hk.2
  exact ⟨by show (rr (mkRat _ _)).2.1.length≤_; omega,by show (rr (mkRat _ _)).2.2.length≤_; omega⟩
theorem zhq {r:Rt} (h:RtOK r) (hk:Sz 1073741823 r):d175 r=some (rr (rv r)):=by
  unfold d175
  rw [znq r.1 h.1 h.2 hk.1 hk.2]; rfl
theorem zcm (a b:Nat):(zap (a * b)).length≤(zap a).length+(zap b).length:=by
  rw [zaw,Nat.pow_add]
  exact Nat.mul_lt_mul'' ((zaw a _).1 (Nat.le_refl _)) ((zaw b _).1 (Nat.le_refl _))
theorem zqh (a b:Nat):(zap (a+b)).length≤max (zap a).length (zap b).length+1:=by
  rw [zaw,Nat.pow_succ]
  have h1:=(zaw a (max (zap a).length (zap b).length)).1 (Nat.le_max_left _ _)
  have h2:=(zaw b (max (zap a).length (zap b).length)).1 (Nat.le_max_right _ _)
  omega
theorem sum_eq (s t:Bool) {a b:Nat} (la:(zap a).length≤1073741823) (lb:(zap b).length≤1073741823):∃ (u:Bool) (c:Nat),d176 s (zap a) t (zap b)=some (u,zap c)∧sgnN u c=sgnN s a+sgnN t b∧c≤a+b:=by
  unfold d176
  have hA:=zan a
  have hB:=zan b
  by_cases h:s=t
  · subst h
    rw [d209_eq hA hB (by omega) (by omega),zat,zat]
    refine ⟨s,a+b,by simp,?_,Nat.le_refl _⟩
    unfold sgnN; split <;> omega
  · rw [beq_eq_false_iff_ne.2 h,d210_eq hA hB (by omega) (by omega),d210_eq hB hA (by omega) (by omega),zat,zat]
    simp only [cond_false,Option.bind_some]
    by_cases hlt:a < b
    · rw [if_pos hlt,if_neg (by omega)]
      refine ⟨t,b - a,rfl,?_,by omega⟩
      unfold sgnN
      cases s <;> cases t <;> simp at h ⊢ <;> omega
    · rw [if_neg hlt]
      refine ⟨s,a - b,rfl,?_,by omega⟩
      unfold sgnN
      cases s <;> cases t <;> simp at h ⊢ <;> omega
theorem add_mk {x y:Rat}:mkRat (x.num * y.den+y.num * x.den) (x.den * y.den)=x+y:=by
  have:=Rat.mkRat_add_mkRat x.num y.num x.den_nz y.den_nz
  rw [Rat.mkRat_self,Rat.mkRat_self] at this
  exact this.symm
theorem zfx (x:Rat) (d:Nat):sgnN (decide (x.num < 0)) (x.num.natAbs * d)=x.num * d:=by
  have h:=zkj x
  unfold sgnN at h ⊢
  split
  · rename_i h1
    rw [if_pos h1] at h
    rw [← h]
    simp [Int.neg_mul]
  · rename_i h1
    rw [if_neg h1] at h
    rw [← h]
    simp
theorem d138_rr {x y:Rat} (hx:Sz 268435456 (rr x)) (hy:Sz 268435456 (rr y)):d138 (rr x) (rr y)=some (rr (x+y)):=by
  unfold d138
  rw [zhq (zoc x) ⟨by have:=hx.1; omega,by have:=hx.2; omega⟩,zhq (zoc y) ⟨by have:=hy.1; omega,by have:=hy.2; omega⟩,zoa,zoa]
  simp only [Option.bind_some]
  obtain ⟨a1,a2⟩:=hx
  obtain ⟨b1,b2⟩:=hy
  simp only [rr] at a1 a2 b1 b2 ⊢
  rw [ziv (zan _) (zan _) (by omega) (by omega),ziv (zan _) (zan _) (by omega) (by omega),ziv (zan _) (zan _) (by omega) (by omega)]
  simp only [Option.bind_some,zat]
  have m1:=zcm x.num.natAbs y.den
  have m2:=zcm y.num.natAbs x.den
  have m3:=zcm x.den y.den
  obtain ⟨u,c,e1,e2,e3⟩:=sum_eq (decide (x.num < 0)) (decide (y.num < 0)) (a:=x.num.natAbs * y.den) (b:=y.num.natAbs * x.den) (by omega) (by omega)
  have m4:=zqh (x.num.natAbs * y.den) (y.num.natAbs * x.den)
  have m5:=zeb e3
  rw [e1]
  simp only [Option.bind_some]
  rw [znq u (zan c) (zan _) (by omega) (by omega),zat,zat,e2,zfx,zfx,add_mk]
  rfl
theorem rv_not (r:Rt):rv (!r.1,r.2)=- rv r:=by
  unfold rv
  rw [sgnN_not,Rat.neg_mkRat]
theorem d138_gen {a b:Rt} (ha:RtOK a) (hb:RtOK b) (ka:Sz 268435456 a) (kb:Sz 268435456 b):d138 a b=some (rr (rv a+rv b)):=by
  have ha':=rr_sz ha ka (by omega)
  have hb':=rr_sz hb kb (by omega)
  rw [← d138_rr ha' hb']
  unfold d138
  rw [zhq ha ⟨by have:=ka.1; omega,by have:=ka.2; omega⟩,zhq hb ⟨by have:=kb.1; omega,by have:=kb.2; omega⟩,zhq (zoc _) ⟨by have:=ha'.1; omega,by have:=ha'.2; omega⟩,zhq (zoc _) ⟨by have:=hb'.1; omega,by have:=hb'.2; omega⟩,zoa,zoa]
theorem zno {x y:Rat} (hx:Sz 268435456 (rr x)) (hy:Sz 268435456 (rr y)):d132 (rr x) (rr y)=some (rr (x - y)):=by
  unfold d132
  rw [d138_gen (zoc x) (b:=(!(rr y).1,(rr y).2)) (zoc y) hx hy,rv_not,zoa,zoa,Rat.sub_eq_add_neg]
  rfl
def cmpQ (x y:Rat):Int:=if x < y then -1 else if x=y then 0 else 1
theorem zfo {x y:Rat}:x - y=0↔x=y:=by
  constructor
  · intro h; grind
  · intro h; grind
theorem zgl {x y:Rat}:x - y < 0↔x < y:=by
  constructor
  · intro h; grind
  · intro h; grind
theorem d137_rr {x y:Rat} (hx:Sz 268435456 (rr x)) (hy:Sz 268435456 (rr y)):d137 (rr x) (rr y)=some (cmpQ x y):=by
  unfold d137
  rw [zno hx hy]
  simp only [Option.bind_some]
  rw [rr_neg]
  unfold cmpQ
  by_cases h:x < y
  · rw [decide_eq_true (zgl.2 h),if_pos h]; rfl
  · rw [decide_eq_false (fun hc=>h (zgl.1 hc)),if_neg h]
    by_cases h2:x=y
    · rw [if_pos h2,(zkl (x - y)).2 (zfo.2 h2)]; rfl
    · have:(rr (x - y)).2.1 ≠ []:=fun hc=>h2 (zfo.1 ((zkl _).1 hc))
      have:=List.length_pos_iff.2 this
      rw [if_neg h2,decide_eq_false (by omega)]; rfl
theorem mul_mk {x y:Rat}:mkRat (x.num * y.num) (x.den * y.den)=x * y:=by
  have:=Rat.mkRat_mul_mkRat x.num y.num x.den y.den
  rw [Rat.mkRat_self,Rat.mkRat_self] at this
  exact this.symm
theorem sgn_prod (x y:Rat):sgnN (!(decide (x.num < 0) == decide (y.num < 0))) (x.num.natAbs * y.num.natAbs)=x.num * y.num:=by
  rw [sgnN_mul,zkj,zkj]
theorem d172_rr {x y:Rat} (hx:Sz 268435456 (rr x)) (hy:Sz 268435456 (rr y)):d172 (rr x) (rr y)=some (rr (x * y)):=by
  unfold d172
  obtain ⟨a1,a2⟩:=hx
  obtain ⟨b1,b2⟩:=hy
  simp only [rr] at a1 a2 b1 b2 ⊢
  rw [ziv (zan _) (zan _) (by omega) (by omega),ziv (zan _) (zan _) (by omega) (by omega)]
  simp only [Option.bind_some,zat]
  have m1:=zcm x.num.natAbs y.num.natAbs
  have m3:=zcm x.den y.den
  rw [znq _ (zan _) (zan _) (by omega) (by omega),zat,zat,sgn_prod,mul_mk]
  rfl
theorem zqf {y:Rat} (h:0 < y):0 < y.num:=by
  have h1:=(Rat.num_nonneg (q:=y)).2 (Rat.le_of_lt h)
  have h2:y.num ≠ 0:=fun e=>by
    rw [Rat.num_eq_zero] at e
    rw [e] at h
    exact absurd h (by decide)
  omega
theorem div_mk {x y:Rat} (hy:0 < y):mkRat (x.num * y.den) (x.den * y.num.natAbs)=x / y:=by
  have hn:0 < y.num:=zqf hy
  have e1:mkRat (x.num * y.den) (x.den * y.num.natAbs) * y=x:=by
    conv=>lhs; rhs; rw [← Rat.mkRat_self y]
    rw [Rat.mkRat_mul_mkRat]
    conv=>rhs; rw [← Rat.mkRat_self x]
    have h0:x.den * y.num.natAbs * y.den ≠ 0:=Nat.mul_ne_zero (Nat.mul_ne_zero x.den_nz (by omega)) y.den_nz
    rw [Rat.mkRat_eq_iff h0 x.den_nz]
    have:((y.num.natAbs:Nat):Int)=y.num:=by omega
    simp only [Int.natCast_mul,this]
    grind
  have hy0:y ≠ 0:=by intro h; rw [h] at hy; exact absurd hy (by decide)
  generalize mkRat (x.num * y.den) (x.den * y.num.natAbs)=z at e1 ⊢
  rw [← e1,Rat.mul_div_cancel hy0]
theorem d179_rr {x y:Rat} (hx:Sz 268435456 (rr x)) (hy:Sz 268435456 (rr y)) (hp:0 < y):d179 (rr x) (rr y)=some (rr (x / y),true):=by
  unfold d179
  rw [zhq (zoc x) ⟨by have:=hx.1; omega,by have:=hx.2; omega⟩,zhq (zoc y) ⟨by have:=hy.1; omega,by have:=hy.2; omega⟩,zoa,zoa]
  simp only [Option.bind_some]
  have hy0:y ≠ 0:=by intro h; rw [h] at hp; exact absurd hp (by decide)
  have hnn:(rr y).2.1 ≠ []:=fun hc=>hy0 ((zkl _).1 hc)
  have:=List.length_pos_iff.2 hnn
  rw [decide_eq_false (by omega)]
  obtain ⟨a1,a2⟩:=hx
  obtain ⟨b1,b2⟩:=hy
  have hn:0 < y.num:=zqf hp
  simp only [rr,cond_false] at a1 a2 b1 b2 ⊢
  rw [ziv (zan _) (zan _) (by omega) (by omega),ziv (zan _) (zan _) (by omega) (by omega)]
  simp only [Option.bind_some,zat]
  have m1:=zcm x.num.natAbs y.den
  have m3:=zcm x.den y.num.natAbs
  rw [znq _ (zan _) (zan _) (by omega) (by omega),zat,zat]
  have hs:(!(decide (x.num < 0) == decide (y.num < 0)))=decide (x.num < 0):=by
    rw [decide_eq_false (show ¬ y.num < 0 by omega)]
    cases decide (x.num < 0) <;> rfl
  rw [hs,zfx,div_mk hp]
  rfl
theorem d128_eq {n:Int} (h0:-9223372036854775807≤n) (h1:n≤9223372036854775807):d128 n=some (zap n.natAbs):=by
  unfold d128
  by_cases h:n < 0
  · have e:wu64 (0 - wu64 n)=-n:=by
      rw [wu64_mod,wu64_mod]; omega
    rw [decide_eq_true h,cond_true,e,znp (by omega) (by omega),show (-n).toNat=n.natAbs by omega]; rfl
  · rw [decide_eq_false h,cond_false,zbt (by omega) (by omega),znp (by omega) (by omega),show n.toNat=n.natAbs by omega]; rfl
theorem mk_int (n:Int):mkRat (sgnN (decide (n < 0)) n.natAbs) 1=(n:Rat):=by
  have:sgnN (decide (n < 0)) n.natAbs=n:=by
    unfold sgnN
    by_cases h:n < 0
    · simp only [h,decide_true,if_true]; omega
    · simp only [h,decide_false]; simp; omega
  rw [this,Rat.mkRat_one]
theorem zis {n:Nat} (h:n < 18446744073709551616):(zap n).length≤2:=(zaw n 2).2 h
theorem zpc {n:Int} (h0:-9223372036854775807≤n) (h1:n≤9223372036854775807):d68 n=some (rr (n:Rat)):=by
  unfold d68
  have:=zis (n:=n.natAbs) (by omega)
  have:=zis (n:=1) (by omega)
  rw [d128_eq h0 h1,znp (by omega) (by omega)]
  simp only [Option.bind_some,show (1:Int).toNat=1 from rfl]
  rw [znq _ (zan _) (zan _) (by omega) (by omega),zat,zat,mk_int]
  rfl
end Go.Proofs.YtmipjomnjkmdbaaGreat
set_option linter.unusedSimpArgs false
set_option linter.unusedVariables false
namespace Go.Proofs.YtmipjomnjkmdbaaGreat
open Go Go.X
def bv:List Bool→Nat
  | []=>0
  | x::l=>x.toNat+2 * bv l
def binl (n:Nat):List Bool:=if h:n=0 then [] else decide (n % 2=1)::binl (n / 2)
  termination_by n
  decreasing_by exact Nat.div_lt_self (Nat.pos_of_ne_zero h) (by omega)
theorem binl_zero:binl 0=[]:=by rw [binl]; simp
theorem zij {n:Nat} (h:n ≠ 0):binl n=decide (n % 2=1)::binl (n / 2):=by rw [binl]; simp [h]
theorem toNat_dec (n:Nat):(decide (n % 2=1)).toNat=n % 2:=by
  by_cases h:n % 2=1
  · rw [decide_eq_true h,h]; rfl
  · rw [decide_eq_false h]; show 0=_; omega
theorem dec_toNat (b:Bool) (k:Nat):decide ((b.toNat+2 * k) % 2=1)=b:=by cases b <;> simp [Bool.toNat] <;> omega
theorem zbr (n:Nat):bv (binl n)=n:=by
  induction n using Nat.strongRecOn with
  | _ n ih =>
    by_cases h:n=0
    · subst h; rw [binl_zero]; rfl
    · rw [zij h]
      simp only [bv,ih (n / 2) (Nat.div_lt_self (by omega) (by omega)),toNat_dec]
      omega
def BN (l:List Bool):Prop:=l.getLast? ≠ some false
theorem BN.tail {x:Bool} {l:List Bool} (h:BN (x::l)):BN l:=fun he=>h (by
  cases l with
  | nil=>simp at he
  | cons y l=>rw [List.getLast?_cons_cons]; exact he)
theorem BN.pos:∀ {l:List Bool},BN l→l ≠ []→0 < bv l
  | [],_,h=>absurd rfl h
  | [x],h,_=>by
    have:x=true:=by cases x; exact absurd rfl h; rfl
    subst this; decide
  | x::y::l,h,_=>by
    have:=BN.pos h.tail (by simp)
    simp only [bv] at this ⊢; omega
theorem binl_bv:∀ {l:List Bool},BN l→binl (bv l)=l
  | [],_=>binl_zero
  | x::l,h=>by
    have hp:=BN.pos h (by simp)
    rw [zij (by omega)]
    show decide ((x.toNat+2 * bv l) % 2=1)::binl ((x.toNat+2 * bv l) / 2)=x::l
    rw [dec_toNat,show (x.toNat+2 * bv l) / 2=bv l by cases x <;> simp [Bool.toNat] <;> omega,binl_bv h.tail]
theorem binl_nil {n:Nat}:binl n=[]↔n=0:=⟨fun h=>by rw [← zbr n,h]; rfl,fun h=>by rw [h,binl_zero]⟩
theorem zhw {n:Nat}:0 < (binl n).length↔0 < n:=by
  rw [List.length_pos_iff,ne_eq,binl_nil]; omega
theorem zbi (n:Nat):∀ k:Nat,(binl n).length≤k↔n < 2 ^ k:=by
  induction n using Nat.strongRecOn with
  | _ n ih =>
    intro k
    by_cases h:n=0
    · subst h; rw [binl_zero]; simp; exact Nat.pow_pos (by omega)
    · rw [zij h,List.length_cons]
      cases k with
      | zero=>simp; omega
      | succ k =>
        have:=ih (n / 2) (Nat.div_lt_self (by omega) (by omega)) k
        rw [Nat.succ_le_succ_iff,this,Nat.pow_succ]
        exact Nat.div_lt_iff_lt_mul (by omega)
theorem zhu:∀ (a b:List Bool),bv (a++b)=bv a+2 ^ a.length * bv b
  | [],b=>by simp [bv]
  | x::a,b=>by
    simp only [List.cons_append,bv,zhu a b,List.length_cons,Nat.pow_succ]
    generalize 2 ^ a.length=P
    rw [Nat.mul_add,Nat.add_assoc,← Nat.mul_assoc,Nat.mul_comm P 2]
theorem zra:∀ n:Nat,bv (List.replicate n false)=0
  | 0=>rfl
  | n+1=>by simp [List.replicate_succ,bv,zra n]
theorem zrc:∀ (l:List Bool),bv l < 2 ^ l.length
  | []=>by simp [bv]
  | x::l=>by
    have ih:=zrc l
    simp only [bv,List.length_cons,Nat.pow_succ]
    have:x.toNat < 2:=by cases x <;> decide
    omega
theorem P2_pos (i:Nat):0 < 2 ^ i:=Nat.pow_pos (by decide)
theorem bv_top (l:List Bool) (k:Nat):bv (l.take k) < 2 ^ k:=by
  have h1:=zrc (l.take k)
  exact Nat.lt_of_lt_of_le h1 (Nat.pow_le_pow_right (by decide) (by rw [List.length_take]; omega))
theorem zpm (l:List Bool) {n:Nat} (h:n < l.length):l.take (n+1)=l.take n++[l.getD n false]:=by
  rw [List.take_add_one,List.getD_eq_getElem?_getD,List.getElem?_eq_getElem h]; rfl
theorem bgetD_out (l:List Bool) {n:Nat} (h:l.length≤n):l.getD n false=false:=by
  rw [List.getD_eq_getElem?_getD,List.getElem?_eq_none h]; rfl
theorem zee (l:List Bool) (k:Nat):bv (l.take (k+1))=bv (l.take k)+2 ^ k * (l.getD k false).toNat:=by
  by_cases h:k < l.length
  · rw [zpm l h,zhu,List.length_take,Nat.min_eq_left (by omega)]
    simp [bv]
  · rw [List.take_of_length_le (by omega),List.take_of_length_le (by omega),bgetD_out l (by omega)]
    simp
theorem zrb (l:List Bool) (i:Nat) (h:i≤l.length):bv l=bv (l.take i)+2 ^ i * bv (l.drop i):=by
  have:=zhu (l.take i) (l.drop i)
  rw [List.take_append_drop,List.length_take,Nat.min_eq_left h] at this
  exact this
theorem binl_le (l:List Bool):(binl (bv l)).length≤l.length:=(zbi _ _).2 (zrc l)
theorem zhv {x y:Nat} (h:x≤y):(binl x).length≤(binl y).length:=by
  have h1:=(zbi y (binl y).length).1 (Nat.le_refl _)
  exact (zbi x _).2 (by omega)
theorem zof {a:Nat} (h:a < 9223372036854775807):w ((a:Int) - 1)=(a:Int) - 1:=zbl (by omega) (by omega)
theorem zhr {l:List Bool} (h:l.length≤4294967296):d142 l=some (binl (bv l)):=by
  unfold d142
  have h0:=zrc l
  refine zda (Q:=fun r=>r=some (binl (bv l))) (fun (M:Nat) (st:(List Bool) × Int)=>st=(l,(M:Int))∧M≤l.length∧bv (l.take M)=bv l) l.length ⟨rfl,Nat.le_refl _,by rw [List.take_length]⟩ ?_
  rintro M st ⟨rfl,hM,hv⟩
  have fin:∀ (hbn:l.take M=binl (bv l)),(match ((l,(M:Int)):(List Bool) × Int) with
    | (b_3,n_2)=>bif zdg 0 n_2 b_3.length then
      bif (decide ((([]:List Bool).length:Int)+((List.drop 0 (List.take (Int.toNat n_2) b_3)).length:Int)≤LIM)) then
        some (List.drop 0 (List.take (Int.toNat n_2) b_3))
      else none
    else none)=some (binl (bv l)):=by
    intro hbn
    have hc:zdg 0 (M:Int) l.length=true:=by
      unfold zdg
      simp only [Bool.and_eq_true,decide_eq_true_eq]
      omega
    have hl:((l.take M).length)≤4294967296:=by rw [List.length_take]; omega
    simp only [hc,cond_true,tn,List.drop_zero,List.length_nil]
    rw [show decide (((0:Nat):Int)+((List.take M l).length:Int)≤LIM)=true from by rw [show ((0:Nat):Int)+((List.take M l).length:Int)=((List.take M l).length:Int) by omega]; exact zbs hl,cond_true,hbn]
  cases M with
  | zero =>
    refine .inr ⟨(l,0),by simp only [zah,show decide ((0:Int) < ((0:Nat):Int))=false from rfl,cond_false]; rfl,fin ?_⟩
    rw [List.take_zero,← hv,List.take_zero]; exact binl_zero.symm
  | succ m =>
    have d0:decide ((0:Int) < ((m+1:Nat):Int))=true:=decide_eq_true (by omega)
    cases hb:l.getD m false with
    | false =>
      refine .inl ⟨(l,(m:Int)),m,?_,by omega,rfl,by omega,?_⟩
      · simp only [zah,d0,cond_true,wpred (show m < 9223372036854775807 by omega),d0le,dlt (show m < l.length by omega),Bool.and_self,tn,hb,Bool.not_false]
      · rw [← hv,zee,hb]; simp
    | true =>
      refine .inr ⟨(l,((m+1:Nat):Int)),?_,fin ?_⟩
      · simp only [zah,d0,cond_true,wpred (show m < 9223372036854775807 by omega),d0le,dlt (show m < l.length by omega),Bool.and_self,tn,hb,Bool.not_true,cond_false]
      · have hbn:BN (l.take (m+1)):=by
          rw [zpm l (by omega),hb,BN,List.getLast?_append]; simp
        rw [← hv,binl_bv hbn]
theorem d145_eq (b:List Bool) (i:Nat):d145 b (i:Int)=some (b.getD i false):=by
  unfold d145
  simp only [d0le,cond_true]
  by_cases h:i < b.length
  · simp only [dlt h,cond_true,Bool.and_self,tn]
  · rw [nlt (by omega),cond_false,bgetD_out b (by omega)]
theorem d80_eq (a b:List Bool) (la:a.length≤4294967296) (lb:b.length≤4294967296):d80 a b=some (cmpN (bv a) (bv b)):=by
  unfold d80
  rw [lenmax]
  obtain ⟨n,hn⟩:∃ n,max a.length b.length=n:=⟨_,rfl⟩
  rw [hn,zof (by omega)]
  refine zda (Q:=fun r=>r=some (cmpN (bv a) (bv b))) (fun (M:Nat) (st:(List Bool) × (List Bool) × Int)=>st=(a,b,(M:Int) - 1)∧M≤n∧cmpN (bv (a.take M)) (bv (b.take M))=cmpN (bv a) (bv b)) n ⟨rfl,Nat.le_refl _,by rw [List.take_of_length_le (by omega),List.take_of_length_le (by omega)]⟩ ?_
  rintro M st ⟨rfl,hM,hv⟩
  cases M with
  | zero =>
    refine .inr ⟨.inl (),rfl,?_⟩
    rw [← hv,List.take_zero,List.take_zero]; rfl
  | succ m =>
    have e:((m+1:Nat):Int) - 1=(m:Int):=by omega
    have t1:=zee a m
    have t2:=zee b m
    have l1:=bv_top a m
    have l2:=bv_top b m
    have hP:=P2_pos m
    simp only [e,d0le,cond_true,d145_eq,Option.bind_some]
    cases h1:a.getD m false <;> cases h2:b.getD m false <;> rw [h1] at t1 <;> rw [h2] at t2 <;> simp only [Bool.toNat_false,Bool.toNat_true,Nat.mul_zero,Nat.mul_one,Nat.add_zero] at t1 t2
    · refine .inl ⟨_,m,rfl,by omega,by rw [zof (by omega)],by omega,?_⟩
      rw [← hv,t1,t2]
    · refine .inr ⟨.inr (-1),rfl,?_⟩
      rw [← hv,t1,t2]; unfold cmpN; rw [if_pos (by omega)]
    · refine .inr ⟨.inr 1,rfl,?_⟩
      rw [← hv,t1,t2]; unfold cmpN; rw [if_neg (by omega),if_pos (by omega)]
    · refine .inl ⟨_,m,rfl,by omega,by rw [zof (by omega)],by omega,?_⟩
      rw [← hv,t1,t2]; unfold cmpN
      (repeat' split) <;> omega
theorem zqi {l:List Bool} {d:Bool} (h:l.length+1≤4294967296):decide ((l.length:Int)+(([d]:List Bool).length:Int)≤LIM)=true:=by
  have:(l.length:Int)+(([d]:List Bool).length:Int)=((l.length+1:Nat):Int):=by simp
  rw [this]; exact zbs h
end Go.Proofs.YtmipjomnjkmdbaaGreat
set_option linter.unusedSimpArgs false
set_option linter.unusedVariables false
namespace Go.Proofs.YtmipjomnjkmdbaaGreat
open Go Go.X
theorem add_bit (x y c:Bool):(!((!(x == y)) == c)).toNat+2 * ((x && y) || (x && c) || (y && c)).toNat=x.toNat+y.toNat+c.toNat:=by cases x <;> cases y <;> cases c <;> rfl
theorem bit_step {P v d c' x y c a b:Nat} (h:d+2 * c'=x+y+c) (e:v+P * c=a+b):v+P * d+P * 2 * c'=a+P * x+(b+P * y):=by
  have e2:=congrArg (P * ·) h
  simp only [Nat.mul_add,← Nat.mul_assoc] at e2
  omega
theorem bv_snoc (l:List Bool) (d:Bool):bv (l++[d])=bv l+2 ^ l.length * d.toNat:=by rw [zhu]; simp [bv]
theorem lenmaxI (x y:Nat) (i:Int):decide (i≤(bif decide ((x:Int) < (y:Int)) then (y:Int) else (x:Int)))=decide (i≤((max x y:Nat):Int)):=by rw [lenmax]
theorem d79_eq (a b:List Bool) (la:a.length≤2147483646) (lb:b.length≤2147483646):d79 a b=some (binl (bv a+bv b)):=by
  unfold d79
  obtain ⟨n,hn⟩:∃ n,max a.length b.length=n:=⟨_,rfl⟩
  refine zbo (Q:=fun r=>r=some (binl (bv a+bv b))) (fun (i:Nat) (st:(List Bool) × (List Bool) × (List Bool) × Bool × Int)=>∃ (out:List Bool) (c:Bool),st=(a,b,out,c,(i:Int))∧out.length=i∧bv out+2 ^ i * c.toNat=bv (a.take i)+bv (b.take i)) (n+1) ?_ ?_ ?_
  · exact ⟨[],false,rfl,rfl,by simp [bv]⟩
  · rintro i st hi ⟨out,c,rfl,hlen,hv⟩
    have q:decide ((i:Int)≤(n:Int))=true:=decide_eq_true (by omega)
    have tA:=zee a i
    have tB:=zee b i
    simp only [lenmaxI,hn,q,cond_true,d145_eq,Option.bind_some,zah,zqi (show out.length+1≤4294967296 by omega),zaz (show i < 9223372036854775807 by omega)]
    generalize a.getD i false=x at *
    generalize b.getD i false=y at *
    refine ⟨(a,b,out++[!((!(x == y)) == c)],((x && y) || (x && c) || (y && c)),((i+1:Nat):Int)),?_,_,_,rfl,by simp [hlen],?_⟩
    · cases x <;> cases y <;> cases c <;> rfl
    · rw [bv_snoc,hlen,tA,tB,Nat.pow_succ]
      exact bit_step (add_bit x y c) hv
  · rintro st ⟨out,c,rfl,hlen,hv⟩
    have q:decide (((n+1:Nat):Int)≤(n:Int))=false:=decide_eq_false (by omega)
    refine ⟨out,by simp only [lenmaxI,hn,q,cond_false],?_⟩
    rw [List.take_of_length_le (by omega),List.take_of_length_le (by omega)] at hv
    have h1:bv a < 2 ^ n:=Nat.lt_of_lt_of_le (zrc a) (Nat.pow_le_pow_right (by decide) (by omega))
    have h2:bv b < 2 ^ n:=Nat.lt_of_lt_of_le (zrc b) (Nat.pow_le_pow_right (by decide) (by omega))
    rw [Nat.pow_succ] at hv
    have hc:c=false:=by
      cases c
      · rfl
      · simp only [Bool.toNat_true] at hv; omega
    subst hc
    rw [Bool.toNat_false,Nat.mul_zero,Nat.add_zero] at hv
    show (d142 out).bind _=_
    rw [zhr (by omega),hv]; rfl
theorem sub_bit (x y c:Bool):(!((!(x == y)) == c)).toNat+y.toNat+c.toNat=x.toNat+2 * ((!x && y) || (!x && c) || (y && c)).toNat:=by cases x <;> cases y <;> cases c <;> rfl
theorem sbit_step {P v d c' x y c a b:Nat} (h:d+y+c=x+2 * c') (e:v+b=a+P * c):v+P * d+(b+P * y)=a+P * x+P * 2 * c':=by
  have e2:=congrArg (P * ·) h
  simp only [Nat.mul_add,← Nat.mul_assoc] at e2
  omega
theorem d82_eq (a b:List Bool) (la:a.length≤2147483646) (h:bv b≤bv a):d82 a b=some (binl (bv a - bv b)):=by
  unfold d82
  refine zbo (Q:=fun r=>r=some (binl (bv a - bv b))) (fun (i:Nat) (st:(List Bool) × (List Bool) × (List Bool) × Bool × Int)=>∃ (out:List Bool) (c:Bool),st=(a,b,out,c,(i:Int))∧out.length=i∧bv out+bv (b.take i)=bv (a.take i)+2 ^ i * c.toNat) a.length ?_ ?_ ?_
  · exact ⟨[],false,rfl,rfl,by simp [bv]⟩
  · rintro i st hi ⟨out,c,rfl,hlen,hv⟩
    have tA:=zee a i
    have tB:=zee b i
    simp only [dlt hi,cond_true,d145_eq,Option.bind_some,zah,zqi (show out.length+1≤4294967296 by omega),zaz (show i < 9223372036854775807 by omega)]
    generalize a.getD i false=x at *
    generalize b.getD i false=y at *
    refine ⟨(a,b,out++[!((!(x == y)) == c)],((!x && y) || (!x && c) || (y && c)),((i+1:Nat):Int)),?_,_,_,rfl,by simp [hlen],?_⟩
    · cases x <;> cases y <;> cases c <;> rfl
    · rw [bv_snoc,hlen,tA,tB,Nat.pow_succ]
      exact sbit_step (sub_bit x y c) hv
  · rintro st ⟨out,c,rfl,hlen,hv⟩
    refine ⟨out,by simp only [nlt (Nat.le_refl a.length),cond_false],?_⟩
    have hb:bv (b.take a.length)=bv b:=by
      by_cases hl:b.length≤a.length
      · rw [List.take_of_length_le hl]
      · have h1:=zrb b a.length (by omega)
        have h2:=zrc a
        rcases Nat.eq_zero_or_pos (bv (b.drop a.length)) with h3 | h3
        · rw [h3] at h1; omega
        · have:=Nat.mul_le_mul_left (2 ^ a.length) h3
          rw [Nat.mul_one] at this
          omega
    rw [hb,List.take_of_length_le (Nat.le_refl _)] at hv
    have h1:=zrc out
    rw [hlen] at h1
    have hc:c=false:=by
      cases c
      · rfl
      · simp only [Bool.toNat_true] at hv; omega
    subst hc
    rw [Bool.toNat_false,Nat.mul_zero,Nat.add_zero] at hv
    show (d142 out).bind _=_
    rw [zhr (by omega),show bv out=bv a - bv b by omega]; rfl
theorem d141_eq (a:List Bool) (n:Nat) (h:n+a.length≤4294967296):d141 a (n:Int)=some (List.replicate n false++a):=by
  unfold d141
  simp only [decide_true,d0le,zbs (n:=n) (by omega),Bool.and_self,cond_true,tn,List.length_replicate]
  rw [show (n:Int)+(a.length:Int)=((n+a.length:Nat):Int) by omega,zbs h,cond_true]
theorem bv_shift (a:List Bool) (n:Nat):bv (List.replicate n false++a)=2 ^ n * bv a:=by rw [zhu,zra,List.length_replicate,Nat.zero_add]
theorem d77_eq (a b:List Bool) (la:a.length≤536870912) (lb:b.length≤536870912):d77 a b=some (binl (bv a * bv b)):=by
  unfold d77
  refine zbo (Q:=fun r=>r=some (binl (bv a * bv b))) (fun (i:Nat) (st:(List Bool) × (List Bool) × (List Bool) × Int)=>∃ (s:List Bool),st=(a,b,s,(i:Int))∧s.length≤a.length+i∧bv s=bv a * bv (b.take i)) b.length ?_ ?_ ?_
  · exact ⟨[],rfl,by simp,by simp [bv]⟩
  · rintro i st hi ⟨s,rfl,hlen,hv⟩
    have tB:=zee b i
    simp only [dlt hi,cond_true,d0le,Bool.and_self,zah,tn]
    cases hb:b.getD i false with
    | false =>
      rw [hb] at tB
      refine ⟨_,by rw [cond_false,zaz (by omega)],s,rfl,by omega,?_⟩
      rw [hv,tB]; simp
    | true =>
      rw [hb] at tB
      have hbound:bv s+2 ^ i * bv a < 2 ^ (a.length+(i+1)):=by
        have e:bv s+2 ^ i * bv a=bv a * bv (b.take (i+1)):=by
          rw [hv,tB,Bool.toNat_true,Nat.mul_one,Nat.mul_add,Nat.mul_comm (2 ^ i)]
        rw [e,Nat.pow_add]
        exact Nat.mul_lt_mul'' (zrc a) (bv_top b (i+1))
      rw [cond_true,d141_eq a i (by omega),Option.bind_some,d79_eq _ _ (by omega) (by simp; omega),Option.bind_some,bv_shift]
      refine ⟨_,by rw [zaz (by omega)],_,rfl,(zbi _ _).2 hbound,?_⟩
      rw [zbr,hv,tB,Bool.toNat_true,Nat.mul_one,Nat.mul_add,Nat.mul_comm (2 ^ i)]
  · rintro st ⟨s,rfl,hlen,hv⟩
    refine ⟨s,by simp only [nlt (Nat.le_refl b.length),cond_false],?_⟩
    rw [List.take_of_length_le (Nat.le_refl _)] at hv
    show (d142 s).bind _=_
    rw [zhr (by omega),hv]; rfl
theorem bv_set (l:List Bool) (i:Nat) (h:i < l.length) (h0:l.getD i false=false):bv (l.set i true)=bv l+2 ^ i:=by
  rw [zrb l i (by omega),zrb (l.set i true) i (by simp; omega),List.take_set_of_le (Nat.le_refl i)]
  have e1:l.drop i=false::l.drop (i+1):=by
    rw [List.drop_eq_getElem_cons h]
    rw [List.getD_eq_getElem?_getD,List.getElem?_eq_getElem h] at h0
    rw [show l[i]=false from h0]
  have e2:(l.set i true).drop i=true::l.drop (i+1):=by
    rw [List.drop_eq_getElem_cons (by simpa using h),List.getElem_set_self,List.drop_set_of_lt (by omega)]
  rw [e1,e2]
  simp only [bv,Bool.toNat_true,Bool.toNat_false,Nat.mul_add]
  omega
theorem bgetD_set_ne (l:List Bool) {i j:Nat} (x:Bool) (h:i ≠ j):(l.set i x).getD j false=l.getD j false:=by
  simp only [List.getD_eq_getElem?_getD,List.getElem?_set_ne h]
theorem bgetD_zeros (n i:Nat):(List.replicate n false).getD i false=false:=by
  rw [List.getD_eq_getElem?_getD,List.getElem?_replicate]
  split <;> rfl
theorem div_step1 {A T P Q R x y:Nat} (h:A=Q * y+P * 2 * R+(T+P * x)) (hge:y≤x+2 * R):A=(Q+P) * y+P * (x+2 * R - y)+T:=by
  obtain ⟨z,hz⟩:∃ z,x+2 * R=y+z:=⟨x+2 * R - y,by omega⟩
  have e:=congrArg (P * ·) hz
  simp only [Nat.mul_add,← Nat.mul_assoc] at e
  rw [hz,Nat.add_sub_cancel_left,Nat.add_mul]
  omega
theorem div_step0 {A T P Q R x y:Nat} (h:A=Q * y+P * 2 * R+(T+P * x)):A=Q * y+P * (x+2 * R)+T:=by
  rw [Nat.mul_add,← Nat.mul_assoc]
  omega
theorem cmpN_ge (x y:Nat):decide (0≤cmpN x y)=decide (y≤x):=by
  unfold cmpN
  by_cases h:x < y
  · rw [if_pos h,decide_eq_false (show ¬ y≤x by omega)]; rfl
  · rw [if_neg h,decide_eq_true (show y≤x by omega)]; split <;> rfl
theorem d153_eq (a b:List Bool) (la:a.length≤1073741824) (lb:b.length≤1073741824) (h0:bv b ≠ 0):d153 a b=some (binl (bv a / bv b),binl (bv a % bv b)):=by
  unfold d153
  simp only [decide_true,d0le,zbs (n:=a.length) (by omega),Bool.and_self,cond_true,tn,zof (show a.length < 9223372036854775807 by omega)]
  refine zkb (Q:=fun r=>r=some (binl (bv a / bv b),binl (bv a % bv b))) (fun (i:Nat) (st:(List Bool) × (List Bool) × (List Bool) × (List Bool) × Int)=>∃ (q:List Bool) (R:Nat),st=(a,b,q,binl R,(i:Int) - 1)∧i≤a.length∧q.length=a.length∧R < bv b∧(∀ k,k < i→q.getD k false=false)∧bv a=bv q * bv b+2 ^ i * R+bv (a.take i)) a.length ?_ ?_ ?_
  · exact ⟨_,0,by rw [binl_zero],Nat.le_refl _,by simp,Nat.pos_of_ne_zero h0,fun k _=>bgetD_zeros _ k,by simp [zra]⟩
  · rintro i st hi ⟨q,R,rfl,hia,hlen,hR,hz,hv⟩
    have j1:((i+1:Nat):Int) - 1=(i:Int):=by omega
    have hRl:(binl R).length≤1073741824:=Nat.le_trans (zhv (Nat.le_of_lt hR)) (Nat.le_trans (binl_le b) lb)
    have hlim:decide ((([a.getD i false]:List Bool).length:Int)+((binl R).length:Int)≤LIM)=true:=by
      rw [show (([a.getD i false]:List Bool).length:Int)+((binl R).length:Int)=(((binl R).length+1:Nat):Int) by simp; omega]
      exact zbs (by omega)
    have tA:=zee a i
    rw [Nat.pow_succ,tA] at hv
    have hbv:bv ([a.getD i false]++binl R)=(a.getD i false).toNat+2 * R:=by simp [bv,zbr]
    have hbl:([a.getD i false]++binl R).length≤1073741825:=by simp; omega
    simp only [j1,d0le,cond_true,dlt (show i < a.length by omega),Bool.and_self,tn,zah,hlim,zhr (Nat.le_trans hbl (by omega)),hbv,Option.bind_some]
    have hx:(a.getD i false).toNat≤1:=Bool.toNat_le _
    generalize (a.getD i false).toNat=x at *
    have hX:(binl (x+2 * R)).length≤1073741825:=by
      have:=binl_le ([a.getD i false]++binl R)
      rw [hbv] at this
      omega
    rw [d80_eq _ _ (by omega) (by omega),zbr,Option.bind_some,cmpN_ge]
    by_cases hge:bv b≤x+2 * R
    · rw [decide_eq_true hge,cond_true,d82_eq _ _ (by omega) (by rw [zbr]; exact hge),zbr]
      simp only [Option.bind_some,dlt (show i < q.length by omega),cond_true,zof (show i < 9223372036854775807 by omega)]
      refine ⟨_,rfl,_,_,rfl,by omega,by simpa using hlen,by omega,fun k hk=>by rw [bgetD_set_ne _ _ (by omega)]; exact hz k (by omega),?_⟩
      rw [bv_set q i (by omega) (hz i (by omega))]
      exact div_step1 hv hge
    · rw [decide_eq_false hge,cond_false]
      refine ⟨_,by rw [zof (by omega)],q,_,rfl,by omega,hlen,by omega,fun k hk=>hz k (by omega),?_⟩
      exact div_step0 hv
  · rintro st ⟨q,R,rfl,hia,hlen,hR,hz,hv⟩
    refine ⟨(q,binl R),rfl,?_⟩
    simp only [List.take_zero,bv,Nat.pow_zero,Nat.one_mul,Nat.add_zero] at hv
    show (d142 q).bind _=_
    rw [zhr (by omega),Option.bind_some]
    have e1:bv a / bv b=bv q:=by
      rw [hv,Nat.mul_comm,Nat.mul_add_div (by omega),Nat.div_eq_of_lt hR,Nat.add_zero]
    have e2:bv a % bv b=R:=by
      rw [hv,Nat.mul_comm,Nat.mul_add_mod,Nat.mod_eq_of_lt hR]
    rw [e1,e2]
theorem d152_eq (x y:Nat) (lx:(binl x).length≤1073741824) (ly:(binl y).length≤1073741824):d152 (binl x) (binl y)=some (binl (Nat.gcd x y)):=by
  unfold d152
  refine zda (Q:=fun r=>r=some (binl (Nat.gcd x y))) (fun (M:Nat) (st:(List Bool) × (List Bool))=>∃ z:Nat,st=(binl z,binl M)∧(binl z).length≤1073741824∧(binl M).length≤1073741824∧Nat.gcd z M=Nat.gcd x y) y ⟨x,rfl,lx,ly,rfl⟩ ?_
  rintro M st ⟨z,rfl,h1,h2,h3⟩
  rcases Nat.eq_zero_or_pos M with h0 | h0
  · subst h0
    refine .inr ⟨binl z,by simp [binl_zero],?_⟩
    rw [Nat.gcd_zero_right] at h3
    rw [zhr (by omega),zbr,h3]; rfl
  · have hp:=zhw.2 h0
    have hd:=d153_eq (binl z) (binl M) h1 h2 (by rw [zbr]; omega)
    rw [zbr,zbr] at hd
    refine .inl ⟨(binl M,binl (z % M)),z % M,?_,Nat.mod_lt _ h0,M,rfl,h2,?_,?_⟩
    · simp only [show decide ((0:Int) < ((binl M).length:Int))=true from decide_eq_true (by omega),cond_true,hd,Option.bind_some]
    · have:=zhv (Nat.le_of_lt (Nat.mod_lt z h0)); omega
    · rw [← h3,Nat.gcd_comm z M,Nat.gcd_rec M z,Nat.gcd_comm]
end Go.Proofs.YtmipjomnjkmdbaaGreat
