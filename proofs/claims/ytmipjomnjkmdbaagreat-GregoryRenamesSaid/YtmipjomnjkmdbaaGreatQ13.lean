/- Part 13 of what stands below the statement. -/
import Derived.Test.YtmipjomnjkmdbaaGreatQ12
set_option linter.unusedSimpArgs false
set_option linter.unusedVariables false
open Go Go.Proofs Go.X
namespace Go.Proofs.YtmipjomnjkmdbaaGreat
theorem d165_eq {n:Int} (hn:n≤7) {l:List Int} (hl:l.length≤281474976710656):d165 n l=some (decide (isB n l)):=by
  unfold d165
  refine zfq (fun i=>(n,zig l i,l,(l.length:Int),(i:Int))) (fun i=>decide (l.getD i 0 < 0) || (decide (n≤l.getD i 0) || (zig l i).getD (Int.toNat (l.getD i 0)) false)) l.length (fun _=>.inr false) (.inl ()) rfl (fun i hi=>?_) ?_ (fun i hi hp hj=>?_) (fun hall=>?_)
  · have h2:(i:Int) < (l.length:Int):=by omega
    have h3:(0:Int)≤(i:Int):=by omega
    have hw:w ((i:Int)+1)=((i+1:Nat):Int):=by rw [w_id (by omega) (by omega)]; omega
    simp only [h2,h3,letJ,decide_true,cond_true,Bool.and_self,Int.toNat_natCast,hw]
    by_cases c1:l.getD i 0 < 0
    · simp only [c1]; rfl
    · by_cases c2:n≤l.getD i 0
      · simp only [c1,c2]; rfl
      · have c3:0≤l.getD i 0:=by omega
        have c4:l.getD i 0 < 7:=by omega
        simp only [c1,c2,c3,c4]
        cases (zig l i).getD (Int.toNat (l.getD i 0)) false <;> rfl
  · simp
  · have:¬ isB n l:=fun h=>by
      have hb:=(zpt n l).1 h
      have h1:=hb i hi
      have h2:=zlz l i (by omega) (fun j hj=>by have:=hb j (by omega); omega) (Int.toNat (l.getD i 0)) (by omega)
      rw [show ((l.getD i 0).toNat:Int)=l.getD i 0 by omega] at h2
      rw [h2] at hp
      simp only [Bool.or_eq_true,decide_eq_true_eq] at hp
      rcases hp with hp | hp | hp
      · omega
      · omega
      · exact h1.2.2 hp
    simp [this]
  · have hb:∀ i,i < l.length→0≤l.getD i 0∧l.getD i 0 < n:=fun i hi=>by
      have:=hall i hi
      simp only [Bool.or_eq_false_iff,decide_eq_false_iff_not] at this
      omega
    have:isB n l:=(zpt n l).2 fun i hi=>by
      have h1:=hb i hi
      have h0:=hall i hi
      simp only [Bool.or_eq_false_iff,decide_eq_false_iff_not] at h0
      have h2:=zlz l i (by omega) (fun j hj=>by have:=hb j (by omega); omega) (Int.toNat (l.getD i 0)) (by omega)
      rw [show ((l.getD i 0).toNat:Int)=l.getD i 0 by omega,h0.2.2] at h2
      exact ⟨h1.1,h1.2,fun hm=>of_decide_eq_false h2.symm hm⟩
    simp [this]
def tot (gs:List Grp) (i:Nat):Int:=wsum (fun _=>1) (gs.take i)
def badG (n:Int) (gs:List Grp) (i:Nat):Bool:=decide ((gs.getD i ([],0)).2 < 1) || (decide (100000 - tot gs i < (gs.getD i ([],0)).2) || (!decide (isB n (gs.getD i ([],0)).1) || (decide (0 < i) && decide (0≤cmpL (gs.getD (i - 1) ([],0)).1 (gs.getD i ([],0)).1))))
theorem zdc (f:List Int→Int) (gs:List Grp) {i:Nat} (h:i < gs.length):wsum f (gs.take (i+1))=wsum f (gs.take i)+(gs.getD i ([],0)).2 * f (gs.getD i ([],0)).1:=by
  rw [zft gs ([],0) h,zks]
  simp [wsum]
theorem zjg {n:Int} {gs:List Grp}:∀ {i:Nat},i≤gs.length→(∀ j,j < i→badG n gs j=false)→0≤tot gs i∧tot gs i≤100000
  | 0,_,_=>by simp [tot,wsum]
  | i+1,h,hb=>by
    have ih:=zjg (n:=n) (gs:=gs) (i:=i) (by omega) fun j hj=>hb j (by omega)
    have h1:=hb i (by omega)
    unfold badG at h1
    simp only [Bool.or_eq_false_iff,decide_eq_false_iff_not] at h1
    have h2:tot gs (i+1)=tot gs i+(gs.getD i ([],0)).2 * 1:=zdc _ gs (by omega)
    omega
theorem d124_eq {n:Int} (hn:n≤7) {gs:List Grp} (hl:gs.length≤281474976710656) (hg:∀ g∈gs,g.1.length≤281474976710656∧-9223372036854775808≤g.2∧g.2≤9223372036854775807):d124 n gs=some (decide (∀ i,i < gs.length→badG n gs i=false)):=by
  unfold d124
  have hgi:∀ i,i < gs.length→(gs.getD i ([],0)).1.length≤281474976710656:=fun i hi=>by
    rw [zbd gs _ hi]
    exact (hg _ (List.getElem_mem _)).1
  refine while_first' (fun i=>(n,gs,tot gs i,gs,(gs.length:Int),(i:Int))) (badG n gs) gs.length (fun _=>.inr false) (.inl ()) rfl (fun i hi hj=>?_) (fun _=>?_) (fun i hi hp hj=>?_) (fun hall=>?_)
  · have h2:(i:Int) < (gs.length:Int):=by omega
    have h3:(0:Int)≤(i:Int):=by omega
    have hw:w ((i:Int)+1)=((i+1:Nat):Int):=by rw [w_id (by omega) (by omega)]; omega
    have ht:=zjg (n:=n) (gs:=gs) (i:=i) (by omega) hj
    have hw2:w (100000 - tot gs i)=100000 - tot gs i:=w_id (by omega) (by omega)
    have hgl:=hgi i hi
    have hgp:=hgi (i - 1) (by omega)
    have hts:tot gs (i+1)=tot gs i+(gs.getD i ([],0)).2 * 1:=zdc _ gs (by omega)
    have hw3:1≤(gs.getD i ([],0)).2→(gs.getD i ([],0)).2≤100000 - tot gs i→w (tot gs i+(gs.getD i ([],0)).2)=tot gs (i+1):=fun a b=>by rw [w_id (by omega) (by omega)]; omega
    have hb:badG n gs i=(decide ((gs.getD i ([],0)).2 < 1) || (decide (100000 - tot gs i < (gs.getD i ([],0)).2) || (!decide (isB n (gs.getD i ([],0)).1) || (decide (0 < i) && decide (0≤cmpL (gs.getD (i - 1) ([],0)).1 (gs.getD i ([],0)).1))))):=rfl
    rw [hb]
    simp only [h2,h3,letJ,decide_true,cond_true,Bool.and_self,Int.toNat_natCast,hw,hw2]
    rw [d165_eq hn hgl]
    obtain ⟨g,hgd⟩:∃ g,gs.getD i ([],0)=g:=⟨_,rfl⟩
    simp only [hgd] at hgl hts hw3 ⊢
    by_cases c1:g.2 < 1
    · simp only [c1]; rfl
    · by_cases c2:100000 - tot gs i < g.2
      · simp only [c1,c2]; rfl
      · rw [hw3 (by omega) (by omega)]
        by_cases c3:isB n g.1
        · by_cases c4:0 < i
          · have c5:(0:Int) < (i:Int):=by omega
            have hwp:w ((i:Int) - 1)=((i - 1:Nat):Int):=by rw [w_id (by omega) (by omega)]; omega
            have h5:(0:Int)≤((i - 1:Nat):Int):=by omega
            have h6:((i - 1:Nat):Int) < (gs.length:Int):=by omega
            simp only [c1,c2,c3,c4,c5,hwp,h5,h6,Int.toNat_natCast,d166_eq hgp hgl,Option.bind_some,decide_true,decide_false,Bool.not_true,Bool.not_false,cond_true,cond_false,Bool.and_self,Bool.true_and,Bool.false_or]
            cases decide (0≤cmpL (gs.getD (i - 1) ([],0)).1 g.1) <;> rfl
          · have c5:¬ (0:Int) < (i:Int):=by omega
            simp only [c1,c2,c3,c4,c5]; rfl
        · simp only [c1,c2,c3]; rfl
  · simp
  · have:¬ ∀ i,i < gs.length→badG n gs i=false:=fun h=>by rw [h i hi] at hp; cases hp
    simp [this]
  · have:∀ i,i < gs.length→badG n gs i=false:=hall
    simp only [decide_eq_true this]
theorem PileOK.good {n:Int} {gs:List Grp} {N:Int} (h:PileOK n gs N):∀ i,i < gs.length→badG n gs i=false:=fun i hi=>by
  have hm:gs.getD i ([],0)∈gs:=by rw [zbd gs _ hi]; exact List.getElem_mem _
  have h1:=h.ballots _ hm
  have h2:tot gs (i+1)=tot gs i+(gs.getD i ([],0)).2 * 1:=zdc _ gs hi
  have h3:wsum (fun _=>1) gs=tot gs (i+1)+wsum (fun _=>1) (gs.drop (i+1)):=by
    unfold tot
    rw [← zks,List.take_append_drop]
  have h4:=(zia (n:=n) (gs:=gs.drop (i+1)) (fun x hx=>h.ballots x (List.mem_of_mem_drop hx)) (f:=fun _=>1) (fun _=>by omega)).1
  have h5:=h.total
  have h6:=h.most
  unfold badG
  have c1:¬ (gs.getD i ([],0)).2 < 1:=by omega
  have c2:¬ 100000 - tot gs i < (gs.getD i ([],0)).2:=by omega
  simp only [c1,c2,h1.1,decide_true,decide_false,Bool.not_true,Bool.false_or]
  by_cases c3:0 < i
  · have h7:(gs.getD (i - 1) ([],0)).1 < (gs.getD i ([],0)).1:=by
      rw [zbd gs _ hi,zbd gs _ (by omega:i - 1 < gs.length)]
      exact List.pairwise_iff_getElem.1 h.sorted (i - 1) i (by omega) hi (by omega)
    have c4:cmpL (gs.getD (i - 1) ([],0)).1 (gs.getD i ([],0)).1=-1:=if_pos h7
    rw [c4]
    simp
  · simp [c3]
theorem PileOK.sizes {n:Int} {gs:List Grp} {N:Int} (h:PileOK n gs N) (hn:n≤7):gs.length≤100000∧∀ g∈gs,g.1.length≤7∧1≤g.2∧g.2≤100000:=by
  have h1:=zpk h.ballots
  have h2:=h.total
  have h3:=h.most
  refine ⟨by omega,fun g hg=>?_⟩
  have h4:=zpl h.ballots g hg
  have h5:=h.ballots g hg
  exact ⟨zht h5.1 hn,by omega,by omega⟩
theorem PileOK.d124 {n:Int} {gs:List Grp} {N:Int} (h:PileOK n gs N) (hn:n≤7):d124 n gs=some true:=by
  obtain ⟨h1,h2⟩:=h.sizes hn
  rw [d124_eq hn (by omega) fun g hg=>by have:=h2 g hg; omega]
  rw [decide_eq_true h.good]
theorem PileOK.wide {n:Int} {gs:List Grp} {N:Int} (h:PileOK n gs N) (hn:n≤7):PileOK 7 gs N where
  ballots:=fun g hg=>by
    have:=h.ballots g hg
    exact ⟨⟨this.1.1,fun x hx=>by have:=this.1.2 x hx; omega⟩,this.2⟩
  sorted:=h.sorted
  total:=h.total
  most:=h.most
theorem PileOK.d100 {n:Int} {gs:List Grp} {N:Int} (h:PileOK n gs N) (hn:n≤7):d100 gs=some true:=by
  unfold Go.Proofs.YtmipjomnjkmdbaaGreat.d100
  rw [(h.wide hn).d124 (by omega)]
  rfl
theorem PileOK.part {n:Int} {gs:List Grp} {N:Int} (h:PileOK n gs N) {f:List Int→Int} (hf:∀ p,0≤f p∧f p≤1) (i:Nat):0≤wsum f (gs.take i)∧wsum f (gs.take i)≤100000:=by
  have h1:=zia (n:=n) (gs:=gs.take i) (fun x hx=>h.ballots x (List.mem_of_mem_take hx)) hf
  have h2:=zia (n:=n) (gs:=gs.drop i) (fun x hx=>h.ballots x (List.mem_of_mem_drop hx)) (f:=fun _=>1) (fun _=>by omega)
  have h3:wsum (fun _=>1) gs=wsum (fun _=>1) (gs.take i)+wsum (fun _=>1) (gs.drop i):=by rw [← zks,List.take_append_drop]
  have h4:=h.total
  have h5:=h.most
  omega
def zar (p:List Int):Int:=if p=[] then 0 else 1
theorem PileOK.d52 {n:Int} {gs:List Grp} {N:Int} (h:PileOK n gs N) (hn:n≤7):d52 gs=some (wsum zar gs):=by
  obtain ⟨hl,hg⟩:=h.sizes hn
  have hf:∀ p,0≤zar p∧zar p≤1:=fun p=>by unfold zar; split <;> omega
  unfold Go.Proofs.YtmipjomnjkmdbaaGreat.d52
  rw [h.d100 hn]
  simp only [Option.bind_some,Bool.not_true,cond_false]
  have:d104 gs (fun a=>d105 a)=some (wsum zar gs):=by
    unfold d104
    refine zaf (b:=wsum zar gs) (fun i=>(fun a=>d105 a,wsum zar (gs.take i),gs,(gs.length:Int),(i:Int))) gs.length rfl (fun i hi=>?_) ?_ rfl
    · have h2:(i:Int) < (gs.length:Int):=by omega
      have h3:(0:Int)≤(i:Int):=by omega
      have hw:w ((i:Int)+1)=((i+1:Nat):Int):=by rw [w_id (by omega) (by omega)]; omega
      have e:=zdc zar gs hi
      have b0:=h.part hf i
      have b1:=h.part hf (i+1)
      simp only [h2,h3,hw,decide_true,cond_true,Bool.and_self,Int.toNat_natCast]
      obtain ⟨g,hgd⟩:∃ g,gs.getD i ([],0)=g:=⟨_,rfl⟩
      simp only [hgd] at e ⊢
      obtain ⟨p,k⟩:=g
      unfold d105
      simp only at e ⊢
      match p with
      | [] =>
        have h0:zar []=0:=by simp [zar]
        rw [h0] at e
        have hw2:w (wsum zar (gs.take i)+0)=wsum zar (gs.take (i+1)):=by rw [w_id (by omega) (by omega)]; omega
        simp only [List.length_nil,Int.ofNat_zero,decide_true,cond_true,Option.bind_some,hw2]
      | y::p =>
        have h0:zar (y::p)=1:=by simp [zar]
        rw [h0] at e
        have h4:¬ ((((y::p).length:Nat):Int)=0):=by simp; omega
        have hw2:w (wsum zar (gs.take i)+k)=wsum zar (gs.take (i+1)):=by rw [w_id (by omega) (by omega)]; omega
        simp only [h4,decide_false,cond_false,Option.bind_some,hw2]
    · have h1:¬ ((gs.length:Int) < (gs.length:Int)):=by omega
      simp only [h1,decide_false,cond_false,List.take_length]
  rw [this]
  rfl
end Go.Proofs.YtmipjomnjkmdbaaGreat
set_option linter.unusedSimpArgs false
set_option linter.unusedVariables false
open Go Go.Proofs Go.X
namespace Go.Proofs.YtmipjomnjkmdbaaGreat
theorem d101_on {s:List Int} {f:Int→Option Bool} {g:Int→Bool} (hf:∀ c∈s,f c=some (g c)) (hs:s.length≤281474976710656):d101 s f=some (if zap g s < s.length then (zap g s:Int) else -1):=by
  have hle:=zfj g s
  unfold d101
  have hstep:∀ i,i < zap g s→w ((i:Int)+1)=((i+1:Nat):Int):=fun i hi=>by rw [w_id (by omega) (by omega)]; omega
  have hfi:∀ i,i < s.length→f (s.getD i 0)=some (g (s.getD i 0)):=fun i hi=>by rw [zbd s 0 hi]; exact hf _ (List.getElem_mem _)
  by_cases h:zap g s < s.length
  · have hat:=zfk _ s h
    refine zaf (b:=.inr (zap g s:Int)) (fun i=>(s,f,(s.length:Int),(i:Int))) (zap g s) rfl ?_ ?_ (by simp [h])
    · intro i hi
      have h1:=zda g s i hi
      have h2:(i:Int) < (s.length:Int):=by omega
      have h3:(0:Int)≤(i:Int):=by omega
      simp only [h2,h3,decide_true,cond_true,Bool.and_self,Int.toNat_natCast,hfi i (by omega),h1,Option.bind_some,hstep i hi,cond_false]
    · have h2:(zap g s:Int) < (s.length:Int):=by omega
      have h3:(0:Int)≤(zap g s:Int):=by omega
      simp only [h2,h3,decide_true,cond_true,Bool.and_self,Int.toNat_natCast,hfi _ h,hat,Option.bind_some]
  · refine zaf (b:=.inl ()) (fun i=>(s,f,(s.length:Int),(i:Int))) s.length rfl ?_ ?_ (by simp [h])
    · intro i hi
      have h1:=zda g s i (by omega)
      have h2:(i:Int) < (s.length:Int):=by omega
      have h3:(0:Int)≤(i:Int):=by omega
      simp only [h2,h3,decide_true,cond_true,Bool.and_self,Int.toNat_natCast,hfi i (by omega),h1,Option.bind_some,hstep i (by omega),cond_false]
    · simp
theorem znl {f g:List Int→Int}:∀ {gs:List Grp},(∀ x∈gs,f x.1=g x.1)→wsum f gs=wsum g gs
  | [],_=>rfl
  | a::gs,h=>by
    unfold wsum
    rw [h a (by simp),znl fun x hx=>h x (List.mem_cons_of_mem _ hx)]
end Go.Proofs.YtmipjomnjkmdbaaGreat
set_option linter.unusedSimpArgs false
set_option linter.unusedVariables false
open Go Go.Proofs Go.X
namespace Go.Proofs.YtmipjomnjkmdbaaGreat
theorem wt_part {l:List Int} (h:WT (.slice (.int .i64)) l) (k:Nat):WT (.slice (.int .i64)) (l.take k):=⟨by have:=h.1; simp; omega,fun x hx=>h.2 x (List.mem_of_mem_take hx)⟩
theorem bal_isB {n:Int} (hn:0 < n) (l:List Int):isB n (bal n l):=⟨zjo n l _,fun x hx=>outs_in hn l _ x hx⟩
def balF (n:Int) (x:List Int):List Int:=bal n (x.take 12)
def bals (n:Int) (l:List (List Int)) (most:Nat):List (List Int):=(l.take most).map (balF n)
theorem lim_small {α:Type} (l:List α) (z:α) (h:l.length≤1000000):((l.length:Int)+(([z]:List α).length:Int)≤LIM):=by rw [zfo]; simp; omega
theorem d46_eq {n:Int} (hn:0 < n) (hn':n≤7) {l:List (List Int)} (hl:l.length≤281474976710656) (hw:∀ x∈l,WT (.slice (.int .i64)) x) {most:Nat} (hm:most≤100):d46 n l (most:Int)=some (bals n l most):=by
  unfold d46
  refine zaf (b:=bals n l most) (fun i=>(n,l,(most:Int),(l.take i).map (balF n),(i:Int))) (min l.length most) rfl (fun i hi=>?_) ?_ rfl
  · have h1:(i:Int) < (l.length:Int):=by omega
    have h2:(i:Int) < (most:Int):=by omega
    have h3:(0:Int)≤(i:Int):=by omega
    have hwi:w ((i:Int)+1)=((i+1:Nat):Int):=by rw [w_id (by omega) (by omega)]; omega
    have hx:=hw (l.getD i []) (by rw [zbd l [] (by omega)]; exact List.getElem_mem _)
    have ht:=zft l [] (by omega:i < l.length)
    simp only [h1,h2,h3,hwi,letJ,decide_true,cond_true,Bool.and_self,Int.toNat_natCast]
    obtain ⟨x,hxd⟩:∃ x,l.getD i []=x:=⟨_,rfl⟩
    simp only [hxd] at hx ht ⊢
    have hc:zdb 0 (bif decide (12 < (x.length:Int)) then 12 else (x.length:Int)) x.length=true∧List.drop 0 (List.take (Int.toNat (bif decide (12 < (x.length:Int)) then 12 else (x.length:Int))) x)=x.take 12:=by
      by_cases c:12 < x.length
      · have c':(12:Int) < (x.length:Int):=by omega
        simp only [c',decide_true,cond_true,List.drop_zero]
        exact ⟨zka (i:=12) (by omega),rfl⟩
      · have c':¬ (12:Int) < (x.length:Int):=by omega
        simp only [c',decide_false,cond_false,List.drop_zero,Int.toNat_natCast]
        exact ⟨zka (Nat.le_refl _),by rw [List.take_of_length_le (Nat.le_refl _),List.take_of_length_le (by omega)]⟩
    rw [hc.1,hc.2,d99_eq hn (by omega) (wt_part hx 12)]
    have hlim:=lim_small ((l.take i).map (balF n)) (bal n (x.take 12)) (by simp; omega)
    simp only [cond_true,Option.bind_some,hlim,decide_true,ht,List.map_append,List.map_cons,List.map_nil]
    rfl
  · have hb:(l.take (min l.length most)).map (balF n)=bals n l most:=by
      unfold bals
      congr 1
      by_cases c:l.length≤most
      · rw [Nat.min_eq_left c,List.take_of_length_le (Nat.le_refl _),List.take_of_length_le c]
      · rw [Nat.min_eq_right (by omega)]
    simp only [letJ,hb]
    by_cases c:l.length≤most
    · have h1:¬ ((min l.length most:Nat):Int) < (l.length:Int):=by omega
      simp only [h1,decide_false,cond_false]
    · have h1:((min l.length most:Nat):Int) < (l.length:Int):=by omega
      have h2:¬ ((min l.length most:Nat):Int) < (most:Int):=by omega
      simp only [h1,h2,decide_true,decide_false,cond_true,cond_false]
theorem bals_isB {n:Int} (hn:0 < n) {l:List (List Int)} {most:Nat}:∀ b∈bals n l most,isB n b:=fun b hb=>by
  obtain ⟨x,_,rfl⟩:=List.mem_map.1 hb
  exact bal_isB hn _
theorem bals_len {n:Int} {l:List (List Int)} {most:Nat}:(bals n l most).length≤most:=by simp [bals]; omega
def zdt (bs:List (List Int)):List Grp:=bs.foldl (fun gs b=>addG gs b 1) []
def bsum (f:List Int→Int):List (List Int)→Int
  | []=>0
  | b::bs=>f b+bsum f bs
theorem bsum_app (f:List Int→Int):∀ a b,bsum f (a++b)=bsum f a+bsum f b
  | [],b=>by simp [bsum]
  | x::a,b=>by have:=bsum_app f a b; simp only [List.cons_append,bsum,this]; omega
theorem zmg (bs:List (List Int)) (b:List Int):zdt (bs++[b])=addG (zdt bs) b 1:=by simp [zdt]
theorem zmh {n:Int} (bs:List (List Int)) (hb:∀ b∈bs,isB n b) (hl:bs.length≤100000):PileOK n (zdt bs) (bs.length:Int)∧∀ f,wsum f (zdt bs)=bsum f bs:=by
  have key:∀ k,k≤bs.length→PileOK n (zdt (bs.take k)) (k:Int)∧∀ f,wsum f (zdt (bs.take k))=bsum f (bs.take k):=by
    intro k
    induction k with
    | zero=>intro _; exact ⟨PileOK.nil n,fun f=>rfl⟩
    | succ k ih =>
      intro hk
      obtain ⟨h1,h2⟩:=ih (by omega)
      have ht:=zft bs [] (by omega:k < bs.length)
      have hm:=hb (bs.getD k []) (by rw [zbd bs [] (by omega)]; exact List.getElem_mem _)
      rw [ht,zmg]
      refine ⟨?_,fun f=>by rw [zib,h2 f,bsum_app]; simp [bsum]⟩
      have:=h1.add hm (by omega)
      rwa [show (k:Int)+1=((k+1:Nat):Int) by omega] at this
  have:=key bs.length (Nat.le_refl _)
  rwa [List.take_length] at this
theorem d48_eq {n:Int} (h1:1≤n) (hn:n≤7) {bs:List (List Int)} (hb:∀ b∈bs,isB n b) (hl:bs.length≤100000):d48 n bs=some (zdt bs,0):=by
  unfold d48 letJ
  have c1:¬ n < 1:=by omega
  have c2:¬ 7 < n:=by omega
  have c3:¬ (100000:Int) < (bs.length:Int):=by omega
  simp only [c1,c2,c3,decide_false,Bool.not_false,cond_true,cond_false]
  refine zaf (b:=.inl (zdt bs)) (fun i=>(n,bs,zdt (bs.take i),(i:Int))) bs.length rfl (fun i hi=>?_) ?_ rfl
  · have h2:(i:Int) < (bs.length:Int):=by omega
    have h3:(0:Int)≤(i:Int):=by omega
    have hwi:w ((i:Int)+1)=((i+1:Nat):Int):=by rw [w_id (by omega) (by omega)]; omega
    have hm:=hb (bs.getD i []) (by rw [zbd bs [] hi]; exact List.getElem_mem _)
    have hbl:=zht hm hn
    have ht:=zft bs [] hi
    have hp:=(zmh (bs.take i) (fun b h=>hb b (List.mem_of_mem_take h)) (by simp; omega)).1
    simp only [h2,h3,hwi,decide_true,cond_true,Bool.and_self,Int.toNat_natCast,ht,zmg]
    obtain ⟨x,hxd⟩:∃ x,bs.getD i []=x:=⟨_,rfl⟩
    simp only [hxd] at hm hbl ⊢
    have hlim:(([]:List Int).length:Int)+(x.length:Int)≤LIM:=by rw [zfo]; simp; omega
    rw [d32_eq n (by omega),hp.d98 hn hm]
    simp only [hm,hlim,decide_true,cond_true,Bool.not_true,cond_false,Option.bind_some]
  · have h1:¬ ((bs.length:Int) < (bs.length:Int)):=by omega
    simp only [h1,decide_false,cond_false,List.take_length]
theorem d26_eq {n:Int} (h1:1≤n) (hn:n≤7) {l:List (List Int)} (hl:l.length≤281474976710656) (hw:∀ x∈l,WT (.slice (.int .i64)) x) {most:Nat} (hm:most≤100):d26 n l (most:Int)=some (zdt (bals n l most)):=by
  have hbl:=bals_len (n:=n) (l:=l) (most:=most)
  unfold d26
  rw [d46_eq (by omega) hn hl hw hm]
  simp only [Option.bind_some]
  rw [d48_eq h1 hn (bals_isB (by omega)) (by omega)]
  rfl
end Go.Proofs.YtmipjomnjkmdbaaGreat
set_option linter.unusedSimpArgs false
set_option linter.unusedVariables false
open Go Go.Proofs Go.X
namespace Go.Proofs.YtmipjomnjkmdbaaGreat
def GsOK (gs:List Grp):Prop:=gs.length≤281474976710656∧∀ g∈gs,g.1.length≤281474976710656∧-9223372036854775808≤g.2∧g.2≤9223372036854775807
def goodP (n:Int) (gs:List Grp):Bool:=decide (∀ i,i < gs.length→badG n gs i=false)
def zpm (n:Int) (gs:List Grp):Bool:=decide (1≤n∧n≤7) && goodP n gs
theorem cmpL_lt (a b:List Int):decide (0≤cmpL a b)=!decide (a < b):=by
  unfold cmpL
  by_cases h:a < b
  · simp [h]
  · by_cases h':b < a
    · simp [h,h']
    · simp [h,h']
theorem good_tot {n:Int} {gs:List Grp} (h:∀ i,i < gs.length→badG n gs i=false):PileOK n gs (wsum (fun _=>1) gs) where
  ballots:=fun g hg=>by
    obtain ⟨i,hi,rfl⟩:=List.getElem_of_mem hg
    have:=h i hi
    unfold badG at this
    rw [zbd gs _ hi] at this
    simp only [Bool.or_eq_false_iff,decide_eq_false_iff_not,Bool.not_eq_false',decide_eq_true_eq] at this
    exact ⟨this.2.2.1,by omega⟩
  sorted:=by
    have step:∀ i,i+1 < gs.length→(gs.getD i ([],0)).1 < (gs.getD (i+1) ([],0)).1:=fun i hi=>by
      have:=h (i+1) hi
      unfold badG at this
      simp only [Bool.or_eq_false_iff] at this
      have:=this.2.2.2
      rw [cmpL_lt] at this
      simpa using this
    refine List.pairwise_iff_getElem.2 fun i j hi hj hij=>?_
    have key:∀ k,i+k+1 < gs.length→(gs.getD i ([],0)).1 < (gs.getD (i+k+1) ([],0)).1:=by
      intro k
      induction k with
      | zero=>intro hk; exact step i hk
      | succ k ih =>
        intro hk
        exact ziq (ih (by omega)) (step (i+k+1) (by omega))
    have:=key (j - i - 1) (by omega)
    rw [show i+(j - i - 1)+1=j by omega,zbd gs _ hi,zbd gs _ hj] at this
    exact this
  total:=rfl
  most:=by
    have:=(zjg (n:=n) (gs:=gs) (i:=gs.length) (Nat.le_refl _) fun j hj=>h j hj).2
    unfold tot at this
    rwa [List.take_length] at this
theorem pileB_ok {n:Int} {gs:List Grp} (h:zpm n gs=true):1≤n∧n≤7∧PileOK n gs (wsum (fun _=>1) gs):=by
  unfold zpm at h
  simp only [Bool.and_eq_true,decide_eq_true_eq] at h
  exact ⟨h.1.1,h.1.2,good_tot (of_decide_eq_true h.2)⟩
theorem PileOK.gs {n:Int} {gs:List Grp} {N:Int} (h:PileOK n gs N) (hn:n≤7):GsOK gs:=by
  obtain ⟨h1,h2⟩:=h.sizes hn
  exact ⟨by omega,fun g hg=>by have:=h2 g hg; omega⟩
end Go.Proofs.YtmipjomnjkmdbaaGreat
set_option linter.unusedSimpArgs false
set_option linter.unusedVariables false
namespace Go.Proofs.YtmipjomnjkmdbaaGreat
open Go Go.X
def nv:List Int→Nat
  | []=>0
  | x::l=>x.toNat+4294967296 * nv l
def IsL (l:List Int):Prop:=∀ x∈l,0≤x∧x < 4294967296
def NF (l:List Int):Prop:=IsL l∧l.getLast? ≠ some 0
theorem IsL.nil:IsL []:=fun _ h=>absurd h (by simp)
theorem IsL.cons {x:Int} {l:List Int} (h0:0≤x) (h1:x < 4294967296) (h:IsL l):IsL (x::l):=fun y hy=>by
  rcases List.mem_cons.1 hy with rfl | hy
  · exact ⟨h0,h1⟩
  · exact h y hy
theorem IsL.tail {x:Int} {l:List Int} (h:IsL (x::l)):IsL l:=fun y hy=>h y (List.mem_cons_of_mem _ hy)
theorem IsL.head {x:Int} {l:List Int} (h:IsL (x::l)):0≤x∧x < 4294967296:=h x List.mem_cons_self
theorem IsL.take {l:List Int} (h:IsL l) (k:Nat):IsL (l.take k):=fun y hy=>h y (List.mem_of_mem_take hy)
theorem IsL.getD {l:List Int} (h:IsL l) (i:Nat):0≤l.getD i 0∧l.getD i 0 < 4294967296:=by
  rw [List.getD_eq_getElem?_getD]
  cases hi:l[i]? with
  | none=>simp
  | some x =>
    obtain ⟨h1,h2⟩:=List.getElem?_eq_some_iff.1 hi
    exact h x (h2 ▸ List.getElem_mem h1)
theorem IsL.set {l:List Int} (h:IsL l) (i:Nat) {x:Int} (h0:0≤x) (h1:x < 4294967296):IsL (l.set i x):=fun y hy=>by
  rcases List.mem_or_eq_of_mem_set hy with hy | rfl
  · exact h y hy
  · exact ⟨h0,h1⟩
theorem IsL.zeros (n:Nat):IsL (List.replicate n 0):=fun y hy=>by rw [List.eq_of_mem_replicate hy]; omega
theorem zik:∀ (a b:List Int),nv (a++b)=nv a+4294967296 ^ a.length * nv b
  | [],b=>by simp [nv]
  | x::a,b=>by
    simp only [List.cons_append,nv,zik a b,List.length_cons,Nat.pow_succ]
    generalize 4294967296 ^ a.length=P
    rw [Nat.mul_add,Nat.add_assoc,← Nat.mul_assoc,Nat.mul_comm P 4294967296]
theorem zdo:∀ n:Nat,nv (List.replicate n 0)=0
  | 0=>rfl
  | n+1=>by simp [List.replicate_succ,nv,zdo n]
theorem zpo:∀ {l:List Int},IsL l→nv l < 4294967296 ^ l.length
  | [],_=>by simp [nv]
  | x::l,h=>by
    have ih:=zpo h.tail
    have hx:=h.head
    simp only [nv,List.length_cons,Nat.pow_succ]
    generalize 4294967296 ^ l.length=P at *
    have:x.toNat < 4294967296:=by omega
    omega
theorem NF.tail {x:Int} {l:List Int} (h:NF (x::l)):NF l:=⟨h.1.tail,fun he=>h.2 (by
  cases l with
  | nil=>simp at he
  | cons y l=>rw [List.getLast?_cons_cons]; exact he)⟩
theorem NF.nil:NF []:=⟨IsL.nil,by simp⟩
theorem NF.pos:∀ {l:List Int},NF l→l ≠ []→0 < nv l
  | [],_,h=>absurd rfl h
  | [x],h,_=>by
    have hx:=h.1.head
    have:x ≠ 0:=fun e=>h.2 (by simp [e])
    simp only [nv]; omega
  | x::y::l,h,_=>by
    have:=NF.pos h.tail (by simp)
    simp only [nv] at this ⊢; omega
theorem nv_inj:∀ {a b:List Int},NF a→NF b→nv a=nv b→a=b
  | [],[],_,_,_=>rfl
  | [],y::b,_,hb,h=>absurd (NF.pos hb (by simp)) (by rw [← h]; simp [nv])
  | x::a,[],ha,_,h=>absurd (NF.pos ha (by simp)) (by rw [h]; simp [nv])
  | x::a,y::b,ha,hb,h=>by
    have hx:=ha.1.head
    have hy:=hb.1.head
    simp only [nv] at h
    have h1:nv a=nv b:=by omega
    have h2:x=y:=by omega
    rw [h2,nv_inj ha.tail hb.tail h1]
def zak (n:Nat):List Int:=if h:n=0 then [] else ((n % 4294967296:Nat):Int)::zak (n / 4294967296)
  termination_by n
  decreasing_by exact Nat.div_lt_self (Nat.pos_of_ne_zero h) (by omega)
theorem zbv:zak 0=[]:=by rw [zak]; simp
theorem zfh {n:Nat} (h:n ≠ 0):zak n=((n % 4294967296:Nat):Int)::zak (n / 4294967296):=by rw [zak]; simp [h]
theorem zpp (n:Nat):NF (zak n)∧nv (zak n)=n:=by
  induction n using Nat.strongRecOn with
  | _ n ih =>
    by_cases h:n=0
    · subst h; rw [zbv]; exact ⟨NF.nil,rfl⟩
    · have ⟨h1,h2⟩:=ih (n / 4294967296) (Nat.div_lt_self (by omega) (by omega))
      rw [zfh h]
      refine ⟨⟨h1.1.cons (by omega) (by omega),?_⟩,?_⟩
      · cases hl:zak (n / 4294967296) with
        | nil =>
          rw [hl] at h2
          simp only [nv] at h2
          simp only [List.getLast?_singleton,ne_eq,Option.some.injEq]
          omega
        | cons y l =>
          rw [List.getLast?_cons_cons,← hl]
          exact h1.2
      · simp only [nv,h2]; omega
theorem zjb (n:Nat):NF (zak n):=(zpp n).1
theorem zai (n:Nat):IsL (zak n):=(zpp n).1.1
theorem zao (n:Nat):nv (zak n)=n:=(zpp n).2
theorem limbs_nv {l:List Int} (h:NF l):zak (nv l)=l:=nv_inj (zjb _) h (zao _)
theorem limbs_nil {n:Nat}:zak n=[]↔n=0:=⟨fun h=>by rw [← zao n,h]; rfl,fun h=>by rw [h,zbv]⟩
theorem zga {n:Nat}:0 < (zak n).length↔0 < n:=by
  rw [List.length_pos_iff,ne_eq,limbs_nil]; omega
theorem zat (n:Nat):∀ k:Nat,(zak n).length≤k↔n < 4294967296 ^ k:=by
  induction n using Nat.strongRecOn with
  | _ n ih =>
    intro k
    by_cases h:n=0
    · subst h; rw [zbv]; simp; exact Nat.pow_pos (by omega)
    · rw [zfh h,List.length_cons]
      cases k with
      | zero=>simp; omega
      | succ k =>
        have:=ih (n / 4294967296) (Nat.div_lt_self (by omega) (by omega)) k
        rw [Nat.succ_le_succ_iff,this,Nat.pow_succ]
        exact Nat.div_lt_iff_lt_mul (by omega)
theorem zie (l:List Int) {n:Nat} (h:n < l.length):l.take (n+1)=l.take n++[l.getD n 0]:=by
  rw [List.take_add_one,List.getD_eq_getElem?_getD,List.getElem?_eq_getElem h]; rfl
theorem take_tlen {l:List Int} (h:IsL l):∀ n,n≤l.length→l.take (tlen l n)=zak (nv (l.take n))
  | 0,_=>by simp [tlen,nv,zbv]
  | n+1,hn=>by
    have ih:=take_tlen h n (by omega)
    have hs:=zie l (n:=n) (by omega)
    unfold tlen
    split
    · rename_i h0
      rw [ih,hs,zik,h0]; simp [nv]
    · rename_i h0
      refine (limbs_nv ⟨h.take _,?_⟩).symm
      rw [hs,List.getLast?_append]; simp; exact h0
theorem take_tl {l:List Int} (h:IsL l):l.take (tlen l l.length)=zak (nv l):=by
  have:=take_tlen h l.length (Nat.le_refl _)
  rwa [List.take_length] at this
theorem tlen_eq {l:List Int} (h:IsL l):tlen l l.length=(zak (nv l)).length:=by
  have:=congrArg List.length (take_tl h)
  rw [List.length_take,Nat.min_eq_left (tlen_le _ _)] at this
  exact this
theorem limbs_le {l:List Int} (h:IsL l):(zak (nv l)).length≤l.length:=by rw [← tlen_eq h]; exact tlen_le _ _
theorem digit_low {U V W top s t u0 z q r h:Nat} (hV:V=(h * 4294967296+s) * W+t) (hU:U=(top * 4294967296+u0) * W+z) (hz:z < W) (hq:q * h+r=top) (hc:r * 4294967296+u0 < q * s):U < q * V:=by
  have h1:(top * 4294967296+u0)+1≤q * (h * 4294967296+s):=by
    rw [← hq,Nat.mul_add,Nat.add_mul,← Nat.mul_assoc]; omega
  have h2:=Nat.mul_le_mul_right W h1
  rw [Nat.add_mul,Nat.one_mul] at h2
  rw [hV,Nat.mul_add,← Nat.mul_assoc,hU]
  omega
theorem zog {U V W top s t u0 z q r h:Nat} (hV:V=(h * 4294967296+s) * W+t) (hU:U=(top * 4294967296+u0) * W+z) (ht:t < W) (hh:1≤h) (hq:q * h+r=top) (hq2:q < 4294967296) (hc:q * s≤r * 4294967296+u0):q * V < U+V:=by
  have h1:q * (h * 4294967296+s)≤top * 4294967296+u0:=by
    rw [← hq,Nat.mul_add,Nat.add_mul,← Nat.mul_assoc]; omega
  have h2:=Nat.mul_le_mul_right W h1
  have h3:q * t≤4294967296 * W:=Nat.mul_le_mul (by omega) (by omega)
  have h4:q * t < 4294967296 * W:=by
    rcases Nat.eq_zero_or_pos q with h0 | h0
    · subst h0; rw [Nat.zero_mul]; omega
    · exact Nat.lt_of_lt_of_le (Nat.mul_lt_mul_of_pos_left ht h0) (Nat.mul_le_mul_right _ (by omega))
  have h5:4294967296 * W≤V:=by
    rw [hV]
    have:4294967296 * W≤(h * 4294967296+s) * W:=Nat.mul_le_mul_right _ (by omega)
    omega
  have h6:q * V=q * (h * 4294967296+s) * W+q * t:=by rw [hV,Nat.mul_add,← Nat.mul_assoc]
  omega
end Go.Proofs.YtmipjomnjkmdbaaGreat
set_option linter.unusedSimpArgs false
set_option linter.unusedVariables false
namespace Go.Proofs.YtmipjomnjkmdbaaGreat
open Go Go.X
theorem zoq (i:Nat):0 < 4294967296 ^ i:=Nat.pow_pos (by decide)
theorem nv_split (l:List Int) (i:Nat) (h:i≤l.length):nv l=nv (l.take i)+4294967296 ^ i * nv (l.drop i):=by
  have:=zik (l.take i) (l.drop i)
  rw [List.take_append_drop,List.length_take,Nat.min_eq_left h] at this
  exact this
theorem nv_drop {l:List Int} (hl:IsL l) {i:Nat} (h:i≤l.length):nv (l.drop i)=nv l / 4294967296 ^ i:=by
  have h1:=zpo (hl.take i)
  rw [List.length_take,Nat.min_eq_left h] at h1
  rw [nv_split l i h,Nat.add_mul_div_left _ _ (zoq i),Nat.div_eq_of_lt h1,Nat.zero_add]
theorem zmt (l:List Int) {i:Nat} (h:i < l.length):l.drop i=l.getD i 0::l.drop (i+1):=by
  rw [List.getD_eq_getElem?_getD,List.getElem?_eq_getElem h]
  exact List.drop_eq_getElem_cons h
theorem zfb {l:List Int} (hl:IsL l) (i:Nat):l.getD i 0=((nv l / 4294967296 ^ i % 4294967296:Nat):Int):=by
  by_cases h:i < l.length
  · have h1:=nv_drop hl (Nat.le_of_lt h)
    rw [zmt l h] at h1
    simp only [nv] at h1
    have h2:=hl.getD i
    rw [← h1]
    omega
  · have h1:=zpo hl
    rw [List.getD_eq_getElem?_getD,List.getElem?_eq_none (by omega)]
    have h2:nv l < 4294967296 ^ i:=Nat.lt_of_lt_of_le h1 (Nat.pow_le_pow_right (by decide) (by omega))
    rw [Nat.div_eq_of_lt h2]
    rfl
theorem zij:∀ (l:List Int) (i:Nat) (x:Int),i < l.length→nv (l.set i x)+4294967296 ^ i * (l.getD i 0).toNat=nv l+4294967296 ^ i * x.toNat
  | [],i,x,h=>by simp at h
  | y::l,0,x,h=>by simp [nv]; omega
  | y::l,i+1,x,h=>by
    have ih:=zij l i x (by simpa using h)
    simp only [List.set_cons_succ,nv,List.getD_cons_succ,Nat.pow_succ]
    generalize hP:4294967296 ^ i=P at ih ⊢
    generalize (l.getD i 0).toNat=c at ih ⊢
    generalize x.toNat=e at ih ⊢
    have e1:P * 4294967296 * c=4294967296 * (P * c):=by rw [Nat.mul_comm P 4294967296,Nat.mul_assoc]
    have e2:P * 4294967296 * e=4294967296 * (P * e):=by rw [Nat.mul_comm P 4294967296,Nat.mul_assoc]
    rw [e1,e2]
    omega
theorem zjq {l:List Int} (hl:IsL l) {i:Nat} (x:Int) (h:i < l.length) (h0:nv l < 4294967296 ^ i):nv (l.set i x)=nv l+4294967296 ^ i * x.toNat:=by
  have h1:=zij l i x h
  rw [zfb hl,Nat.div_eq_of_lt h0] at h1
  simpa using h1
theorem zbx {n:Nat} (h:n≤4294967296):decide ((n:Int)≤LIM)=true:=by
  rw [zfo]; exact decide_eq_true (by omega)
theorem zbt {l:List Int} (h:IsL l):l.take (zal l)=zak (nv l):=take_tl h
theorem zbh {l:List Int} (h:IsL l):(zak (nv l)).length≤l.length:=limbs_le h
theorem zbj {n:Int} (h0:0≤n) (h1:n < 18446744073709551616):wu64 n=n:=by
  show IntKind.u64.wrap n=n
  simp [IntKind.wrap,IntKind.bits,IntKind.signed]; omega
theorem zhz (n:Int):wu32 n=n % 4294967296:=by
  show IntKind.u32.wrap n=_
  simp [IntKind.wrap,IntKind.bits,IntKind.signed]
theorem wu64_mod (n:Int):wu64 n=n % 18446744073709551616:=by
  show IntKind.u64.wrap n=_
  simp [IntKind.wrap,IntKind.bits,IntKind.signed]
theorem zbr {n:Int} (h0:-9223372036854775808≤n) (h1:n≤9223372036854775807):w n=n:=IntWalk.i64_in n ⟨h0,h1⟩
theorem sh32 (n:Int):Int.fdiv n (2 ^ (min (Int.toNat 32) 64))=n / 4294967296:=by
  show Int.fdiv n 4294967296=_
  exact Int.fdiv_eq_ediv_of_nonneg n (by decide)
theorem zay {α β R:Type} (f:α→β) (g:(α→β)→Option R):letJ f g=g f:=by
  cases h:letJ f g
  · exact h.symm
  · exact h.symm
theorem zck {α β γ:Type} {f:α→Option (α ⊕ β)} {k:β→Option γ} {a0:α} {Q:Option γ→Prop} (R:Nat→α→Prop) (n:Nat) (h0:R 0 a0) (hs:∀ i a,i < n→R i a→∃ a',f a=some (.inl a')∧R (i+1) a') (he:∀ a,R n a→∃ b,f a=some (.inr b)∧Q (k b)):Q ((zab f a0).bind k):=by
  have key:∀ m i a,i+m=n→R i a→∃ b,zab f a=some b∧Q (k b):=by
    intro m
    induction m with
    | zero =>
      intro i a hi hr
      obtain rfl:i=n:=by omega
      obtain ⟨b,h1,h2⟩:=he a hr
      exact ⟨b,zef h1,h2⟩
    | succ m ih =>
      intro i a hi hr
      obtain ⟨a',h1,h2⟩:=hs i a (by omega) hr
      obtain ⟨b,h3,h4⟩:=ih (i+1) a' (by omega) h2
      exact ⟨b,zhb h1 h3,h4⟩
  obtain ⟨b,h1,h2⟩:=key n 0 a0 (by omega) h0
  rw [h1]
  exact h2
end Go.Proofs.YtmipjomnjkmdbaaGreat
set_option linter.unusedSimpArgs false
set_option linter.unusedVariables false
namespace Go.Proofs.YtmipjomnjkmdbaaGreat
open Go Go.X
theorem zqc {xs:List Int} (h:xs.length≤4294967296):d173 xs=some xs:=by
  unfold d173; rw [zbx h]; rfl
theorem zge {a:List Int} (ha:IsL a) (h:a.length≤4294967296):d171 a=some (zak (nv a)):=by
  unfold d171
  have:=zbh ha
  rw [zbx h,cond_true,Option.bind_some,zbt ha,zqc (by omega)]
  rfl
theorem zmx {n:Int} (h0:0≤n) (h1:n < 18446744073709551616):d129 n=some (zak n.toNat):=by
  unfold d129
  have e1:wu32 n=n % 4294967296:=zhz n
  have e2:wu32 (wu64 (Int.fdiv n (2 ^ (min (Int.toNat 32) 64))))=n / 4294967296:=by
    rw [sh32,zbj (by omega) (by omega),zhz]
    omega
  rw [e1,e2]
  have hL:IsL [n % 4294967296,n / 4294967296]:=IsL.cons (by omega) (by omega) (IsL.cons (by omega) (by omega) IsL.nil)
  rw [zge hL (by simp)]
  have:nv [n % 4294967296,n / 4294967296]=n.toNat:=by simp only [nv]; omega
  rw [this]
  rfl
theorem d217_eq {a:List Int} (ha:IsL a) {i:Int} (h0:0≤i):d217 a i=some (a.getD i.toNat 0):=by
  unfold d217
  have hg:=ha.getD i.toNat
  by_cases h:i < (a.length:Int)
  · simp only [h,h0,decide_true,cond_true,Bool.and_self]
    rw [zbj hg.1 (by omega)]
  · simp only [h,decide_false,cond_false]
    rw [List.getD_eq_getElem?_getD,List.getElem?_eq_none (by omega)]
    rfl
theorem zgd {a:List Int} (ha:IsL a) (i:Nat):d217 a (i:Int)=some (a.getD i 0):=by
  rw [d217_eq ha (by omega)]; rfl
def cmpN (x y:Nat):Int:=if x < y then -1 else if y < x then 1 else 0
theorem zgr {l:List Int} {k:Nat} (h:k < l.length):nv (l.take (k+1))=nv (l.take k)+4294967296 ^ k * (l.getD k 0).toNat:=by
  rw [zie l h,zik,List.length_take,Nat.min_eq_left (by omega)]
  simp [nv]
theorem top_lt {l:List Int} (hl:IsL l) (k:Nat):nv (l.take k) < 4294967296 ^ k:=by
  have h1:=zpo (hl.take k)
  exact Nat.lt_of_lt_of_le h1 (Nat.pow_le_pow_right (by decide) (by rw [List.length_take]; omega))
theorem digit_cmp {P p q x y:Nat} (hp:p < P) (hq:q < P) (h:x < y):p+P * x < q+P * y:=by
  have:P * (x+1)≤P * y:=Nat.mul_le_mul_left _ h
  rw [Nat.mul_add,Nat.mul_one] at this
  omega
theorem d201_eq {a b:List Int} (ha:IsL a) (hb:IsL b) (la:a.length≤4294967296) (lb:b.length≤4294967296):d201 a b=some (cmpN (nv a) (nv b)):=by
  unfold d201
  rw [zbx la,zbx lb]
  simp only [cond_true,Option.bind_some,zbt ha,zbt hb]
  have hla:=zbh ha
  have hlb:=zbh hb
  have hA:=zai (nv a)
  have hB:=zai (nv b)
  have eA:=zao (nv a)
  have eB:=zao (nv b)
  have cA:=zat (nv a)
  have cB:=zat (nv b)
  generalize hxA:zak (nv a)=A at *
  generalize hxB:zak (nv b)=B at *
  by_cases hne:A.length=B.length
  · have e1:decide ((A.length:Int)=(B.length:Int))=true:=decide_eq_true (by omega)
    simp only [e1,Bool.not_true,cond_false]
    have key:∀ k,k≤A.length→nv (A.drop k)=nv (B.drop k)→(zab (β:=Unit ⊕ Int) (fun ((a_1,b_1,i):(List Int) × (List Int) × Int) =>
        bif (decide (0≤i)) then
          bif (decide (0≤i) && decide (i < (a_1.length:Int))) then
            bif (decide (0≤i) && decide (i < (b_1.length:Int))) then
              bif (decide ((List.getD a_1 (Int.toNat i) 0) < (List.getD b_1 (Int.toNat i) 0))) then
                some (Sum.inr (Sum.inr (-1)))
              else
                bif (decide (0≤i) && decide (i < (a_1.length:Int))) then
                  bif (decide (0≤i) && decide (i < (b_1.length:Int))) then
                    bif (decide ((List.getD b_1 (Int.toNat i) 0) < (List.getD a_1 (Int.toNat i) 0))) then
                      some (Sum.inr (Sum.inr 1))
                    else
                      some (Sum.inl (a_1,b_1,(w (i - 1))))
                  else none
                else none
            else none
          else none
        else
          some (Sum.inr (Sum.inl ()))) (A,B,(k:Int) - 1)).bind (fun
    | Sum.inl _ =>
      some 0
    | Sum.inr t4 =>
      some t4)=some (cmpN (nv (A.take k)) (nv (B.take k))):=by
      intro k
      induction k with
      | zero =>
        intro _ _
        rw [zef (b:=Sum.inl ()) (by rfl)]
        rfl
      | succ k ih =>
        intro hk hd
        have hkA:k < A.length:=by omega
        have hkB:k < B.length:=by omega
        have i1:((k+1:Nat):Int) - 1=(k:Int):=by omega
        rw [i1]
        have d0:decide ((0:Int)≤(k:Int))=true:=decide_eq_true (by omega)
        have dA:decide ((k:Int) < (A.length:Int))=true:=decide_eq_true (by omega)
        have dB:decide ((k:Int) < (B.length:Int))=true:=decide_eq_true (by omega)
        have tA:=zgr hkA
        have tB:=zgr hkB
        have lA:=top_lt hA k
        have lB:=top_lt hB k
        have gA:=hA.getD k
        have gB:=hB.getD k
        rw [tA,tB]
        have hkn:Int.toNat (k:Int)=k:=rfl
        rcases Int.lt_trichotomy (A.getD k 0) (B.getD k 0) with h | h | h
        · rw [zef (b:=Sum.inr (-1)) (by simp only [d0,dA,dB,hkn,decide_eq_true h,cond_true,Bool.and_self])]
          have:=digit_cmp lA lB (show (A.getD k 0).toNat < (B.getD k 0).toNat by omega)
          simp only [Option.bind_some]
          unfold cmpN
          rw [if_pos this]
        · have hd':nv (A.drop k)=nv (B.drop k):=by
            rw [zmt A hkA,zmt B hkB]
            simp only [nv,hd,h]
          have:=ih (by omega) hd'
          have hw:w ((k:Int) - 1)=(k:Int) - 1:=zbr (by omega) (by omega)
          obtain ⟨z,hz⟩:∃ z,cmpN (nv (A.take k)+4294967296 ^ k * (A.getD k 0).toNat) (nv (B.take k)+4294967296 ^ k * (B.getD k 0).toNat)=z:=⟨_,rfl⟩
          have hzz:cmpN (nv (A.take k)) (nv (B.take k))=z:=by
            rw [← hz,h]; unfold cmpN
            generalize 4294967296 ^ k * (B.getD k 0).toNat=q
            (repeat' split) <;> omega
          rw [hz]
          rw [hzz] at this
          simp only [Option.bind_eq_some_iff] at this ⊢
          obtain ⟨b,hb1,hb2⟩:=this
          refine ⟨b,zhb ?_ hb1,hb2⟩
          have n1:decide (A.getD k 0 < B.getD k 0)=false:=decide_eq_false (by omega)
          have n2:decide (B.getD k 0 < A.getD k 0)=false:=decide_eq_false (by omega)
          simp only [d0,dA,dB,hkn,n1,n2,cond_true,cond_false,Bool.and_self,hw]
        · have n1:decide (A.getD k 0 < B.getD k 0)=false:=decide_eq_false (by omega)
          rw [zef (b:=Sum.inr 1) (by simp only [d0,dA,dB,hkn,n1,decide_eq_true h,cond_true,cond_false,Bool.and_self])]
          have:=digit_cmp lB lA (show (B.getD k 0).toNat < (A.getD k 0).toNat by omega)
          simp only [Option.bind_some]
          unfold cmpN
          rw [if_neg (by omega),if_pos this]
    have:=key A.length (Nat.le_refl _) (by rw [List.drop_length,hne,List.drop_length])
    rw [List.take_length,hne,List.take_length,eA,eB] at this
    rw [zbr (by omega) (by omega),hne]
    exact this
  · have e1:decide ((A.length:Int)=(B.length:Int))=false:=decide_eq_false (by omega)
    simp only [e1,Bool.not_false,cond_true]
    rcases Nat.lt_or_ge A.length B.length with h | h
    · have e2:decide ((A.length:Int) < (B.length:Int))=true:=decide_eq_true (by omega)
      have h1:=(cA A.length).1 (Nat.le_refl _)
      have h2:¬ nv b < 4294967296 ^ A.length:=fun hh=>by have:=(cB A.length).2 hh; omega
      simp only [e2,cond_true]
      unfold cmpN
      rw [if_pos (by omega)]
    · have e2:decide ((A.length:Int) < (B.length:Int))=false:=decide_eq_false (by omega)
      have h1:=(cB B.length).1 (Nat.le_refl _)
      have h2:¬ nv a < 4294967296 ^ B.length:=fun hh=>by have:=(cA B.length).2 hh; omega
      simp only [e2,cond_false]
      unfold cmpN
      rw [if_neg (by omega),if_pos (by omega)]
end Go.Proofs.YtmipjomnjkmdbaaGreat
set_option linter.unusedSimpArgs false
set_option linter.unusedVariables false
namespace Go.Proofs.YtmipjomnjkmdbaaGreat
open Go Go.X
theorem nv_takeS {l:List Int} (k:Nat):nv (l.take (k+1))=nv (l.take k)+4294967296 ^ k * (l.getD k 0).toNat:=by
  by_cases h:k < l.length
  · exact zgr h
  · rw [List.take_of_length_le (by omega),List.take_of_length_le (by omega),List.getD_eq_getElem?_getD,List.getElem?_eq_none (by omega)]
    simp
theorem zdr {l:List Int} (hl:IsL l) (k:Nat):∃ x:Nat,l.getD k 0=(x:Int)∧x < 4294967296∧nv (l.take (k+1))=nv (l.take k)+4294967296 ^ k * x:=by
  have:=hl.getD k
  refine ⟨(l.getD k 0).toNat,by omega,by omega,nv_takeS k⟩
theorem pow_digit {P v x:Nat} (hv:v < P) (hx:x < 4294967296):v+P * x < P * 4294967296:=by
  have:P * (x+1)≤P * 4294967296:=Nat.mul_le_mul_left _ hx
  rw [Nat.mul_add,Nat.mul_one] at this
  omega
theorem lenmax (x y:Nat):(bif decide ((x:Int) < (y:Int)) then (y:Int) else (x:Int))=((max x y:Nat):Int):=by
  by_cases h:(x:Int) < (y:Int)
  · rw [decide_eq_true h,cond_true]; omega
  · rw [decide_eq_false h,cond_false]; omega
theorem carry_step {P v s lo hi c x y a b:Nat} (hs:s=x+y+c) (hlo:lo=s % 4294967296) (hhi:hi=s / 4294967296) (h:v+P * c=a+b):v+P * lo+P * 4294967296 * hi=a+P * x+(b+P * y):=by
  have e:s=lo+4294967296 * hi:=by omega
  have:P * s=P * lo+P * 4294967296 * hi:=by rw [e,Nat.mul_add,Nat.mul_assoc]
  have e2:P * s=P * x+P * y+P * c:=by rw [hs,Nat.mul_add,Nat.mul_add]
  omega
theorem d209_eq {a b:List Int} (ha:IsL a) (hb:IsL b) (la:a.length≤1073741824) (lb:b.length≤1073741824):d209 a b=some (zak (nv a+nv b)):=by
  unfold d209
  rw [zbx (by omega),zbx (by omega)]
  simp only [cond_true,Option.bind_some,zbt ha,zbt hb]
  have hla:=zbh ha
  have hlb:=zbh hb
  have hA:=zai (nv a)
  have hB:=zai (nv b)
  have eA:=zao (nv a)
  have eB:=zao (nv b)
  generalize hxA:zak (nv a)=A at *
  generalize hxB:zak (nv b)=B at *
  clear hxA hxB
  simp only [lenmax]
  obtain ⟨n,hn⟩:∃ n,max A.length B.length=n:=⟨_,rfl⟩
  have hnA:A.length≤n:=by omega
  have hnB:B.length≤n:=by omega
  have hn1:n≤1073741824:=by omega
  rw [hn]
  have w1:w ((n:Int)+1)=((n+1:Nat):Int):=by rw [zbr (by omega) (by omega)]; omega
  have g1:decide ((0:Int)≤((n+1:Nat):Int))=true:=decide_eq_true (by omega)
  simp only [w1,decide_true,g1,zbx (n:=n+1) (by omega),Bool.and_self,cond_true]
  refine zck (Q:=fun r=>r=some (zak (nv a+nv b))) (fun (i:Nat) (st:(List Int) × (List Int) × Int × (List Int) × Int × Int × Int)=>∃ (out:List Int) (c:Nat),st=(A,B,(n:Int),out,(c:Int),(n:Int),(i:Int))∧IsL out∧out.length=n+1∧c≤1∧nv out+4294967296 ^ i * c=nv (A.take i)+nv (B.take i)∧nv out < 4294967296 ^ i) n ?_ ?_ ?_
  · exact ⟨List.replicate (n+1) 0,0,rfl,IsL.zeros _,by simp,by omega,by simp [zdo,nv],by simp [zdo]⟩
  · rintro i st hi ⟨out,c,rfl,hL,hlen,hc,hv,hlt⟩
    obtain ⟨x,hx1,hx2,hx3⟩:=zdr hA i
    obtain ⟨y,hy1,hy2,hy3⟩:=zdr hB i
    have q1:decide ((i:Int) < (n:Int))=true:=decide_eq_true (by omega)
    have q2:decide ((0:Int)≤(i:Int))=true:=decide_eq_true (by omega)
    have q3:decide ((i:Int) < (out.length:Int))=true:=decide_eq_true (by omega)
    have w2:w ((i:Int)+1)=((i+1:Nat):Int):=by rw [zbr (by omega) (by omega)]; omega
    have s1:wu64 ((x:Int)+(y:Int))=(x:Int)+y:=zbj (by omega) (by omega)
    have s2:wu64 ((x:Int)+(y:Int)+(c:Int))=(x:Int)+y+c:=zbj (by omega) (by omega)
    have s3:wu32 ((x:Int)+(y:Int)+(c:Int))=(((x+y+c) % 4294967296:Nat):Int):=by rw [zhz]; omega
    have s4:wu64 (((x:Int)+(y:Int)+(c:Int)) / 4294967296)=(((x+y+c) / 4294967296:Nat):Int):=by rw [zbj (by omega) (by omega)]; omega
    simp only [zgd hA,zgd hB,q1,q2,q3,w2,hx1,hy1,s1,s2,s3,sh32,s4,cond_true,Bool.and_self,Option.bind_some,show Int.toNat (i:Int)=i from rfl]
    have e1:=zjq hL (i:=i) (((x+y+c) % 4294967296:Nat):Int) (by omega) hlt
    rw [Int.toNat_natCast] at e1
    refine ⟨_,rfl,_,_,rfl,hL.set i (by omega) (by omega),by simpa using hlen,by omega,?_,?_⟩
    · rw [e1,hx3,hy3,Nat.pow_succ]
      exact carry_step rfl rfl rfl hv
    · rw [e1,Nat.pow_succ]
      exact pow_digit hlt (by omega)
  · rintro st ⟨out,c,rfl,hL,hlen,hc,hv,hlt⟩
    have q1:decide ((n:Int) < (n:Int))=false:=decide_eq_false (by omega)
    have q2:decide ((0:Int)≤(n:Int))=true:=decide_eq_true (by omega)
    have q3:decide ((n:Int) < (out.length:Int))=true:=decide_eq_true (by omega)
    have s3:wu32 (c:Int)=(c:Int):=by rw [zhz]; omega
    refine ⟨((n:Int),out,(c:Int)),by simp only [q1,cond_false],?_⟩
    simp only [q2,q3,s3,cond_true,Bool.and_self,show Int.toNat (n:Int)=n from rfl]
    have e1:=zjq hL (i:=n) (c:Int) (by omega) hlt
    rw [Int.toNat_natCast] at e1
    rw [List.take_of_length_le hnA,List.take_of_length_le hnB,eA,eB] at hv
    rw [zge (hL.set n (by omega) (by omega)) (by simp; omega),e1,hv]
    rfl
end Go.Proofs.YtmipjomnjkmdbaaGreat
set_option linter.unusedSimpArgs false
set_option linter.unusedVariables false
namespace Go.Proofs.YtmipjomnjkmdbaaGreat
open Go Go.X
theorem zii {l:List Int} (hl:IsL l) {k m:Nat} {x:Int} (h0:0≤x) (h1:x < 4294967296) (hk:k < m) (hv:nv l < 4294967296 ^ m):nv (l.set k x) < 4294967296 ^ m:=by
  have hs:=hl.set k h0 h1
  by_cases h:m≤l.length
  · have e1:(l.set k x).drop m=l.drop m:=List.drop_set_of_lt hk
    have e2:=nv_drop hl h
    rw [Nat.div_eq_of_lt hv] at e2
    rw [nv_split (l.set k x) m (by simpa using h),e1,e2,Nat.mul_zero,Nat.add_zero]
    exact top_lt hs m
  · have:=zpo hs
    rw [List.length_set] at this
    exact Nat.lt_of_lt_of_le this (Nat.pow_le_pow_right (by decide) (by omega))
theorem or_add {a b n:Nat} (h:a < 2 ^ n):a ||| b * 2 ^ n=a+b * 2 ^ n:=by
  rw [Nat.or_comm,Nat.mul_comm b,Nat.add_comm,← Nat.two_pow_add_eq_or_of_lt h b]
theorem zgq (k n:Nat) (h:n < 2 ^ k):(BitVec.ofInt k (n:Int)).toNat=n:=by
  rw [BitVec.ofInt_natCast,BitVec.toNat_ofNat,Nat.mod_eq_of_lt h]
theorem or64 {a b:Nat} (ha:a < 4294967296) (hb:b < 4294967296):(BitVec.ofInt 64 ((a * 4294967296:Nat):Int) ||| BitVec.ofInt 64 (b:Int)).toNat=a * 4294967296+b:=by
  rw [BitVec.toNat_or,zgq 64 _ (by omega),zgq 64 _ (by omega),Nat.or_comm]
  have:=or_add (a:=b) (b:=a) (n:=32) hb
  rw [show (2:Nat) ^ 32=4294967296 from rfl] at this
  rw [this]; omega
theorem zaq {n:Nat} (h:n < 18446744073709551616):wu64 (n:Int)=(n:Int):=zbj (by omega) (by omega)
theorem zcp {n:Nat}:wu32 (n:Int)=((n % 4294967296:Nat):Int):=by rw [zhz]; omega
theorem shl32 (n:Nat):(n:Int) * 2 ^ (min (Int.toNat 32) 64)=((n * 4294967296:Nat):Int):=by
  show (n:Int) * 4294967296=_
  omega
theorem shr32 (n:Nat):Int.fdiv (n:Int) (2 ^ (min (Int.toNat 32) 64))=((n / 4294967296:Nat):Int):=by
  rw [sh32]; omega
theorem or64w {a b:Nat} (ha:a < 4294967296) (hb:b < 4294967296):wu64 (((BitVec.ofInt 64 (wu64 ((a:Int) * 2 ^ (min (Int.toNat 32) 64))) ||| BitVec.ofInt 64 (wu64 (b:Int))).toNat:Nat):Int)=((a * 4294967296+b:Nat):Int):=by
  rw [shl32,zaq (n:=a * 4294967296) (by omega),zaq (n:=b) (by omega),or64 ha hb,zaq (by omega)]
theorem wadd {a b:Nat} (h:a+b≤9223372036854775807):w ((a:Int)+(b:Int))=((a+b:Nat):Int):=by rw [zbr (by omega) (by omega)]; omega
theorem zcb {a:Nat} (h:a < 9223372036854775807):w ((a:Int)+1)=((a+1:Nat):Int):=by rw [zbr (by omega) (by omega)]; omega
theorem wpred {a:Nat} (h:a < 9223372036854775807):w (((a+1:Nat):Int) - 1)=(a:Int):=by rw [zbr (by omega) (by omega)]; omega
theorem dlt {a b:Nat} (h:a < b):decide ((a:Int) < (b:Int))=true:=decide_eq_true (by omega)
theorem nlt {a b:Nat} (h:b≤a):decide ((a:Int) < (b:Int))=false:=decide_eq_false (by omega)
theorem d0le (a:Nat):decide ((0:Int)≤(a:Int))=true:=decide_eq_true (by omega)
theorem tn (a:Nat):Int.toNat (a:Int)=a:=rfl
theorem cmpN_lt (x y:Nat):decide (cmpN x y < 0)=decide (x < y):=by
  unfold cmpN
  by_cases h:x < y
  · rw [if_pos h,decide_eq_true h]; rfl
  · rw [if_neg h,decide_eq_false h]; split <;> rfl
theorem zdn {x y:Nat} (h:x≤y):(zak x).length≤(zak y).length:=by
  have h1:=(zat y (zak y).length).1 (Nat.le_refl _)
  exact (zat x _).2 (by omega)
theorem borrow_step {P v s lo h c c' x y a b:Nat} (hs:s+y+c=4294967296+x) (hlo:s=lo+4294967296 * h) (hc:c'+h=1) (e:v+b=a+P * c):v+P * lo+(b+P * y)=a+P * x+P * 4294967296 * c':=by
  have e1:lo+y+c=x+4294967296 * c':=by omega
  have e2:=congrArg (P * ·) e1
  simp only [Nat.mul_add,← Nat.mul_assoc] at e2
  omega
theorem d210_eq {a b:List Int} (ha:IsL a) (hb:IsL b) (la:a.length≤1073741824) (lb:b.length≤1073741824):d210 a b=some (if nv a < nv b then ([],false) else (zak (nv a - nv b),true)):=by
  unfold d210
  rw [zbx (by omega),zbx (by omega)]
  simp only [cond_true,Option.bind_some,zbt ha,zbt hb]
  have hla:=zbh ha
  have hlb:=zbh hb
  have hA:=zai (nv a)
  have hB:=zai (nv b)
  have eA:=zao (nv a)
  have eB:=zao (nv b)
  have hm:=@zdn (nv b) (nv a)
  generalize hxA:zak (nv a)=A at *
  generalize hxB:zak (nv b)=B at *
  clear hxA hxB
  rw [d201_eq hA hB (by omega) (by omega),eA,eB]
  simp only [Option.bind_some,cmpN_lt]
  by_cases hlt:nv a < nv b
  · rw [decide_eq_true hlt,if_pos hlt]; rfl
  rw [decide_eq_false hlt,if_neg hlt]
  have hBA:=hm (by omega)
  simp only [cond_false,decide_true,d0le,zbx (n:=A.length) (by omega),Bool.and_self,cond_true,tn]
  refine zck (Q:=fun r=>r=some (zak (nv a - nv b),true)) (fun (i:Nat) (st:(List Int) × (List Int) × (List Int) × Int × Int × Int)=>∃ (out:List Int) (c:Nat),st=(A,B,out,(c:Int),(A.length:Int),(i:Int))∧IsL out∧out.length=A.length∧c≤1∧nv out+nv (B.take i)=nv (A.take i)+4294967296 ^ i * c∧nv out < 4294967296 ^ i) A.length ?_ ?_ ?_
  · exact ⟨List.replicate A.length 0,0,rfl,IsL.zeros _,by simp,by omega,by simp [zdo,nv],by simp [zdo]⟩
  · rintro i st hi ⟨out,c,rfl,hL,hlen,hc,hv,hv2⟩
    obtain ⟨x,hx1,hx2,hx3⟩:=zdr hA i
    obtain ⟨y,hy1,hy2,hy3⟩:=zdr hB i
    obtain ⟨s,hs⟩:∃ s,4294967296+x - y - c=s:=⟨_,rfl⟩
    have s1:wu64 (4294967296+(x:Int))=4294967296+(x:Int):=zbj (by omega) (by omega)
    have s2:wu64 (4294967296+(x:Int) - (y:Int))=4294967296+(x:Int) - y:=zbj (by omega) (by omega)
    have s3:wu64 (4294967296+(x:Int) - (y:Int) - (c:Int))=(s:Int):=by rw [zbj (by omega) (by omega)]; omega
    have s4:wu64 (((s / 4294967296:Nat):Int))=((s / 4294967296:Nat):Int):=zaq (by omega)
    have s5:wu64 (1 - ((s / 4294967296:Nat):Int))=((1 - s / 4294967296:Nat):Int):=by rw [zbj (by omega) (by omega)]; omega
    simp only [zgd hA,zgd hB,dlt hi,d0le,dlt (show i < out.length by omega),zcb (show i < 9223372036854775807 by omega),hx1,hy1,s1,s2,s3,shr32,s4,s5,zcp,cond_true,Bool.and_self,Option.bind_some,tn]
    have e1:=zjq hL (i:=i) (((s % 4294967296:Nat):Int)) (by omega) hv2
    rw [Int.toNat_natCast] at e1
    refine ⟨_,rfl,_,_,rfl,hL.set i (by omega) (by omega),by simpa using hlen,by omega,?_,?_⟩
    · rw [e1,hx3,hy3,Nat.pow_succ]
      exact borrow_step (s:=s) (h:=s / 4294967296) (by omega) (by omega) (by omega) hv
    · rw [e1,Nat.pow_succ]
      exact pow_digit hv2 (by omega)
  · rintro st ⟨out,c,rfl,hL,hlen,hc,hv,hv2⟩
    refine ⟨out,by simp only [nlt (Nat.le_refl A.length),cond_false],?_⟩
    rw [List.take_of_length_le (Nat.le_refl _),List.take_of_length_le hBA,eA,eB] at hv
    have hc0:c=0:=by
      rcases Nat.eq_zero_or_pos c with h | h
      · exact h
      · have:c=1:=by omega
        subst this
        omega
    subst hc0
    show (d171 out).bind _=_
    rw [zge hL (by omega),show nv out=nv a - nv b by omega]
    rfl
theorem mul_step {P v s lo hi c x y o t:Nat} (hs:s=x * y+o+c) (hlo:s=lo+4294967296 * hi):P * lo+P * 4294967296 * hi=P * (x * y)+P * o+P * c:=by
  have e2:=congrArg (P * ·) (hlo.symm.trans hs)
  simp only [Nat.mul_add,← Nat.mul_assoc] at e2 ⊢
  omega
theorem zhw {a b:List Int} (ha:IsL a) (hb:IsL b) (la:a.length≤1073741824) (lb:b.length≤1073741824):d177 a b=some (zak (nv a * nv b)):=by
  unfold d177
  rw [zbx (by omega),zbx (by omega)]
  simp only [cond_true,Option.bind_some,zbt ha,zbt hb]
  have hla:=zbh ha
  have hlb:=zbh hb
  have hA:=zai (nv a)
  have hB:=zai (nv b)
  have eA:=zao (nv a)
  have eB:=zao (nv b)
  generalize hxA:zak (nv a)=A at *
  generalize hxB:zak (nv b)=B at *
  clear hxA hxB
  simp only [wadd (show A.length+B.length≤9223372036854775807 by omega),decide_true,d0le,zbx (n:=A.length+B.length) (by omega),Bool.and_self,cond_true,tn]
  refine zck (Q:=fun r=>r=some (zak (nv a * nv b))) (fun (i:Nat) (st:(List Int) × (List Int) × (List Int) × Int × Int)=>∃ (out:List Int),st=(B,out,A,(A.length:Int),(i:Int))∧IsL out∧out.length=A.length+B.length∧nv out=nv (A.take i) * nv B) A.length ?_ ?_ ?_
  · exact ⟨_,rfl,IsL.zeros _,by simp,by simp [zdo,nv]⟩
  · rintro i st hi ⟨out,rfl,hL,hlen,hv⟩
    obtain ⟨x,hx1,hx2,hx3⟩:=zdr hA i
    have hlt0:nv out < 4294967296 ^ (i+B.length):=by
      rw [hv,Nat.pow_add]
      exact Nat.mul_lt_mul'' (top_lt hA i) (zpo hB)
    simp only [dlt hi,d0le,cond_true,Bool.and_self,tn,hx1]
    refine zck (Q:=fun (r:Option (((List Int) × (List Int) × (List Int) × Int × Int) ⊕ (List Int)))=>∃ a',r=some (.inl a')∧∃ (out:List Int),a'=(B,out,A,(A.length:Int),((i+1:Nat):Int))∧IsL out∧out.length=A.length+B.length∧nv out=nv (A.take (i+1)) * nv B)
      (fun (j:Nat) (st:(List Int) × (List Int) × Int × Int × Int × (List Int) × Int × Int × (List Int) × Int × Int)=>∃ (o:List Int) (c:Nat),st=(B,o,(i:Int),(x:Int),(c:Int),A,(A.length:Int),(i:Int),B,(B.length:Int),(j:Int))∧IsL o∧o.length=A.length+B.length∧c < 4294967296∧nv o+4294967296 ^ i * 4294967296 ^ j * c=nv out+4294967296 ^ i * (x * nv (B.take j))∧nv o < 4294967296 ^ (i+B.length)) B.length ?_ ?_ ?_
    · exact ⟨out,0,rfl,hL,hlen,by omega,by simp [nv],hlt0⟩
    · rintro j st hj ⟨o,c,rfl,hL',hlen',hc,hv',hlt'⟩
      obtain ⟨y,hy1,hy2,hy3⟩:=zdr hB j
      have hz:=hL'.getD (i+j)
      obtain ⟨z,hz1⟩:∃ z:Nat,o.getD (i+j) 0=(z:Int):=⟨_,(Int.toNat_of_nonneg hz.1).symm⟩
      rw [hz1] at hz
      obtain ⟨p,hp⟩:∃ p,x * y=p:=⟨_,rfl⟩
      have hpl:p≤4294967295 * 4294967295:=by rw [← hp]; exact Nat.mul_le_mul (by omega) (by omega)
      have hxy:(x:Int) * (y:Int)=(p:Int):=by rw [← hp]; simp
      have s1:wu64 ((p:Int)+(z:Int))=((p+z:Nat):Int):=by rw [zbj (by omega) (by omega)]; omega
      have s2:wu64 (((p+z:Nat):Int)+(c:Int))=((p+z+c:Nat):Int):=by rw [zbj (by omega) (by omega)]; omega
      obtain ⟨s,hs⟩:∃ s,p+z+c=s:=⟨_,rfl⟩
      have s4:wu64 (((s / 4294967296:Nat):Int))=((s / 4294967296:Nat):Int):=zaq (by omega)
      simp only [dlt hj,d0le,wadd (show i+j≤9223372036854775807 by omega),dlt (show i+j < o.length by omega),cond_true,Bool.and_self,tn,hy1,hz1,zaq (show x < 18446744073709551616 by omega),zaq (show y < 18446744073709551616 by omega),zaq (show z < 18446744073709551616 by omega),hxy,zaq (show p < 18446744073709551616 by omega),s1,s2,hs,zcp,shr32,s4,zcb (show j < 9223372036854775807 by omega)]
      have e1:=zij o (i+j) (((s % 4294967296:Nat):Int)) (by omega)
      rw [Int.toNat_natCast,hz1,Int.toNat_natCast] at e1
      refine ⟨_,rfl,_,_,rfl,hL'.set _ (by omega) (by omega),by simpa using hlen',by omega,?_,zii hL' (by omega) (by omega) (by omega) hlt'⟩
      rw [hy3,Nat.pow_succ]
      rw [Nat.pow_add] at e1
      have e2:s=x * y+z+c:=by rw [hp,hs]
      have e3:=mul_step (P:=4294967296 ^ i * 4294967296 ^ j) (v:=0) (t:=0) e2 (show s=s % 4294967296+4294967296 * (s / 4294967296) by omega)
      have e4:4294967296 ^ i * (x * (nv (B.take j)+4294967296 ^ j * y))=4294967296 ^ i * (x * nv (B.take j))+4294967296 ^ i * 4294967296 ^ j * (x * y):=by
        rw [Nat.mul_add,Nat.mul_add]
        congr 1
        rw [Nat.mul_left_comm x,← Nat.mul_assoc]
      rw [e4]
      rw [← Nat.mul_assoc (4294967296 ^ i) (4294967296 ^ j) 4294967296]
      omega
    · rintro st ⟨o,c,rfl,hL',hlen',hc,hv',hlt'⟩
      refine ⟨_,by simp only [nlt (Nat.le_refl B.length),cond_false]; rfl,?_⟩
      simp only [d0le,wadd (show i+B.length≤9223372036854775807 by omega),dlt (show i+B.length < o.length by omega),cond_true,Bool.and_self,tn,zcb (show i < 9223372036854775807 by omega),zcp,Nat.mod_eq_of_lt hc]
      have e1:=zjq hL' (i:=i+B.length) (c:Int) (by omega) hlt'
      rw [Int.toNat_natCast] at e1
      refine ⟨_,rfl,_,rfl,hL'.set _ (by omega) (by omega),by simpa using hlen',?_⟩
      rw [List.take_of_length_le (Nat.le_refl _)] at hv'
      rw [e1,hx3,Nat.add_mul,Nat.pow_add,hv',hv,Nat.mul_assoc]
  · rintro st ⟨out,rfl,hL,hlen,hv⟩
    refine ⟨out,by simp only [nlt (Nat.le_refl A.length),cond_false],?_⟩
    rw [List.take_of_length_le (Nat.le_refl _),eA,eB] at hv
    show (d171 out).bind _=_
    rw [zge hL (by omega),hv]
    rfl
end Go.Proofs.YtmipjomnjkmdbaaGreat
set_option linter.unusedSimpArgs false
set_option linter.unusedVariables false
namespace Go.Proofs.YtmipjomnjkmdbaaGreat
open Go Go.X
theorem znm {α β γ:Type} {f:α→Option (α ⊕ β)} {k:β→Option γ} {a0:α} {Q:Option γ→Prop} (R:Nat→α→Prop) (n:Nat) (h0:R n a0) (hs:∀ i a,i < n→R (i+1) a→∃ a',f a=some (.inl a')∧R i a') (he:∀ a,R 0 a→∃ b,f a=some (.inr b)∧Q (k b)):Q ((zab f a0).bind k):=by
  refine zck (Q:=Q) (fun i a=>i≤n∧R (n - i) a) n ⟨Nat.zero_le _,h0⟩ ?_ ?_
  · rintro i a hi ⟨h1,h2⟩
    rw [show n - i=n - (i+1)+1 by omega] at h2
    obtain ⟨a',h3,h4⟩:=hs (n - (i+1)) a (by omega) h2
    exact ⟨a',h3,hi,h4⟩
  · rintro a ⟨_,h⟩
    rw [Nat.sub_self] at h
    exact he a h
theorem getD_set_ne (l:List Int) {i j:Nat} (x:Int) (h:i ≠ j):(l.set i x).getD j 0=l.getD j 0:=by
  simp only [List.getD_eq_getElem?_getD,List.getElem?_set_ne h]
theorem zob (n i:Nat):(List.replicate n (0:Int)).getD i 0=0:=by
  rw [List.getD_eq_getElem?_getD,List.getElem?_replicate]
  split <;> rfl
theorem short_step {P V q r t x d X:Nat} (h:V=q * d+P * 4294967296 * r+(t+P * x)) (hX:X=r * 4294967296+x):V=(q+P * (X / d)) * d+P * (X % d)+t:=by
  have e:=Nat.div_add_mod X d
  have e1:P * X=P * (X / d) * d+P * (X % d):=by
    rw [Nat.mul_assoc,Nat.mul_comm (X / d),← Nat.mul_add,e]
  have e2:P * X=P * 4294967296 * r+P * x:=by rw [hX,Nat.mul_add,Nat.mul_assoc,Nat.mul_comm r]
  rw [Nat.add_mul]
  omega
theorem d202_eq {a:List Int} (ha:IsL a) (la:a.length≤1073741824) {d:Nat} (hd:0 < d) (hd2:d < 4294967296):∃ q,d202 a (d:Int)=some (q,((nv a % d:Nat):Int))∧IsL q∧q.length=a.length∧nv q=nv a / d:=by
  unfold d202
  simp only [decide_true,d0le,zbx (n:=a.length) (by omega),Bool.and_self,cond_true,tn]
  have hd0:decide ((d:Int)=0)=false:=decide_eq_false (by omega)
  refine znm (Q:=fun r=>∃ q,r=some (q,((nv a % d:Nat):Int))∧IsL q∧q.length=a.length∧nv q=nv a / d) (fun (i:Nat) (st:(List Int) × Int × (List Int) × Int × Int)=>∃ (q:List Int) (r:Nat),st=(a,(d:Int),q,(r:Int),(i:Int) - 1)∧i≤a.length∧IsL q∧q.length=a.length∧r < d∧(∀ k,k < i→q.getD k 0=0)∧nv a=nv q * d+4294967296 ^ i * r+nv (a.take i)) a.length ?_ ?_ ?_
  · refine ⟨_,0,by rw [zbr (by omega) (by omega)]; rfl,Nat.le_refl _,IsL.zeros _,by simp,hd,fun k _=>zob _ k,by simp [zdo]⟩
  · rintro i st hi ⟨q,r,rfl,hia,hL,hlen,hr,hz,hv⟩
    obtain ⟨x,hx1,hx2,hx3⟩:=zdr ha i
    have hi1:(((i+1:Nat):Int)) - 1=(i:Int):=by omega
    obtain ⟨X,hX⟩:∃ X,r * 4294967296+x=X:=⟨_,rfl⟩
    have hX1:X / d < 4294967296:=by
      rw [Nat.div_lt_iff_lt_mul hd]
      have:(r+1) * 4294967296≤d * 4294967296:=Nat.mul_le_mul_right _ hr
      rw [Nat.mul_comm 4294967296]
      omega
    have hX2:X % d < d:=Nat.mod_lt _ hd
    have t1:Int.tdiv (X:Int) (d:Int)=((X / d:Nat):Int):=rfl
    have t2:Int.tmod (X:Int) (d:Int)=((X % d:Nat):Int):=rfl
    have hw:w ((i:Int) - 1)=(i:Int) - 1:=zbr (by omega) (by omega)
    simp only [hi1,d0le,dlt (show i < a.length by omega),dlt (show i < q.length by omega),hd0,Bool.not_false,cond_true,Bool.and_self,tn,hx1,or64w (show r < 4294967296 by omega) hx2,hX,t1,t2,zaq (show X / d < 18446744073709551616 by omega),zaq (show X % d < 18446744073709551616 by omega),zcp,Nat.mod_eq_of_lt hX1,hw]
    have e1:=zij q i (((X / d:Nat):Int)) (by omega)
    rw [hz i (by omega),Int.toNat_natCast] at e1
    refine ⟨_,rfl,_,_,rfl,by omega,hL.set i (Int.natCast_nonneg _) (by rw [show (4294967296:Int)=((4294967296:Nat):Int) from rfl]; exact Int.ofNat_lt.2 hX1),by simpa using hlen,hX2,fun k hk=>by rw [getD_set_ne _ _ (by omega)]; exact hz k (by omega),?_⟩
    have e2:nv (q.set i (((X / d:Nat):Int)))=nv q+4294967296 ^ i * (X / d):=by simpa using e1
    rw [e2]
    rw [Nat.pow_succ,hx3] at hv
    exact short_step hv hX.symm
  · rintro st ⟨q,r,rfl,hia,hL,hlen,hr,hz,hv⟩
    refine ⟨(q,(r:Int)),rfl,q,?_,hL,hlen,?_⟩
    · simp only [List.take_zero,nv,Nat.pow_zero,Nat.one_mul,Nat.add_zero] at hv
      rw [hv,Nat.mul_comm,Nat.mul_add_mod,Nat.mod_eq_of_lt hr]
    · simp only [List.take_zero,nv,Nat.pow_zero,Nat.one_mul,Nat.add_zero] at hv
      rw [hv,Nat.mul_comm,Nat.mul_add_div hd,Nat.div_eq_of_lt hr,Nat.add_zero]
theorem shl_nat {x n:Nat} (hn:n≤31):(x:Int) * 2 ^ (min (Int.toNat (n:Int)) 64)=((x * 2 ^ n:Nat):Int):=by
  rw [tn,show min n 64=n by omega]; simp
theorem shr_nat {x n:Nat} (hn:n≤31):Int.fdiv (x:Int) (2 ^ (min (Int.toNat (n:Int)) 64))=((x / 2 ^ n:Nat):Int):=by
  rw [tn,show min n 64=n by omega]
  have:((2:Int) ^ n)=((2 ^ n:Nat):Int):=by simp
  rw [this,Int.fdiv_eq_ediv_of_nonneg _ (Int.natCast_nonneg _)]
  rfl
theorem zmf {n:Nat} (hn:n≤31):2 ^ n * 2 ^ (32 - n)=4294967296:=by
  rw [← Nat.pow_add,show n+(32 - n)=32 by omega]
theorem low_half {x n:Nat} (hn:n≤31):x * 2 ^ n % 4294967296=x % 2 ^ (32 - n) * 2 ^ n:=by
  rw [← zmf hn,Nat.mul_comm x,Nat.mul_mod_mul_left,Nat.mul_comm]
theorem low_top {x n o:Nat} (hn:n≤31) (ho:o < 2 ^ n):o+x * 2 ^ n % 4294967296 < 4294967296:=by
  rw [low_half hn]
  have h1:x % 2 ^ (32 - n) < 2 ^ (32 - n):=Nat.mod_lt _ (Nat.pow_pos (by decide))
  have h2:=Nat.mul_le_mul_right (2 ^ n) h1
  rw [Nat.mul_comm (2 ^ (32 - n)),zmf hn,Nat.succ_mul] at h2
  omega
theorem or32 {o x n:Nat} (hn:n≤31) (ho:o < 2 ^ n):(BitVec.ofInt 32 (o:Int) ||| BitVec.ofInt 32 ((x * 2 ^ n % 4294967296:Nat):Int)).toNat=o+x * 2 ^ n % 4294967296:=by
  have h2:o < 4294967296:=by have:=low_top (x:=x) hn ho; omega
  rw [BitVec.toNat_or,zgq 32 _ (by omega),zgq 32 _ (Nat.mod_lt _ (by decide)),low_half hn]
  exact or_add ho
theorem left_step {P v lo hi x t T:Nat} (hv:v=t * T) (hlo:x * T=lo+4294967296 * hi):v+P * lo+P * 4294967296 * hi=(t+P * x) * T:=by
  rw [Nat.add_mul,← hv,Nat.mul_assoc P x T,hlo,Nat.mul_add,← Nat.mul_assoc]; omega
theorem set_set_nv {out:List Int} (hL:IsL out) {i o lo hi:Nat} (h:i+1 < out.length) (ho:out.getD i 0=(o:Int)) (hlt:nv out < 4294967296 ^ (i+1)) (h1:o+lo < 4294967296) (h2:hi < 4294967296) :
    IsL ((out.set i ((o+lo:Nat):Int)).set (i+1) (hi:Int))∧nv ((out.set i ((o+lo:Nat):Int)).set (i+1) (hi:Int))=nv out+4294967296 ^ i * lo+4294967296 ^ i * 4294967296 * hi:=by
  have q1:=hL.set i (x:=((o+lo:Nat):Int)) (by omega) (by omega)
  refine ⟨q1.set _ (by omega) (by omega),?_⟩
  have e1:=zij out i ((o+lo:Nat):Int) (by omega)
  rw [ho,Int.toNat_natCast,Int.toNat_natCast,Nat.mul_add] at e1
  have e2:=zjq q1 (i:=i+1) (hi:Int) (by simpa using h) (zii hL (by omega) (by omega) (by omega) hlt)
  rw [e2,Int.toNat_natCast,Nat.pow_succ]
  omega
theorem d204_eq {a:List Int} (ha:IsL a) (la:a.length≤1073741824) {n:Nat} (hn:n≤31):∃ out,d204 a (n:Int)=some out∧IsL out∧out.length=a.length+1∧nv out=nv a * 2 ^ n:=by
  unfold d204
  have hT:2 ^ n < 4294967296:=Nat.pow_lt_pow_right (by decide) (show n < 32 by omega)
  have hT0:0 < 2 ^ n:=Nat.pow_pos (by decide)
  simp only [zcb (show a.length < 9223372036854775807 by omega),decide_true,d0le,zbx (n:=a.length+1) (by omega),Bool.and_self,cond_true,tn]
  refine zck (Q:=fun r=>∃ out,r=some out∧IsL out∧out.length=a.length+1∧nv out=nv a * 2 ^ n) (fun (i:Nat) (st:Int × (List Int) × (List Int) × Int × Int)=>∃ (out:List Int),st=((n:Int),out,a,(a.length:Int),(i:Int))∧IsL out∧out.length=a.length+1∧nv out=nv (a.take i) * 2 ^ n) a.length ?_ ?_ ?_
  · exact ⟨_,rfl,IsL.zeros _,by simp,by simp [zdo,nv]⟩
  · rintro i st hi ⟨out,rfl,hL,hlen,hv⟩
    obtain ⟨x,hx1,hx2,hx3⟩:=zdr ha i
    have htop:=top_lt ha i
    have hlt:nv out < 4294967296 ^ i * 2 ^ n:=by rw [hv]; exact Nat.mul_lt_mul_of_pos_right htop hT0
    have ho1:out.getD i 0=((nv out / 4294967296 ^ i:Nat):Int):=by
      rw [zfb hL]
      have:nv out / 4294967296 ^ i < 2 ^ n:=Nat.div_lt_of_lt_mul hlt
      rw [Nat.mod_eq_of_lt (by omega)]
    have ho2:nv out / 4294967296 ^ i < 2 ^ n:=Nat.div_lt_of_lt_mul hlt
    obtain ⟨o,ho⟩:∃ o,nv out / 4294967296 ^ i=o:=⟨_,rfl⟩
    rw [ho] at ho1 ho2
    have hlt1:nv out < 4294967296 ^ (i+1):=by
      rw [Nat.pow_succ]
      exact Nat.lt_of_lt_of_le hlt (Nat.mul_le_mul_left _ (by omega))
    obtain ⟨v,hvx⟩:∃ v,x * 2 ^ n=v:=⟨_,rfl⟩
    have hv64:v < 4294967296 * 4294967296:=by rw [← hvx]; exact Nat.mul_lt_mul'' hx2 hT
    have hor:=or32 (x:=x) hn ho2
    have hlo:=low_top (x:=x) hn ho2
    rw [hvx] at hor hlo
    have s1:wu32 ((o+v % 4294967296:Nat):Int)=((o+v % 4294967296:Nat):Int):=by rw [zcp,Nat.mod_eq_of_lt hlo]
    have hhi:v / 4294967296 < 4294967296:=by omega
    have s2:wu32 ((v / 4294967296:Nat):Int)=((v / 4294967296:Nat):Int):=by rw [zcp,Nat.mod_eq_of_lt hhi]
    simp only [dlt hi,d0le,dlt (show i < out.length by omega),zcb (show i < 9223372036854775807 by omega),List.length_set,dlt (show i+1 < out.length by omega),cond_true,Bool.and_self,tn,hx1,ho1,zaq (show x < 18446744073709551616 by omega)]
    rw [show (x:Int) * 2 ^ (min n 64)=(v:Int) by have:=shl_nat (x:=x) hn; rw [tn,hvx] at this; exact this]
    simp only [zaq (show v < 18446744073709551616 by omega),zcp (n:=v),hor,s1,shr32,zaq (show v / 4294967296 < 18446744073709551616 by omega),s2]
    obtain ⟨q1,q2⟩:=set_set_nv hL (i:=i) (lo:=v % 4294967296) (hi:=v / 4294967296) (by omega) ho1 hlt1 hlo hhi
    refine ⟨_,rfl,_,rfl,q1,by simpa using hlen,?_⟩
    rw [q2,hx3]
    exact left_step hv (by rw [hvx]; omega)
  · rintro st ⟨out,rfl,hL,hlen,hv⟩
    rw [List.take_of_length_le (Nat.le_refl _)] at hv
    exact ⟨out,by simp only [nlt (Nat.le_refl a.length),cond_false],out,rfl,hL,hlen,hv⟩
theorem right_digit {X n:Nat} (hn:n≤31):(X % 4294967296+X / 4294967296 % 4294967296 * 4294967296) / 2 ^ n % 4294967296=X / 2 ^ n % 4294967296:=by
  have hT0:0 < 2 ^ n:=Nat.pow_pos (by decide)
  obtain ⟨z,hz⟩:∃ z,X % 4294967296+X / 4294967296 % 4294967296 * 4294967296=z:=⟨_,rfl⟩
  have e:X=z+2 ^ n * (2 ^ (32 - n) * (X / 4294967296 / 4294967296) * 4294967296):=by
    rw [Nat.mul_assoc,← Nat.mul_assoc (2 ^ n),zmf hn]
    omega
  rw [hz]
  conv=>rhs; rw [e]
  rw [Nat.add_mul_div_left _ _ hT0,Nat.add_mul_mod_self_right]
theorem or64r {a b:Nat} (ha:a < 4294967296) (hb:b < 4294967296):wu64 (((BitVec.ofInt 64 (b:Int) ||| BitVec.ofInt 64 (wu64 ((a:Int) * 2 ^ (min (Int.toNat 32) 64)))).toNat:Nat):Int)=((b+a * 4294967296:Nat):Int):=by
  rw [shl32,zaq (n:=a * 4294967296) (by omega),BitVec.toNat_or,Nat.or_comm,← BitVec.toNat_or,or64 ha hb,zaq (by omega)]
  congr 1
  omega
theorem d206_eq {a:List Int} (ha:IsL a) (la:a.length≤1073741824) {n:Nat} (hn:n≤31):∃ out,d206 a (n:Int)=some out∧IsL out∧out.length=a.length∧nv out=nv a / 2 ^ n:=by
  unfold d206
  have hT0:0 < 2 ^ n:=Nat.pow_pos (by decide)
  simp only [decide_true,d0le,zbx (n:=a.length) (by omega),Bool.and_self,cond_true,tn]
  refine zck (Q:=fun r=>∃ out,r=some out∧IsL out∧out.length=a.length∧nv out=nv a / 2 ^ n) (fun (i:Nat) (st:(List Int) × Int × (List Int) × Int × Int)=>∃ (out:List Int),st=(a,(n:Int),out,(a.length:Int),(i:Int))∧IsL out∧out.length=a.length∧nv out=nv a / 2 ^ n % 4294967296 ^ i) a.length ?_ ?_ ?_
  · exact ⟨_,rfl,IsL.zeros _,by simp,by simp [zdo,nv,Nat.mod_one]⟩
  · rintro i st hi ⟨out,rfl,hL,hlen,hv⟩
    have g0:=zfb ha i
    have g1:=zfb ha (i+1)
    rw [Nat.pow_succ,← Nat.div_div_eq_div_mul] at g1
    have hlt:nv out < 4294967296 ^ i:=by rw [hv]; exact Nat.mod_lt _ (zoq i)
    have hd:=right_digit (X:=nv a / 4294967296 ^ i) hn
    obtain ⟨X,hX⟩:∃ X,nv a / 4294967296 ^ i=X:=⟨_,rfl⟩
    rw [hX] at g0 g1 hd
    have b0:X % 4294967296 < 4294967296:=Nat.mod_lt _ (by decide)
    have b1:X / 4294967296 % 4294967296 < 4294967296:=Nat.mod_lt _ (by decide)
    obtain ⟨z,hz⟩:∃ z,X % 4294967296+X / 4294967296 % 4294967296 * 4294967296=z:=⟨_,rfl⟩
    rw [hz] at hd
    have hzb:z < 18446744073709551616:=by omega
    have hzd:z / 2 ^ n < 18446744073709551616:=Nat.lt_of_le_of_lt (Nat.div_le_self _ _) hzb
    have sh:Int.fdiv (z:Int) (2 ^ (min n 64))=((z / 2 ^ n:Nat):Int):=by have:=shr_nat (x:=z) hn; rwa [tn] at this
    simp only [dlt hi,zgd ha,zcb (show i < 9223372036854775807 by omega),d0le,dlt (show i < out.length by omega),cond_true,Bool.and_self,Option.bind_some,g0,g1,or64r b1 b0,hz,tn,sh,zaq hzd,zcp,hd]
    have e1:=zjq hL (i:=i) (((X / 2 ^ n % 4294967296:Nat):Int)) (by omega) hlt
    rw [Int.toNat_natCast] at e1
    refine ⟨_,rfl,_,rfl,hL.set i (by omega) (by omega),by simpa using hlen,?_⟩
    rw [e1,hv,← hX,Nat.div_div_eq_div_mul,Nat.mul_comm (4294967296 ^ i) (2 ^ n),← Nat.div_div_eq_div_mul,Nat.mod_pow_succ]
  · rintro st ⟨out,rfl,hL,hlen,hv⟩
    refine ⟨out,by simp only [nlt (Nat.le_refl a.length),cond_false],out,rfl,hL,hlen,?_⟩
    rw [hv]
    exact Nat.mod_eq_of_lt (Nat.lt_of_le_of_lt (Nat.div_le_self _ _) (zpo ha))
end Go.Proofs.YtmipjomnjkmdbaaGreat
set_option linter.unusedSimpArgs false
set_option linter.unusedVariables false
namespace Go.Proofs.YtmipjomnjkmdbaaGreat
open Go Go.X
theorem zes {α β γ:Type} {f:α→Option (α ⊕ β)} {k:β→Option γ} {a0:α} {Q:Option γ→Prop} (R:Nat→α→Prop) (n:Nat) (h0:R n a0) (hs:∀ m a,R m a→(∃ a' m',f a=some (.inl a')∧m' < m∧R m' a')∨∃ b,f a=some (.inr b)∧Q (k b)):Q ((zab f a0).bind k):=by
  have key:∀ M m a,m < M→R m a→∃ b,zab f a=some b∧Q (k b):=by
    intro M
    induction M with
    | zero=>intro m a h; omega
    | succ M ih =>
      intro m a hm hr
      rcases hs m a hr with ⟨a',m',h1,h2,h3⟩ | ⟨b,h1,h2⟩
      · obtain ⟨b,h4,h5⟩:=ih m' a' (by omega) h3
        exact ⟨b,zhb h1 h4,h5⟩
      · exact ⟨b,zef h1,h2⟩
  obtain ⟨b,h1,h2⟩:=key (n+1) n a0 (by omega) h0
  rw [h1]
  exact h2
theorem two_top {v:List Int} (hv:IsL v) {m:Nat} (hm:v.length=m+2):∃ h s t:Nat,v.getD (m+1) 0=(h:Int)∧v.getD m 0=(s:Int)∧h < 4294967296∧s < 4294967296∧t < 4294967296 ^ m∧nv v=(h * 4294967296+s) * 4294967296 ^ m+t:=by
  have g0:=zfb hv m
  have g1:=zfb hv (m+1)
  rw [Nat.pow_succ,← Nat.div_div_eq_div_mul] at g1
  have hlt:=zpo hv
  rw [hm,show m+2=m+1+1 by omega,Nat.pow_succ,Nat.pow_succ,Nat.mul_assoc] at hlt
  have hY:=Nat.div_lt_of_lt_mul hlt
  have hdm:=Nat.div_add_mod (nv v) (4294967296 ^ m)
  have hml:=Nat.mod_lt (nv v) (zoq m)
  generalize nv v / 4294967296 ^ m=Y at *
  refine ⟨Y / 4294967296,Y % 4294967296,nv v % 4294967296 ^ m,?_,g0,by omega,by omega,hml,?_⟩
  · rw [g1]; omega
  · rw [show Y / 4294967296 * 4294967296+Y % 4294967296=Y by omega,Nat.mul_comm Y]; omega
theorem three_top {u:List Int} (hu:IsL u) {j m:Nat} (hlt:nv u < 4294967296 ^ (j+m+3)):∃ a b c z:Nat,u.getD (j+m+2) 0=(a:Int)∧u.getD (j+m+1) 0=(b:Int)∧u.getD (j+m) 0=(c:Int)∧a < 4294967296∧b < 4294967296∧c < 4294967296∧z < 4294967296 ^ m∧nv u / 4294967296 ^ j=((a * 4294967296+b) * 4294967296+c) * 4294967296 ^ m+z:=by
  have g0:=zfb hu (j+m)
  have g1:=zfb hu (j+m+1)
  have g2:=zfb hu (j+m+2)
  rw [show j+m+2=j+m+1+1 by omega,Nat.pow_succ,← Nat.div_div_eq_div_mul] at g2
  rw [Nat.pow_succ,← Nat.div_div_eq_div_mul] at g1 g2
  rw [Nat.pow_add,← Nat.div_div_eq_div_mul] at g0 g1 g2
  have hl2:nv u / 4294967296 ^ j / 4294967296 ^ m < 4294967296 * 4294967296 * 4294967296:=by
    rw [Nat.div_div_eq_div_mul,← Nat.pow_add]
    refine Nat.div_lt_of_lt_mul ?_
    rw [show j+m+3=j+m+1+1+1 by omega,Nat.pow_succ,Nat.pow_succ,Nat.pow_succ] at hlt
    rw [← Nat.mul_assoc,← Nat.mul_assoc]
    exact hlt
  generalize nv u / 4294967296 ^ j=U at *
  have hdm:=Nat.div_add_mod U (4294967296 ^ m)
  have hml:=Nat.mod_lt U (zoq m)
  generalize U / 4294967296 ^ m=Y at *
  refine ⟨Y / 4294967296 / 4294967296,Y / 4294967296 % 4294967296,Y % 4294967296,U % 4294967296 ^ m,?_,g1,g0,by omega,by omega,by omega,hml,?_⟩
  · rw [show j+m+2=j+m+1+1 by omega,g2]; omega
  · rw [show (Y / 4294967296 / 4294967296 * 4294967296+Y / 4294967296 % 4294967296) * 4294967296+Y % 4294967296=Y by omega,Nat.mul_comm Y]; omega
theorem guess_low {U V W top h s t u0 z q r:Nat} (hV:V=(h * 4294967296+s) * W+t) (hU:U=(top * 4294967296+u0) * W+z) (hz:z < W) (hu:u0 < 4294967296) (hq:q * h+r=top) (hr:r < h):U < (q+1) * V:=by
  have h1:top+1≤(q+1) * h:=by rw [Nat.succ_mul]; omega
  have h2:top * 4294967296+u0+1≤(q+1) * (h * 4294967296+s):=by
    rw [Nat.mul_add,← Nat.mul_assoc]
    have:=Nat.mul_le_mul_right 4294967296 h1
    omega
  have h3:=Nat.mul_le_mul_right W h2
  rw [hV,Nat.mul_add,← Nat.mul_assoc,hU]
  rw [Nat.succ_mul] at h3
  omega
theorem top_bound {B U V W x c y t z:Nat} (hV:V=y * W+t) (hU:U=(x * B+c) * W+z) (ht:t < W) (hlt:U < B * V):x≤y:=by
  refine Nat.not_lt.1 fun h1=>?_
  have h2:(y+1) * B≤x * B:=Nat.mul_le_mul_right B h1
  have h3:=Nat.mul_le_mul_right W h2
  have h4:B * V≤B * ((y+1) * W):=by
    refine Nat.mul_le_mul_left B ?_
    rw [hV,Nat.succ_mul]; omega
  rw [Nat.mul_comm (y+1) B,Nat.mul_assoc] at h3
  rw [Nat.add_mul] at hU
  omega
theorem q_small {q h r:Nat} (hq:q * h+r≤h * 4294967296+4294967295) (hr:4294967296≤r):q < 4294967296:=by
  refine Nat.not_le.1 fun h1=>?_
  have:=Nat.mul_le_mul_right h h1
  rw [Nat.mul_comm 4294967296] at this
  omega
theorem d216_eq {u v:List Int} (hu:IsL u) (hv:IsL v) {j m:Nat} (hm:v.length=m+2) (hlen:j+m+2 < u.length) (lu:u.length≤1073741825) (hlt:nv u < 4294967296 ^ (j+m+3)) (hh:v.getD (m+1) 0 ≠ 0) (hUV:nv u / 4294967296 ^ j < 4294967296 * nv v) :
    ∃ q:Nat,d216 u v (j:Int)=some (q:Int)∧q < 4294967296∧nv u / 4294967296 ^ j < (q+1) * nv v∧q * nv v < nv u / 4294967296 ^ j+nv v:=by
  obtain ⟨h,s,t,v1,v2,hh1,hs1,ht1,hV⟩:=two_top hv hm
  obtain ⟨a,b,c,z,u1,u2,u3,ha1,hb1,hc1,hz1,hU⟩:=three_top hu hlt
  have hb0:=top_bound hV hU ht1 hUV
  generalize nv u / 4294967296 ^ j=U at *
  generalize nv v=V at *
  generalize 4294967296 ^ m=W at *
  rw [v1] at hh
  have hh0:0 < h:=by omega
  obtain ⟨top,htop⟩:∃ top,a * 4294967296+b=top:=⟨_,rfl⟩
  rw [htop] at hU hb0
  have htl:top < 18446744073709551616:=by omega
  unfold d216
  have i1:w ((j:Int)+((m+2:Nat):Int))=((j+m+2:Nat):Int):=by rw [zbr (by omega) (by omega)]; omega
  have i2:w (((j+m+2:Nat):Int) - 1)=((j+m+1:Nat):Int):=by rw [zbr (by omega) (by omega)]; omega
  have i3:w (((m+2:Nat):Int) - 1)=((m+1:Nat):Int):=by rw [zbr (by omega) (by omega)]; omega
  have i4:w (((m+2:Nat):Int) - 2)=((m:Nat):Int):=by rw [zbr (by omega) (by omega)]; omega
  have i5:w (((j+m+2:Nat):Int) - 2)=((j+m:Nat):Int):=by rw [zbr (by omega) (by omega)]; omega
  have hne:decide ((h:Int)=0)=false:=decide_eq_false (by omega)
  have hd1:top / h < 18446744073709551616:=Nat.lt_of_le_of_lt (Nat.div_le_self _ _) htl
  have hd2:top % h < h:=Nat.mod_lt _ hh0
  have t1:Int.tdiv (top:Int) (h:Int)=((top / h:Nat):Int):=rfl
  have t2:Int.tmod (top:Int) (h:Int)=((top % h:Nat):Int):=rfl
  simp only [hm,i1,i2,i3,d0le,dlt (show j+m+2 < u.length by omega),dlt (show j+m+1 < u.length by omega),dlt (show m+1 < m+2 by omega),cond_true,Bool.and_self,tn,v1,u1,u2,zaq (show h < 18446744073709551616 by omega),zaq (show a < 18446744073709551616 by omega),hne,Bool.not_false,or64w ha1 hb1,htop,t1,t2,zaq hd1,zaq (show top % h < 18446744073709551616 by omega)]
  refine zes (Q:=fun r=>∃ q:Nat,r=some (q:Int)∧q < 4294967296∧U < (q+1) * V∧q * V < U+V) (fun (M:Nat) (st:(List Int) × (List Int) × Int × Int × Int × Int × Int)=>∃ (q r:Nat),M=q∧st=(u,v,(j:Int),((m+2:Nat):Int),(h:Int),(q:Int),(r:Int))∧q * h+r=top∧r < 4294967296∧q < 18446744073709551616∧U < (q+1) * V) (top / h) ?_ ?_
  · exact ⟨_,_,rfl,rfl,by rw [Nat.mul_comm]; exact Nat.div_add_mod top h,by omega,hd1,guess_low hV hU hz1 hc1 (by rw [Nat.mul_comm]; exact Nat.div_add_mod top h) hd2⟩
  · rintro M st ⟨q,r,rfl,rfl,hq,hr,hq64,hlow⟩
    have e2:wu64 ((r:Int)+(h:Int))=((r+h:Nat):Int):=by rw [zbj (by omega) (by omega)]; omega
    have e1:0 < M→wu64 ((M:Int) - 1)=((M - 1:Nat):Int):=fun h0=>by rw [zbj (by omega) (by omega)]; omega
    have down:0 < M→U < M * V→(4294967296≤r+h∧M - 1 < 4294967296∧U < (M - 1+1) * V∧(M - 1) * V < U+V)∨(r+h < 4294967296∧(M - 1) * h+(r+h)=top∧U < (M - 1+1) * V):=by
      intro h0 hU1
      have e3:(M - 1) * h+(r+h)=top:=by
        rw [← hq]
        obtain ⟨M',rfl⟩:∃ M',M=M'+1:=⟨M - 1,by omega⟩
        rw [Nat.add_sub_cancel,Nat.succ_mul]; omega
      have e4:M - 1+1=M:=by omega
      rw [e4]
      by_cases hb:4294967296≤r+h
      · have hqs:=q_small (h:=h) (r:=r+h) (by rw [e3]; omega) hb
        refine .inl ⟨hb,hqs,hU1,zog hV hU ht1 hh0 e3 hqs ?_⟩
        have:(M - 1) * s≤4294967296 * 4294967296:=Nat.mul_le_mul (by omega) (by omega)
        omega
      · exact .inr ⟨by omega,e3,hU1⟩
    by_cases hq1:4294967296≤M
    · have d1:decide ((4294967296:Int)≤(M:Int))=true:=decide_eq_true (by omega)
      have hM:0 < M:=by omega
      rcases down hM (Nat.lt_of_lt_of_le hUV (Nat.mul_le_mul_right V hq1)) with ⟨k1,k2,k3,k4⟩ | ⟨k1,k2,k3⟩
      · have d2:decide ((4294967296:Int)≤((r+h:Nat):Int))=true:=decide_eq_true (by omega)
        exact .inr ⟨((M - 1:Nat):Int),by simp only [zay,d1,Bool.not_true,cond_false,cond_true,e1 hM,e2,d2],M - 1,rfl,k2,k3,k4⟩
      · have d2:decide ((4294967296:Int)≤((r+h:Nat):Int))=false:=decide_eq_false (by omega)
        exact .inl ⟨_,M - 1,by simp only [zay,d1,Bool.not_true,cond_false,cond_true,e1 hM,e2,d2],by omega,M - 1,r+h,rfl,rfl,k2,k1,by omega,k3⟩
    · have d1:decide ((4294967296:Int)≤(M:Int))=false:=decide_eq_false (by omega)
      obtain ⟨p,hp⟩:∃ p,M * s=p:=⟨_,rfl⟩
      have hpl:p≤4294967295 * 4294967295:=by rw [← hp]; exact Nat.mul_le_mul (by omega) (by omega)
      have hpi:(M:Int) * (s:Int)=(p:Int):=by rw [← hp]; simp
      simp only [zay,d1,Bool.not_false,cond_true,i1,i4,i5,d0le,dlt (show m < m+2 by omega),hm,dlt (show j+m < u.length by omega),Bool.and_self,tn,v2,u3,or64w hr hc1,zaq (show s < 18446744073709551616 by omega),hpi,zaq (show p < 18446744073709551616 by omega)]
      by_cases hc:r * 4294967296+c < p
      · simp only [dlt hc]
        rw [← hp] at hc
        have hM:0 < M:=by
          rcases Nat.eq_zero_or_pos M with h0 | h0
          · subst h0; rw [Nat.zero_mul] at hc; omega
          · exact h0
        rcases down hM (digit_low hV hU hz1 hq hc) with ⟨k1,k2,k3,k4⟩ | ⟨k1,k2,k3⟩
        · have d2:decide ((4294967296:Int)≤((r+h:Nat):Int))=true:=decide_eq_true (by omega)
          exact .inr ⟨((M - 1:Nat):Int),by simp only [cond_false,cond_true,e1 hM,e2,d2],M - 1,rfl,k2,k3,k4⟩
        · have d2:decide ((4294967296:Int)≤((r+h:Nat):Int))=false:=decide_eq_false (by omega)
          exact .inl ⟨_,M - 1,by simp only [cond_false,cond_true,e1 hM,e2,d2],by omega,M - 1,r+h,rfl,rfl,k2,k1,by omega,k3⟩
      · rw [nlt (a:=r * 4294967296+c) (b:=p) (by omega)]
        refine .inr ⟨(M:Int),by simp only [cond_false],M,rfl,by omega,hlow,?_⟩
        exact zog hV hU ht1 hh0 hq (by omega) (by rw [hp]; omega)
end Go.Proofs.YtmipjomnjkmdbaaGreat
set_option linter.unusedSimpArgs false
set_option linter.unusedVariables false
namespace Go.Proofs.YtmipjomnjkmdbaaGreat
open Go Go.X
theorem and_low {p:Nat} (h:p < 18446744073709551616):wu64 (((BitVec.ofInt 64 (p:Int) &&& BitVec.ofInt 64 4294967295).toNat:Nat):Int)=((p % 4294967296:Nat):Int):=by
  have:BitVec.ofInt 64 4294967295=BitVec.ofNat 64 4294967295:=rfl
  rw [this,BitVec.toNat_and,zgq 64 _ (by omega),BitVec.toNat_ofNat]
  have e:=Nat.and_two_pow_sub_one_eq_mod p 32
  rw [show (2:Nat) ^ 32 - 1=4294967295 from rfl,show (2:Nat) ^ 32=4294967296 from rfl] at e
  rw [show 4294967295 % 2 ^ 64=4294967295 from rfl,e,zaq (by omega)]
theorem sub_step {X N N' N2 T x y q dig lo h bo bo' ca ca' s p Y:Nat} (hN:N+X * (q * T)=N'+X * Y * (bo+ca)) (h2:N2+X * Y * x=N+X * Y * dig) (hp:q * y+ca=p) (hlo:p=lo+4294967296 * ca') (hs:s+lo+bo=4294967296+x) (hd:s=dig+4294967296 * h) (hb:bo'+h=1):N2+X * (q * (T+Y * y))=N'+X * (Y * 4294967296) * (bo'+ca'):=by
  have e:dig+q * y+ca+bo=x+4294967296 * (bo'+ca'):=by omega
  have e1:=congrArg ((X * Y) * ·) e
  simp only [Nat.mul_add] at e1 hN ⊢
  have e2:X * (q * (Y * y))=X * Y * (q * y):=by rw [Nat.mul_left_comm q,← Nat.mul_assoc]
  have e3:X * Y * (4294967296 * bo')=X * (Y * 4294967296) * bo':=by simp only [Nat.mul_assoc]
  have e4:X * Y * (4294967296 * ca')=X * (Y * 4294967296) * ca':=by simp only [Nat.mul_assoc]
  omega
theorem add_step {X N N' N2 T x y dig c c' s Y:Nat} (hN:N+X * Y * c=N'+X * T) (h2:N2+X * Y * x=N+X * Y * dig) (hs:x+y+c=s) (hd:s=dig+4294967296 * c'):N2+X * (Y * 4294967296) * c'=N'+X * (T+Y * y):=by
  have e:dig+4294967296 * c'=x+y+c:=by omega
  have e1:=congrArg ((X * Y) * ·) e
  simp only [Nat.mul_add] at e1 hN ⊢
  have e2:X * (Y * y)=X * Y * y:=by rw [Nat.mul_assoc]
  have e4:X * Y * (4294967296 * c')=X * (Y * 4294967296) * c':=by simp only [Nat.mul_assoc]
  omega
theorem below_next {N X U q V:Nat} (hX:0 < X) (hU:N / X=U) (h:U < (q+1) * V):N < X * (q * V)+X * V:=by
  have h1:N < X * (U+1):=by
    have:=Nat.div_add_mod N X
    have:=Nat.mod_lt N hX
    rw [hU] at *
    rw [Nat.mul_add,Nat.mul_one]
    omega
  have h2:X * (U+1)≤X * ((q+1) * V):=Nat.mul_le_mul_left _ h
  have e:X * ((q+1) * V)=X * (q * V)+X * V:=by rw [Nat.succ_mul,Nat.mul_add]
  omega
theorem floor_le {N X U Y:Nat} (hU:N / X=U) (h:Y≤U):X * Y≤N:=by
  have:=Nat.div_add_mod N X
  rw [hU] at this
  have h2:X * Y≤X * U:=Nat.mul_le_mul_left _ h
  omega
set_option maxHeartbeats 1000000 in
theorem d205_eq {u v:List Int} (hu:IsL u) (hv:IsL v) {m k:Nat} (hm:v.length=m+2) (hk:u.length=k+(m+2)) (lu:u.length≤1073741825) (hh:v.getD (m+1) 0 ≠ 0) (hlt:nv u < nv v * 4294967296 ^ k) :
    ∃ q r,d205 u v=some (q,r)∧IsL q∧IsL r∧q.length=k∧r.length=u.length∧nv q=nv u / nv v∧nv r=nv u % nv v:=by
  have hV0:0 < nv v:=by
    rcases Nat.eq_zero_or_pos (nv v) with h0 | h0
    · rw [h0,Nat.zero_mul] at hlt; omega
    · exact h0
  have hVB:=zpo hv
  unfold d205
  have i1:w ((u.length:Int) - (v.length:Int))=(k:Int):=by rw [zbr (by omega) (by omega)]; omega
  have i2:w ((v.length:Int)+1)=((m+3:Nat):Int):=by rw [zbr (by omega) (by omega)]; omega
  have i3:w ((k:Int) - 1)=(k:Int) - 1:=zbr (by omega) (by omega)
  simp only [i1,decide_true,d0le,zbx (n:=k) (by omega),Bool.and_self,cond_true,tn,i3]
  refine znm (Q:=fun r=>∃ q r',r=some (q,r')∧IsL q∧IsL r'∧q.length=k∧r'.length=u.length∧nv q=nv u / nv v∧nv r'=nv u % nv v) (fun (i:Nat) (st:(List Int) × (List Int) × Int × (List Int) × Int)=>∃ (u' out:List Int),st=(u',v,(v.length:Int),out,(i:Int) - 1)∧i≤k∧IsL u'∧u'.length=u.length∧IsL out∧out.length=k∧(∀ t,t < i→out.getD t 0=0)∧nv u=nv u'+nv out * nv v∧nv u' < nv v * 4294967296 ^ i) k ?_ ?_ ?_
  · exact ⟨u,_,rfl,Nat.le_refl _,hu,rfl,IsL.zeros _,by simp,fun t _=>zob _ t,by rw [zdo]; omega,hlt⟩
  · rintro i st hi ⟨u',out,rfl,hik,hu',hlu,hL,hlo,hz,hv1,hv2⟩
    obtain ⟨X,hX⟩:∃ X,4294967296 ^ i=X:=⟨_,rfl⟩
    have hX0:0 < X:=by rw [← hX]; exact zoq i
    rw [Nat.pow_succ,hX] at hv2
    have hB3:nv u' < 4294967296 ^ (i+m+3):=by
      refine Nat.lt_of_lt_of_le hv2 ?_
      rw [show i+m+3=(m+2)+(i+1) by omega,Nat.pow_add,Nat.pow_succ _ i,hX,← hm]
      exact Nat.mul_le_mul_right _ (Nat.le_of_lt hVB)
    have hUV:nv u' / 4294967296 ^ i < 4294967296 * nv v:=by
      rw [hX]
      refine Nat.div_lt_of_lt_mul ?_
      rw [← Nat.mul_assoc,Nat.mul_comm]
      exact hv2
    obtain ⟨q,hq0,hq1,hq2,hq3⟩:=d216_eq hu' hv (j:=i) hm (by omega) (by omega) hB3 hh hUV
    have j1:((i+1:Nat):Int) - 1=(i:Int):=by omega
    have wi1:w ((i:Int) - 1)=(i:Int) - 1:=zbr (by omega) (by omega)
    rw [hX] at hq2 hq3
    simp only [j1,d0le,cond_true,hq0,Option.bind_some,i2]
    refine zck (Q:=fun (r:Option (((List Int) × (List Int) × Int × (List Int) × Int) ⊕ ((List Int) × (List Int))))=>∃ a',r=some (.inl a')∧∃ (u' out:List Int),a'=(u',v,(v.length:Int),out,(i:Int) - 1)∧i≤k∧IsL u'∧u'.length=u.length∧IsL out∧out.length=k∧(∀ t,t < i→out.getD t 0=0)∧nv u=nv u'+nv out * nv v∧nv u' < nv v * 4294967296 ^ i)
      (fun (d:Nat) (st:(List Int) × (List Int) × Int × (List Int) × Int × Int × Int × Int × Int × Int)=>∃ (z:List Int) (bo ca:Nat),st=(z,v,(v.length:Int),out,(i:Int),(q:Int),(bo:Int),(ca:Int),((m+3:Nat):Int),(d:Int))∧IsL z∧z.length=u.length∧bo≤1∧ca < 4294967296∧(d≤m+2∨ca=0)∧nv z+X * (q * nv (v.take d))=nv u'+X * 4294967296 ^ d * (bo+ca)∧nv z < 4294967296 ^ (i+m+3)) (m+3) ?_ ?_ ?_
    · exact ⟨u',0,0,rfl,hu',hlu,by omega,by omega,.inl (by omega),by simp [nv],hB3⟩
    · rintro d st hd ⟨z,bo,ca,rfl,hzL,hzl,hbo,hca,hor,heq,hzb⟩
      obtain ⟨y,hy1,hy2,hy3⟩:=zdr hv d
      have hx:=hzL.getD (d+i)
      obtain ⟨x,hx1⟩:∃ x:Nat,z.getD (d+i) 0=(x:Int):=⟨_,(Int.toNat_of_nonneg hx.1).symm⟩
      rw [hx1] at hx
      obtain ⟨qy,hqy⟩:∃ p,q * y=p:=⟨_,rfl⟩
      have hpl:qy≤4294967295 * 4294967295:=by rw [← hqy]; exact Nat.mul_le_mul (by omega) (by omega)
      have hqi:(q:Int) * (y:Int)=(qy:Int):=by rw [← hqy]; simp
      have s1:wu64 ((qy:Int)+(ca:Int))=((qy+ca:Nat):Int):=by rw [zbj (by omega) (by omega)]; omega
      obtain ⟨p,hp⟩:∃ p,qy+ca=p:=⟨_,rfl⟩
      obtain ⟨lo,hlo'⟩:∃ lo,p % 4294967296=lo:=⟨_,rfl⟩
      have s2:wu64 (4294967296+(x:Int))=4294967296+(x:Int):=zbj (by omega) (by omega)
      have s3:wu64 (4294967296+(x:Int) - (lo:Int))=4294967296+(x:Int) - lo:=zbj (by omega) (by omega)
      obtain ⟨s,hs⟩:∃ s,4294967296+x - lo - bo=s:=⟨_,rfl⟩
      have s4:wu64 (4294967296+(x:Int) - (lo:Int) - (bo:Int))=(s:Int):=by rw [zbj (by omega) (by omega)]; omega
      have s5:wu64 (1 - ((s / 4294967296:Nat):Int))=((1 - s / 4294967296:Nat):Int):=by rw [zbj (by omega) (by omega)]; omega
      simp only [dlt hd,zgd hv,hy1,Option.bind_some,wadd (show d+i≤9223372036854775807 by omega),d0le,dlt (show d+i < z.length by omega),cond_true,Bool.and_self,tn,hx1,hqi,zaq (show qy < 18446744073709551616 by omega),s1,hp,and_low (show p < 18446744073709551616 by omega),hlo',zaq (show x < 18446744073709551616 by omega),s2,s3,s4,shr32,zaq (show s / 4294967296 < 18446744073709551616 by omega),s5,zaq (show p / 4294967296 < 18446744073709551616 by omega),zcp,zcb (show d < 9223372036854775807 by omega)]
      have e1:=zij z (d+i) (((s % 4294967296:Nat):Int)) (by omega)
      rw [hx1,Int.toNat_natCast,Int.toNat_natCast,Nat.add_comm d i,Nat.pow_add,hX,Nat.add_comm i d] at e1
      refine ⟨_,rfl,_,_,_,rfl,hzL.set _ (by omega) (by omega),by simpa using hzl,by omega,by omega,?_,?_,zii hzL (by omega) (by omega) (by omega) hzb⟩
      · by_cases hdm:d+1≤m+2
        · exact .inl hdm
        · right
          have hy0:y=0:=by
            have:v.getD d 0=0:=by rw [List.getD_eq_getElem?_getD,List.getElem?_eq_none (by omega)]; rfl
            omega
          rw [hy0,Nat.mul_zero] at hqy
          omega
      · rw [hy3,Nat.pow_succ]
        exact sub_step heq e1 (by rw [hqy]; exact hp) (show p=lo+4294967296 * (p / 4294967296) by omega) (s:=s) (by omega) (h:=s / 4294967296) (by omega) (by omega)
    · rintro st ⟨z,bo,ca,rfl,hzL,hzl,hbo,hca,hor,heq,hzb⟩
      have hca0:ca=0:=by omega
      subst hca0
      rw [List.take_of_length_le (by omega),Nat.add_zero] at heq
      have hX3:X * 4294967296 ^ (m+3)=4294967296 ^ (i+m+3):=by rw [← hX,← Nat.pow_add]; rfl
      rw [hX3] at heq
      refine ⟨_,by simp only [nlt (Nat.le_refl (m+3)),cond_false]; rfl,?_⟩
      obtain ⟨TT,hTT⟩:∃ TT,4294967296 ^ (i+m+3)=TT:=⟨_,rfl⟩
      rw [hTT] at heq hzb hX3
      rcases Nat.eq_zero_or_pos bo with hb0 | hb0
      · subst hb0
        simp only [show decide ((0:Int) < ((0:Nat):Int))=false from rfl,cond_false,zay,d0le,dlt (show i < out.length by omega),Bool.and_self,cond_true,tn,zcp,Nat.mod_eq_of_lt hq1,wi1]
        have e1:=zij out i (q:Int) (by omega)
        rw [hz i (by omega),Int.toNat_natCast,hX] at e1
        have e2:nv (out.set i (q:Int))=nv out+X * q:=by simpa using e1
        refine ⟨_,rfl,_,_,rfl,by omega,hzL,hzl,hL.set _ (by omega) (by omega),by simpa using hlo,fun t ht=>by rw [getD_set_ne _ _ (by omega)]; exact hz t (by omega),?_,?_⟩
        · rw [e2,hv1,Nat.add_mul,Nat.mul_assoc]; omega
        · have:=below_next hX0 rfl hq2
          rw [hX,Nat.mul_comm (nv v) X]
          omega
      · have hb1:bo=1:=by omega
        subst hb1
        rw [Nat.mul_one] at heq
        have hqV:nv u' < X * (q * nv v):=by omega
        have hq0':0 < q:=by
          rcases Nat.eq_zero_or_pos q with h0 | h0
          · subst h0; rw [Nat.zero_mul,Nat.mul_zero] at hqV; omega
          · exact h0
        obtain ⟨q',rfl⟩:∃ q',q=q'+1:=⟨q - 1,by omega⟩
        have hqm:wu64 (((q'+1:Nat):Int) - 1)=(q':Int):=by rw [zbj (by omega) (by omega)]; omega
        simp only [show decide ((0:Int) < ((1:Nat):Int))=true from rfl,cond_true,hqm,i2]
        refine zck (Q:=fun (r:Option (((List Int) × (List Int) × Int × (List Int) × Int) ⊕ ((List Int) × (List Int))))=>∃ a',r=some (.inl a')∧∃ (u' out:List Int),a'=(u',v,(v.length:Int),out,(i:Int) - 1)∧i≤k∧IsL u'∧u'.length=u.length∧IsL out∧out.length=k∧(∀ t,t < i→out.getD t 0=0)∧nv u=nv u'+nv out * nv v∧nv u' < nv v * 4294967296 ^ i)
          (fun (d:Nat) (st:(List Int) × (List Int) × Int × (List Int) × Int × Int × Int × Int × Int)=>∃ (z2:List Int) (c:Nat),st=(z2,v,(v.length:Int),out,(i:Int),(q':Int),(c:Int),((m+3:Nat):Int),(d:Int))∧IsL z2∧z2.length=u.length∧c≤1∧nv z2+X * 4294967296 ^ d * c=nv z+X * nv (v.take d)∧nv z2 < 4294967296 ^ (i+m+3)) (m+3) ?_ ?_ ?_
        · exact ⟨z,0,rfl,hzL,hzl,by omega,by simp [nv],by rw [hTT]; exact hzb⟩
        · rintro d st hd ⟨z2,c,rfl,hzL2,hzl2,hc,heq2,hzb2⟩
          obtain ⟨y,hy1,hy2,hy3⟩:=zdr hv d
          have hx:=hzL2.getD (d+i)
          obtain ⟨x,hx1⟩:∃ x:Nat,z2.getD (d+i) 0=(x:Int):=⟨_,(Int.toNat_of_nonneg hx.1).symm⟩
          rw [hx1] at hx
          have s1:wu64 ((x:Int)+(y:Int))=((x+y:Nat):Int):=by rw [zbj (by omega) (by omega)]; omega
          have s2:wu64 (((x+y:Nat):Int)+(c:Int))=((x+y+c:Nat):Int):=by rw [zbj (by omega) (by omega)]; omega
          obtain ⟨s,hs⟩:∃ s,x+y+c=s:=⟨_,rfl⟩
          simp only [dlt hd,zgd hv,hy1,Option.bind_some,wadd (show d+i≤9223372036854775807 by omega),d0le,dlt (show d+i < z2.length by omega),cond_true,Bool.and_self,tn,hx1,zaq (show x < 18446744073709551616 by omega),s1,s2,hs,shr32,zaq (show s / 4294967296 < 18446744073709551616 by omega),zcp,zcb (show d < 9223372036854775807 by omega)]
          have e1:=zij z2 (d+i) (((s % 4294967296:Nat):Int)) (by omega)
          rw [hx1,Int.toNat_natCast,Int.toNat_natCast,Nat.add_comm d i,Nat.pow_add,hX,Nat.add_comm i d] at e1
          refine ⟨_,rfl,_,_,rfl,hzL2.set _ (by omega) (by omega),by simpa using hzl2,by omega,?_,zii hzL2 (by omega) (by omega) (by omega) hzb2⟩
          rw [hy3,Nat.pow_succ]
          exact add_step heq2 e1 hs (by omega)
        · rintro st ⟨z2,c,rfl,hzL2,hzl2,hc,heq2,hzb2⟩
          rw [List.take_of_length_le (by omega),hX3] at heq2
          rw [hTT] at hzb2
          refine ⟨_,by simp only [nlt (Nat.le_refl (m+3)),cond_false]; rfl,?_⟩
          simp only [zay,d0le,dlt (show i < out.length by omega),Bool.and_self,cond_true,tn,zcp,Nat.mod_eq_of_lt (show q' < 4294967296 by omega),wi1]
          have e1:=zij out i (q':Int) (by omega)
          rw [hz i (by omega),Int.toNat_natCast,hX] at e1
          have e2:nv (out.set i (q':Int))=nv out+X * q':=by simpa using e1
          have hfl:X * (q' * nv v)≤nv u':=by
            refine floor_le rfl ?_
            rw [Nat.succ_mul] at hq3
            omega
          rw [Nat.succ_mul,Nat.mul_add] at hqV heq
          have hc1:c=1:=by
            rcases Nat.eq_zero_or_pos c with h0 | h0
            · subst h0; rw [Nat.mul_zero] at heq2; omega
            · omega
          subst hc1
          rw [Nat.mul_one] at heq2
          refine ⟨_,rfl,_,_,rfl,by omega,hzL2,hzl2,hL.set _ (by omega) (by omega),by simpa using hlo,fun t ht=>by rw [getD_set_ne _ _ (by omega)]; exact hz t (by omega),?_,?_⟩
          · rw [e2,hv1,Nat.add_mul,Nat.mul_assoc]; omega
          · rw [hX,Nat.mul_comm (nv v) X]
            omega
  · rintro st ⟨u',out,rfl,hik,hu',hlu,hL,hlo,hz,hv1,hv2⟩
    rw [Nat.pow_zero,Nat.mul_one] at hv2
    refine ⟨(u',out),rfl,out,u',rfl,hL,hu',hlo,hlu,?_,?_⟩
    · rw [hv1,Nat.mul_comm,Nat.add_mul_div_left _ _ hV0,Nat.div_eq_of_lt hv2,Nat.zero_add]
    · rw [hv1,Nat.mul_comm,Nat.add_mul_mod_self_left,Nat.mod_eq_of_lt hv2]
end Go.Proofs.YtmipjomnjkmdbaaGreat
set_option linter.unusedSimpArgs false
set_option linter.unusedVariables false
namespace Go.Proofs.YtmipjomnjkmdbaaGreat
open Go Go.X
theorem bl_zero (f:Nat):Lib.bitLenAux f 0=0:=by cases f <;> simp [Lib.bitLenAux]
theorem bl_bounds:∀ (f x:Nat),x < 2 ^ f→x ≠ 0→1≤Lib.bitLenAux f x∧Lib.bitLenAux f x≤f∧x < 2 ^ Lib.bitLenAux f x
  | 0,x,h,h0=>by rw [Nat.pow_zero] at h; omega
  | f+1,x,h,h0=>by
    have e:Lib.bitLenAux (f+1) x=1+Lib.bitLenAux f (x / 2):=by simp [Lib.bitLenAux,h0]
    rw [e]
    by_cases h2:x / 2=0
    · rw [h2,bl_zero]
      exact ⟨by omega,by omega,by rw [Nat.add_zero,Nat.pow_one]; omega⟩
    · obtain ⟨q1,q2,q3⟩:=bl_bounds f (x / 2) (by rw [Nat.pow_succ] at h; omega) h2
      refine ⟨by omega,by omega,?_⟩
      rw [Nat.add_comm,Nat.pow_succ]; omega
theorem bl_more:∀ (f x:Nat),x < 2 ^ f→∀ g,f≤g→Lib.bitLenAux g x=Lib.bitLenAux f x
  | 0,x,h,g,_=>by
    rw [Nat.pow_zero] at h
    obtain rfl:x=0:=by omega
    rw [bl_zero,bl_zero]
  | f+1,x,h,g,hg=>by
    obtain ⟨g',rfl⟩:∃ g',g=g'+1:=⟨g - 1,by omega⟩
    simp only [Lib.bitLenAux]
    by_cases h0:x=0
    · rw [if_pos h0,if_pos h0]
    · rw [if_neg h0,if_neg h0,bl_more f (x / 2) (by rw [Nat.pow_succ] at h; omega) g' (by omega)]
theorem d200_eq {x:Nat} (h0:0 < x) (h1:x < 4294967296):∃ L:Nat,d200 (x:Int)=some (L:Int)∧1≤L∧L≤32∧x < 2 ^ L:=by
  have hx:x < 2 ^ 32:=h1
  have e:Lib.bitLen x=Lib.bitLenAux 32 x:=bl_more 32 x hx 64 (by decide)
  refine ⟨Lib.bitLen x,rfl,?_⟩
  rw [e]
  exact bl_bounds 32 x hx (by omega)
theorem zot {v:List Int} (hv:NF v) {m:Nat} (hm:v.length=m+1):∃ h:Nat,v.getD m 0=(h:Int)∧0 < h∧h < 4294967296:=by
  have g:=hv.1.getD m
  refine ⟨(v.getD m 0).toNat,by omega,?_,by omega⟩
  have:v.getD m 0 ≠ 0:=by
    intro e
    refine hv.2 ?_
    rw [List.getLast?_eq_getElem?,hm,Nat.add_sub_cancel,List.getElem?_eq_getElem (by omega)]
    rw [List.getD_eq_getElem?_getD,List.getElem?_eq_getElem (by omega)] at e
    simpa using e
  omega
set_option maxHeartbeats 1000000 in
theorem d170_eq {a b:List Int} (ha:IsL a) (hb:IsL b) (la:a.length≤1073741823) (lb:b.length≤1073741823) (h0:nv b ≠ 0):d170 a b=some (zak (nv a / nv b),zak (nv a % nv b),true):=by
  unfold d170
  rw [zbx (by omega),zbx (by omega)]
  simp only [cond_true,Option.bind_some,zbt ha,zbt hb]
  have hla:=zbh ha
  have hlb:=zbh hb
  have hNA:=zjb (nv a)
  have hNB:=zjb (nv b)
  have hA:=zai (nv a)
  have hB:=zai (nv b)
  have eA:=zao (nv a)
  have eB:=zao (nv b)
  have hm:=@zdn (nv b) (nv a)
  have hBl:=zat (nv b)
  have hAl:=zat (nv a)
  have hBp:=@zga (nv b)
  have hxA:zak (nv a)=zak (nv a):=rfl
  have hxB:zak (nv b)=zak (nv b):=rfl
  generalize hyA:zak (nv a)=A at *
  generalize hyB:zak (nv b)=B at *
  have hB0:0 < B.length:=hBp.2 (Nat.pos_of_ne_zero h0)
  rw [show decide ((B.length:Int)=0)=false from decide_eq_false (by omega),d201_eq hA hB (by omega) (by omega),eA,eB]
  simp only [cond_false,Option.bind_some,cmpN_lt]
  by_cases hlt:nv a < nv b
  · rw [decide_eq_true hlt,cond_true,zqc (by omega),Nat.div_eq_of_lt hlt,Nat.mod_eq_of_lt hlt,zbv,hyA]
    rfl
  rw [decide_eq_false hlt,cond_false]
  have hBA:=hm (by omega)
  by_cases h1:B.length=1
  · have q1:decide ((B.length:Int)=1)=true:=decide_eq_true (by omega)
    have q2:decide ((0:Int) < (B.length:Int))=true:=decide_eq_true (by omega)
    obtain ⟨h,hh1,hh2,hh3⟩:=zot hNB (m:=0) h1
    have hbv:nv b=h:=by
      rw [← eB]
      obtain ⟨y,rfl⟩:=List.length_eq_one_iff.1 h1
      simp only [List.getD_cons_zero] at hh1
      simp only [nv,hh1]; omega
    obtain ⟨q,r1,r2,r3,r4⟩:=d202_eq hA (by omega) hh2 hh3
    have hml:nv A % h < h:=Nat.mod_lt _ hh2
    rw [eA] at r1 r4 hml
    have q3:d129 ((nv a % h:Nat):Int)=some (zak (nv a % h)):=by rw [zmx (by omega) (by omega)]; rfl
    simp only [q1,q2,q3,decide_true,Int.le_refl,Bool.and_self,cond_true,hh1,zaq (show h < 18446744073709551616 by omega),r1,Option.bind_some,zge r2 (show q.length≤4294967296 by omega),r4,hbv]
    rfl
  · obtain ⟨m,hmB⟩:∃ m,B.length=m+2:=⟨B.length - 2,by omega⟩
    have q1:decide (((m+2:Nat):Int)=1)=false:=decide_eq_false (by omega)
    have i1:w (((m+2:Nat):Int) - 1)=((m+1:Nat):Int):=by rw [zbr (by omega) (by omega)]; omega
    obtain ⟨h,hh1,hh2,hh3⟩:=zot hNB (m:=m+1) hmB
    obtain ⟨L,hL0,hL1,hL2,hL3⟩:=d200_eq hh2 hh3
    have e203:d203 (h:Int)=some ((32 - L:Nat):Int):=by
      unfold d203
      rw [hL0]
      simp only [Option.bind_some]
      rw [zbr (by omega) (by omega)]
      congr 1; omega
    have hn:32 - L≤31:=by omega
    have hpow:2 ^ L * 2 ^ (32 - L)=4294967296:=by rw [← Nat.pow_add,show L+(32 - L)=32 by omega]
    obtain ⟨n,hnn⟩:∃ n,32 - L=n:=⟨_,rfl⟩
    rw [hnn] at e203 hn hpow
    have hT0:0 < 2 ^ n:=Nat.pow_pos (by decide)
    obtain ⟨u,u1,u2,u3,u4⟩:=d204_eq hA (by omega) hn
    obtain ⟨v0,v1,v2,v3,v4⟩:=d204_eq hB (by omega) hn
    rw [eA] at u4
    rw [eB] at v4
    simp only [hmB,q1,cond_false,i1,d0le,dlt (show m+1 < m+2 by omega),Bool.and_self,cond_true,tn,hh1,e203,Option.bind_some,u1,v1,zbx (n:=v0.length) (by omega),zbt v2]
    have hbl:4294967296 ^ (m+1)≤nv b:=by
      refine Nat.not_lt.1 fun hc=>?_
      have:=(hBl (m+1)).2 hc
      omega
    have hbu:nv b < 2 ^ L * 4294967296 ^ (m+1):=by
      have g:=zfb hB (m+1)
      rw [hh1,eB] at g
      have hlt2:=(hBl (m+2)).1 (by omega)
      have hd:nv b / 4294967296 ^ (m+1) < 4294967296:=Nat.div_lt_of_lt_mul (by rw [← Nat.pow_succ]; exact hlt2)
      rw [Nat.mod_eq_of_lt hd] at g
      have:nv b / 4294967296 ^ (m+1) < 2 ^ L:=by omega
      exact (Nat.div_lt_iff_lt_mul (zoq _)).1 this
    have hvu:nv v0 < 4294967296 ^ (m+2):=by
      have e:4294967296 ^ (m+2)=2 ^ L * 4294967296 ^ (m+1) * 2 ^ n:=by
        rw [show m+2=(m+1)+1 by omega,Nat.pow_succ,Nat.mul_right_comm,hpow,Nat.mul_comm]
      rw [v4,e]
      exact Nat.mul_lt_mul_of_pos_right hbu hT0
    have hvl:4294967296 ^ (m+1)≤nv v0:=by
      rw [v4]
      exact Nat.le_trans hbl (Nat.le_mul_of_pos_right _ hT0)
    have hV:=zai (nv v0)
    have eV:=zao (nv v0)
    have hVlen:(zak (nv v0)).length=m+2:=by
      have r1:=(zat (nv v0) (m+2)).2 hvu
      have r2:¬ (zak (nv v0)).length≤m+1:=fun hc=>by
        have:=(zat (nv v0) (m+1)).1 hc
        omega
      omega
    obtain ⟨hv,w1,w2,_⟩:=zot (zjb (nv v0)) (m:=m+1) hVlen
    obtain ⟨k,hk⟩:∃ k,A.length=k+(m+1):=⟨A.length - (m+1),by omega⟩
    have hal:nv a < 4294967296 ^ (k+(m+1)):=(hAl _).1 (by omega)
    have hkey:nv u < nv (zak (nv v0)) * 4294967296 ^ k:=by
      rw [eV,u4,v4,Nat.mul_right_comm]
      refine Nat.mul_lt_mul_of_pos_right ?_ hT0
      rw [Nat.pow_add,Nat.mul_comm] at hal
      exact Nat.lt_of_lt_of_le hal (Nat.mul_le_mul_right _ hbl)
    obtain ⟨q,r,z1,z2,z3,z4,z5,z6,z7⟩:=d205_eq u2 hV hVlen (k:=k) (by omega) (by omega) (by omega) hkey
    rw [eV,u4,v4,Nat.mul_div_mul_right _ _ hT0] at z6
    rw [eV,u4,v4,Nat.mul_mod_mul_right] at z7
    obtain ⟨o,o1,o2,o3,o4⟩:=d206_eq z3 (by omega) hn
    rw [z7,Nat.mul_div_cancel _ hT0] at o4
    simp only [z1,Option.bind_some,zge z2 (show q.length≤4294967296 by omega),z6,o1,zge o2 (show o.length≤4294967296 by omega),o4]
theorem d169_eq {a b:List Int} (ha:IsL a) (hb:IsL b) (la:a.length≤1073741823) (lb:b.length≤1073741823):d169 a b=some (zak (Nat.gcd (nv a) (nv b))):=by
  unfold d169
  rw [zge ha (by omega),zge hb (by omega)]
  simp only [Option.bind_some]
  have hla:=zbh ha
  have hlb:=zbh hb
  refine zes (Q:=fun r=>r=some (zak (Nat.gcd (nv a) (nv b)))) (fun (M:Nat) (st:(List Int) × (List Int))=>∃ x:Nat,st=(zak x,zak M)∧(zak x).length≤1073741823∧(zak M).length≤1073741823∧Nat.gcd x M=Nat.gcd (nv a) (nv b)) (nv b) ⟨nv a,rfl,by omega,by omega,rfl⟩ ?_
  rintro M st ⟨x,rfl,h1,h2,h3⟩
  rcases Nat.eq_zero_or_pos M with h0 | h0
  · subst h0
    refine .inr ⟨zak x,by simp [zbv],?_⟩
    rw [Nat.gcd_zero_right] at h3
    rw [h3]
  · have hp:=zga.2 h0
    have hd:=d170_eq (zai x) (zai M) h1 h2 (by rw [zao]; omega)
    rw [zao,zao] at hd
    refine .inl ⟨(zak M,zak (x % M)),x % M,?_,Nat.mod_lt _ h0,M,rfl,h2,?_,?_⟩
    · rw [show decide ((0:Int) < ((zak M).length:Int))=true from decide_eq_true (by omega),cond_true,hd]; rfl
    · have:=zdn (Nat.le_of_lt (Nat.mod_lt x h0)); omega
    · rw [← h3,Nat.gcd_comm x M,Nat.gcd_rec M x,Nat.gcd_comm]
theorem d167_eq {a:List Int} (ha:IsL a) (la:a.length≤1073741824):∃ k:Int,d167 a=some k∧decide (k=0)=decide (nv a=0):=by
  unfold d167
  rw [zbx (by omega)]
  simp only [cond_true,Option.bind_some,zbt ha]
  have hla:=zbh ha
  have hNA:=zjb (nv a)
  have hp:=@zga (nv a)
  generalize hyA:zak (nv a)=A at *
  rcases Nat.eq_zero_or_pos A.length with h0 | h0
  · refine ⟨0,by rw [decide_eq_true (show (A.length:Int)=0 by omega)]; rfl,?_⟩
    rw [decide_eq_true rfl,decide_eq_true (show nv a=0 by omega)]
  · obtain ⟨m,hm⟩:∃ m,A.length=m+1:=⟨A.length - 1,by omega⟩
    obtain ⟨h,hh1,hh2,hh3⟩:=zot hNA hm
    obtain ⟨L,hL0,hL1,hL2,hL3⟩:=d200_eq hh2 hh3
    have i1:w (((m+1:Nat):Int) - 1)=(m:Int):=wpred (by omega)
    have i2:w (32 * (m:Int))=32 * (m:Int):=zbr (by omega) (by omega)
    have i3:w (32 * (m:Int)+(L:Int))=32 * (m:Int)+L:=zbr (by omega) (by omega)
    refine ⟨32 * (m:Int)+L,?_,?_⟩
    · rw [hm,decide_eq_false (show ¬ (((m+1:Nat):Int)=0) by omega)]
      simp only [cond_false,i1,d0le,dlt (show m < m+1 by omega),Bool.and_self,cond_true,tn,hh1,hL0,Option.bind_some,i2,i3]
    · rw [decide_eq_false (by omega),decide_eq_false (by omega)]
end Go.Proofs.YtmipjomnjkmdbaaGreat
set_option linter.unusedSimpArgs false
set_option linter.unusedVariables false
namespace Go.Proofs.YtmipjomnjkmdbaaGreat
open Go Go.X
abbrev Rt:=Bool × (List Int × List Int)
def sgnN (neg:Bool) (n:Nat):Int:=if neg then -(n:Int) else n
theorem sgnN_abs (neg:Bool) (n:Nat):(sgnN neg n).natAbs=n:=by unfold sgnN; split <;> simp
theorem sgnN_zero (neg:Bool):sgnN neg 0=0:=by cases neg <;> rfl
theorem sgnN_not (neg:Bool) (n:Nat):sgnN (!neg) n=- sgnN neg n:=by cases neg <;> simp [sgnN]
def rv (r:Rt):Rat:=mkRat (sgnN r.1 (nv r.2.1)) (nv r.2.2)
def rr (q:Rat):Rt:=(decide (q.num < 0),zak q.num.natAbs,zak q.den)
def RtOK (r:Rt):Prop:=IsL r.2.1∧IsL r.2.2
theorem rr_ok (q:Rat):RtOK (rr q):=⟨zai _,zai _⟩
theorem zpa (q:Rat):sgnN (decide (q.num < 0)) q.num.natAbs=q.num:=by
  unfold sgnN
  by_cases h:q.num < 0
  · simp only [h,decide_true,if_true]; omega
  · simp only [h,decide_false]; simp; omega
theorem zni (q:Rat):rv (rr q)=q:=by
  unfold rv rr
  simp only [zao,zpa,Rat.mkRat_self]
theorem rr_inj {p q:Rat} (h:rr p=rr q):p=q:=by rw [← zni p,h,zni]
theorem zpd:rr 0=(false,[],[1]):=by
  unfold rr
  simp only [Rat.zero_num,Rat.zero_den]
  rw [zfh (n:=1) (by omega)]
  simp [zbv]
theorem rr_make (neg:Bool) {a b:Nat} (ha:a ≠ 0) (hb:b ≠ 0):rr (mkRat (sgnN neg a) b)=(neg,zak (a / Nat.gcd a b),zak (b / Nat.gcd a b)):=by
  unfold rr
  rw [Rat.num_mkRat,Rat.den_mkRat,if_neg hb,if_neg hb,sgnN_abs,Nat.gcd_comm b a]
  obtain ⟨g,hg⟩:∃ g,Nat.gcd a b=g:=⟨_,rfl⟩
  have hd:g ∣ a:=by rw [← hg]; exact Nat.gcd_dvd_left a b
  have hgp:0 < g:=by rw [← hg]; exact Nat.gcd_pos_of_pos_left b (Nat.pos_of_ne_zero ha)
  rw [hg]
  obtain ⟨c,rfl⟩:=hd
  have hc:0 < c:=Nat.pos_of_ne_zero fun e=>ha (by rw [e,Nat.mul_zero])
  rw [Nat.mul_div_cancel_left c hgp]
  have h1:sgnN neg (g * c) / (g:Int)=sgnN neg c:=by
    unfold sgnN
    cases neg
    · simp only [Bool.false_eq_true,if_false,Int.natCast_mul]
      exact Int.mul_ediv_cancel_left _ (by omega)
    · simp only [if_true,Int.natCast_mul]
      rw [← Int.mul_neg]
      exact Int.mul_ediv_cancel_left _ (by omega)
  rw [h1,sgnN_abs]
  have h2:decide (sgnN neg c < 0)=neg:=by
    unfold sgnN
    cases neg
    · simp
    · simp; omega
  rw [h2]
theorem zjm (q:Rat):(rr q).2.1=[]↔q=0:=by
  unfold rr
  rw [limbs_nil,Int.natAbs_eq_zero,Rat.num_eq_zero]
theorem rr_neg (q:Rat):(rr q).1=decide (q < 0):=by
  unfold rr
  have:q.num < 0↔q < 0:=by
    have h:=Rat.num_nonneg (q:=q)
    rw [← Rat.not_le,← h]; omega
  simp only [this]
theorem sgnN_mul (x y:Bool) (a b:Nat):sgnN (!(x == y)) (a * b)=sgnN x a * sgnN y b:=by
  unfold sgnN
  cases x <;> cases y <;> simp [Int.natCast_mul,Int.neg_mul,Int.mul_neg]
def Sz (k:Nat) (r:Rt):Prop:=r.2.1.length≤k∧r.2.2.length≤k
theorem d168_eq:d168=some (rr 0):=by
  unfold d168
  rw [zmx (by omega) (by omega),zpd,show (1:Int).toNat=1 from rfl,zfh (n:=1) (by omega)]
  simp [zbv]
theorem zmy (neg:Bool) {a b:List Int} (ha:IsL a) (hb:IsL b) (la:a.length≤1073741823) (lb:b.length≤1073741823):d127 neg a b=some (rr (mkRat (sgnN neg (nv a)) (nv b))):=by
  unfold d127
  obtain ⟨k,k1,k2⟩:=d167_eq ha (by omega)
  obtain ⟨l,l1,l2⟩:=d167_eq hb (by omega)
  rw [zay,k1,l1]
  simp only [Option.bind_some,k2,l2]
  by_cases ha0:nv a=0
  · rw [ha0,decide_eq_true rfl]
    simp only [Bool.not_true,cond_false,cond_true,d168_eq,sgnN_zero,Rat.zero_mkRat,Option.bind_some]
  · rw [decide_eq_false ha0]
    by_cases hb0:nv b=0
    · rw [hb0,decide_eq_true rfl,Rat.mkRat_zero]
      simp only [Bool.not_false,cond_true,d168_eq,Option.bind_some]
    · rw [decide_eq_false hb0,rr_make neg ha0 hb0]
      have hg:Nat.gcd (nv a) (nv b) ≠ 0:=fun e=>ha0 (Nat.eq_zero_of_gcd_eq_zero_left e)
      have hgl:(zak (Nat.gcd (nv a) (nv b))).length≤1073741823:=by
        have:=zdn (Nat.le_of_dvd (Nat.pos_of_ne_zero ha0) (Nat.gcd_dvd_left (nv a) (nv b)))
        have:=zbh ha
        omega
      have e1:=d170_eq ha (zai (Nat.gcd (nv a) (nv b))) la hgl (by rw [zao]; exact hg)
      have e2:=d170_eq hb (zai (Nat.gcd (nv a) (nv b))) lb hgl (by rw [zao]; exact hg)
      rw [zao] at e1 e2
      simp only [Bool.not_false,cond_true,cond_false,d169_eq ha hb la lb,e1,e2,Option.bind_some]
theorem rr_len (neg:Bool) (a b:Nat):(rr (mkRat (sgnN neg a) b)).2.1.length≤(zak a).length∧(rr (mkRat (sgnN neg a) b)).2.2.length≤max 1 (zak b).length:=by
  by_cases ha:a=0
  · subst ha
    rw [sgnN_zero,Rat.zero_mkRat,zpd]
    exact ⟨Nat.zero_le _,Nat.le_max_left _ _⟩
  · by_cases hb:b=0
    · subst hb
      rw [Rat.mkRat_zero,zpd]
      exact ⟨Nat.zero_le _,Nat.le_max_left _ _⟩
    · rw [rr_make neg ha hb]
      exact ⟨zdn (Nat.div_le_self _ _),Nat.le_trans (zdn (Nat.div_le_self _ _)) (Nat.le_max_right _ _)⟩
theorem rr_sz {r:Rt} (h:RtOK r) {k:Nat} (hk:Sz k r) (h1:1≤k):Sz k (rr (rv r)):=by
  obtain ⟨q1,q2⟩:=rr_len r.1 (nv r.2.1) (nv r.2.2)
  have:=zbh h.1
  have:=zbh h.2
  have:=hk.1
  have:=hk.2
  exact ⟨by show (rr (mkRat _ _)).2.1.length≤_; omega,by show (rr (mkRat _ _)).2.2.length≤_; omega⟩
theorem zgx {r:Rt} (h:RtOK r) (hk:Sz 1073741823 r):d175 r=some (rr (rv r)):=by
  unfold d175
  rw [zmy r.1 h.1 h.2 hk.1 hk.2]; rfl
theorem zcc (a b:Nat):(zak (a * b)).length≤(zak a).length+(zak b).length:=by
  rw [zat,Nat.pow_add]
  exact Nat.mul_lt_mul'' ((zat a _).1 (Nat.le_refl _)) ((zat b _).1 (Nat.le_refl _))
theorem zpq (a b:Nat):(zak (a+b)).length≤max (zak a).length (zak b).length+1:=by
  rw [zat,Nat.pow_succ]
  have h1:=(zat a (max (zak a).length (zak b).length)).1 (Nat.le_max_left _ _)
  have h2:=(zat b (max (zak a).length (zak b).length)).1 (Nat.le_max_right _ _)
  omega
theorem sum_eq (s t:Bool) {a b:Nat} (la:(zak a).length≤1073741823) (lb:(zak b).length≤1073741823):∃ (u:Bool) (c:Nat),d176 s (zak a) t (zak b)=some (u,zak c)∧sgnN u c=sgnN s a+sgnN t b∧c≤a+b:=by
  unfold d176
  have hA:=zai a
  have hB:=zai b
  by_cases h:s=t
  · subst h
    rw [d209_eq hA hB (by omega) (by omega),zao,zao]
    refine ⟨s,a+b,by simp,?_,Nat.le_refl _⟩
    unfold sgnN; split <;> omega
  · rw [beq_eq_false_iff_ne.2 h,d210_eq hA hB (by omega) (by omega),d210_eq hB hA (by omega) (by omega),zao,zao]
    simp only [cond_false,Option.bind_some]
    by_cases hlt:a < b
    · rw [if_pos hlt,if_neg (by omega)]
      refine ⟨t,b - a,rfl,?_,by omega⟩
      unfold sgnN
      cases s <;> cases t <;> simp at h ⊢ <;> omega
    · rw [if_neg hlt]
      refine ⟨s,a - b,rfl,?_,by omega⟩
      unfold sgnN
      cases s <;> cases t <;> simp at h ⊢ <;> omega
theorem add_mk {x y:Rat}:mkRat (x.num * y.den+y.num * x.den) (x.den * y.den)=x+y:=by
  have:=Rat.mkRat_add_mkRat x.num y.num x.den_nz y.den_nz
  rw [Rat.mkRat_self,Rat.mkRat_self] at this
  exact this.symm
theorem zlu (x:Rat) (d:Nat):sgnN (decide (x.num < 0)) (x.num.natAbs * d)=x.num * d:=by
  have h:=zpa x
  unfold sgnN at h ⊢
  split
  · rename_i h1
    rw [if_pos h1] at h
    rw [← h]
    simp [Int.neg_mul]
  · rename_i h1
    rw [if_neg h1] at h
    rw [← h]
    simp
theorem d138_rr {x y:Rat} (hx:Sz 268435456 (rr x)) (hy:Sz 268435456 (rr y)):d138 (rr x) (rr y)=some (rr (x+y)):=by
  unfold d138
  rw [zgx (rr_ok x) ⟨by have:=hx.1; omega,by have:=hx.2; omega⟩,zgx (rr_ok y) ⟨by have:=hy.1; omega,by have:=hy.2; omega⟩,zni,zni]
  simp only [Option.bind_some]
  obtain ⟨a1,a2⟩:=hx
  obtain ⟨b1,b2⟩:=hy
  simp only [rr] at a1 a2 b1 b2 ⊢
  rw [zhw (zai _) (zai _) (by omega) (by omega),zhw (zai _) (zai _) (by omega) (by omega),zhw (zai _) (zai _) (by omega) (by omega)]
  simp only [Option.bind_some,zao]
  have m1:=zcc x.num.natAbs y.den
  have m2:=zcc y.num.natAbs x.den
  have m3:=zcc x.den y.den
  obtain ⟨u,c,e1,e2,e3⟩:=sum_eq (decide (x.num < 0)) (decide (y.num < 0)) (a:=x.num.natAbs * y.den) (b:=y.num.natAbs * x.den) (by omega) (by omega)
  have m4:=zpq (x.num.natAbs * y.den) (y.num.natAbs * x.den)
  have m5:=zdn e3
  rw [e1]
  simp only [Option.bind_some]
  rw [zmy u (zai c) (zai _) (by omega) (by omega),zao,zao,e2,zlu,zlu,add_mk]
  rfl
theorem rv_not (r:Rt):rv (!r.1,r.2)=- rv r:=by
  unfold rv
  rw [sgnN_not,Rat.neg_mkRat]
theorem d138_gen {a b:Rt} (ha:RtOK a) (hb:RtOK b) (ka:Sz 268435456 a) (kb:Sz 268435456 b):d138 a b=some (rr (rv a+rv b)):=by
  have ha':=rr_sz ha ka (by omega)
  have hb':=rr_sz hb kb (by omega)
  rw [← d138_rr ha' hb']
  unfold d138
  rw [zgx ha ⟨by have:=ka.1; omega,by have:=ka.2; omega⟩,zgx hb ⟨by have:=kb.1; omega,by have:=kb.2; omega⟩,zgx (rr_ok _) ⟨by have:=ha'.1; omega,by have:=ha'.2; omega⟩,zgx (rr_ok _) ⟨by have:=hb'.1; omega,by have:=hb'.2; omega⟩,zni,zni]
theorem zmw {x y:Rat} (hx:Sz 268435456 (rr x)) (hy:Sz 268435456 (rr y)):d132 (rr x) (rr y)=some (rr (x - y)):=by
  unfold d132
  rw [d138_gen (rr_ok x) (b:=(!(rr y).1,(rr y).2)) (rr_ok y) hx hy,rv_not,zni,zni,Rat.sub_eq_add_neg]
  rfl
def cmpQ (x y:Rat):Int:=if x < y then -1 else if x=y then 0 else 1
theorem zkf {x y:Rat}:x - y=0↔x=y:=by
  constructor
  · intro h; grind
  · intro h; grind
theorem zlp {x y:Rat}:x - y < 0↔x < y:=by
  constructor
  · intro h; grind
  · intro h; grind
theorem d137_rr {x y:Rat} (hx:Sz 268435456 (rr x)) (hy:Sz 268435456 (rr y)):d137 (rr x) (rr y)=some (cmpQ x y):=by
  unfold d137
  rw [zmw hx hy]
  simp only [Option.bind_some]
  rw [rr_neg]
  unfold cmpQ
  by_cases h:x < y
  · rw [decide_eq_true (zlp.2 h),if_pos h]; rfl
  · rw [decide_eq_false (fun hc=>h (zlp.1 hc)),if_neg h]
    by_cases h2:x=y
    · rw [if_pos h2,(zjm (x - y)).2 (zkf.2 h2)]; rfl
    · have:(rr (x - y)).2.1 ≠ []:=fun hc=>h2 (zkf.1 ((zjm _).1 hc))
      have:=List.length_pos_iff.2 this
      rw [if_neg h2,decide_eq_false (by omega)]; rfl
theorem mul_mk {x y:Rat}:mkRat (x.num * y.num) (x.den * y.den)=x * y:=by
  have:=Rat.mkRat_mul_mkRat x.num y.num x.den y.den
  rw [Rat.mkRat_self,Rat.mkRat_self] at this
  exact this.symm
theorem sgn_prod (x y:Rat):sgnN (!(decide (x.num < 0) == decide (y.num < 0))) (x.num.natAbs * y.num.natAbs)=x.num * y.num:=by
  rw [sgnN_mul,zpa,zpa]
theorem d172_rr {x y:Rat} (hx:Sz 268435456 (rr x)) (hy:Sz 268435456 (rr y)):d172 (rr x) (rr y)=some (rr (x * y)):=by
  unfold d172
  obtain ⟨a1,a2⟩:=hx
  obtain ⟨b1,b2⟩:=hy
  simp only [rr] at a1 a2 b1 b2 ⊢
  rw [zhw (zai _) (zai _) (by omega) (by omega),zhw (zai _) (zai _) (by omega) (by omega)]
  simp only [Option.bind_some,zao]
  have m1:=zcc x.num.natAbs y.num.natAbs
  have m3:=zcc x.den y.den
  rw [zmy _ (zai _) (zai _) (by omega) (by omega),zao,zao,sgn_prod,mul_mk]
  rfl
theorem num_pos' {y:Rat} (h:0 < y):0 < y.num:=by
  have h1:=(Rat.num_nonneg (q:=y)).2 (Rat.le_of_lt h)
  have h2:y.num ≠ 0:=fun e=>by
    rw [Rat.num_eq_zero] at e
    rw [e] at h
    exact absurd h (by decide)
  omega
theorem div_mk {x y:Rat} (hy:0 < y):mkRat (x.num * y.den) (x.den * y.num.natAbs)=x / y:=by
  have hn:0 < y.num:=num_pos' hy
  have e1:mkRat (x.num * y.den) (x.den * y.num.natAbs) * y=x:=by
    conv=>lhs; rhs; rw [← Rat.mkRat_self y]
    rw [Rat.mkRat_mul_mkRat]
    conv=>rhs; rw [← Rat.mkRat_self x]
    have h0:x.den * y.num.natAbs * y.den ≠ 0:=Nat.mul_ne_zero (Nat.mul_ne_zero x.den_nz (by omega)) y.den_nz
    rw [Rat.mkRat_eq_iff h0 x.den_nz]
    have:((y.num.natAbs:Nat):Int)=y.num:=by omega
    simp only [Int.natCast_mul,this]
    grind
  have hy0:y ≠ 0:=by intro h; rw [h] at hy; exact absurd hy (by decide)
  generalize mkRat (x.num * y.den) (x.den * y.num.natAbs)=z at e1 ⊢
  rw [← e1,Rat.mul_div_cancel hy0]
theorem d179_rr {x y:Rat} (hx:Sz 268435456 (rr x)) (hy:Sz 268435456 (rr y)) (hp:0 < y):d179 (rr x) (rr y)=some (rr (x / y),true):=by
  unfold d179
  rw [zgx (rr_ok x) ⟨by have:=hx.1; omega,by have:=hx.2; omega⟩,zgx (rr_ok y) ⟨by have:=hy.1; omega,by have:=hy.2; omega⟩,zni,zni]
  simp only [Option.bind_some]
  have hy0:y ≠ 0:=by intro h; rw [h] at hp; exact absurd hp (by decide)
  have hnn:(rr y).2.1 ≠ []:=fun hc=>hy0 ((zjm _).1 hc)
  have:=List.length_pos_iff.2 hnn
  rw [decide_eq_false (by omega)]
  obtain ⟨a1,a2⟩:=hx
  obtain ⟨b1,b2⟩:=hy
  have hn:0 < y.num:=num_pos' hp
  simp only [rr,cond_false] at a1 a2 b1 b2 ⊢
  rw [zhw (zai _) (zai _) (by omega) (by omega),zhw (zai _) (zai _) (by omega) (by omega)]
  simp only [Option.bind_some,zao]
  have m1:=zcc x.num.natAbs y.den
  have m3:=zcc x.den y.num.natAbs
  rw [zmy _ (zai _) (zai _) (by omega) (by omega),zao,zao]
  have hs:(!(decide (x.num < 0) == decide (y.num < 0)))=decide (x.num < 0):=by
    rw [decide_eq_false (show ¬ y.num < 0 by omega)]
    cases decide (x.num < 0) <;> rfl
  rw [hs,zlu,div_mk hp]
  rfl
theorem d128_eq {n:Int} (h0:-9223372036854775807≤n) (h1:n≤9223372036854775807):d128 n=some (zak n.natAbs):=by
  unfold d128
  by_cases h:n < 0
  · have e:wu64 (0 - wu64 n)=-n:=by
      rw [wu64_mod,wu64_mod]; omega
    rw [decide_eq_true h,cond_true,e,zmx (by omega) (by omega),show (-n).toNat=n.natAbs by omega]; rfl
  · rw [decide_eq_false h,cond_false,zbj (by omega) (by omega),zmx (by omega) (by omega),show n.toNat=n.natAbs by omega]; rfl
theorem mk_int (n:Int):mkRat (sgnN (decide (n < 0)) n.natAbs) 1=(n:Rat):=by
  have:sgnN (decide (n < 0)) n.natAbs=n:=by
    unfold sgnN
    by_cases h:n < 0
    · simp only [h,decide_true,if_true]; omega
    · simp only [h,decide_false]; simp; omega
  rw [this,Rat.mkRat_one]
theorem zhs {n:Nat} (h:n < 18446744073709551616):(zak n).length≤2:=(zat n 2).2 h
theorem zoh {n:Int} (h0:-9223372036854775807≤n) (h1:n≤9223372036854775807):d68 n=some (rr (n:Rat)):=by
  unfold d68
  have:=zhs (n:=n.natAbs) (by omega)
  have:=zhs (n:=1) (by omega)
  rw [d128_eq h0 h1,zmx (by omega) (by omega)]
  simp only [Option.bind_some,show (1:Int).toNat=1 from rfl]
  rw [zmy _ (zai _) (zai _) (by omega) (by omega),zao,zao,mk_int]
  rfl
end Go.Proofs.YtmipjomnjkmdbaaGreat
set_option linter.unusedSimpArgs false
set_option linter.unusedVariables false
namespace Go.Proofs.YtmipjomnjkmdbaaGreat
open Go Go.X
theorem P2_pos (i:Nat):0 < 2 ^ i:=Nat.pow_pos (by decide)
end Go.Proofs.YtmipjomnjkmdbaaGreat
set_option linter.unusedSimpArgs false
set_option linter.unusedVariables false
namespace Go.Proofs.YtmipjomnjkmdbaaGreat
open Go Go.X
theorem B_pow (i:Nat):4294967296 ^ i=2 ^ (32 * i):=by rw [Nat.pow_mul]
theorem tdivN (a b:Nat):Int.tdiv (a:Int) (b:Int)=((a / b:Nat):Int):=rfl
theorem tmodN (a b:Nat):Int.tmod (a:Int) (b:Int)=((a % b:Nat):Int):=rfl
def Bz (k:Nat) (q:Rat):Prop:=q.num.natAbs < 2 ^ k∧q.den < 2 ^ k
theorem Bz.sz {k:Nat} {q:Rat} (h:Bz (32 * k) q):Sz k (rr q):=by
  refine ⟨(zat _ _).2 ?_,(zat _ _).2 ?_⟩
  · rw [B_pow]; exact h.1
  · rw [B_pow]; exact h.2
theorem d96_eq (a b:List Int) (la:a.length≤4294967296):d96 a b=some (decide (a=b)):=by
  unfold d96
  by_cases hl:a.length=b.length
  · have e:decide ((a.length:Int)=(b.length:Int))=true:=decide_eq_true (by omega)
    simp only [e,Bool.not_true,cond_false]
    refine zes (Q:=fun r=>r=some (decide (a=b))) (fun (M:Nat) (st:(List Int) × (List Int) × Int)=>∃ i:Nat,st=(a,b,(i:Int))∧i+M=a.length∧a.take i=b.take i) a.length ⟨0,rfl,by omega,rfl⟩ ?_
    rintro M st ⟨i,rfl,hM,ht⟩
    rcases Nat.eq_zero_or_pos M with h0 | h0
    · refine .inr ⟨.inl (),by simp only [nlt (show a.length≤i by omega),cond_false],?_⟩
      rw [List.take_of_length_le (by omega),List.take_of_length_le (by omega)] at ht
      rw [decide_eq_true ht]
    · simp only [dlt (show i < a.length by omega),dlt (show i < b.length by omega),d0le,Bool.and_self,cond_true,tn]
      by_cases hg:a.getD i 0=b.getD i 0
      · rw [decide_eq_true hg,Bool.not_true,cond_false]
        refine .inl ⟨_,M - 1,rfl,by omega,i+1,by rw [zcb (by omega)],by omega,?_⟩
        rw [zie a (by omega),zie b (by omega),ht,hg]
      · rw [decide_eq_false hg,Bool.not_false,cond_true]
        refine .inr ⟨.inr false,rfl,?_⟩
        rw [decide_eq_false fun hc=>hg (by rw [hc])]
  · have e:decide ((a.length:Int)=(b.length:Int))=false:=decide_eq_false (by omega)
    simp only [e,Bool.not_false,cond_true]
    rw [decide_eq_false fun hc=>hl (by rw [hc])]
theorem d37_rr {x y:Rat} (hx:Sz 268435456 (rr x)):d37 (rr x) (rr y)=some (decide (x=y)):=by
  unfold d37
  rw [d96_eq _ _ (by have:=hx.1; omega),d96_eq _ _ (by have:=hx.2; omega)]
  simp only [Option.bind_some]
  by_cases h:x=y
  · subst h; simp
  · rw [decide_eq_false h]
    by_cases h1:(rr x).1=(rr y).1
    · rw [h1,BEq.rfl,cond_true]
      by_cases h2:(rr x).2.1=(rr y).2.1
      · rw [decide_eq_true h2,cond_true,decide_eq_false fun h3=>h (rr_inj (Prod.ext h1 (Prod.ext h2 h3)))]
      · rw [decide_eq_false h2,cond_false]
    · rw [beq_eq_false_iff_ne.2 h1,cond_false]
end Go.Proofs.YtmipjomnjkmdbaaGreat
set_option linter.unusedSimpArgs false
set_option linter.unusedVariables false
namespace Go.Proofs.YtmipjomnjkmdbaaGreat
open Go Go.X
def lst {α:Type} (f:Nat→α) (n:Nat):List α:=(List.range n).map f
theorem zaz {α:Type} (f:Nat→α) (n:Nat):(lst f n).length=n:=by simp [lst]
theorem zbi {α:Type} (f:Nat→α) {n i:Nat} (h:i < n) (d:α):(lst f n).getD i d=f i:=by
  simp [lst,List.getD_eq_getElem?_getD,List.getElem?_map,List.getElem?_range h]
theorem lst_get? {α:Type} (f:Nat→α) {n i:Nat} (h:i < n):(lst f n)[i]? = some (f i):=by
  simp [lst,List.getElem?_map,List.getElem?_range h]
theorem zhe {α:Type} (f:Nat→α) (n:Nat):lst f (n+1)=lst f n++[f n]:=by simp [lst,List.range_succ]
theorem zcd {α:Type} {f g:Nat→α} {n:Nat} (h:∀ i,i < n→f i=g i):lst f n=lst g n:=by
  unfold lst
  exact List.map_congr_left fun i hi=>h i (List.mem_range.1 hi)
def upd {α:Type} (f:Nat→α) (i:Nat) (x:α):Nat→α:=fun j=>if j=i then x else f j
theorem zcg {α:Type} (f:Nat→α) (i:Nat) (x:α):upd f i x i=x:=if_pos rfl
theorem zet {α:Type} (f:Nat→α) {i j:Nat} (x:α) (h:j ≠ i):upd f i x j=f j:=if_neg h
theorem zgt {α:Type} (f:Nat→α) (n i:Nat) (x:α):(lst f n).set i x=lst (upd f i x) n:=by
  refine List.ext_getElem? fun j=>?_
  by_cases hj:j < n
  · rw [lst_get? _ hj]
    by_cases h:i=j
    · subst h
      rw [List.getElem?_set_self (by rw [zaz]; exact hj),zcg]
    · rw [List.getElem?_set_ne h,lst_get? _ hj,zet _ _ (fun e=>h e.symm)]
  · rw [List.getElem?_eq_none (by rw [List.length_set,zaz]; omega),List.getElem?_eq_none (by rw [zaz]; omega)]
theorem lst_map {α β:Type} (f:Nat→α) (g:α→β) (n:Nat):(lst f n).map g=lst (fun i=>g (f i)) n:=by simp [lst]
theorem lst_rep {α:Type} (x:α) (n:Nat):List.replicate n x=lst (fun _=>x) n:=by
  induction n with
  | zero=>rfl
  | succ n ih=>rw [zhe,List.replicate_succ',ih]
theorem mem_lst {α:Type} {f:Nat→α} {n:Nat} {x:α}:x∈lst f n↔∃ i,i < n∧f i=x:=by simp [lst]
def sumN (f:Nat→Nat):Nat→Nat
  | 0=>0
  | n+1=>sumN f n+f n
theorem zaw {f g:Nat→Nat}:∀ {n:Nat},(∀ i,i < n→f i=g i)→sumN f n=sumN g n
  | 0,_=>rfl
  | n+1,h=>by rw [sumN,sumN,zaw fun i hi=>h i (by omega),h n (by omega)]
theorem zji {f g:Nat→Nat}:∀ {n:Nat},(∀ i,i < n→f i≤g i)→sumN f n≤sumN g n
  | 0,_=>Nat.le_refl _
  | n+1,h=>Nat.add_le_add (zji fun i hi=>h i (by omega)) (h n (by omega))
theorem zcq (f g:Nat→Nat):∀ n:Nat,sumN (fun i=>f i+g i) n=sumN f n+sumN g n
  | 0=>rfl
  | n+1=>by rw [sumN,sumN,sumN,zcq f g n]; omega
theorem zkt (f:Nat→Nat) (c:Nat):∀ n:Nat,sumN (fun i=>f i * c) n=sumN f n * c
  | 0=>by rw [sumN,sumN,Nat.zero_mul]
  | n+1=>by rw [sumN,sumN,zkt f c n,Nat.add_mul]
theorem zde:∀ n:Nat,sumN (fun _=>0) n=0
  | 0=>rfl
  | n+1=>by rw [sumN,zde n]
theorem sumN_swap (f:Nat→Nat→Nat) (n:Nat):∀ m:Nat,sumN (fun i=>sumN (f i) n) m=sumN (fun j=>sumN (fun i=>f i j) m) n
  | 0=>by simp only [sumN,zde]
  | m+1=>by
    simp only [sumN]
    rw [sumN_swap f n m,← zcq]
theorem sumN_one (c v:Nat):∀ n:Nat,sumN (fun i=>if i=c then v else 0) n=if c < n then v else 0
  | 0=>rfl
  | n+1=>by
    rw [sumN,sumN_one c v n]
    by_cases h:c < n
    · rw [if_pos h,if_neg (show n ≠ c by omega),if_pos (show c < n+1 by omega)]; rfl
    · rw [if_neg h]
      by_cases h2:n=c
      · rw [if_pos h2,if_pos (by omega)]; omega
      · rw [if_neg h2,if_neg (by omega)]
theorem sumN_ge {f:Nat→Nat} {n i:Nat} (h:i < n):f i≤sumN f n:=by
  induction n with
  | zero=>omega
  | succ n ih =>
    rw [sumN]
    by_cases h2:i=n
    · subst h2; omega
    · have:=ih (by omega); omega
theorem sumN_upd {f g:Nat→Nat} {n c:Nat} (hc:c < n) (h:∀ i,i < n→i ≠ c→f i=g i):sumN f n+g c=sumN g n+f c:=by
  induction n with
  | zero=>omega
  | succ n ih =>
    rw [sumN,sumN]
    by_cases h2:c=n
    · subst h2
      rw [zaw fun i hi=>h i (by omega) (by omega)]; omega
    · have:=ih (by omega) fun i hi hn=>h i (by omega) hn
      have:=h n (by omega) (by omega)
      omega
def selN (p:Nat→Bool) (n:Nat):List Nat:=(List.range n).filter p
def selI (p:Nat→Bool) (n:Nat):List Int:=(selN p n).map Int.ofNat
def cntN (p:Nat→Bool) (n:Nat):Nat:=sumN (fun i=>if p i then 1 else 0) n
theorem zlw (p:Nat→Bool) (n:Nat):selN p (n+1)=selN p n++(if p n then [n] else []):=by
  unfold selN
  rw [List.range_succ,List.filter_append]
  congr 1
  cases h:p n <;> simp [List.filter_cons,h]
theorem zfd (p:Nat→Bool) (n:Nat):selI p (n+1)=selI p n++(if p n then [(n:Int)] else []):=by
  unfold selI
  rw [zlw,List.map_append]
  congr 1
  cases h:p n <;> rfl
theorem zfv (p:Nat→Bool):∀ n:Nat,(selN p n).length=cntN p n
  | 0=>rfl
  | n+1=>by
    rw [zlw,List.length_append,zfv p n]
    show _=cntN p n+(if p n then 1 else 0)
    cases h:p n <;> rfl
theorem zbs (p:Nat→Bool) (n:Nat):(selI p n).length=cntN p n:=by rw [selI,List.length_map,zfv]
theorem zdh {p:Nat→Bool} {n i:Nat}:i∈selN p n↔i < n∧p i=true:=by
  unfold selN; rw [List.mem_filter,List.mem_range]
theorem zbk {p:Nat→Bool} {n:Nat} {x:Int}:x∈selI p n↔∃ i:Nat,x=(i:Int)∧i < n∧p i=true:=by
  unfold selI
  rw [List.mem_map]
  constructor
  · rintro ⟨i,h,rfl⟩; exact ⟨i,rfl,zdh.1 h⟩
  · rintro ⟨i,rfl,h⟩; exact ⟨i,zdh.2 h,rfl⟩
theorem selN_congr {p q:Nat→Bool} {n:Nat} (h:∀ i,i < n→p i=q i):selN p n=selN q n:=by
  unfold selN
  exact List.filter_congr fun i hi=>h i (List.mem_range.1 hi)
theorem zjl {p q:Nat→Bool} {n:Nat} (h:∀ i,i < n→p i=q i):selI p n=selI q n:=by
  unfold selI; rw [selN_congr h]
theorem zkb {p q:Nat→Bool} {n:Nat} (h:∀ i,i < n→p i=q i):cntN p n=cntN q n:=zaw fun i hi=>by rw [h i hi]
theorem zcf (p:Nat→Bool) (n:Nat):cntN p n≤n:=by
  rw [← zfv]
  unfold selN
  exact Nat.le_trans (List.length_filter_le _ _) (by simp)
theorem selN_filter (p q:Nat→Bool) (n:Nat):(selN p n).filter q=selN (fun i=>p i && q i) n:=by
  unfold selN
  rw [List.filter_filter]
  exact List.filter_congr fun i _=>by rw [Bool.and_comm]
def extr (least:Bool) (r:Int→Rat) (l:List Int):List Int:=l.filter fun i=>l.all fun k=>if least then decide (r i≤r k) else decide (r k≤r i)
def zbf (round:List Rat) (c:Int):Rat:=round.getD c.toNat 0
def zav (lots:List Int) (c:Int):Nat:=lots.idxOf c
def byLot (lots:List Int) (least:Bool) (l:List Int):Int:=l.tail.foldl (fun m c=>if least then (if zav lots m < zav lots c then c else m) else (if zav lots c < zav lots m then c else m)) (l.headD 0)
def zam (ties:Int) (earlier:List (List Rat)):List (List Rat):=if ties=3 then [] else if ties=1 then earlier.reverse else earlier
def tieL (least:Bool) (rounds:List (List Rat)) (tied:List Int):List Int:=rounds.foldl (fun l r=>if 1 < l.length then extr least (zbf r) l else l) tied
def tieB (ties:Int) (earlier:List (List Rat)) (tied lots:List Int) (least:Bool):Int :=
  let l:=tieL least (zam ties earlier) tied
  if l.length=1 then l.headD 0 else byLot lots least l
abbrev Gp:=List Int × Int
structure GP where
  gs:List Gp
  n:Nat
  seats:Nat
  q:Nat
  tot:Nat
  ties:Int
  lots:List Int
def GP.p (P:GP) (g:Nat):List Int:=(P.gs.getD g ([],0)).1
def GP.k (P:GP) (g:Nat):Nat:=(P.gs.getD g ([],0)).2.toNat
def GP.G (P:GP):Nat:=P.gs.length
structure GS where
  D:Nat
  num:Nat→Nat
  at_:Nat→Nat
  st:Nat→Nat
  keep:Nat→Rat
def GS.on (P:GP) (s:GS) (g c:Nat):Bool:=decide (s.at_ g < (P.p g).length) && decide ((P.p g).getD (s.at_ g) 0=(c:Int))
def GS.lie (P:GP) (s:GS) (c:Nat):Nat:=sumN (fun g=>if s.on P g c then P.k g * s.num g else 0) P.G
def GS.bar (P:GP) (s:GS):Nat:=P.q * s.D
def GS.vt (P:GP) (s:GS) (c:Nat):Nat:=if s.st c=2 then s.bar P else if s.st c=3 then 0 else s.lie P c
def GS.el1 (P:GP) (s:GS) (i:Nat):Bool:=decide (s.st i=0) && decide (s.bar P≤s.vt P i)
def GS.st1 (P:GP) (s:GS) (i:Nat):Nat:=if s.el1 P i then 1 else s.st i
def frac (a b:Nat):Rat:=(a:Rat) / (b:Rat)
structure Rd where
  votes:List Rat
  keep:List Rat
  quota:Rat
  exh:Rat
  sur:Rat
  el:List Int
  ex:List Int
  ti:List Int
def nxt (p:List Int) (st:Nat→Nat) (k:Nat):Nat:=k+((p.drop k).takeWhile fun c=>decide (st c.toNat ≠ 0)).length
def GS.move (P:GP) (s:GS) (st:Nat→Nat) (keep:Nat→Rat) (x a b:Nat):GS :=
  { D:=s.D * b,num:=fun g=>if s.on P g x then s.num g * a else s.num g * b,at_:=fun g=>if s.on P g x then nxt (P.p g) st (s.at_ g+1) else s.at_ g,st:=st,keep:=keep }
def zng (P:GP) (v:Nat→Nat) (st:Nat→Nat) (c:Nat) (most:Bool) (i:Nat):Bool:=decide (st i=c) && (List.range P.n).all fun k=>!decide (st k=c) || (if most then decide (v k≤v i) else decide (v i≤v k))
def GS.fin (P:GP) (s:GS):Bool:=decide (cntN (fun i=>decide (s.st1 P i=1)) P.n+cntN (fun i=>decide (s.st1 P i=2)) P.n=P.seats) || decide (cntN (fun i=>decide (s.st1 P i=1)) P.n+cntN (fun i=>decide (s.st1 P i=2)) P.n+cntN (fun i=>decide (s.st1 P i=0)) P.n≤P.seats)
def GS.most (P:GP) (s:GS):Bool:=decide (0 < cntN (fun i=>decide (s.st1 P i=1)) P.n)
def GS.tied (P:GP) (s:GS):List Int:=selI (zng P (s.vt P) (s.st1 P) (if s.most P then 1 else 0) (s.most P)) P.n
def GS.pick (P:GP) (earlier:List (List Rat)) (s:GS):Int:=if (s.tied P).length=1 then (s.tied P).headD 0 else tieB P.ties earlier (s.tied P) P.lots (!s.most P)
def GS.rd0 (P:GP) (s:GS):Rd :=
  { votes:=lst (fun i=>frac (s.vt P i) s.D) P.n
    keep:=lst s.keep P.n
    quota:=(P.q:Rat)
    exh:=frac (P.tot * s.D - sumN (s.vt P) P.n) s.D
    sur:=frac (sumN (fun i=>if s.st1 P i=1 then s.vt P i - s.bar P else 0) P.n) s.D
    el:=selI (s.el1 P) P.n
    ex:=[]
    ti:=[] }
def GS.done (P:GP) (s:GS):Rd:={ s.rd0 P with el:=if cntN (fun i=>decide (s.st1 P i=1)) P.n+cntN (fun i=>decide (s.st1 P i=2)) P.n < P.seats then selI (fun i=>s.el1 P i || decide (s.st1 P i=0)) P.n else selI (s.el1 P) P.n }
def GS.tiedR (P:GP) (s:GS):List Int:=if (s.tied P).length=1 then [] else s.tied P
def GS.trans (P:GP) (earlier:List (List Rat)) (s:GS):GS :=
  let x:=(s.pick P earlier).toNat
  s.move P (upd (s.st1 P) x 2) (upd s.keep x (frac (s.vt P x - s.bar P) (s.vt P x))) x (s.vt P x - s.bar P) (s.vt P x)
def GS.excl (P:GP) (earlier:List (List Rat)) (s:GS):GS :=
  let x:=(s.pick P earlier).toNat
  s.move P (upd (s.st1 P) x 3) (upd s.keep x 0) x 1 1
def gstep (P:GP) (earlier:List (List Rat)) (s:GS):Rd × Option GS :=
  if s.fin P then (s.done P,none)
  else if s.most P then ({ s.rd0 P with ti:=s.tiedR P },some (s.trans P earlier))
  else ({ s.rd0 P with ti:=s.tiedR P,ex:=[s.pick P earlier] },some (s.excl P earlier))
def grun (P:GP):Nat→List Rd→GS→List Rd
  | 0,rs,_=>rs
  | k+1,rs,s=>match gstep P (rs.map Rd.votes) s with
    | (r,none)=>rs++[r]
    | (r,some s')=>grun P k (rs++[r]) s'
def g0:GS:={ D:=1,num:=fun _=>1,at_:=fun _=>0,st:=fun _=>0,keep:=fun _=>1 }
def zbz (P:GP):List Rd:=grun P (P.n+1) [] g0
end Go.Proofs.YtmipjomnjkmdbaaGreat
set_option linter.unusedSimpArgs false
set_option linter.unusedVariables false
namespace Go.Proofs.YtmipjomnjkmdbaaGreat
open Go Go.X
theorem zey {α:Type} (f:α→Rat):∀ {l:List α},l ≠ []→∃ i∈l,∀ k∈l,f i≤f k
  | [],h=>absurd rfl h
  | [x],_=>⟨x,by simp,fun k hk=>by simp at hk; subst hk; exact Rat.le_refl⟩
  | x::y::l,_=>by
    obtain ⟨i,h1,h2⟩:=zey f (l:=y::l) (by simp)
    rcases Rat.le_total (a:=f x) (b:=f i) with h | h
    · refine ⟨x,by simp,fun k hk=>?_⟩
      rcases List.mem_cons.1 hk with rfl | hk
      · exact Rat.le_refl
      · exact Rat.le_trans h (h2 k hk)
    · refine ⟨i,List.mem_cons_of_mem _ h1,fun k hk=>?_⟩
      rcases List.mem_cons.1 hk with rfl | hk
      · exact h
      · exact h2 k hk
theorem zpx {α:Type} (f:α→Nat) {l:List α} (h:l ≠ []):∃ i∈l,∀ k∈l,f i≤f k:=by
  induction l with
  | nil=>exact absurd rfl h
  | cons x l ih =>
    by_cases hl:l=[]
    · subst hl; exact ⟨x,by simp,fun k hk=>by simp at hk; subst hk; exact Nat.le_refl _⟩
    · obtain ⟨i,h1,h2⟩:=ih hl
      by_cases hx:f x≤f i
      · refine ⟨x,by simp,fun k hk=>?_⟩
        rcases List.mem_cons.1 hk with rfl | hk
        · exact Nat.le_refl _
        · exact Nat.le_trans hx (h2 k hk)
      · refine ⟨i,List.mem_cons_of_mem _ h1,fun k hk=>?_⟩
        rcases List.mem_cons.1 hk with rfl | hk
        · omega
        · exact h2 k hk
theorem exists_mostN {α:Type} (f:α→Nat) {l:List α} (h:l ≠ []):∃ i∈l,∀ k∈l,f k≤f i:=by
  induction l with
  | nil=>exact absurd rfl h
  | cons x l ih =>
    by_cases hl:l=[]
    · subst hl; exact ⟨x,by simp,fun k hk=>by simp at hk; subst hk; exact Nat.le_refl _⟩
    · obtain ⟨i,h1,h2⟩:=ih hl
      by_cases hx:f i≤f x
      · refine ⟨x,by simp,fun k hk=>?_⟩
        rcases List.mem_cons.1 hk with rfl | hk
        · exact Nat.le_refl _
        · exact Nat.le_trans (h2 k hk) hx
      · refine ⟨i,List.mem_cons_of_mem _ h1,fun k hk=>?_⟩
        rcases List.mem_cons.1 hk with rfl | hk
        · omega
        · exact h2 k hk
theorem extr_ne {least:Bool} {r:Int→Rat} {l:List Int} (h:l ≠ []):extr least r l ≠ []:=by
  cases least
  · obtain ⟨i,h1,h2⟩:=zey (fun i=>- r i) h
    have:i∈extr false r l:=List.mem_filter.2 ⟨h1,List.all_eq_true.2 fun k hk=>by
      have:=h2 k hk
      simp only [Bool.false_eq_true,if_false,decide_eq_true_eq]
      grind⟩
    exact List.ne_nil_of_mem this
  · obtain ⟨i,h1,h2⟩:=zey r h
    have:i∈extr true r l:=List.mem_filter.2 ⟨h1,List.all_eq_true.2 fun k hk=>by
      simp only [if_true,decide_eq_true_eq]
      exact h2 k hk⟩
    exact List.ne_nil_of_mem this
theorem extr_sub {least:Bool} {r:Int→Rat} {l:List Int} {x:Int} (h:x∈extr least r l):x∈l:=(List.mem_filter.1 h).1
theorem zid:∀ {least:Bool} {rounds:List (List Rat)} {l:List Int} {x:Int},x∈tieL least rounds l→x∈l
  | _,[],_,_,h=>h
  | least,r::rounds,l,x,h=>by
    have h':x∈tieL least rounds (if 1 < l.length then extr least (zbf r) l else l):=h
    have:=zid h'
    split at this
    · exact extr_sub this
    · exact this
theorem zou:∀ {least:Bool} {rounds:List (List Rat)} {l:List Int},l ≠ []→tieL least rounds l ≠ []
  | _,[],_,h=>h
  | least,r::rounds,l,h=>by
    show tieL least rounds (if 1 < l.length then extr least (zbf r) l else l) ≠ []
    refine zou ?_
    split
    · exact extr_ne h
    · exact h
theorem ziu {α:Type} (f:α→α→α) (hf:∀ a b,f a b=a∨f a b=b):∀ (l:List α) (x:α),l.foldl f x=x∨l.foldl f x∈l
  | [],x=>.inl rfl
  | y::l,x=>by
    rw [List.foldl_cons]
    rcases ziu f hf l (f x y) with h | h
    · rw [h]
      rcases hf x y with h1 | h1
      · exact .inl h1
      · exact .inr (by rw [h1]; simp)
    · exact .inr (List.mem_cons_of_mem _ h)
theorem znc {lots:List Int} {least:Bool} {l:List Int} (h:l ≠ []):byLot lots least l∈l:=by
  cases l with
  | nil=>exact absurd rfl h
  | cons x l =>
    unfold byLot
    simp only [List.tail_cons,List.headD_cons]
    rcases ziu (fun m c=>if least then (if zav lots m < zav lots c then c else m) else (if zav lots c < zav lots m then c else m)) (fun a b=>by cases least <;> simp only [if_true,Bool.false_eq_true,if_false] <;> split <;> simp) l x with h | h
    · rw [h]; simp
    · exact List.mem_cons_of_mem _ h
theorem zgu {l:List Int} (h:l ≠ []):l.headD 0∈l:=by
  cases l with
  | nil=>exact absurd rfl h
  | cons x l=>simp
theorem tieB_mem {ties:Int} {earlier:List (List Rat)} {tied lots:List Int} {least:Bool} (h:tied ≠ []):tieB ties earlier tied lots least∈tied:=by
  unfold tieB
  have hn:=zou (least:=least) (rounds:=zam ties earlier) h
  simp only
  split
  · exact zid (zgu hn)
  · exact zid (znc hn)
theorem zkd {α:Type} (p:α→Bool):∀ l:List α,(l.takeWhile p).length≤l.length
  | []=>Nat.le_refl _
  | x::l=>by
    rw [List.takeWhile_cons]
    split
    · simp only [List.length_cons]; have:=zkd p l; omega
    · simp
theorem zke {α:Type} (p:α→Bool) (d:α):∀ l:List α,(l.takeWhile p).length < l.length→p (l.getD (l.takeWhile p).length d)=false
  | [],h=>by simp at h
  | x::l,h=>by
    rw [List.takeWhile_cons] at h ⊢
    split at h
    · rename_i hx
      rw [if_pos hx]
      simp only [List.length_cons,List.getD_cons_succ]
      exact zke p d l (by simpa using h)
    · rename_i hx
      rw [if_neg hx]
      simpa using hx
theorem zgi {α:Type} (p:α→Bool) (d:α):∀ (l:List α) (i:Nat),i < (l.takeWhile p).length→p (l.getD i d)=true
  | [],i,h=>by simp at h
  | x::l,i,h=>by
    rw [List.takeWhile_cons] at h
    split at h
    · rename_i hx
      cases i with
      | zero=>simpa using hx
      | succ i=>exact zgi p d l i (by simpa using h)
    · simp at h
theorem nxt_ge (p:List Int) (st:Nat→Nat) (k:Nat):k≤nxt p st k:=Nat.le_add_right _ _
theorem nxt_le {p:List Int} (st:Nat→Nat) {k:Nat} (h:k≤p.length):nxt p st k≤p.length:=by
  unfold nxt
  have:=zkd (fun c=>decide (st (Int.toNat c) ≠ 0)) (p.drop k)
  rw [List.length_drop] at this
  omega
theorem zir {α:Type} (l:List α) (k i:Nat) (d:α):(l.drop k).getD i d=l.getD (k+i) d:=by
  simp [List.getD_eq_getElem?_getD,List.getElem?_drop]
theorem nxt_at {p:List Int} {st:Nat→Nat} {k:Nat} (h:nxt p st k < p.length):st (p.getD (nxt p st k) 0).toNat=0:=by
  unfold nxt at h ⊢
  have:=zke (fun c=>decide (st (Int.toNat c) ≠ 0)) 0 (p.drop k) (by rw [List.length_drop]; omega)
  rw [zir] at this
  simpa using this
theorem nxt_before {p:List Int} {st:Nat→Nat} {k i:Nat} (h1:k≤i) (h2:i < nxt p st k):st (p.getD i 0).toNat ≠ 0:=by
  unfold nxt at h2
  have:=zgi (fun c=>decide (st (Int.toNat c) ≠ 0)) 0 (p.drop k) (i - k) (by omega)
  rw [zir,show k+(i - k)=i by omega] at this
  simpa using this
def GP.mkd (P:GP):Nat:=sumN (fun g=>if P.p g=[] then 0 else P.k g) P.G
structure GP.OK (P:GP):Prop where
  n1:1≤P.n
  n7:P.n≤7
  seats1:1≤P.seats
  seats5:P.seats≤5
  prefs:∀ g,g < P.G→∀ c∈P.p g,∃ i:Nat,c=(i:Int)∧i < P.n
  plen:∀ g,g < P.G→(P.p g).length≤7
  total:sumN P.k P.G=P.tot
  tot5:P.tot≤100000
  q1:1≤P.q
  q5:P.q≤100001
  quota:P.mkd < P.q * (P.seats+1)
  ties1:1≤P.ties
  ties3:P.ties≤3
  lotn:P.lots.length=P.n
  lots:∀ c∈P.lots,∃ i:Nat,c=(i:Int)∧i < P.n
  lotd:P.lots.Nodup
def GS.c2 (P:GP) (s:GS):Nat:=cntN (fun i=>decide (s.st i=2)) P.n
structure GI (P:GP) (s:GS):Prop where
  D0:0 < s.D
  Db:s.D≤2 ^ (17 * (2 ^ s.c2 P - 1))
  num:∀ g,g < P.G→s.num g≤s.D
  at_:∀ g,g < P.G→s.at_ g≤(P.p g).length
  lies:∀ g c,g < P.G→s.on P g c=true→s.st c=0∨s.st c=1
  st3:∀ c,s.st c≤3
  blank:∀ g,g < P.G→P.p g=[]→s.num g=s.D
  cons:sumN (fun g=>if P.p g=[] then 0 else P.k g * s.num g) P.G+s.bar P * s.c2 P=P.mkd * s.D
  pend:∀ c,c < P.n→s.st c=1→s.bar P≤s.lie P c
variable {P:GP} {s:GS}
theorem GS.on_lt {g c:Nat} (h:s.on P g c=true):s.at_ g < (P.p g).length:=by
  unfold GS.on at h
  rw [Bool.and_eq_true,decide_eq_true_eq] at h
  exact h.1
theorem GS.on_at {g c:Nat} (h:s.on P g c=true):(P.p g).getD (s.at_ g) 0=(c:Int):=by
  unfold GS.on at h
  rw [Bool.and_eq_true,decide_eq_true_eq,decide_eq_true_eq] at h
  exact h.2
theorem GS.on_uniq {g c d:Nat} (h:s.on P g c=true) (h':s.on P g d=true):c=d:=by
  have h1:=GS.on_at h
  have h2:=GS.on_at h'
  omega
theorem GS.on_ne {g c:Nat} (h:s.on P g c=true):P.p g ≠ []:=fun e=>by
  have:=GS.on_lt h
  rw [e] at this
  simp at this
theorem zdk {l:List Int} {i:Nat} (h:i < l.length):l.getD i 0∈l:=by
  rw [List.getD_eq_getElem?_getD,List.getElem?_eq_getElem h]
  exact List.getElem_mem h
theorem GS.on_ex (hP:P.OK) {g:Nat} (hg:g < P.G) (h:s.at_ g < (P.p g).length):∃ c,c < P.n∧s.on P g c=true:=by
  obtain ⟨i,h1,h2⟩:=hP.prefs g hg _ (zdk h)
  refine ⟨i,h2,?_⟩
  unfold GS.on
  rw [Bool.and_eq_true,decide_eq_true_eq,decide_eq_true_eq]
  exact ⟨h,h1⟩
theorem lie_sum (hP:P.OK):sumN (s.lie P) P.n=sumN (fun g=>if s.at_ g < (P.p g).length then P.k g * s.num g else 0) P.G:=by
  unfold GS.lie
  rw [sumN_swap (fun c g=>if s.on P g c then P.k g * s.num g else 0)]
  refine zaw fun g hg=>?_
  by_cases h:s.at_ g < (P.p g).length
  · obtain ⟨c,h1,h2⟩:=GS.on_ex hP hg h
    rw [if_pos h]
    have:sumN (fun i=>if s.on P g i then P.k g * s.num g else 0) P.n=sumN (fun i=>if i=c then P.k g * s.num g else 0) P.n:=zaw fun i hi=>by
      by_cases hic:i=c
      · subst hic; rw [if_pos h2,if_pos rfl]
      · rw [if_neg hic,if_neg fun h3=>hic (GS.on_uniq h3 h2)]
    rw [this,sumN_one,if_pos h1]
  · rw [if_neg h]
    refine (zaw fun i hi=>if_neg fun h3=>h (GS.on_lt h3)).trans (zde _)
theorem zny (hP:P.OK):sumN (s.lie P) P.n≤sumN (fun g=>if P.p g=[] then 0 else P.k g * s.num g) P.G:=by
  rw [lie_sum hP]
  refine zji fun g hg=>?_
  by_cases h:P.p g=[]
  · rw [if_neg (by rw [h]; simp),if_pos h]; exact Nat.le_refl _
  · rw [if_neg h]
    split
    · exact Nat.le_refl _
    · exact Nat.zero_le _
theorem zpr (hI:GI P s) {c:Nat} (h:s.st c=2∨s.st c=3):s.lie P c=0:=by
  unfold GS.lie
  refine (zaw fun g hg=>if_neg fun h3=>?_).trans (zde _)
  have:=hI.lies g c hg h3
  omega
theorem vt_lie (hI:GI P s) {c:Nat} (h:s.st c=0∨s.st c=1):s.vt P c=s.lie P c:=by
  unfold GS.vt; rw [if_neg (by omega),if_neg (by omega)]
theorem vt_eq (hI:GI P s) (c:Nat):s.vt P c=s.lie P c+if decide (s.st c=2) then s.bar P else 0:=by
  have h3:=hI.st3 c
  by_cases h2:s.st c=2
  · unfold GS.vt; rw [if_pos h2,zpr hI (.inl h2),decide_eq_true h2]; simp
  · rw [decide_eq_false h2]
    by_cases h4:s.st c=3
    · unfold GS.vt; rw [if_neg h2,if_pos h4,zpr hI (.inr h4)]; rfl
    · rw [vt_lie hI (by omega)]; rfl
theorem zqe (p:Nat→Bool) (v:Nat):∀ n:Nat,sumN (fun i=>if p i then v else 0) n=v * cntN p n
  | 0=>by simp [sumN,cntN]
  | n+1=>by
    show sumN _ n+(if p n then v else 0)=v * (cntN p n+(if p n then 1 else 0))
    rw [zqe p v n,Nat.mul_add]
    cases p n <;> simp
theorem vt_sum (hP:P.OK) (hI:GI P s):sumN (s.vt P) P.n=sumN (s.lie P) P.n+s.bar P * s.c2 P:=by
  rw [zaw fun i _=>vt_eq hI i,zcq,zqe]; rfl
theorem vt_sum_le (hP:P.OK) (hI:GI P s):sumN (s.vt P) P.n≤P.mkd * s.D:=by
  rw [vt_sum hP hI]
  have:=zny (s:=s) hP
  have:=hI.cons
  omega
theorem mk_le (hP:P.OK):P.mkd≤P.tot:=by
  rw [← hP.total]
  exact zji fun g _=>by split <;> omega
theorem zjc (hP:P.OK) (hI:GI P s):sumN (s.vt P) P.n≤P.tot * s.D:=Nat.le_trans (vt_sum_le hP hI) (Nat.mul_le_mul_right _ (mk_le hP))
theorem zos (hP:P.OK) (hI:GI P s) {c:Nat} (h:c < P.n):s.vt P c≤P.tot * s.D:=Nat.le_trans (sumN_ge h) (zjc hP hI)
theorem bar_pos (hP:P.OK) (hI:GI P s):0 < s.bar P:=Nat.mul_pos hP.q1 hI.D0
theorem zbn (c:Nat):(s.el1 P c=true∧s.st c=0∧s.st1 P c=1∧s.bar P≤s.vt P c)∨(s.el1 P c=false∧s.st1 P c=s.st c):=by
  unfold GS.st1
  cases h:s.el1 P c
  · exact .inr ⟨rfl,rfl⟩
  · unfold GS.el1 at h
    rw [Bool.and_eq_true,decide_eq_true_eq,decide_eq_true_eq] at h
    exact .inl ⟨rfl,h.1,rfl,h.2⟩
theorem zlq (hI:GI P s) {c:Nat} (hc:c < P.n) (h:s.st1 P c=1):(s.st c=0∨s.st c=1)∧s.vt P c=s.lie P c∧s.bar P≤s.vt P c:=by
  rcases zbn (P:=P) (s:=s) c with ⟨_,h1,h2,h3⟩ | ⟨_,h2⟩
  · exact ⟨.inl h1,vt_lie hI (.inl h1),h3⟩
  · have h1:s.st c=1:=by omega
    have:=hI.pend c hc h1
    rw [vt_lie hI (.inr h1)]
    exact ⟨.inr h1,rfl,this⟩
theorem zoz (c:Nat):s.st1 P c=2↔s.st c=2:=by
  rcases zbn (P:=P) (s:=s) c with ⟨_,h1,h2,h3⟩ | ⟨_,h2⟩ <;> omega
def GS.e1 (P:GP) (s:GS):Nat:=cntN (fun i=>decide (s.st1 P i=1)) P.n
def GS.e2 (P:GP) (s:GS):Nat:=cntN (fun i=>decide (s.st1 P i=2)) P.n
def GS.e0 (P:GP) (s:GS):Nat:=cntN (fun i=>decide (s.st1 P i=0)) P.n
theorem zjy (hP:P.OK) (hI:GI P s):s.e1 P+s.e2 P≤P.seats:=by
  have h1:s.bar P * (s.e1 P+s.e2 P)≤sumN (s.vt P) P.n:=by
    unfold GS.e1 GS.e2
    rw [Nat.mul_add,← zqe,← zqe,← zcq]
    refine zji fun i hi=>?_
    by_cases h:s.st1 P i=1
    · rw [decide_eq_true h,decide_eq_false (by omega)]
      have:=(zlq hI hi h).2.2
      simpa using this
    · rw [decide_eq_false h]
      by_cases h2:s.st1 P i=2
      · rw [decide_eq_true h2]
        have h3:=(zoz i).1 h2
        have:s.vt P i=s.bar P:=by unfold GS.vt; rw [if_pos h3]
        rw [this]; simp
      · rw [decide_eq_false h2]; simp
  have h2:=vt_sum_le hP hI
  have h3:s.bar P * (s.e1 P+s.e2 P) < s.bar P * (P.seats+1):=by
    refine Nat.lt_of_le_of_lt (Nat.le_trans h1 h2) ?_
    have:P.mkd * s.D < P.q * (P.seats+1) * s.D:=Nat.mul_lt_mul_of_pos_right hP.quota hI.D0
    have e:s.bar P * (P.seats+1)=P.q * (P.seats+1) * s.D:=by unfold GS.bar; rw [Nat.mul_right_comm]
    omega
  have:=Nat.lt_of_mul_lt_mul_left h3
  omega
theorem fin_false (hP:P.OK) (hI:GI P s) (h:s.fin P=false):s.e1 P+s.e2 P < P.seats∧P.seats < s.e1 P+s.e2 P+s.e0 P:=by
  unfold GS.fin at h
  rw [Bool.or_eq_false_iff,decide_eq_false_iff_not,decide_eq_false_iff_not] at h
  have h1:¬ s.e1 P+s.e2 P=P.seats:=h.1
  have h2:¬ s.e1 P+s.e2 P+s.e0 P≤P.seats:=h.2
  have:=zjy hP hI
  omega
theorem tied_ne (hP:P.OK) (hI:GI P s) (h:s.fin P=false):s.tied P ≠ []:=by
  obtain ⟨h1,h2⟩:=fin_false hP hI h
  have hne:selN (fun i=>decide (s.st1 P i=if s.most P then 1 else 0)) P.n ≠ []:=by
    have:0 < cntN (fun i=>decide (s.st1 P i=if s.most P then 1 else 0)) P.n:=by
      cases hm:s.most P
      · show 0 < s.e0 P; omega
      · unfold GS.most at hm
        exact of_decide_eq_true hm
    rw [← zfv] at this
    exact List.length_pos_iff.1 this
  unfold GS.tied
  generalize (if s.most P then 1 else 0)=c at hne ⊢
  have key:∃ i,i < P.n∧zng P (s.vt P) (s.st1 P) c (s.most P) i=true:=by
    cases s.most P
    · obtain ⟨i,k1,k2⟩:=zpx (s.vt P) hne
      obtain ⟨k3,k4⟩:=zdh.1 k1
      refine ⟨i,k3,?_⟩
      unfold zng
      rw [k4,Bool.true_and,List.all_eq_true]
      intro k hk
      by_cases h5:s.st1 P k=c
      · have:=k2 k (zdh.2 ⟨List.mem_range.1 hk,decide_eq_true h5⟩)
        simp [this]
      · simp [h5]
    · obtain ⟨i,k1,k2⟩:=exists_mostN (s.vt P) hne
      obtain ⟨k3,k4⟩:=zdh.1 k1
      refine ⟨i,k3,?_⟩
      unfold zng
      rw [k4,Bool.true_and,List.all_eq_true]
      intro k hk
      by_cases h5:s.st1 P k=c
      · have:=k2 k (zdh.2 ⟨List.mem_range.1 hk,decide_eq_true h5⟩)
        simp [this]
      · simp [h5]
  obtain ⟨i,k1,k2⟩:=key
  exact List.ne_nil_of_mem (zbk.2 ⟨i,rfl,k1,k2⟩)
theorem pick_mem {earlier:List (List Rat)} (h:s.tied P ≠ []):s.pick P earlier∈s.tied P:=by
  unfold GS.pick
  split
  · exact zgu h
  · exact tieB_mem h
theorem zel (hP:P.OK) (hI:GI P s) (h:s.fin P=false) (earlier:List (List Rat)):∃ x:Nat,s.pick P earlier=(x:Int)∧x < P.n∧s.st1 P x=if s.most P then 1 else 0:=by
  have h1:=pick_mem (earlier:=earlier) (tied_ne hP hI h)
  obtain ⟨i,h2,h3,h4⟩:=zbk.1 h1
  refine ⟨i,h2,h3,?_⟩
  unfold zng at h4
  rw [Bool.and_eq_true,decide_eq_true_eq] at h4
  exact h4.1
theorem move_on {st:Nat→Nat} {keep:Nat→Rat} {x a b g c:Nat} (hx:s.on P g x=false):(s.move P st keep x a b).on P g c=s.on P g c:=by
  unfold GS.on GS.move
  simp only [hx,Bool.false_eq_true,if_false]
theorem move_lie {st:Nat→Nat} {keep:Nat→Rat} {x a b c:Nat} (hc:c ≠ x):s.lie P c * b≤(s.move P st keep x a b).lie P c:=by
  unfold GS.lie
  rw [← zkt]
  refine zji fun g hg=>?_
  by_cases h:s.on P g c=true
  · have hx:s.on P g x=false:=by
      cases hx:s.on P g x
      · rfl
      · exact absurd (GS.on_uniq h hx) hc
    rw [if_pos h,if_pos (by rw [move_on hx]; exact h)]
    show _≤P.k g * (if s.on P g x then s.num g * a else s.num g * b)
    rw [hx,Nat.mul_assoc]; exact Nat.le_refl _
  · rw [if_neg h,Nat.zero_mul]; exact Nat.zero_le _
theorem move_cons {st:Nat→Nat} {keep:Nat→Rat} {x a b:Nat} (hab:a≤b):sumN (fun g=>if P.p g=[] then 0 else P.k g * (s.move P st keep x a b).num g) P.G+(b - a) * s.lie P x=sumN (fun g=>if P.p g=[] then 0 else P.k g * s.num g) P.G * b:=by
  unfold GS.lie
  rw [← zkt,Nat.mul_comm (b - a),← zkt,← zcq]
  refine zaw fun g hg=>?_
  show (if P.p g=[] then 0 else P.k g * (if s.on P g x then s.num g * a else s.num g * b))+_=_
  cases h:s.on P g x
  · simp only [Bool.false_eq_true,if_false]
    split
    · simp
    · rw [Nat.zero_mul,Nat.add_zero,Nat.mul_assoc]
  · have:=GS.on_ne h
    simp only [if_neg this,if_true]
    rw [← Nat.mul_assoc,← Nat.mul_add]
    congr 1
    omega
theorem cnt_upd {p q:Nat→Bool} {n x:Nat} (hx:x < n) (h:∀ i,i < n→i ≠ x→p i=q i) (h0:q x=false) (h1:p x=true):cntN p n=cntN q n+1:=by
  have:=sumN_upd (f:=fun i=>if p i then 1 else 0) (g:=fun i=>if q i then 1 else 0) hx fun i hi hne=>by rw [h i hi hne]
  simp only [h0,h1,if_true,Bool.false_eq_true,if_false] at this
  unfold cntN
  omega
theorem move_inv (hP:P.OK) (hI:GI P s) {x a b y:Nat} {keep:Nat→Rat} (hx:x < P.n) (hy:y=2∨y=3) (hst:s.st1 P x=if y=2 then 1 else 0) (hab:a≤b) (hb0:0 < b)
    (hd:y=2→(b - a) * s.lie P x=s.bar P * b) (hd3:y=3→a=b) (hb:s.D * b≤2 ^ (17 * (2 ^ (s.c2 P+if y=2 then 1 else 0) - 1))) :
    GI P (s.move P (upd (s.st1 P) x y) keep x a b):=by
  have hx2:s.st x ≠ 2:=by
    have:=zoz (P:=P) (s:=s) x
    split at hst <;> omega
  have hc2:(s.move P (upd (s.st1 P) x y) keep x a b).c2 P=s.c2 P+if y=2 then 1 else 0:=by
    unfold GS.c2
    show cntN (fun i=>decide (upd (s.st1 P) x y i=2)) P.n=_
    by_cases h2:y=2
    · subst h2
      rw [if_pos rfl]
      refine cnt_upd hx (fun i hi hne=>?_) (decide_eq_false hx2) (by rw [zcg]; rfl)
      rw [zet _ _ hne]
      exact decide_eq_decide.2 (zoz i)
    · rw [if_neg h2,Nat.add_zero]
      refine zkb fun i hi=>?_
      by_cases hi:i=x
      · subst hi; rw [zcg]; exact decide_eq_decide.2 ⟨fun h=>absurd h h2,fun h=>absurd h hx2⟩
      · rw [zet _ _ hi]; exact decide_eq_decide.2 (zoz i)
  refine ⟨Nat.mul_pos hI.D0 hb0,by rw [hc2]; exact hb,fun g hg=>?_,fun g hg=>?_,fun g c hg hon=>?_,fun c=>?_,fun g hg hp=>?_,?_,fun c hc hc1=>?_⟩
  · show (if s.on P g x then s.num g * a else s.num g * b)≤s.D * b
    have:=hI.num g hg
    split
    · exact Nat.mul_le_mul this hab
    · exact Nat.mul_le_mul_right _ this
  · show (if s.on P g x then nxt (P.p g) _ (s.at_ g+1) else s.at_ g)≤_
    cases h:s.on P g x
    · exact hI.at_ g hg
    · exact nxt_le _ (GS.on_lt h)
  · show upd (s.st1 P) x y c=0∨upd (s.st1 P) x y c=1
    cases h:s.on P g x
    · rw [move_on h] at hon
      have hcx:c ≠ x:=fun e=>by rw [e] at hon; rw [h] at hon; cases hon
      rw [zet _ _ hcx]
      have:=hI.lies g c hg hon
      rcases zbn (P:=P) (s:=s) c with ⟨_,h1,h2,_⟩ | ⟨_,h2⟩ <;> omega
    · have h1:=GS.on_lt hon
      have h2:=GS.on_at hon
      have e:(s.move P (upd (s.st1 P) x y) keep x a b).at_ g=nxt (P.p g) (upd (s.st1 P) x y) (s.at_ g+1):=by
        show (if s.on P g x then nxt (P.p g) _ (s.at_ g+1) else s.at_ g)=_
        rw [h]; rfl
      rw [e] at h1 h2
      have h3:=nxt_at h1
      rw [h2,Int.toNat_natCast] at h3
      exact .inl h3
  · show upd (s.st1 P) x y c≤3
    by_cases hi:c=x
    · subst hi; rw [zcg]; omega
    · rw [zet _ _ hi]
      have:=hI.st3 c
      rcases zbn (P:=P) (s:=s) c with ⟨_,h1,h2,_⟩ | ⟨_,h2⟩ <;> omega
  · show (if s.on P g x then s.num g * a else s.num g * b)=s.D * b
    rw [if_neg fun h=>GS.on_ne h hp,hI.blank g hg hp]
  · have h1:=move_cons (P:=P) (s:=s) (st:=upd (s.st1 P) x y) (keep:=keep) (x:=x) hab
    have h2:=hI.cons
    rw [hc2]
    have e1:(s.move P (upd (s.st1 P) x y) keep x a b).bar P=s.bar P * b:=by
      show P.q * (s.D * b)=P.q * s.D * b
      rw [Nat.mul_assoc]
    have e2:P.mkd * (s.move P (upd (s.st1 P) x y) keep x a b).D=P.mkd * s.D * b:=by
      show P.mkd * (s.D * b)=_
      rw [Nat.mul_assoc]
    rw [e1,e2,← h2,Nat.add_mul,← h1]
    rcases hy with h3 | h3
    · rw [hd h3,if_pos h3,Nat.mul_add,Nat.mul_one,Nat.mul_right_comm (s.bar P) b]
      omega
    · rw [hd3 h3,Nat.sub_self,Nat.zero_mul,if_neg (by omega),Nat.add_zero,Nat.add_zero,Nat.mul_right_comm]
  · have hc1':upd (s.st1 P) x y c=1:=hc1
    have hcx:c ≠ x:=fun e=>by rw [e,zcg] at hc1'; omega
    rw [zet _ _ hcx] at hc1'
    obtain ⟨_,k2,k3⟩:=zlq hI hc hc1'
    have e1:(s.move P (upd (s.st1 P) x y) keep x a b).bar P=s.bar P * b:=by
      show P.q * (s.D * b)=P.q * s.D * b
      rw [Nat.mul_assoc]
    rw [e1]
    refine Nat.le_trans (Nat.mul_le_mul_right b ?_) (move_lie hcx)
    omega
theorem pow_next {D v t c:Nat} (hD:D≤2 ^ (17 * (2 ^ c - 1))) (hv:v≤t * D) (ht:t≤100000):D * v≤2 ^ (17 * (2 ^ (c+1) - 1)):=by
  have h1:D * v≤D * (100000 * D):=Nat.mul_le_mul_left _ (Nat.le_trans hv (Nat.mul_le_mul_right _ ht))
  have h2:D * (100000 * D)≤2 ^ (17 * (2 ^ c - 1)) * (2 ^ 17 * 2 ^ (17 * (2 ^ c - 1))):=Nat.mul_le_mul hD (Nat.mul_le_mul (by decide) hD)
  have h3:17 * (2 ^ (c+1) - 1)=17 * (2 ^ c - 1)+(17+17 * (2 ^ c - 1)):=by
    have:0 < 2 ^ c:=P2_pos c
    rw [Nat.pow_succ]; omega
  rw [h3,Nat.pow_add,Nat.pow_add]
  omega
theorem trans_inv (hP:P.OK) (hI:GI P s) (h:s.fin P=false) (hm:s.most P=true) (earlier:List (List Rat)):GI P (s.trans P earlier):=by
  obtain ⟨x,h1,h2,h3⟩:=zel hP hI h earlier
  rw [hm,if_pos rfl] at h3
  obtain ⟨_,k2,k3⟩:=zlq hI h2 h3
  have hb:=bar_pos hP hI
  unfold GS.trans
  simp only [h1,Int.toNat_natCast]
  refine move_inv hP hI h2 (.inl rfl) (by rw [h3]; rfl) (Nat.sub_le _ _) (by omega) (fun _=>?_) (fun h=>by omega) ?_
  · rw [← k2]
    congr 1
    omega
  · rw [if_pos rfl]
    exact pow_next hI.Db (zos hP hI h2) hP.tot5
theorem excl_inv (hP:P.OK) (hI:GI P s) (h:s.fin P=false) (hm:s.most P=false) (earlier:List (List Rat)):GI P (s.excl P earlier):=by
  obtain ⟨x,h1,h2,h3⟩:=zel hP hI h earlier
  rw [hm] at h3
  unfold GS.excl
  simp only [h1,Int.toNat_natCast]
  refine move_inv hP hI h2 (.inr rfl) (by rw [h3]; rfl) (Nat.le_refl _) (by omega) (fun h=>by omega) (fun _=>rfl) ?_
  rw [Nat.mul_one]
  exact hI.Db
theorem g0_inv (hP:P.OK):GI P g0:=by
  have hc:g0.c2 P=0:=(zkb (q:=fun _=>false) fun i _=>rfl).trans (by unfold cntN; exact zde _)
  refine ⟨by decide,by rw [hc]; exact Nat.le_refl 1,fun g hg=>Nat.le_refl 1,fun g hg=>Nat.zero_le _,fun g c hg _=>.inl rfl,fun c=>Nat.zero_le 3,fun g hg hp=>rfl,?_,fun c hc h=>by cases h⟩
  rw [hc,Nat.mul_zero,Nat.add_zero]
  show _=P.mkd * 1
  rw [Nat.mul_one]
  unfold GP.mkd
  refine zaw fun g hg=>?_
  show (if P.p g=[] then 0 else P.k g * 1)=_
  rw [Nat.mul_one]
def GS.meas (P:GP) (s:GS):Nat:=cntN (fun i=>decide (s.st i=0∨s.st i=1)) P.n
theorem meas_move {x a b y:Nat} {keep:Nat→Rat} (hx:x < P.n) (hy:y=2∨y=3) (hst:s.st1 P x=0∨s.st1 P x=1):(s.move P (upd (s.st1 P) x y) keep x a b).meas P+1=s.meas P:=by
  unfold GS.meas
  refine (cnt_upd (q:=fun i=>decide (upd (s.st1 P) x y i=0∨upd (s.st1 P) x y i=1)) hx (fun i hi hne=>?_) ?_ ?_).symm
  · rw [zet _ _ hne]
    refine decide_eq_decide.2 ?_
    rcases zbn (P:=P) (s:=s) i with ⟨_,h1,h2,_⟩ | ⟨_,h2⟩ <;> omega
  · rw [zcg]; exact decide_eq_false (by omega)
  · refine decide_eq_true ?_
    rcases zbn (P:=P) (s:=s) x with ⟨_,h1,h2,_⟩ | ⟨_,h2⟩ <;> omega
theorem zjf (hP:P.OK) (hI:GI P s) (h:s.fin P=false) (hm:s.most P=true) (earlier:List (List Rat)):(s.trans P earlier).meas P+1=s.meas P:=by
  obtain ⟨x,h1,h2,h3⟩:=zel hP hI h earlier
  rw [hm,if_pos rfl] at h3
  unfold GS.trans
  simp only [h1,Int.toNat_natCast]
  exact meas_move h2 (.inl rfl) (.inr h3)
theorem zmr (hP:P.OK) (hI:GI P s) (h:s.fin P=false) (hm:s.most P=false) (earlier:List (List Rat)):(s.excl P earlier).meas P+1=s.meas P:=by
  obtain ⟨x,h1,h2,h3⟩:=zel hP hI h earlier
  rw [hm] at h3
  unfold GS.excl
  simp only [h1,Int.toNat_natCast]
  exact meas_move h2 (.inr rfl) (.inl (by simpa using h3))
theorem meas_le (s:GS):s.meas P≤P.n:=zcf _ _
theorem c2_le (s:GS):s.c2 P≤P.n:=zcf _ _
def eD:Nat:=2159
def eB:Nat:=2208
theorem D_small (hP:P.OK) (hI:GI P s):s.D≤2 ^ eD:=by
  refine Nat.le_trans hI.Db (Nat.pow_le_pow_right (by decide) ?_)
  have h1:=c2_le (P:=P) s
  have h2:=hP.n7
  have:2 ^ s.c2 P≤2 ^ 7:=Nat.pow_le_pow_right (by decide) (by omega)
  show _≤2159
  omega
end Go.Proofs.YtmipjomnjkmdbaaGreat
set_option linter.unusedSimpArgs false
set_option linter.unusedVariables false
namespace Go.Proofs.YtmipjomnjkmdbaaGreat
open Go Go.X
abbrev CT:=List Int × (List (List Int) × (Int × (Int × (Int × (Int × (Int × (Int × Int)))))))
abbrev RD:=List Rt × (List Rt × (Rt × (Rt × (Rt × (List Int × (List Int × List Int))))))
abbrev KT:=CT × (List Int × (Int × (Int × (List (List Int × (Int × (Int × Rt))) × (List Int × (List Rt × (Int × (List (List Rt) × (Int × (Int × (Int × (Int × (List RD × List Int)))))))))))))
theorem zdi {α:Type} {l:List α} {d:α} (h:l.length+1≤4294967296):decide ((l.length:Int)+(([d]:List α).length:Int)≤LIM)=true:=by
  have:(l.length:Int)+(([d]:List α).length:Int)=((l.length+1:Nat):Int):=by simp
  rw [this]; exact zbx h
theorem zqb (a b:Nat):decide ((a:Int)=(b:Int))=decide (a=b):=decide_eq_decide.2 Int.ofNat_inj
theorem frac_nd (a b:Nat):(frac a b).num.natAbs≤a∧(frac a b).den≤max 1 b:=by
  have e:frac a b=mkRat a b:=by
    unfold frac
    rw [Rat.mkRat_eq_div]
    rfl
  rw [e]
  by_cases hb:b=0
  · subst hb; rw [Rat.mkRat_zero]; exact ⟨Nat.zero_le _,Nat.le_max_left _ _⟩
  · rw [Rat.num_mkRat,Rat.den_mkRat,if_neg hb,if_neg hb]
    refine ⟨?_,Nat.le_trans (Nat.div_le_self _ _) (Nat.le_max_right _ _)⟩
    rw [Int.natAbs_natCast]
    have:((a:Int) / ((b.gcd a:Nat):Int))=((a / b.gcd a:Nat):Int):=rfl
    rw [this,Int.natAbs_natCast]
    exact Nat.div_le_self _ _
theorem zjw {a b e:Nat} (ha:a < 2 ^ e) (hb:b < 2 ^ e) (he:1≤e):Bz e (frac a b):=by
  obtain ⟨h1,h2⟩:=frac_nd a b
  have:1 < 2 ^ e:=Nat.one_lt_two_pow (by omega)
  exact ⟨by omega,by omega⟩
theorem zlb (a:Nat):frac a 1=(a:Rat):=by unfold frac; grind
theorem zpv {a b D:Nat} (hD:0 < D):frac a D+frac b D=frac (a+b) D:=by
  unfold frac
  rw [Rat.div_def,Rat.div_def,Rat.div_def,← Rat.add_mul]
  simp only [Rat.natCast_add]
theorem zla {a b D:Nat} (hD:0 < D) (h:b≤a):frac a D - frac b D=frac (a - b) D:=by
  have:=zpv (a:=a - b) (b:=b) hD
  rw [Nat.sub_add_cancel h] at this
  rw [← this]; grind
theorem frac_mul_nat (a D k:Nat):frac a D * (k:Rat)=frac (k * a) D:=by
  unfold frac
  simp only [Rat.natCast_mul]
  rw [Rat.div_def,Rat.div_def]
  grind
theorem zis {q D:Nat} (hD:0 < D):frac (q * D) D=(q:Rat):=by
  unfold frac
  have:(D:Rat) ≠ 0:=by simp; omega
  rw [Rat.natCast_mul,Rat.mul_div_cancel this]
theorem zmm {a b D:Nat} (hD:0 < D):frac a D≤frac b D↔a≤b:=by
  unfold frac
  have:(0:Rat) < (D:Rat):=by exact_mod_cast hD
  rw [Rat.div_def,Rat.div_def]
  have hi:(0:Rat) < (D:Rat)⁻¹:=Rat.inv_pos.2 this
  constructor
  · intro h
    have:=Rat.le_of_mul_le_mul_right h hi
    exact_mod_cast this
  · intro h
    exact Rat.mul_le_mul_of_nonneg_right (by exact_mod_cast h) (Rat.le_of_lt hi)
theorem frac_lt {a b D:Nat} (hD:0 < D):frac a D < frac b D↔a < b:=by
  rw [← Rat.not_le,zmm hD]; omega
theorem Bz.sz2 {q:Rat} (h:Bz eB q):Sz 268435456 (rr q):=by
  have h':Bz (32 * 69) q:=h
  have:=Bz.sz (k:=69) h'
  exact ⟨by have:=this.1; omega,by have:=this.2; omega⟩
theorem bz_nat {n:Nat} (h:n < 2 ^ 64):Bz eB (n:Rat):=by
  rw [← zlb]
  exact zjw (Nat.lt_trans h (Nat.pow_lt_pow_right (by decide) (by decide))) (Nat.one_lt_two_pow (by decide)) (by decide)
theorem zmu {n:Nat} (h:n≤9223372036854775807):d68 (n:Int)=some (rr (n:Rat)):=by
  rw [zoh (by omega) (by omega)]; rfl
theorem zgm {p:Nat→Bool} {n j:Nat} (h:j < (selN p n).length):(selN p n).getD j 0 < n∧p ((selN p n).getD j 0)=true:=by
  rw [List.getD_eq_getElem?_getD,List.getElem?_eq_getElem h]
  exact zdh.1 (List.getElem_mem h)
theorem zlx {p:Nat→Bool} {n j:Nat} (h:j < (selN p n).length):(selI p n).getD j 0=(((selN p n).getD j 0:Nat):Int):=by
  unfold selI
  rw [List.getD_eq_getElem?_getD,List.getElem?_map,List.getElem?_eq_getElem h,List.getD_eq_getElem?_getD,List.getElem?_eq_getElem h]; rfl
theorem zbm {α:Type} (l:List α) (d:α) {n:Nat} (h:n < l.length):l.take (n+1)=l.take n++[l.getD n d]:=by
  rw [List.take_add_one,List.getD_eq_getElem?_getD,List.getElem?_eq_getElem h]; rfl
def zeu {α:Type} (f:Nat→α) (L:List Nat) (x:α):Nat→α:=fun c=>if c∈L then x else f c
theorem zlk {α:Type} (f:Nat→α) (L:List Nat) (c:Nat) (x:α):upd (zeu f L x) c x=zeu f (L++[c]) x:=by
  funext d
  unfold upd zeu
  by_cases h:d=c
  · subst h; simp
  · simp [h]
theorem zno {α:Type} (f:Nat→α) (x:α):zeu f [] x=f:=by funext d; simp [zeu]
theorem zjz {k:KT} {st:Nat→Nat} {n:Nat} (hk:k.2.2.2.2.2.1=lst (fun i=>(st i:Int)) n) (hn:n≤1000) (x:Nat):d135 k (x:Int)=some (selI (fun i=>decide (st i=x)) n):=by
  unfold d135
  rw [hk,zaz]
  refine zaf (fun i=>((x:Int),selI (fun i=>decide (st i=x)) i,lst (fun i=>(st i:Int)) n,(n:Int),(i:Int))) n rfl (fun i hi=>?_) ?_ rfl
  · have hl:(selI (fun i=>decide (st i=x)) i).length+1≤4294967296:=by
      rw [zbs]; have:=zcf (fun i=>decide (st i=x)) i; omega
    rw [zfd]
    simp only [dlt hi,d0le,zaz,Bool.and_self,cond_true,tn,zbi _ hi,zay,zqb,zcb (show i < 9223372036854775807 by omega)]
    by_cases h:st i=x
    · rw [decide_eq_true h,cond_true,zdi hl,cond_true]; rfl
    · rw [decide_eq_false h,cond_false]; simp
  · simp only [nlt (Nat.le_refl n),cond_false]
theorem d131_eq {f:Nat→Rat} {n:Nat} (hn:n≤1000) (hf:∀ i,i < n→Bz eB (f i)):d131 (lst (fun i=>rr (f i)) n)=some (lst (fun i=>rr (f i)) n):=by
  unfold d131
  rw [zaz]
  refine zaf (fun i=>(lst (fun i=>rr (f i)) i,lst (fun i=>rr (f i)) n,(n:Int),(i:Int))) n rfl (fun i hi=>?_) ?_ rfl
  · have hs:=(hf i hi).sz2
    simp only [dlt hi,d0le,zaz,Bool.and_self,cond_true,tn,zbi _ hi,zcb (show i < 9223372036854775807 by omega),zqc (show (rr (f i)).2.1.length≤4294967296 by have:=hs.1; omega),zqc (show (rr (f i)).2.2.length≤4294967296 by have:=hs.2; omega),Option.bind_some]
    have hl:=zdi (l:=lst (fun i=>rr (f i)) i) (d:=((rr (f i)).1,(rr (f i)).2.1,(rr (f i)).2.2)) (by rw [zaz]; omega)
    rw [zaz] at hl
    rw [hl,cond_true,zhe]
  · simp only [nlt (Nat.le_refl n),cond_false]
def GS.lieU (P:GP) (s:GS) (m c:Nat):Nat:=sumN (fun g=>if s.on P g c then P.k g * s.num g else 0) m
def parc (P:GP) (s:GS) (g:Nat):List Int × (Int × (Int × Rt)):=(P.p g,(P.k g:Int),(s.at_ g:Int),rr (frac (s.num g) s.D))
variable {P:GP} {s:GS}
theorem lieU_le (m c:Nat) (h:m≤P.G):s.lieU P m c≤s.lie P c:=by
  have key:∀ (f:Nat→Nat) (m n:Nat),m≤n→sumN f m≤sumN f n:=by
    intro f m n
    induction n with
    | zero=>intro h; rw [show m=0 by omega]; exact Nat.le_refl _
    | succ n ih =>
      intro h
      by_cases hm:m=n+1
      · rw [hm]; exact Nat.le_refl _
      · rw [sumN]; have:=ih (by omega); omega
  exact key _ _ _ h
theorem zha {a:Nat} (hP:P.OK) (hI:GI P s) (h:a≤P.tot * s.D):a < 2 ^ eB:=by
  have h1:=D_small hP hI
  have h2:P.tot * s.D≤100000 * 2 ^ eD:=Nat.mul_le_mul hP.tot5 h1
  have h3:100000 * 2 ^ eD≤2 ^ 17 * 2 ^ eD:=Nat.mul_le_mul_right _ (by decide)
  have h4:2 ^ 17 * 2 ^ eD < 2 ^ eB:=by rw [← Nat.pow_add]; exact Nat.pow_lt_pow_right (by decide) (by decide)
  omega
theorem D_lt (hP:P.OK) (hI:GI P s):s.D < 2 ^ eB:=Nat.lt_of_le_of_lt (D_small hP hI) (Nat.pow_lt_pow_right (by decide) (by decide))
theorem zbe (hP:P.OK) (hI:GI P s) {a:Nat} (h:a≤P.tot * s.D):Bz eB (frac a s.D):=zjw (zha hP hI h) (D_lt hP hI) (by decide)
theorem k_le (hP:P.OK) {g:Nat} (h:g < P.G):P.k g≤P.tot:=by rw [← hP.total]; exact sumN_ge h
theorem knum_le (hP:P.OK) (hI:GI P s) {g:Nat} (h:g < P.G):P.k g * s.num g≤P.tot * s.D:=Nat.mul_le_mul (k_le hP h) (hI.num g h)
theorem lie_le (hP:P.OK) (hI:GI P s) {c:Nat} (h:c < P.n):s.lie P c≤P.tot * s.D:=by
  have h1:=sumN_ge (f:=s.lie P) h
  have h2:=zny (s:=s) hP
  have h3:=hI.cons
  have h4:=Nat.mul_le_mul_right s.D (mk_le hP)
  omega
theorem num_small (hP:P.OK) (hI:GI P s) {g:Nat} (h:g < P.G):Bz eB (frac (s.num g) s.D):=zjw (Nat.lt_of_le_of_lt (hI.num g h) (D_lt hP hI)) (D_lt hP hI) (by decide)
theorem zmc (hP:P.OK):Bz eB (P.q:Rat):=bz_nat (by have:=hP.q5; omega)
theorem d130_eq (hP:P.OK) (hI:GI P s) (hG:P.G≤1000000) {k:KT} (h1:k.2.2.2.2.1=lst (parc P s) P.G) (h2:k.2.2.2.2.2.1=lst (fun i=>(s.st i:Int)) P.n) (h3:k.2.2.2.1=(P.q:Int)) :
    d130 k=some (lst (fun i=>rr (frac (s.vt P i) s.D)) P.n):=by
  have hn:=hP.n7
  unfold d130
  rw [h2,zaz]
  refine zaf (fun i=>(k,lst (fun _=>rr 0) i,(P.n:Int),(i:Int))) P.n rfl (fun i hi=>?_) (b:=(k,lst (fun _=>rr 0) P.n)) ?_ ?_
  · have hl:=zdi (l:=lst (fun _=>rr 0) i) (d:=rr 0) (by rw [zaz]; omega)
    simp only [dlt hi,cond_true,show d68 0=some (rr 0) from zoh (n:=0) (by omega) (by omega),Option.bind_some,hl,zcb (show i < 9223372036854775807 by omega),← zhe]
  · simp only [nlt (Nat.le_refl P.n),cond_false]
  simp only [h1,zaz]
  refine zaf (fun m=>(k,lst (fun c=>rr (frac (s.lieU P m c) s.D)) P.n,lst (parc P s) P.G,(P.G:Int),(m:Int))) P.G ?_ (fun g hg=>?_) (b:=(k,lst (fun c=>rr (frac (s.lie P c) s.D)) P.n)) ?_ ?_
  · simp only [GS.lieU,sumN,show frac 0 s.D=0 by unfold frac; rw [Rat.div_def]; simp]; rfl
  · simp only [dlt hg,d0le,zaz,Bool.and_self,cond_true,tn,zbi (parc P s) hg,parc,zay,zcb (show g < 9223372036854775807 by omega)]
    by_cases ha:s.at_ g < (P.p g).length
    · obtain ⟨c,c1,c2⟩:=GS.on_ex hP hg ha
      have c3:=GS.on_at c2
      have hU:=lieU_le (P:=P) (s:=s) g c (by omega)
      have hL:=lie_le hP hI c1
      have hk:=k_le hP hg
      have ht:=hP.tot5
      have hk2:=knum_le hP hI hg
      rw [dlt ha]
      simp only [cond_true,d0le,Bool.and_self,tn,c3,dlt c1,zbi (fun c=>rr (frac (s.lieU P g c) s.D)) c1,zaz]
      rw [zmu (by omega),Option.bind_some,d172_rr (num_small hP hI hg).sz2 (bz_nat (by omega)).sz2,Option.bind_some,frac_mul_nat,d138_rr (zbe hP hI (by omega)).sz2 (zbe hP hI hk2).sz2,Option.bind_some,zpv hI.D0,zgt]
      have e:lst (upd (fun c=>rr (frac (s.lieU P g c) s.D)) c (rr (frac (s.lieU P g c+P.k g * s.num g) s.D))) P.n=lst (fun c=>rr (frac (s.lieU P (g+1) c) s.D)) P.n:=zcd fun i hi=>by
        unfold upd GS.lieU
        by_cases h:i=c
        · subst h; rw [if_pos rfl,sumN,if_pos c2]
        · rw [if_neg h,sumN,if_neg fun h4=>h (GS.on_uniq h4 c2),Nat.add_zero]
      rw [e]
    · rw [nlt (by omega),cond_false]
      have e:lst (fun c=>rr (frac (s.lieU P g c) s.D)) P.n=lst (fun c=>rr (frac (s.lieU P (g+1) c) s.D)) P.n:=zcd fun i hi=>by
        unfold GS.lieU
        rw [sumN,if_neg fun h4=>ha (GS.on_lt h4),Nat.add_zero]
      rw [e]
  · simp only [nlt (Nat.le_refl P.G),cond_false]; rfl
  have e2:=zjz (k:=k) h2 (by omega) 2
  simp only [show d135 k 2=some (selI (fun i=>decide (s.st i=2)) P.n) from e2,Option.bind_some]
  obtain ⟨L,hL⟩:∃ L,selN (fun i=>decide (s.st i=2)) P.n=L:=⟨_,rfl⟩
  have hLi:(selI (fun i=>decide (s.st i=2)) P.n).length=L.length:=by rw [← hL,selI,List.length_map]
  have hLl:L.length≤7:=by rw [← hL,zfv]; have:=zcf (fun i=>decide (s.st i=2)) P.n; omega
  rw [hLi]
  refine zaf (fun j=>(k,lst (zeu (fun c=>rr (frac (s.lie P c) s.D)) (L.take j) (rr (P.q:Rat))) P.n,selI (fun i=>decide (s.st i=2)) P.n,(L.length:Int),(j:Int))) L.length ?_ (fun j hj=>?_) (b:=lst (zeu (fun c=>rr (frac (s.lie P c) s.D)) L (rr (P.q:Rat))) P.n) ?_ ?_
  · rw [List.take_zero,zno]; rfl
  · have hj':j < (selN (fun i=>decide (s.st i=2)) P.n).length:=by rw [hL]; exact hj
    have hg:=zgm hj'
    rw [hL] at hg
    have hq:=hP.q5
    simp only [dlt hj,d0le,hLi,Bool.and_self,cond_true,tn,zlx hj',h3,zmu (show P.q≤9223372036854775807 by omega),Option.bind_some,zaz,dlt hg.1,zcb (show j < 9223372036854775807 by omega),zgt,zlk,hL]
    rw [zbm L 0 hj]
  · simp only [nlt (Nat.le_refl L.length),cond_false,List.take_length]
  · congr 1
    refine zcd fun i hi=>?_
    unfold zeu
    rw [vt_eq hI]
    by_cases h:s.st i=2
    · rw [if_pos (by rw [← hL]; exact zdh.2 ⟨hi,decide_eq_true h⟩),decide_eq_true h,zpr hI (.inl h),if_pos rfl,Nat.zero_add]
      unfold GS.bar
      rw [zis hI.D0]
    · rw [if_neg (by rw [← hL]; intro hm; exact h (of_decide_eq_true (zdh.1 hm).2)),decide_eq_false h]
      simp
end Go.Proofs.YtmipjomnjkmdbaaGreat
