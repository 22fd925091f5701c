/- Part 14 of what stands below the statement. -/
import Derived.Test.YtmipjomnjkmdbaaGreatQ13
set_option linter.unusedSimpArgs false
set_option linter.unusedVariables false
namespace Go.Proofs.YtmipjomnjkmdbaaGreat
open Go Go.X
theorem zfe {α:Type} (f:α→Rat):∀ {l:List α},l ≠ []→∃ i∈l,∀ k∈l,f i≤f k
  | [],h=>absurd rfl h
  | [x],_=>⟨x,by simp,fun k hk=>by simp at hk; subst hk; exact Rat.le_refl⟩
  | x::y::l,_=>by
    obtain ⟨i,h1,h2⟩:=zfe f (l:=y::l) (by simp)
    rcases Rat.le_total (a:=f x) (b:=f i) with h | h
    · refine ⟨x,by simp,fun k hk=>?_⟩
      rcases List.mem_cons.1 hk with rfl | hk
      · exact Rat.le_refl
      · exact Rat.le_trans h (h2 k hk)
    · refine ⟨i,List.mem_cons_of_mem _ h1,fun k hk=>?_⟩
      rcases List.mem_cons.1 hk with rfl | hk
      · exact h
      · exact h2 k hk
theorem zqh {α:Type} (f:α→Nat) {l:List α} (h:l ≠ []):∃ i∈l,∀ k∈l,f i≤f k:=by
  induction l with
  | nil=>exact absurd rfl h
  | cons x l ih =>
    by_cases hl:l=[]
    · subst hl; exact ⟨x,by simp,fun k hk=>by simp at hk; subst hk; exact Nat.le_refl _⟩
    · obtain ⟨i,h1,h2⟩:=ih hl
      by_cases hx:f x≤f i
      · refine ⟨x,by simp,fun k hk=>?_⟩
        rcases List.mem_cons.1 hk with rfl | hk
        · exact Nat.le_refl _
        · exact Nat.le_trans hx (h2 k hk)
      · refine ⟨i,List.mem_cons_of_mem _ h1,fun k hk=>?_⟩
        rcases List.mem_cons.1 hk with rfl | hk
        · omega
        · exact h2 k hk
theorem exists_mostN {α:Type} (f:α→Nat) {l:List α} (h:l ≠ []):∃ i∈l,∀ k∈l,f k≤f i:=by
  induction l with
  | nil=>exact absurd rfl h
  | cons x l ih =>
    by_cases hl:l=[]
    · subst hl; exact ⟨x,by simp,fun k hk=>by simp at hk; subst hk; exact Nat.le_refl _⟩
    · obtain ⟨i,h1,h2⟩:=ih hl
      by_cases hx:f i≤f x
      · refine ⟨x,by simp,fun k hk=>?_⟩
        rcases List.mem_cons.1 hk with rfl | hk
        · exact Nat.le_refl _
        · exact Nat.le_trans (h2 k hk) hx
      · refine ⟨i,List.mem_cons_of_mem _ h1,fun k hk=>?_⟩
        rcases List.mem_cons.1 hk with rfl | hk
        · omega
        · exact h2 k hk
theorem extr_ne {least:Bool} {r:Int→Rat} {l:List Int} (h:l ≠ []):extr least r l ≠ []:=by
  cases least
  · obtain ⟨i,h1,h2⟩:=zfe (fun i=>- r i) h
    have:i∈extr false r l:=List.mem_filter.2 ⟨h1,List.all_eq_true.2 fun k hk=>by
      have:=h2 k hk
      simp only [Bool.false_eq_true,if_false,decide_eq_true_eq]
      grind⟩
    exact List.ne_nil_of_mem this
  · obtain ⟨i,h1,h2⟩:=zfe r h
    have:i∈extr true r l:=List.mem_filter.2 ⟨h1,List.all_eq_true.2 fun k hk=>by
      simp only [if_true,decide_eq_true_eq]
      exact h2 k hk⟩
    exact List.ne_nil_of_mem this
theorem extr_sub {least:Bool} {r:Int→Rat} {l:List Int} {x:Int} (h:x∈extr least r l):x∈l:=(List.mem_filter.1 h).1
theorem zim:∀ {least:Bool} {rounds:List (List Rat)} {l:List Int} {x:Int},x∈tieL least rounds l→x∈l
  | _,[],_,_,h=>h
  | least,r::rounds,l,x,h=>by
    have h':x∈tieL least rounds (if 1 < l.length then extr least (zbs r) l else l):=h
    have:=zim h'
    split at this
    · exact extr_sub this
    · exact this
theorem tieL_ne:∀ {least:Bool} {rounds:List (List Rat)} {l:List Int},l ≠ []→tieL least rounds l ≠ []
  | _,[],_,h=>h
  | least,r::rounds,l,h=>by
    show tieL least rounds (if 1 < l.length then extr least (zbs r) l else l) ≠ []
    refine tieL_ne ?_
    split
    · exact extr_ne h
    · exact h
theorem zjh {α:Type} (f:α→α→α) (hf:∀ a b,f a b=a∨f a b=b):∀ (l:List α) (x:α),l.foldl f x=x∨l.foldl f x∈l
  | [],x=>.inl rfl
  | y::l,x=>by
    rw [List.foldl_cons]
    rcases zjh f hf l (f x y) with h | h
    · rw [h]
      rcases hf x y with h1 | h1
      · exact .inl h1
      · exact .inr (by rw [h1]; simp)
    · exact .inr (List.mem_cons_of_mem _ h)
theorem byLot_mem {lots:List Int} {least:Bool} {l:List Int} (h:l ≠ []):byLot lots least l∈l:=by
  cases l with
  | nil=>exact absurd rfl h
  | cons x l =>
    unfold byLot
    simp only [List.tail_cons,List.headD_cons]
    rcases zjh (fun m c=>if least then (if zdu lots m < zdu lots c then c else m) else (if zdu lots c < zdu lots m then c else m)) (fun a b=>by cases least <;> simp only [if_true,Bool.false_eq_true,if_false] <;> split <;> simp) l x with h | h
    · rw [h]; simp
    · exact List.mem_cons_of_mem _ h
theorem zfr {l:List Int} (h:l ≠ []):l.headD 0∈l:=by
  cases l with
  | nil=>exact absurd rfl h
  | cons x l=>simp
theorem tieB_mem {ties:Int} {earlier:List (List Rat)} {tied lots:List Int} {least:Bool} (h:tied ≠ []):tieB ties earlier tied lots least∈tied:=by
  unfold tieB
  have hn:=tieL_ne (least:=least) (rounds:=zax ties earlier) h
  simp only
  split
  · exact zim (zfr hn)
  · exact zim (byLot_mem hn)
theorem zkt {α:Type} (p:α→Bool):∀ l:List α,(l.takeWhile p).length≤l.length
  | []=>Nat.le_refl _
  | x::l=>by
    rw [List.takeWhile_cons]
    split
    · simp only [List.length_cons]; have:=zkt p l; omega
    · simp
theorem zku {α:Type} (p:α→Bool) (d:α):∀ l:List α,(l.takeWhile p).length < l.length→p (l.getD (l.takeWhile p).length d)=false
  | [],h=>by simp at h
  | x::l,h=>by
    rw [List.takeWhile_cons] at h ⊢
    split at h
    · rename_i hx
      rw [if_pos hx]
      simp only [List.length_cons,List.getD_cons_succ]
      exact zku p d l (by simpa using h)
    · rename_i hx
      rw [if_neg hx]
      simpa using hx
theorem zgr {α:Type} (p:α→Bool) (d:α):∀ (l:List α) (i:Nat),i < (l.takeWhile p).length→p (l.getD i d)=true
  | [],i,h=>by simp at h
  | x::l,i,h=>by
    rw [List.takeWhile_cons] at h
    split at h
    · rename_i hx
      cases i with
      | zero=>simpa using hx
      | succ i=>exact zgr p d l i (by simpa using h)
    · simp at h
theorem nxt_ge (p:List Int) (st:Nat→Nat) (k:Nat):k≤nxt p st k:=Nat.le_add_right _ _
theorem nxt_le {p:List Int} (st:Nat→Nat) {k:Nat} (h:k≤p.length):nxt p st k≤p.length:=by
  unfold nxt
  have:=zkt (fun c=>decide (st (Int.toNat c) ≠ 0)) (p.drop k)
  rw [List.length_drop] at this
  omega
theorem zjd {α:Type} (l:List α) (k i:Nat) (d:α):(l.drop k).getD i d=l.getD (k+i) d:=by
  simp [List.getD_eq_getElem?_getD,List.getElem?_drop]
theorem nxt_at {p:List Int} {st:Nat→Nat} {k:Nat} (h:nxt p st k < p.length):st (p.getD (nxt p st k) 0).toNat=0:=by
  unfold nxt at h ⊢
  have:=zku (fun c=>decide (st (Int.toNat c) ≠ 0)) 0 (p.drop k) (by rw [List.length_drop]; omega)
  rw [zjd] at this
  simpa using this
theorem zoj {p:List Int} {st:Nat→Nat} {k i:Nat} (h1:k≤i) (h2:i < nxt p st k):st (p.getD i 0).toNat ≠ 0:=by
  unfold nxt at h2
  have:=zgr (fun c=>decide (st (Int.toNat c) ≠ 0)) 0 (p.drop k) (i - k) (by omega)
  rw [zjd,show k+(i - k)=i by omega] at this
  simpa using this
theorem zpw {p:List Int} {st:Nat→Nat} {k:Nat} (h:k < p.length):nxt p st k=if st (p.getD k 0).toNat=0 then k else nxt p st (k+1):=by
  unfold nxt
  have e:p.drop k=p.getD k 0::p.drop (k+1):=by
    rw [List.getD_eq_getElem?_getD,List.getElem?_eq_getElem h]
    exact List.drop_eq_getElem_cons h
  rw [e,List.takeWhile_cons]
  by_cases hs:st (p.getD k 0).toNat=0
  · rw [if_pos hs,if_neg (by simpa using hs)]; rfl
  · simp only [hs,ne_eq,not_false_iff,decide_true,if_true,if_false,List.length_cons]; omega
theorem nxt_end {p:List Int} {st:Nat→Nat} {k:Nat} (h:p.length≤k):nxt p st k=k:=by
  unfold nxt
  rw [List.drop_of_length_le h]; rfl
def GP.mkd (P:GP):Nat:=sumN (fun g=>if P.p g=[] then 0 else P.k g) P.G
structure GP.OK (P:GP):Prop where
  n1:1≤P.n
  n7:P.n≤7
  seats1:1≤P.seats
  seats5:P.seats≤5
  prefs:∀ g,g < P.G→∀ c∈P.p g,∃ i:Nat,c=(i:Int)∧i < P.n
  plen:∀ g,g < P.G→(P.p g).length≤7
  total:sumN P.k P.G=P.tot
  tot5:P.tot≤100000
  q1:1≤P.q
  q5:P.q≤100001
  quota:P.mkd < P.q * (P.seats+1)
  ties1:1≤P.ties
  ties3:P.ties≤3
  lotn:P.lots.length=P.n
  lots:∀ c∈P.lots,∃ i:Nat,c=(i:Int)∧i < P.n
  lotd:P.lots.Nodup
def GS.c2 (P:GP) (s:GS):Nat:=cntN (fun i=>decide (s.st i=2)) P.n
structure GI (P:GP) (s:GS):Prop where
  D0:0 < s.D
  Db:s.D≤2 ^ (17 * (2 ^ s.c2 P - 1))
  num:∀ g,g < P.G→s.num g≤s.D
  at_:∀ g,g < P.G→s.at_ g≤(P.p g).length
  lies:∀ g c,g < P.G→s.on P g c=true→s.st c=0∨s.st c=1
  st3:∀ c,s.st c≤3
  blank:∀ g,g < P.G→P.p g=[]→s.num g=s.D
  cons:sumN (fun g=>if P.p g=[] then 0 else P.k g * s.num g) P.G+s.bar P * s.c2 P=P.mkd * s.D
  pend:∀ c,c < P.n→s.st c=1→s.bar P≤s.lie P c
variable {P:GP} {s:GS}
theorem GS.on_lt {g c:Nat} (h:s.on P g c=true):s.at_ g < (P.p g).length:=by
  unfold GS.on at h
  rw [Bool.and_eq_true,decide_eq_true_eq] at h
  exact h.1
theorem GS.on_at {g c:Nat} (h:s.on P g c=true):(P.p g).getD (s.at_ g) 0=(c:Int):=by
  unfold GS.on at h
  rw [Bool.and_eq_true,decide_eq_true_eq,decide_eq_true_eq] at h
  exact h.2
theorem GS.on_uniq {g c d:Nat} (h:s.on P g c=true) (h':s.on P g d=true):c=d:=by
  have h1:=GS.on_at h
  have h2:=GS.on_at h'
  omega
theorem GS.on_ne {g c:Nat} (h:s.on P g c=true):P.p g ≠ []:=fun e=>by
  have:=GS.on_lt h
  rw [e] at this
  simp at this
theorem zcx {l:List Int} {i:Nat} (h:i < l.length):l.getD i 0∈l:=by
  rw [List.getD_eq_getElem?_getD,List.getElem?_eq_getElem h]
  exact List.getElem_mem h
theorem GS.on_ex (hP:P.OK) {g:Nat} (hg:g < P.G) (h:s.at_ g < (P.p g).length):∃ c,c < P.n∧s.on P g c=true:=by
  obtain ⟨i,h1,h2⟩:=hP.prefs g hg _ (zcx h)
  refine ⟨i,h2,?_⟩
  unfold GS.on
  rw [Bool.and_eq_true,decide_eq_true_eq,decide_eq_true_eq]
  exact ⟨h,h1⟩
theorem lie_sum (hP:P.OK):sumN (s.lie P) P.n=sumN (fun g=>if s.at_ g < (P.p g).length then P.k g * s.num g else 0) P.G:=by
  unfold GS.lie
  rw [sumN_swap (fun c g=>if s.on P g c then P.k g * s.num g else 0)]
  refine zau fun g hg=>?_
  by_cases h:s.at_ g < (P.p g).length
  · obtain ⟨c,h1,h2⟩:=GS.on_ex hP hg h
    rw [if_pos h]
    have:sumN (fun i=>if s.on P g i then P.k g * s.num g else 0) P.n=sumN (fun i=>if i=c then P.k g * s.num g else 0) P.n:=zau fun i hi=>by
      by_cases hic:i=c
      · subst hic; rw [if_pos h2,if_pos rfl]
      · rw [if_neg hic,if_neg fun h3=>hic (GS.on_uniq h3 h2)]
    rw [this,sumN_one,if_pos h1]
  · rw [if_neg h]
    refine (zau fun i hi=>if_neg fun h3=>h (GS.on_lt h3)).trans (zds _)
theorem zkh (hP:P.OK):sumN (s.lie P) P.n≤sumN (fun g=>if P.p g=[] then 0 else P.k g * s.num g) P.G:=by
  rw [lie_sum hP]
  refine zga fun g hg=>?_
  by_cases h:P.p g=[]
  · rw [if_neg (by rw [h]; simp),if_pos h]; exact Nat.le_refl _
  · rw [if_neg h]
    split
    · exact Nat.le_refl _
    · exact Nat.zero_le _
theorem zlp (hI:GI P s) {c:Nat} (h:s.st c=2∨s.st c=3):s.lie P c=0:=by
  unfold GS.lie
  refine (zau fun g hg=>if_neg fun h3=>?_).trans (zds _)
  have:=hI.lies g c hg h3
  omega
theorem vt_lie (hI:GI P s) {c:Nat} (h:s.st c=0∨s.st c=1):s.vt P c=s.lie P c:=by
  unfold GS.vt; rw [if_neg (by omega),if_neg (by omega)]
theorem vt_eq (hI:GI P s) (c:Nat):s.vt P c=s.lie P c+if decide (s.st c=2) then s.bar P else 0:=by
  have h3:=hI.st3 c
  by_cases h2:s.st c=2
  · unfold GS.vt; rw [if_pos h2,zlp hI (.inl h2),decide_eq_true h2]; simp
  · rw [decide_eq_false h2]
    by_cases h4:s.st c=3
    · unfold GS.vt; rw [if_neg h2,if_pos h4,zlp hI (.inr h4)]; rfl
    · rw [vt_lie hI (by omega)]; rfl
theorem zqo (p:Nat→Bool) (v:Nat):∀ n:Nat,sumN (fun i=>if p i then v else 0) n=v * cntN p n
  | 0=>by simp [sumN,cntN]
  | n+1=>by
    show sumN _ n+(if p n then v else 0)=v * (cntN p n+(if p n then 1 else 0))
    rw [zqo p v n,Nat.mul_add]
    cases p n <;> simp
theorem vt_sum (hP:P.OK) (hI:GI P s):sumN (s.vt P) P.n=sumN (s.lie P) P.n+s.bar P * s.c2 P:=by
  rw [zau fun i _=>vt_eq hI i,zdg,zqo]; rfl
theorem vt_sum_le (hP:P.OK) (hI:GI P s):sumN (s.vt P) P.n≤P.mkd * s.D:=by
  rw [vt_sum hP hI]
  have:=zkh (s:=s) hP
  have:=hI.cons
  omega
theorem mk_le (hP:P.OK):P.mkd≤P.tot:=by
  rw [← hP.total]
  exact zga fun g _=>by split <;> omega
theorem zjs (hP:P.OK) (hI:GI P s):sumN (s.vt P) P.n≤P.tot * s.D:=Nat.le_trans (vt_sum_le hP hI) (Nat.mul_le_mul_right _ (mk_le hP))
theorem zpd (hP:P.OK) (hI:GI P s) {c:Nat} (h:c < P.n):s.vt P c≤P.tot * s.D:=Nat.le_trans (zgv h) (zjs hP hI)
theorem bar_pos (hP:P.OK) (hI:GI P s):0 < s.bar P:=Nat.mul_pos hP.q1 hI.D0
theorem zcf (c:Nat):(s.el1 P c=true∧s.st c=0∧s.st1 P c=1∧s.bar P≤s.vt P c)∨(s.el1 P c=false∧s.st1 P c=s.st c):=by
  unfold GS.st1
  cases h:s.el1 P c
  · exact .inr ⟨rfl,rfl⟩
  · unfold GS.el1 at h
    rw [Bool.and_eq_true,decide_eq_true_eq,decide_eq_true_eq] at h
    exact .inl ⟨rfl,h.1,rfl,h.2⟩
theorem zmg (hI:GI P s) {c:Nat} (hc:c < P.n) (h:s.st1 P c=1):(s.st c=0∨s.st c=1)∧s.vt P c=s.lie P c∧s.bar P≤s.vt P c:=by
  rcases zcf (P:=P) (s:=s) c with ⟨_,h1,h2,h3⟩ | ⟨_,h2⟩
  · exact ⟨.inl h1,vt_lie hI (.inl h1),h3⟩
  · have h1:s.st c=1:=by omega
    have:=hI.pend c hc h1
    rw [vt_lie hI (.inr h1)]
    exact ⟨.inr h1,rfl,this⟩
theorem zmf (c:Nat):s.st1 P c=2↔s.st c=2:=by
  rcases zcf (P:=P) (s:=s) c with ⟨_,h1,h2,h3⟩ | ⟨_,h2⟩ <;> omega
def GS.e1 (P:GP) (s:GS):Nat:=cntN (fun i=>decide (s.st1 P i=1)) P.n
def GS.e2 (P:GP) (s:GS):Nat:=cntN (fun i=>decide (s.st1 P i=2)) P.n
def GS.e0 (P:GP) (s:GS):Nat:=cntN (fun i=>decide (s.st1 P i=0)) P.n
theorem zko (hP:P.OK) (hI:GI P s):s.e1 P+s.e2 P≤P.seats:=by
  have h1:s.bar P * (s.e1 P+s.e2 P)≤sumN (s.vt P) P.n:=by
    unfold GS.e1 GS.e2
    rw [Nat.mul_add,← zqo,← zqo,← zdg]
    refine zga fun i hi=>?_
    by_cases h:s.st1 P i=1
    · rw [decide_eq_true h,decide_eq_false (by omega)]
      have:=(zmg hI hi h).2.2
      simpa using this
    · rw [decide_eq_false h]
      by_cases h2:s.st1 P i=2
      · rw [decide_eq_true h2]
        have h3:=(zmf i).1 h2
        have:s.vt P i=s.bar P:=by unfold GS.vt; rw [if_pos h3]
        rw [this]; simp
      · rw [decide_eq_false h2]; simp
  have h2:=vt_sum_le hP hI
  have h3:s.bar P * (s.e1 P+s.e2 P) < s.bar P * (P.seats+1):=by
    refine Nat.lt_of_le_of_lt (Nat.le_trans h1 h2) ?_
    have:P.mkd * s.D < P.q * (P.seats+1) * s.D:=Nat.mul_lt_mul_of_pos_right hP.quota hI.D0
    have e:s.bar P * (P.seats+1)=P.q * (P.seats+1) * s.D:=by unfold GS.bar; rw [Nat.mul_right_comm]
    omega
  have:=Nat.lt_of_mul_lt_mul_left h3
  omega
theorem fin_false (hP:P.OK) (hI:GI P s) (h:s.fin P=false):s.e1 P+s.e2 P < P.seats∧P.seats < s.e1 P+s.e2 P+s.e0 P:=by
  unfold GS.fin at h
  rw [Bool.or_eq_false_iff,decide_eq_false_iff_not,decide_eq_false_iff_not] at h
  have h1:¬ s.e1 P+s.e2 P=P.seats:=h.1
  have h2:¬ s.e1 P+s.e2 P+s.e0 P≤P.seats:=h.2
  have:=zko hP hI
  omega
theorem tied_ne (hP:P.OK) (hI:GI P s) (h:s.fin P=false):s.tied P ≠ []:=by
  obtain ⟨h1,h2⟩:=fin_false hP hI h
  have hne:selN (fun i=>decide (s.st1 P i=if s.most P then 1 else 0)) P.n ≠ []:=by
    have:0 < cntN (fun i=>decide (s.st1 P i=if s.most P then 1 else 0)) P.n:=by
      cases hm:s.most P
      · show 0 < s.e0 P; omega
      · unfold GS.most at hm
        exact of_decide_eq_true hm
    rw [← zcb] at this
    exact List.length_pos_iff.1 this
  unfold GS.tied
  generalize (if s.most P then 1 else 0)=c at hne ⊢
  have key:∃ i,i < P.n∧zlf P (s.vt P) (s.st1 P) c (s.most P) i=true:=by
    cases s.most P
    · obtain ⟨i,k1,k2⟩:=zqh (s.vt P) hne
      obtain ⟨k3,k4⟩:=zbt.1 k1
      refine ⟨i,k3,?_⟩
      unfold zlf
      rw [k4,Bool.true_and,List.all_eq_true]
      intro k hk
      by_cases h5:s.st1 P k=c
      · have:=k2 k (zbt.2 ⟨List.mem_range.1 hk,decide_eq_true h5⟩)
        simp [this]
      · simp [h5]
    · obtain ⟨i,k1,k2⟩:=exists_mostN (s.vt P) hne
      obtain ⟨k3,k4⟩:=zbt.1 k1
      refine ⟨i,k3,?_⟩
      unfold zlf
      rw [k4,Bool.true_and,List.all_eq_true]
      intro k hk
      by_cases h5:s.st1 P k=c
      · have:=k2 k (zbt.2 ⟨List.mem_range.1 hk,decide_eq_true h5⟩)
        simp [this]
      · simp [h5]
  obtain ⟨i,k1,k2⟩:=key
  exact List.ne_nil_of_mem (zcc.2 ⟨i,rfl,k1,k2⟩)
theorem pick_mem {earlier:List (List Rat)} (h:s.tied P ≠ []):s.pick P earlier∈s.tied P:=by
  unfold GS.pick
  split
  · exact zfr h
  · exact tieB_mem h
theorem zfi (hP:P.OK) (hI:GI P s) (h:s.fin P=false) (earlier:List (List Rat)):∃ x:Nat,s.pick P earlier=(x:Int)∧x < P.n∧s.st1 P x=if s.most P then 1 else 0:=by
  have h1:=pick_mem (earlier:=earlier) (tied_ne hP hI h)
  obtain ⟨i,h2,h3,h4⟩:=zcc.1 h1
  refine ⟨i,h2,h3,?_⟩
  unfold zlf at h4
  rw [Bool.and_eq_true,decide_eq_true_eq] at h4
  exact h4.1
theorem move_on {st:Nat→Nat} {keep:Nat→Rat} {x a b g c:Nat} (hx:s.on P g x=false):(s.move P st keep x a b).on P g c=s.on P g c:=by
  unfold GS.on GS.move
  simp only [hx,Bool.false_eq_true,if_false]
theorem move_lie {st:Nat→Nat} {keep:Nat→Rat} {x a b c:Nat} (hc:c ≠ x):s.lie P c * b≤(s.move P st keep x a b).lie P c:=by
  unfold GS.lie
  rw [← zhn]
  refine zga fun g hg=>?_
  by_cases h:s.on P g c=true
  · have hx:s.on P g x=false:=by
      cases hx:s.on P g x
      · rfl
      · exact absurd (GS.on_uniq h hx) hc
    rw [if_pos h,if_pos (by rw [move_on hx]; exact h)]
    show _≤P.k g * (if s.on P g x then s.num g * a else s.num g * b)
    rw [hx,Nat.mul_assoc]; exact Nat.le_refl _
  · rw [if_neg h,Nat.zero_mul]; exact Nat.zero_le _
theorem move_cons {st:Nat→Nat} {keep:Nat→Rat} {x a b:Nat} (hab:a≤b):sumN (fun g=>if P.p g=[] then 0 else P.k g * (s.move P st keep x a b).num g) P.G+(b - a) * s.lie P x=sumN (fun g=>if P.p g=[] then 0 else P.k g * s.num g) P.G * b:=by
  unfold GS.lie
  rw [← zhn,Nat.mul_comm (b - a),← zhn,← zdg]
  refine zau fun g hg=>?_
  show (if P.p g=[] then 0 else P.k g * (if s.on P g x then s.num g * a else s.num g * b))+_=_
  cases h:s.on P g x
  · simp only [Bool.false_eq_true,if_false]
    split
    · simp
    · rw [Nat.zero_mul,Nat.add_zero,Nat.mul_assoc]
  · have:=GS.on_ne h
    simp only [if_neg this,if_true]
    rw [← Nat.mul_assoc,← Nat.mul_add]
    congr 1
    omega
theorem zqn {p q:Nat→Bool} {n x:Nat} (hx:x < n) (h:∀ i,i < n→i ≠ x→p i=q i) (h0:q x=false) (h1:p x=true):cntN p n=cntN q n+1:=by
  have:=sumN_upd (f:=fun i=>if p i then 1 else 0) (g:=fun i=>if q i then 1 else 0) hx fun i hi hne=>by rw [h i hi hne]
  simp only [h0,h1,if_true,Bool.false_eq_true,if_false] at this
  unfold cntN
  omega
theorem move_inv (hP:P.OK) (hI:GI P s) {x a b y:Nat} {keep:Nat→Rat} (hx:x < P.n) (hy:y=2∨y=3) (hst:s.st1 P x=if y=2 then 1 else 0) (hab:a≤b) (hb0:0 < b)
    (hd:y=2→(b - a) * s.lie P x=s.bar P * b) (hd3:y=3→a=b) (hb:s.D * b≤2 ^ (17 * (2 ^ (s.c2 P+if y=2 then 1 else 0) - 1))) :
    GI P (s.move P (upd (s.st1 P) x y) keep x a b):=by
  have hx2:s.st x ≠ 2:=by
    have:=zmf (P:=P) (s:=s) x
    split at hst <;> omega
  have hc2:(s.move P (upd (s.st1 P) x y) keep x a b).c2 P=s.c2 P+if y=2 then 1 else 0:=by
    unfold GS.c2
    show cntN (fun i=>decide (upd (s.st1 P) x y i=2)) P.n=_
    by_cases h2:y=2
    · subst h2
      rw [if_pos rfl]
      refine zqn hx (fun i hi hne=>?_) (decide_eq_false hx2) (by rw [zci]; rfl)
      rw [zep _ _ hne]
      exact decide_eq_decide.2 (zmf i)
    · rw [if_neg h2,Nat.add_zero]
      refine zkr fun i hi=>?_
      by_cases hi:i=x
      · subst hi; rw [zci]; exact decide_eq_decide.2 ⟨fun h=>absurd h h2,fun h=>absurd h hx2⟩
      · rw [zep _ _ hi]; exact decide_eq_decide.2 (zmf i)
  refine ⟨Nat.mul_pos hI.D0 hb0,by rw [hc2]; exact hb,fun g hg=>?_,fun g hg=>?_,fun g c hg hon=>?_,fun c=>?_,fun g hg hp=>?_,?_,fun c hc hc1=>?_⟩
  · show (if s.on P g x then s.num g * a else s.num g * b)≤s.D * b
    have:=hI.num g hg
    split
    · exact Nat.mul_le_mul this hab
    · exact Nat.mul_le_mul_right _ this
  · show (if s.on P g x then nxt (P.p g) _ (s.at_ g+1) else s.at_ g)≤_
    cases h:s.on P g x
    · exact hI.at_ g hg
    · exact nxt_le _ (GS.on_lt h)
  · show upd (s.st1 P) x y c=0∨upd (s.st1 P) x y c=1
    cases h:s.on P g x
    · rw [move_on h] at hon
      have hcx:c ≠ x:=fun e=>by rw [e] at hon; rw [h] at hon; cases hon
      rw [zep _ _ hcx]
      have:=hI.lies g c hg hon
      rcases zcf (P:=P) (s:=s) c with ⟨_,h1,h2,_⟩ | ⟨_,h2⟩ <;> omega
    · have h1:=GS.on_lt hon
      have h2:=GS.on_at hon
      have e:(s.move P (upd (s.st1 P) x y) keep x a b).at_ g=nxt (P.p g) (upd (s.st1 P) x y) (s.at_ g+1):=by
        show (if s.on P g x then nxt (P.p g) _ (s.at_ g+1) else s.at_ g)=_
        rw [h]; rfl
      rw [e] at h1 h2
      have h3:=nxt_at h1
      rw [h2,Int.toNat_natCast] at h3
      exact .inl h3
  · show upd (s.st1 P) x y c≤3
    by_cases hi:c=x
    · subst hi; rw [zci]; omega
    · rw [zep _ _ hi]
      have:=hI.st3 c
      rcases zcf (P:=P) (s:=s) c with ⟨_,h1,h2,_⟩ | ⟨_,h2⟩ <;> omega
  · show (if s.on P g x then s.num g * a else s.num g * b)=s.D * b
    rw [if_neg fun h=>GS.on_ne h hp,hI.blank g hg hp]
  · have h1:=move_cons (P:=P) (s:=s) (st:=upd (s.st1 P) x y) (keep:=keep) (x:=x) hab
    have h2:=hI.cons
    rw [hc2]
    have e1:(s.move P (upd (s.st1 P) x y) keep x a b).bar P=s.bar P * b:=by
      show P.q * (s.D * b)=P.q * s.D * b
      rw [Nat.mul_assoc]
    have e2:P.mkd * (s.move P (upd (s.st1 P) x y) keep x a b).D=P.mkd * s.D * b:=by
      show P.mkd * (s.D * b)=_
      rw [Nat.mul_assoc]
    rw [e1,e2,← h2,Nat.add_mul,← h1]
    rcases hy with h3 | h3
    · rw [hd h3,if_pos h3,Nat.mul_add,Nat.mul_one,Nat.mul_right_comm (s.bar P) b]
      omega
    · rw [hd3 h3,Nat.sub_self,Nat.zero_mul,if_neg (by omega),Nat.add_zero,Nat.add_zero,Nat.mul_right_comm]
  · have hc1':upd (s.st1 P) x y c=1:=hc1
    have hcx:c ≠ x:=fun e=>by rw [e,zci] at hc1'; omega
    rw [zep _ _ hcx] at hc1'
    obtain ⟨_,k2,k3⟩:=zmg hI hc hc1'
    have e1:(s.move P (upd (s.st1 P) x y) keep x a b).bar P=s.bar P * b:=by
      show P.q * (s.D * b)=P.q * s.D * b
      rw [Nat.mul_assoc]
    rw [e1]
    refine Nat.le_trans (Nat.mul_le_mul_right b ?_) (move_lie hcx)
    omega
theorem pow_next {D v t c:Nat} (hD:D≤2 ^ (17 * (2 ^ c - 1))) (hv:v≤t * D) (ht:t≤100000):D * v≤2 ^ (17 * (2 ^ (c+1) - 1)):=by
  have h1:D * v≤D * (100000 * D):=Nat.mul_le_mul_left _ (Nat.le_trans hv (Nat.mul_le_mul_right _ ht))
  have h2:D * (100000 * D)≤2 ^ (17 * (2 ^ c - 1)) * (2 ^ 17 * 2 ^ (17 * (2 ^ c - 1))):=Nat.mul_le_mul hD (Nat.mul_le_mul (by decide) hD)
  have h3:17 * (2 ^ (c+1) - 1)=17 * (2 ^ c - 1)+(17+17 * (2 ^ c - 1)):=by
    have:0 < 2 ^ c:=P2_pos c
    rw [Nat.pow_succ]; omega
  rw [h3,Nat.pow_add,Nat.pow_add]
  omega
theorem trans_inv (hP:P.OK) (hI:GI P s) (h:s.fin P=false) (hm:s.most P=true) (earlier:List (List Rat)):GI P (s.trans P earlier):=by
  obtain ⟨x,h1,h2,h3⟩:=zfi hP hI h earlier
  rw [hm,if_pos rfl] at h3
  obtain ⟨_,k2,k3⟩:=zmg hI h2 h3
  have hb:=bar_pos hP hI
  unfold GS.trans
  simp only [h1,Int.toNat_natCast]
  refine move_inv hP hI h2 (.inl rfl) (by rw [h3]; rfl) (Nat.sub_le _ _) (by omega) (fun _=>?_) (fun h=>by omega) ?_
  · rw [← k2]
    congr 1
    omega
  · rw [if_pos rfl]
    exact pow_next hI.Db (zpd hP hI h2) hP.tot5
theorem excl_inv (hP:P.OK) (hI:GI P s) (h:s.fin P=false) (hm:s.most P=false) (earlier:List (List Rat)):GI P (s.excl P earlier):=by
  obtain ⟨x,h1,h2,h3⟩:=zfi hP hI h earlier
  rw [hm] at h3
  unfold GS.excl
  simp only [h1,Int.toNat_natCast]
  refine move_inv hP hI h2 (.inr rfl) (by rw [h3]; rfl) (Nat.le_refl _) (by omega) (fun h=>by omega) (fun _=>rfl) ?_
  rw [Nat.mul_one]
  exact hI.Db
theorem g0_inv (hP:P.OK):GI P g0:=by
  have hc:g0.c2 P=0:=(zkr (q:=fun _=>false) fun i _=>rfl).trans (by unfold cntN; exact zds _)
  refine ⟨by decide,by rw [hc]; exact Nat.le_refl 1,fun g hg=>Nat.le_refl 1,fun g hg=>Nat.zero_le _,fun g c hg _=>.inl rfl,fun c=>Nat.zero_le 3,fun g hg hp=>rfl,?_,fun c hc h=>by cases h⟩
  rw [hc,Nat.mul_zero,Nat.add_zero]
  show _=P.mkd * 1
  rw [Nat.mul_one]
  unfold GP.mkd
  refine zau fun g hg=>?_
  show (if P.p g=[] then 0 else P.k g * 1)=_
  rw [Nat.mul_one]
def GS.meas (P:GP) (s:GS):Nat:=cntN (fun i=>decide (s.st i=0∨s.st i=1)) P.n
theorem meas_move {x a b y:Nat} {keep:Nat→Rat} (hx:x < P.n) (hy:y=2∨y=3) (hst:s.st1 P x=0∨s.st1 P x=1):(s.move P (upd (s.st1 P) x y) keep x a b).meas P+1=s.meas P:=by
  unfold GS.meas
  refine (zqn (q:=fun i=>decide (upd (s.st1 P) x y i=0∨upd (s.st1 P) x y i=1)) hx (fun i hi hne=>?_) ?_ ?_).symm
  · rw [zep _ _ hne]
    refine decide_eq_decide.2 ?_
    rcases zcf (P:=P) (s:=s) i with ⟨_,h1,h2,_⟩ | ⟨_,h2⟩ <;> omega
  · rw [zci]; exact decide_eq_false (by omega)
  · refine decide_eq_true ?_
    rcases zcf (P:=P) (s:=s) x with ⟨_,h1,h2,_⟩ | ⟨_,h2⟩ <;> omega
theorem zjv (hP:P.OK) (hI:GI P s) (h:s.fin P=false) (hm:s.most P=true) (earlier:List (List Rat)):(s.trans P earlier).meas P+1=s.meas P:=by
  obtain ⟨x,h1,h2,h3⟩:=zfi hP hI h earlier
  rw [hm,if_pos rfl] at h3
  unfold GS.trans
  simp only [h1,Int.toNat_natCast]
  exact meas_move h2 (.inl rfl) (.inr h3)
theorem znh (hP:P.OK) (hI:GI P s) (h:s.fin P=false) (hm:s.most P=false) (earlier:List (List Rat)):(s.excl P earlier).meas P+1=s.meas P:=by
  obtain ⟨x,h1,h2,h3⟩:=zfi hP hI h earlier
  rw [hm] at h3
  unfold GS.excl
  simp only [h1,Int.toNat_natCast]
  exact meas_move h2 (.inr rfl) (.inl (by simpa using h3))
theorem meas_le (s:GS):s.meas P≤P.n:=zce _ _
theorem c2_le (s:GS):s.c2 P≤P.n:=zce _ _
def eD:Nat:=2159
def eB:Nat:=2208
theorem D_small (hP:P.OK) (hI:GI P s):s.D≤2 ^ eD:=by
  refine Nat.le_trans hI.Db (Nat.pow_le_pow_right (by decide) ?_)
  have h1:=c2_le (P:=P) s
  have h2:=hP.n7
  have:2 ^ s.c2 P≤2 ^ 7:=Nat.pow_le_pow_right (by decide) (by omega)
  show _≤2159
  omega
end Go.Proofs.YtmipjomnjkmdbaaGreat
set_option linter.unusedSimpArgs false
set_option linter.unusedVariables false
namespace Go.Proofs.YtmipjomnjkmdbaaGreat
open Go Go.X
abbrev CT:=List Int × (List (List Int) × (Int × (Int × (Int × (Int × (Int × (Int × Int)))))))
abbrev RD:=List Rt × (List Rt × (Rt × (Rt × (Rt × (List Int × (List Int × List Int))))))
abbrev KT:=CT × (List Int × (Int × (Int × (List (List Int × (Int × (Int × Rt))) × (List Int × (List Rt × (Int × (List (List Rt) × (Int × (Int × (Int × (Int × (List RD × List Int)))))))))))))
theorem zch {α:Type} {l:List α} {d:α} (h:l.length+1≤4294967296):decide ((l.length:Int)+(([d]:List α).length:Int)≤LIM)=true:=by
  have:(l.length:Int)+(([d]:List α).length:Int)=((l.length+1:Nat):Int):=by simp
  rw [this]; exact zbx h
theorem zhv (a b:Nat):decide ((a:Int)=(b:Int))=decide (a=b):=decide_eq_decide.2 Int.ofNat_inj
theorem frac_nd (a b:Nat):(frac a b).num.natAbs≤a∧(frac a b).den≤max 1 b:=by
  have e:frac a b=mkRat a b:=by
    unfold frac
    rw [Rat.mkRat_eq_div]
    rfl
  rw [e]
  by_cases hb:b=0
  · subst hb; rw [Rat.mkRat_zero]; exact ⟨Nat.zero_le _,Nat.le_max_left _ _⟩
  · rw [Rat.num_mkRat,Rat.den_mkRat,if_neg hb,if_neg hb]
    refine ⟨?_,Nat.le_trans (Nat.div_le_self _ _) (Nat.le_max_right _ _)⟩
    rw [Int.natAbs_natCast]
    have:((a:Int) / ((b.gcd a:Nat):Int))=((a / b.gcd a:Nat):Int):=rfl
    rw [this,Int.natAbs_natCast]
    exact Nat.div_le_self _ _
theorem zkm {a b e:Nat} (ha:a < 2 ^ e) (hb:b < 2 ^ e) (he:1≤e):Bz e (frac a b):=by
  obtain ⟨h1,h2⟩:=frac_nd a b
  have:1 < 2 ^ e:=Nat.one_lt_two_pow (by omega)
  exact ⟨by omega,by omega⟩
theorem zjf (a:Nat):frac a 1=(a:Rat):=by unfold frac; grind
theorem zqe {a b D:Nat} (hD:0 < D):frac a D+frac b D=frac (a+b) D:=by
  unfold frac
  rw [Rat.div_def,Rat.div_def,Rat.div_def,← Rat.add_mul]
  simp only [Rat.natCast_add]
theorem zlq {a b D:Nat} (hD:0 < D) (h:b≤a):frac a D - frac b D=frac (a - b) D:=by
  have:=zqe (a:=a - b) (b:=b) hD
  rw [Nat.sub_add_cancel h] at this
  rw [← this]; grind
theorem frac_mul_nat (a D k:Nat):frac a D * (k:Rat)=frac (k * a) D:=by
  unfold frac
  simp only [Rat.natCast_mul]
  rw [Rat.div_def,Rat.div_def]
  grind
theorem zje {q D:Nat} (hD:0 < D):frac (q * D) D=(q:Rat):=by
  unfold frac
  have:(D:Rat) ≠ 0:=by simp; omega
  rw [Rat.natCast_mul,Rat.mul_div_cancel this]
theorem zgj {a b D:Nat} (hD:0 < D):frac a D≤frac b D↔a≤b:=by
  unfold frac
  have:(0:Rat) < (D:Rat):=by exact_mod_cast hD
  rw [Rat.div_def,Rat.div_def]
  have hi:(0:Rat) < (D:Rat)⁻¹:=Rat.inv_pos.2 this
  constructor
  · intro h
    have:=Rat.le_of_mul_le_mul_right h hi
    exact_mod_cast this
  · intro h
    exact Rat.mul_le_mul_of_nonneg_right (by exact_mod_cast h) (Rat.le_of_lt hi)
theorem frac_lt {a b D:Nat} (hD:0 < D):frac a D < frac b D↔a < b:=by
  rw [← Rat.not_le,zgj hD]; omega
theorem frac_inj {a b D:Nat} (hD:0 < D):frac a D=frac b D↔a=b:=by
  constructor
  · intro h
    have h1:a≤b:=(zgj hD).1 (by rw [h]; exact Rat.le_refl)
    have h2:b≤a:=(zgj hD).1 (by rw [h]; exact Rat.le_refl)
    omega
  · intro h; rw [h]
theorem Bz.sz2 {q:Rat} (h:Bz eB q):Sz 268435456 (rr q):=by
  have h':Bz (32 * 69) q:=h
  have:=Bz.sz (k:=69) h'
  exact ⟨by have:=this.1; omega,by have:=this.2; omega⟩
theorem zoz {n:Nat} (h:n < 2 ^ 64):Bz eB (n:Rat):=by
  rw [← zjf]
  exact zkm (Nat.lt_trans h (Nat.pow_lt_pow_right (by decide) (by decide))) (Nat.one_lt_two_pow (by decide)) (by decide)
theorem zfl {n:Nat} (h:n≤9223372036854775807):d68 (n:Int)=some (rr (n:Rat)):=by
  rw [zos (by omega) (by omega)]; rfl
theorem zgx {p:Nat→Bool} {n j:Nat} (h:j < (selN p n).length):(selN p n).getD j 0 < n∧p ((selN p n).getD j 0)=true:=by
  rw [List.getD_eq_getElem?_getD,List.getElem?_eq_getElem h]
  exact zbt.1 (List.getElem_mem h)
theorem zir {p:Nat→Bool} {n j:Nat} (h:j < (selN p n).length):(selI p n).getD j 0=(((selN p n).getD j 0:Nat):Int):=by
  unfold selI
  rw [List.getD_eq_getElem?_getD,List.getElem?_map,List.getElem?_eq_getElem h,List.getD_eq_getElem?_getD,List.getElem?_eq_getElem h]; rfl
theorem zbi {α:Type} (l:List α) (d:α) {n:Nat} (h:n < l.length):l.take (n+1)=l.take n++[l.getD n d]:=by
  rw [List.take_add_one,List.getD_eq_getElem?_getD,List.getElem?_eq_getElem h]; rfl
def zez {α:Type} (f:Nat→α) (L:List Nat) (x:α):Nat→α:=fun c=>if c∈L then x else f c
theorem zma {α:Type} (f:Nat→α) (L:List Nat) (c:Nat) (x:α):upd (zez f L x) c x=zez f (L++[c]) x:=by
  funext d
  unfold upd zez
  by_cases h:d=c
  · subst h; simp
  · simp [h]
theorem znz {α:Type} (f:Nat→α) (x:α):zez f [] x=f:=by funext d; simp [zez]
theorem zkp {k:KT} {st:Nat→Nat} {n:Nat} (hk:k.2.2.2.2.2.1=lst (fun i=>(st i:Int)) n) (hn:n≤1000) (x:Nat):d135 k (x:Int)=some (selI (fun i=>decide (st i=x)) n):=by
  unfold d135
  rw [hk,zal]
  refine zae (fun i=>((x:Int),selI (fun i=>decide (st i=x)) i,lst (fun i=>(st i:Int)) n,(n:Int),(i:Int))) n rfl (fun i hi=>?_) ?_ rfl
  · have hl:(selI (fun i=>decide (st i=x)) i).length+1≤4294967296:=by
      rw [zbn]; have:=zce (fun i=>decide (st i=x)) i; omega
    rw [zer]
    simp only [dlt hi,d0le,zal,Bool.and_self,cond_true,tn,zaz _ hi,zaw,zhv,zbl (show i < 9223372036854775807 by omega)]
    by_cases h:st i=x
    · rw [decide_eq_true h,cond_true,zch hl,cond_true]; rfl
    · rw [decide_eq_false h,cond_false]; simp
  · simp only [nlt (Nat.le_refl n),cond_false]
theorem d131_eq {f:Nat→Rat} {n:Nat} (hn:n≤1000) (hf:∀ i,i < n→Bz eB (f i)):d131 (lst (fun i=>rr (f i)) n)=some (lst (fun i=>rr (f i)) n):=by
  unfold d131
  rw [zal]
  refine zae (fun i=>(lst (fun i=>rr (f i)) i,lst (fun i=>rr (f i)) n,(n:Int),(i:Int))) n rfl (fun i hi=>?_) ?_ rfl
  · have hs:=(hf i hi).sz2
    simp only [dlt hi,d0le,zal,Bool.and_self,cond_true,tn,zaz _ hi,zbl (show i < 9223372036854775807 by omega),zql (show (rr (f i)).2.1.length≤4294967296 by have:=hs.1; omega),zql (show (rr (f i)).2.2.length≤4294967296 by have:=hs.2; omega),Option.bind_some]
    have hl:=zch (l:=lst (fun i=>rr (f i)) i) (d:=((rr (f i)).1,(rr (f i)).2.1,(rr (f i)).2.2)) (by rw [zal]; omega)
    rw [zal] at hl
    rw [hl,cond_true,zfc]
  · simp only [nlt (Nat.le_refl n),cond_false]
def GS.lieU (P:GP) (s:GS) (m c:Nat):Nat:=sumN (fun g=>if s.on P g c then P.k g * s.num g else 0) m
def parc (P:GP) (s:GS) (g:Nat):List Int × (Int × (Int × Rt)):=(P.p g,(P.k g:Int),(s.at_ g:Int),rr (frac (s.num g) s.D))
variable {P:GP} {s:GS}
theorem lieU_le (m c:Nat) (h:m≤P.G):s.lieU P m c≤s.lie P c:=by
  have key:∀ (f:Nat→Nat) (m n:Nat),m≤n→sumN f m≤sumN f n:=by
    intro f m n
    induction n with
    | zero=>intro h; rw [show m=0 by omega]; exact Nat.le_refl _
    | succ n ih =>
      intro h
      by_cases hm:m=n+1
      · rw [hm]; exact Nat.le_refl _
      · rw [sumN]; have:=ih (by omega); omega
  exact key _ _ _ h
theorem zhl {a:Nat} (hP:P.OK) (hI:GI P s) (h:a≤P.tot * s.D):a < 2 ^ eB:=by
  have h1:=D_small hP hI
  have h2:P.tot * s.D≤100000 * 2 ^ eD:=Nat.mul_le_mul hP.tot5 h1
  have h3:100000 * 2 ^ eD≤2 ^ 17 * 2 ^ eD:=Nat.mul_le_mul_right _ (by decide)
  have h4:2 ^ 17 * 2 ^ eD < 2 ^ eB:=by rw [← Nat.pow_add]; exact Nat.pow_lt_pow_right (by decide) (by decide)
  omega
theorem D_lt (hP:P.OK) (hI:GI P s):s.D < 2 ^ eB:=Nat.lt_of_le_of_lt (D_small hP hI) (Nat.pow_lt_pow_right (by decide) (by decide))
theorem zbe (hP:P.OK) (hI:GI P s) {a:Nat} (h:a≤P.tot * s.D):Bz eB (frac a s.D):=zkm (zhl hP hI h) (D_lt hP hI) (by decide)
theorem k_le (hP:P.OK) {g:Nat} (h:g < P.G):P.k g≤P.tot:=by rw [← hP.total]; exact zgv h
theorem knum_le (hP:P.OK) (hI:GI P s) {g:Nat} (h:g < P.G):P.k g * s.num g≤P.tot * s.D:=Nat.mul_le_mul (k_le hP h) (hI.num g h)
theorem lie_le (hP:P.OK) (hI:GI P s) {c:Nat} (h:c < P.n):s.lie P c≤P.tot * s.D:=by
  have h1:=zgv (f:=s.lie P) h
  have h2:=zkh (s:=s) hP
  have h3:=hI.cons
  have h4:=Nat.mul_le_mul_right s.D (mk_le hP)
  omega
theorem num_small (hP:P.OK) (hI:GI P s) {g:Nat} (h:g < P.G):Bz eB (frac (s.num g) s.D):=zkm (Nat.lt_of_le_of_lt (hI.num g h) (D_lt hP hI)) (D_lt hP hI) (by decide)
theorem zmr (hP:P.OK):Bz eB (P.q:Rat):=zoz (by have:=hP.q5; omega)
theorem d130_eq (hP:P.OK) (hI:GI P s) (hG:P.G≤1000000) {k:KT} (h1:k.2.2.2.2.1=lst (parc P s) P.G) (h2:k.2.2.2.2.2.1=lst (fun i=>(s.st i:Int)) P.n) (h3:k.2.2.2.1=(P.q:Int)) :
    d130 k=some (lst (fun i=>rr (frac (s.vt P i) s.D)) P.n):=by
  have hn:=hP.n7
  unfold d130
  rw [h2,zal]
  refine zae (fun i=>(k,lst (fun _=>rr 0) i,(P.n:Int),(i:Int))) P.n rfl (fun i hi=>?_) (b:=(k,lst (fun _=>rr 0) P.n)) ?_ ?_
  · have hl:=zch (l:=lst (fun _=>rr 0) i) (d:=rr 0) (by rw [zal]; omega)
    simp only [dlt hi,cond_true,show d68 0=some (rr 0) from zos (n:=0) (by omega) (by omega),Option.bind_some,hl,zbl (show i < 9223372036854775807 by omega),← zfc]
  · simp only [nlt (Nat.le_refl P.n),cond_false]
  simp only [h1,zal]
  refine zae (fun m=>(k,lst (fun c=>rr (frac (s.lieU P m c) s.D)) P.n,lst (parc P s) P.G,(P.G:Int),(m:Int))) P.G ?_ (fun g hg=>?_) (b:=(k,lst (fun c=>rr (frac (s.lie P c) s.D)) P.n)) ?_ ?_
  · simp only [GS.lieU,sumN,show frac 0 s.D=0 by unfold frac; rw [Rat.div_def]; simp]; rfl
  · simp only [dlt hg,d0le,zal,Bool.and_self,cond_true,tn,zaz (parc P s) hg,parc,zaw,zbl (show g < 9223372036854775807 by omega)]
    by_cases ha:s.at_ g < (P.p g).length
    · obtain ⟨c,c1,c2⟩:=GS.on_ex hP hg ha
      have c3:=GS.on_at c2
      have hU:=lieU_le (P:=P) (s:=s) g c (by omega)
      have hL:=lie_le hP hI c1
      have hk:=k_le hP hg
      have ht:=hP.tot5
      have hk2:=knum_le hP hI hg
      rw [dlt ha]
      simp only [cond_true,d0le,Bool.and_self,tn,c3,dlt c1,zaz (fun c=>rr (frac (s.lieU P g c) s.D)) c1,zal]
      rw [zfl (by omega),Option.bind_some,d172_rr (num_small hP hI hg).sz2 (zoz (by omega)).sz2,Option.bind_some,frac_mul_nat,d138_rr (zbe hP hI (by omega)).sz2 (zbe hP hI hk2).sz2,Option.bind_some,zqe hI.D0,zfk]
      have e:lst (upd (fun c=>rr (frac (s.lieU P g c) s.D)) c (rr (frac (s.lieU P g c+P.k g * s.num g) s.D))) P.n=lst (fun c=>rr (frac (s.lieU P (g+1) c) s.D)) P.n:=zbd fun i hi=>by
        unfold upd GS.lieU
        by_cases h:i=c
        · subst h; rw [if_pos rfl,sumN,if_pos c2]
        · rw [if_neg h,sumN,if_neg fun h4=>h (GS.on_uniq h4 c2),Nat.add_zero]
      rw [e]
    · rw [nlt (by omega),cond_false]
      have e:lst (fun c=>rr (frac (s.lieU P g c) s.D)) P.n=lst (fun c=>rr (frac (s.lieU P (g+1) c) s.D)) P.n:=zbd fun i hi=>by
        unfold GS.lieU
        rw [sumN,if_neg fun h4=>ha (GS.on_lt h4),Nat.add_zero]
      rw [e]
  · simp only [nlt (Nat.le_refl P.G),cond_false]; rfl
  have e2:=zkp (k:=k) h2 (by omega) 2
  simp only [show d135 k 2=some (selI (fun i=>decide (s.st i=2)) P.n) from e2,Option.bind_some]
  obtain ⟨L,hL⟩:∃ L,selN (fun i=>decide (s.st i=2)) P.n=L:=⟨_,rfl⟩
  have hLi:(selI (fun i=>decide (s.st i=2)) P.n).length=L.length:=by rw [← hL,selI,List.length_map]
  have hLl:L.length≤7:=by rw [← hL,zcb]; have:=zce (fun i=>decide (s.st i=2)) P.n; omega
  rw [hLi]
  refine zae (fun j=>(k,lst (zez (fun c=>rr (frac (s.lie P c) s.D)) (L.take j) (rr (P.q:Rat))) P.n,selI (fun i=>decide (s.st i=2)) P.n,(L.length:Int),(j:Int))) L.length ?_ (fun j hj=>?_) (b:=lst (zez (fun c=>rr (frac (s.lie P c) s.D)) L (rr (P.q:Rat))) P.n) ?_ ?_
  · rw [List.take_zero,znz]; rfl
  · have hj':j < (selN (fun i=>decide (s.st i=2)) P.n).length:=by rw [hL]; exact hj
    have hg:=zgx hj'
    rw [hL] at hg
    have hq:=hP.q5
    simp only [dlt hj,d0le,hLi,Bool.and_self,cond_true,tn,zir hj',h3,zfl (show P.q≤9223372036854775807 by omega),Option.bind_some,zal,dlt hg.1,zbl (show j < 9223372036854775807 by omega),zfk,zma,hL]
    rw [zbi L 0 hj]
  · simp only [nlt (Nat.le_refl L.length),cond_false,List.take_length]
  · congr 1
    refine zbd fun i hi=>?_
    unfold zez
    rw [vt_eq hI]
    by_cases h:s.st i=2
    · rw [if_pos (by rw [← hL]; exact zbt.2 ⟨hi,decide_eq_true h⟩),decide_eq_true h,zlp hI (.inl h),if_pos rfl,Nat.zero_add]
      unfold GS.bar
      rw [zje hI.D0]
    · rw [if_neg (by rw [← hL]; intro hm; exact h (of_decide_eq_true (zbt.1 hm).2)),decide_eq_false h]
      simp
end Go.Proofs.YtmipjomnjkmdbaaGreat
set_option linter.unusedSimpArgs false
set_option linter.unusedVariables false
namespace Go.Proofs.YtmipjomnjkmdbaaGreat
open Go Go.X
theorem zpg {α:Type} (l:List α) (x:α) {i:Nat} (h:i < l.length):(l.set i x).take (i+1)=l.take i++[x]:=by
  refine List.ext_getElem? fun j=>?_
  by_cases hj:j < i+1
  · rw [List.getElem?_take_of_lt hj]
    by_cases h2:i=j
    · subst h2
      rw [List.getElem?_set_self h,List.getElem?_append_right (by rw [List.length_take]; omega),List.length_take,Nat.min_eq_left (by omega),Nat.sub_self]; rfl
    · rw [List.getElem?_set_ne h2,List.getElem?_append_left (by rw [List.length_take]; omega),List.getElem?_take_of_lt (by omega)]
  · rw [List.getElem?_eq_none (by rw [List.length_take,List.length_set]; omega),List.getElem?_eq_none (by rw [List.length_append,List.length_take]; simp; omega)]
theorem zec (g:Int→Bool) (s:List Int) {j:Nat} (h:j < s.length):(s.take (j+1)).filter g=(s.take j).filter g++(if g (s.getD j 0) then [s.getD j 0] else []):=by
  rw [zbi s 0 h,List.filter_append]
  congr 1
  rw [List.filter_cons]
  cases hg:g (s.getD j 0) <;> rfl
theorem getD_of_drop {s t:List Int} {j:Nat} (h:s.drop j=t.drop j):s.getD j 0=t.getD j 0:=by
  have h1:=zjd s j 0 0
  have h2:=zjd t j 0 0
  rw [Nat.add_zero] at h1 h2
  rw [← h1,← h2,h]
theorem zlb {s t:List Int} {j:Nat} (h:s.drop j=t.drop j):s.drop (j+1)=t.drop (j+1):=by
  rw [← List.drop_drop,← List.drop_drop,h]
theorem d134_eq {s:List Int} {f:Int→Option Bool} {g:Int→Bool} (hf:∀ c∈s,f c=some (g c)) (hs:s.length≤1000000):d134 s f=some (s.filter fun c=>!g c):=by
  unfold d134
  rw [d101_on hf (by omega)]
  have hle:=zfs g s
  by_cases h:zah g s < s.length
  · rw [if_pos h,Option.bind_some,decide_eq_false (show ¬ ((zah g s:Nat):Int)=-1 by omega),cond_false]
    obtain ⟨i0,hi0⟩:∃ i0,zah g s=i0:=⟨_,rfl⟩
    have hat:=zem g s h
    have hlt:=zdd g s
    rw [hi0] at h hat hlt
    rw [hi0,zbl (by omega)]
    refine zcm (Q:=fun r=>r=some (s.filter fun c=>!g c)) (fun (m:Nat) (st:(List Int) × (Int→Option Bool) × Int × Int)=>∃ (s':List Int) (i:Nat),st=(s',f,(i:Int),((i0+1+m:Nat):Int))∧s'.length=s.length∧i≤i0+m∧i0+1+m≤s.length∧s'.take i=(s.take (i0+1+m)).filter (fun c=>!g c)∧s'.drop (i0+1+m)=s.drop (i0+1+m)) (s.length - (i0+1)) ?_ ?_ ?_
    · refine ⟨s,i0,rfl,rfl,by omega,by omega,?_,rfl⟩
      rw [zec _ s h,hat,show (!true)=false from rfl]
      simp only [Bool.false_eq_true,if_false,List.append_nil]
      refine (List.filter_eq_self.2 fun x hx=>?_).symm
      obtain ⟨k,hk,hkx⟩:=List.getElem_of_mem hx
      rw [List.length_take] at hk
      have:=hlt k (by omega)
      rw [List.getD_eq_getElem?_getD,List.getElem?_eq_getElem (by omega)] at this
      rw [List.getElem_take] at hkx
      rw [← hkx]
      simpa using this
    · rintro m st hm ⟨s',i,rfl,hl,hi,hmle,ht,hd⟩
      have hj:i0+1+m < s.length:=by omega
      have hgd:=getD_of_drop hd
      have hmem:s.getD (i0+1+m) 0∈s:=zcx hj
      simp only [hl,dlt hj,d0le,Bool.and_self,cond_true,tn,zaw,hgd,hf _ hmem,Option.bind_some]
      rw [show i0+1+(m+1)=i0+1+m+1 by omega]
      cases hg:g (s.getD (i0+1+m) 0) with
      | true =>
        refine ⟨_,by rw [Bool.not_true,cond_false,zbl (by omega)],s',i,rfl,hl,by omega,by omega,?_,zlb hd⟩
        rw [zec _ s hj,hg,ht]; simp
      | false =>
        refine ⟨_,by simp only [Bool.not_false,cond_true,dlt (show i < s.length by omega),zbl (show i < 9223372036854775807 by omega),zbl (show i0+1+m < 9223372036854775807 by omega),Bool.and_self],s'.set i (s.getD (i0+1+m) 0),i+1,rfl,by simpa using hl,by omega,by omega,?_,?_⟩
        · rw [zpg _ _ (by omega),zec _ s hj,hg,ht]; simp
        · rw [List.drop_set_of_lt (by omega)]; exact zlb hd
    · rintro st ⟨s',i,rfl,hl,hi,hmle,ht,hd⟩
      have e:i0+1+(s.length - (i0+1))=s.length:=by omega
      rw [e] at ht hd ⊢
      rw [List.take_length] at ht
      refine ⟨(s',(i:Int)),by simp only [hl,nlt (Nat.le_refl s.length),cond_false],?_⟩
      have hil:i≤s'.length:=by omega
      have hlen:(List.take i s'++List.replicate (s'.length - i) 0).length=s'.length:=by simp; omega
      have c1:zde (i:Int) (s'.length:Int) s'.length=true:=by
        unfold zde
        simp only [Bool.and_eq_true,decide_eq_true_eq]
        omega
      have c2:zde 0 (i:Int) s'.length=true:=by
        unfold zde
        simp only [Bool.and_eq_true,decide_eq_true_eq]
        omega
      simp only [c1,cond_true,tn,hlen,c2]
      rw [List.take_append_of_le_length (by rw [List.length_take]; omega),List.take_take,Nat.min_self,ht]
  · rw [if_neg h,Option.bind_some]
    have hall:∀ x∈s,g x=false:=fun x hx=>by
      cases hg:g x
      · rfl
      · exact absurd ((zie g s).2 ⟨x,hx,hg⟩) h
    rw [List.filter_eq_self.2 fun x hx=>by rw [hall x hx]; rfl]
    rfl
theorem d133_eq {c:CT} {lots:List Int} {tot q:Int} {pc:List (List Int × (Int × (Int × Rt)))} {st:Nat→Nat} {n:Nat} {kp:List Rt} {filled:Nat} {rest:List (List Rt) × (Int × (Int × (Int × (Int × (List RD × List Int)))))}
    {v kk:List Rt} {qu ex su:Rt} {el ex2 ti:List Int} {p:Nat→Bool} (hn:n≤7) (hf:filled≤1000) (hel:el.length≤1000) :
    d133 (c,lots,tot,q,pc,lst (fun i=>(st i:Int)) n,kp,(filled:Int),rest) (v,kk,qu,ex,su,el,ex2,ti) (selI p n)
      = some ((c,lots,tot,q,pc,lst (fun i=>((if p i then 1 else st i:Nat):Int)) n,kp,((filled+cntN p n:Nat):Int),rest),(v,kk,qu,ex,su,zeb (el++selI p n),ex2,ti)):=by
  unfold d133
  obtain ⟨L,hL⟩:∃ L,selN p n=L:=⟨_,rfl⟩
  have hLi:(selI p n).length=L.length:=by rw [← hL,selI,List.length_map]
  have hLc:cntN p n=L.length:=by rw [← hL,zcb]
  have hLl:L.length≤7:=by rw [← hLc]; have:=zce p n; omega
  rw [hLi]
  refine zae (fun j=>((c,lots,tot,q,pc,lst (fun i=>((zez st (L.take j) 1 i:Nat):Int)) n,kp,((filled+j:Nat):Int),rest),(v,kk,qu,ex,su,el++(selI p n).take j,ex2,ti),selI p n,(L.length:Int),(j:Int))) L.length ?_ (fun j hj=>?_) (b:=((c,lots,tot,q,pc,lst (fun i=>((zez st L 1 i:Nat):Int)) n,kp,((filled+L.length:Nat):Int),rest),(v,kk,qu,ex,su,el++selI p n,ex2,ti))) ?_ ?_
  · rw [List.take_zero,znz,List.take_zero,List.append_nil]; rfl
  · have hj':j < (selN p n).length:=by rw [hL]; exact hj
    have hg:=zgx hj'
    have hsg:=zir hj'
    rw [hL] at hg hsg
    have hll:(el++(selI p n).take j).length+1≤4294967296:=by rw [List.length_append,List.length_take]; omega
    simp only [dlt hj,d0le,hLi,Bool.and_self,cond_true,tn,hsg,zal,dlt hg.1,zch hll,zbl (show j < 9223372036854775807 by omega),zbl (show filled+j < 9223372036854775807 by omega),zfk]
    have e:lst (upd (fun i=>((zez st (L.take j) 1 i:Nat):Int)) (L.getD j 0) 1) n=lst (fun i=>((zez st (L.take (j+1)) 1 i:Nat):Int)) n:=zbd fun i hi=>by
      rw [zbi L 0 hj,← zma]
      unfold upd
      split <;> rfl
    rw [e,zbi (selI p n) 0 (by rw [hLi]; exact hj),hsg,List.append_assoc]
    rfl
  · simp only [nlt (Nat.le_refl L.length),cond_false,List.take_length]
    rw [← hLi,List.take_length]
  · have hd:d174 (el++selI p n)=some (zeb (el++selI p n)):=by
      unfold d174
      rw [zbx (by rw [List.length_append]; omega)]; rfl
    simp only [hd,Option.bind_some,hLc]
    have e:lst (fun i=>((zez st L 1 i:Nat):Int)) n=lst (fun i=>((if p i then 1 else st i:Nat):Int)) n:=zbd fun i hi=>by
     unfold zez
     congr 1
     by_cases h:p i=true
     · rw [if_pos (by rw [← hL]; exact zbt.2 ⟨hi,h⟩),if_pos h]
     · rw [if_neg (by rw [← hL]; exact fun hm=>h (zbt.1 hm).2),if_neg h]
    rw [e]
theorem zdl (p:Nat→Bool):∀ n:Nat,(selI p n).Pairwise (· < ·)
  | 0=>List.Pairwise.nil
  | n+1=>by
    rw [zer,List.pairwise_append]
    refine ⟨zdl p n,by split <;> simp,fun x hx y hy=>?_⟩
    obtain ⟨i,rfl,h1,_⟩:=zcc.1 hx
    split at hy
    · simp at hy; subst hy; omega
    · simp at hy
theorem sortI_of {l m:List Int} (hp:l.Perm m) (hs:m.Pairwise (·≤·)):zeb l=m:=by
  unfold zeb
  have h1:=List.mergeSort_perm l fun x y=>decide (x≤y)
  have h2:(l.mergeSort fun x y=>decide (x≤y)).Pairwise (·≤·):=by
    have:=List.pairwise_mergeSort (le:=fun x y:Int=>decide (x≤y)) (fun a b c h1 h2=>decide_eq_true (Int.le_trans (of_decide_eq_true h1) (of_decide_eq_true h2))) (fun a b=>by simp only [Bool.or_eq_true,decide_eq_true_eq]; omega) l
    exact this.imp fun h=>of_decide_eq_true h
  exact (h1.trans hp).eq_of_pairwise (fun a b _ _ h3 h4=>Int.le_antisymm h3 h4) h2 hs
theorem sortI_selI (p:Nat→Bool) (n:Nat):zeb (selI p n)=selI p n:=sortI_of (List.Perm.refl _) ((zdl p n).imp fun h=>Int.le_of_lt h)
theorem sel_perm {p q:Nat→Bool} (h:∀ i,p i=true→q i=false):∀ n:Nat,(selI p n++selI q n).Perm (selI (fun i=>p i || q i) n)
  | 0=>List.Perm.refl _
  | n+1=>by
    have ih:=sel_perm h n
    rw [zer,zer,zer]
    cases hp:p n
    · simp only [Bool.false_eq_true,if_false,List.append_nil,Bool.false_or]
      cases hq:q n
      · simp only [Bool.false_eq_true,if_false,List.append_nil]; exact ih
      · simp only [if_true]
        rw [← List.append_assoc]
        exact ih.append_right _
    · rw [h n hp]
      simp only [Bool.false_eq_true,if_false,List.append_nil,Bool.or_false,if_true]
      refine List.Perm.trans ?_ (ih.append_right [(n:Int)])
      rw [List.append_assoc,List.append_assoc]
      exact List.Perm.append_left _ List.perm_append_comm
theorem sortI_two {p q:Nat→Bool} (h:∀ i,p i=true→q i=false) (n:Nat):zeb (selI p n++selI q n)=selI (fun i=>p i || q i) n :=
  sortI_of (sel_perm h n) ((zdl _ n).imp fun h=>Int.le_of_lt h)
def ext0 (ρ:Int→Rat) (l:List Int):List Int:=l.filter fun i=>l.all fun k=>decide (ρ i≤ρ k)
def sgR (least:Bool) (r:Int→Rat) (c:Int):Rat:=if least then r c else - r c
theorem extr_ext0 (least:Bool) (r:Int→Rat) (l:List Int):extr least r l=ext0 (sgR least r) l:=by
  unfold extr ext0 sgR
  refine List.filter_congr fun i _=>?_
  congr 1
  funext k
  cases least
  · simp only [Bool.false_eq_true,if_false]
    exact decide_eq_decide.2 ⟨fun h=>by grind,fun h=>by grind⟩
  · rfl
theorem zjl {ρ:Int→Rat} {l:List Int} {x:Int}:x∈ext0 ρ l↔x∈l∧∀ k∈l,ρ x≤ρ k:=by
  unfold ext0
  rw [List.mem_filter,List.all_eq_true]
  simp only [decide_eq_true_eq]
theorem zng {ρ:Int→Rat} {l:List Int} (h:l ≠ []):ext0 ρ l ≠ []:=by
  obtain ⟨i,h1,h2⟩:=zfe ρ h
  exact List.ne_nil_of_mem (zjl.2 ⟨h1,h2⟩)
theorem zqg (ρ:Int→Rat):ext0 ρ []=[]:=rfl
theorem znf (ρ:Int→Rat) {l:List Int} (x:Int) (hl:l ≠ []):ext0 ρ (l++[x])=if ρ x < ρ ((ext0 ρ l).headD 0) then [x] else if ρ x=ρ ((ext0 ρ l).headD 0) then ext0 ρ l++[x] else ext0 ρ l:=by
  have hy:=zfr (zng (ρ:=ρ) hl)
  generalize (ext0 ρ l).headD 0=y at hy ⊢
  obtain ⟨h1,h2⟩:=zjl.1 hy
  have e:ext0 ρ (l++[x])=l.filter (fun i=>(l.all fun k=>decide (ρ i≤ρ k)) && decide (ρ i≤ρ x))++if (l.all fun k=>decide (ρ x≤ρ k)) then [x] else []:=by
    unfold ext0
    rw [List.filter_append]
    congr 1
    · refine List.filter_congr fun i _=>?_
      rw [List.all_append]; simp
    · rw [List.filter_cons,List.all_append]
      have:ρ x≤ρ x:=Rat.le_refl
      simp [this]
  rw [e]
  by_cases c1:ρ x < ρ y
  · rw [if_pos c1]
    have a1:l.filter (fun i=>(l.all fun k=>decide (ρ i≤ρ k)) && decide (ρ i≤ρ x))=[]:=by
      refine List.filter_eq_nil_iff.2 fun i hi hc=>?_
      simp only [Bool.and_eq_true,decide_eq_true_eq] at hc
      have:=h2 i hi
      grind
    have a2:(l.all fun k=>decide (ρ x≤ρ k))=true:=List.all_eq_true.2 fun k hk=>decide_eq_true (by have:=h2 k hk; grind)
    rw [a1,a2]; rfl
  · rw [if_neg c1]
    have a1:l.filter (fun i=>(l.all fun k=>decide (ρ i≤ρ k)) && decide (ρ i≤ρ x))=ext0 ρ l:=by
      unfold ext0
      refine List.filter_congr fun i hi=>?_
      cases hall:(l.all fun k=>decide (ρ i≤ρ k))
      · rfl
      · have:=of_decide_eq_true (List.all_eq_true.1 hall y h1)
        rw [Bool.true_and]
        exact decide_eq_true (by grind)
    rw [a1]
    by_cases c2:ρ x=ρ y
    · rw [if_pos c2]
      have a2:(l.all fun k=>decide (ρ x≤ρ k))=true:=List.all_eq_true.2 fun k hk=>decide_eq_true (by have:=h2 k hk; grind)
      rw [a2]; rfl
    · rw [if_neg c2]
      have a2:(l.all fun k=>decide (ρ x≤ρ k))=false:=by
        rw [List.all_eq_false]
        exact ⟨y,h1,by simp only [decide_eq_true_eq]; grind⟩
      rw [a2]; simp
def ordQ (least:Bool) (a b:Rat):Int:=if least then cmpQ a b else 0 - cmpQ a b
theorem ordQ_lt (least:Bool) (r:Int→Rat) (x y:Int):decide (ordQ least (r x) (r y) < 0)=decide (sgR least r x < sgR least r y):=by
  refine decide_eq_decide.2 ?_
  unfold ordQ sgR cmpQ
  cases least <;> simp only [Bool.false_eq_true,if_false,if_true]
  · by_cases h1:r x < r y
    · rw [if_pos h1]; constructor
      · intro h; omega
      · intro h; grind
    · rw [if_neg h1]
      by_cases h2:r x=r y
      · rw [if_pos h2]; constructor
        · intro h; omega
        · intro h; grind
      · rw [if_neg h2]; constructor
        · intro _; grind
        · intro _; omega
  · by_cases h1:r x < r y
    · rw [if_pos h1]; constructor
      · intro h; exact h1
      · intro h; omega
    · rw [if_neg h1]; constructor
      · intro h; split at h <;> omega
      · intro h; exact absurd h h1
theorem ordQ_eq (least:Bool) (r:Int→Rat) (x y:Int):decide (ordQ least (r x) (r y)=0)=decide (sgR least r x=sgR least r y):=by
  refine decide_eq_decide.2 ?_
  unfold ordQ sgR cmpQ
  cases least <;> simp only [Bool.false_eq_true,if_false,if_true]
  · by_cases h1:r x < r y
    · rw [if_pos h1]; constructor
      · intro h; omega
      · intro h; grind
    · rw [if_neg h1]
      by_cases h2:r x=r y
      · rw [if_pos h2]; constructor
        · intro h; grind
        · intro h; omega
      · rw [if_neg h2]; constructor
        · intro _; omega
        · intro _; grind
  · by_cases h1:r x < r y
    · rw [if_pos h1]; constructor
      · intro h; omega
      · intro h; grind
    · rw [if_neg h1]; constructor
      · intro h; split at h
        · assumption
        · omega
      · intro h; rw [if_pos h]
theorem cmpQ_bounds (a b:Rat):-1≤cmpQ a b∧cmpQ a b≤1:=by
  unfold cmpQ; (repeat' split) <;> omega
end Go.Proofs.YtmipjomnjkmdbaaGreat
set_option linter.unusedSimpArgs false
set_option linter.unusedVariables false
namespace Go.Proofs.YtmipjomnjkmdbaaGreat
open Go Go.X
theorem zif (v:Int):∀ l:List Int,zah (fun x=>decide (v=x)) l=l.idxOf v
  | []=>rfl
  | x::l=>by
    unfold zah
    rw [List.idxOf_cons,zif v l]
    by_cases h:v=x
    · subst h; simp
    · have:(x == v)=false:=by simp; exact fun e=>h e.symm
      rw [this]; simp [h]
theorem d188_eq {lots:List Int} (hl:lots.length≤1000) {a b:Int} (ha:a∈lots) (hb:b∈lots):d188 a b lots=some ((zdu lots a:Int) - (zdu lots b:Int)):=by
  unfold d188
  have h1:=List.idxOf_lt_length_iff.2 ha
  have h2:=List.idxOf_lt_length_iff.2 hb
  rw [d189_eq a (by omega),d189_eq b (by omega),zif,zif,if_pos h1,if_pos h2]
  simp only [Option.bind_some]
  unfold zdu
  rw [zbm (by omega) (by omega)]
theorem d190_eq {x:List Int} {cmp:Int→Int→Option Int} {g:Int→Int→Int} (hx:x ≠ []) (hl:x.length≤1000) (hc:∀ a∈x,∀ b∈x,cmp a b=some (g a b)):d190 x cmp=some (x.tail.foldl (fun m c=>if 0 < g c m then c else m) (x.headD 0)):=by
  have hp:=List.length_pos_iff.2 hx
  unfold d190
  rw [decide_eq_false (show ¬ ((x.length:Int) < 1) by omega),cond_false,show (decide (0≤0) && decide ((0:Int) < (x.length:Int)))=true by rw [decide_eq_true (show (0:Int) < (x.length:Int) by omega)]; rfl,cond_true]
  have hmem:∀ i,(x.tail.take i).foldl (fun m c=>if 0 < g c m then c else m) (x.headD 0)∈x:=fun i=>by
    cases x with
    | nil=>exact absurd rfl hx
    | cons y x =>
      simp only [List.tail_cons,List.headD_cons]
      rcases zjh (fun m c=>if 0 < g c m then c else m) (fun a b=>by split <;> simp) (x.take i) y with h | h
      · rw [h]; simp
      · exact List.mem_cons_of_mem _ (List.mem_of_mem_take h)
  refine zae (fun i=>(x,cmp,(x.tail.take i).foldl (fun m c=>if 0 < g c m then c else m) (x.headD 0),((i+1:Nat):Int))) (x.length - 1) ?_ (fun i hi=>?_) (b:=x.tail.foldl (fun m c=>if 0 < g c m then c else m) (x.headD 0)) ?_ rfl
  · rw [List.take_zero,List.foldl_nil]
    cases x with
    | nil=>exact absurd rfl hx
    | cons y x=>rfl
  · have hlt:i+1 < x.length:=by omega
    have hxm:x.getD (i+1) 0∈x:=zcx hlt
    have ht:x.tail.getD i 0=x.getD (i+1) 0:=by
      cases x with
      | nil=>exact absurd rfl hx
      | cons y x=>rfl
    have hs:x.tail.take (i+1)=x.tail.take i++[x.getD (i+1) 0]:=by rw [zbi x.tail 0 (by rw [List.length_tail]; omega),ht]
    simp only [dlt hlt,d0le,Bool.and_self,cond_true,tn,zaw,hc _ hxm _ (hmem i),Option.bind_some,zbl (show i+1 < 9223372036854775807 by omega),hs,List.foldl_append,List.foldl_cons,List.foldl_nil]
    generalize (x.tail.take i).foldl (fun m c=>if 0 < g c m then c else m) (x.headD 0)=m
    by_cases h:0 < g (x.getD (i+1) 0) m
    · rw [decide_eq_true h,cond_true,if_pos h]
    · rw [decide_eq_false h,cond_false,if_neg h]
  · have e:x.length - 1+1=x.length:=by omega
    rw [e]
    simp only [nlt (Nat.le_refl x.length),cond_false]
    rw [List.take_of_length_le (by rw [List.length_tail]; omega)]
theorem d191_eq {x:List Int} {cmp:Int→Int→Option Int} {g:Int→Int→Int} (hx:x ≠ []) (hl:x.length≤1000) (hc:∀ a∈x,∀ b∈x,cmp a b=some (g a b)):d191 x cmp=some (x.tail.foldl (fun m c=>if g c m < 0 then c else m) (x.headD 0)):=by
  have hp:=List.length_pos_iff.2 hx
  unfold d191
  rw [decide_eq_false (show ¬ ((x.length:Int) < 1) by omega),cond_false,show (decide (0≤0) && decide ((0:Int) < (x.length:Int)))=true by rw [decide_eq_true (show (0:Int) < (x.length:Int) by omega)]; rfl,cond_true]
  have hmem:∀ i,(x.tail.take i).foldl (fun m c=>if g c m < 0 then c else m) (x.headD 0)∈x:=fun i=>by
    cases x with
    | nil=>exact absurd rfl hx
    | cons y x =>
      simp only [List.tail_cons,List.headD_cons]
      rcases zjh (fun m c=>if g c m < 0 then c else m) (fun a b=>by split <;> simp) (x.take i) y with h | h
      · rw [h]; simp
      · exact List.mem_cons_of_mem _ (List.mem_of_mem_take h)
  refine zae (fun i=>(x,cmp,(x.tail.take i).foldl (fun m c=>if g c m < 0 then c else m) (x.headD 0),((i+1:Nat):Int))) (x.length - 1) ?_ (fun i hi=>?_) (b:=x.tail.foldl (fun m c=>if g c m < 0 then c else m) (x.headD 0)) ?_ rfl
  · rw [List.take_zero,List.foldl_nil]
    cases x with
    | nil=>exact absurd rfl hx
    | cons y x=>rfl
  · have hlt:i+1 < x.length:=by omega
    have hxm:x.getD (i+1) 0∈x:=zcx hlt
    have ht:x.tail.getD i 0=x.getD (i+1) 0:=by
      cases x with
      | nil=>exact absurd rfl hx
      | cons y x=>rfl
    have hs:x.tail.take (i+1)=x.tail.take i++[x.getD (i+1) 0]:=by rw [zbi x.tail 0 (by rw [List.length_tail]; omega),ht]
    simp only [dlt hlt,d0le,Bool.and_self,cond_true,tn,zaw,hc _ hxm _ (hmem i),Option.bind_some,zbl (show i+1 < 9223372036854775807 by omega),hs,List.foldl_append,List.foldl_cons,List.foldl_nil]
    generalize (x.tail.take i).foldl (fun m c=>if g c m < 0 then c else m) (x.headD 0)=m
    by_cases h:g (x.getD (i+1) 0) m < 0
    · rw [decide_eq_true h,cond_true,if_pos h]
    · rw [decide_eq_false h,cond_false,if_neg h]
  · have e:x.length - 1+1=x.length:=by omega
    rw [e]
    simp only [nlt (Nat.le_refl x.length),cond_false]
    rw [List.take_of_length_le (by rw [List.length_tail]; omega)]
structure LotsOK (n:Nat) (lots:List Int):Prop where
  n1:1≤n
  n7:n≤7
  len:lots.length=n
  within:∀ c∈lots,∃ i:Nat,c=(i:Int)∧i < n
  nodup:lots.Nodup
theorem LotsOK.mem {n:Nat} {lots:List Int} (h:LotsOK n lots) {i:Nat} (hi:i < n):(i:Int)∈lots:=by
  refine Decidable.byContradiction fun hni=>?_
  have:=zix (n:=n) ((i:Int)::lots) (List.nodup_cons.2 ⟨hni,h.nodup⟩) (fun x hx=>by
    rcases List.mem_cons.1 hx with rfl | hx
    · omega
    · obtain ⟨j,rfl,hj⟩:=h.within x hx; omega)
  rw [List.length_cons,h.len] at this
  omega
theorem d185_eq {n:Nat} {ties:Int} {tied lots:List Int} (h1:1≤ties) (h3:ties≤3) (hl:LotsOK n lots) (ht:tied ≠ []) (hts:tied.Pairwise (· < ·)) (htb:∀ c∈tied,∃ i:Nat,c=(i:Int)∧i < n) (htl:tied.length≤1000):d185 ties tied lots=some true:=by
  have hn1:=hl.n1
  have hn7:=hl.n7
  have hp:=List.length_pos_iff.2 ht
  unfold d185
  rw [zaw]
  simp only [hl.len,decide_eq_false (show ¬ ties < 1 by omega),decide_eq_false (show ¬ 3 < ties by omega),decide_eq_false (show ¬ (n:Int) < 1 by omega),decide_eq_false (show ¬ 7 < (n:Int) by omega),decide_eq_false (show ¬ (tied.length:Int)=0 by omega),Bool.not_false,cond_true,cond_false]
  refine zae (fun i=>(tied,(n:Int),lst (fun v=>decide ((v:Int)∈lots.take i)) 7,lots,(n:Int),(i:Int))) n ?_ (fun i hi=>?_) (b:=.inl (tied,(n:Int))) ?_ ?_
  · simp only [List.take_zero,List.not_mem_nil,decide_false]; rfl
  · have hil:i < lots.length:=by rw [hl.len]; exact hi
    obtain ⟨c,hc,hcn⟩:=hl.within _ (zcx hil)
    have hnot:decide ((c:Int)∈lots.take i)=false:=decide_eq_false fun hm=>by
      have:=hl.nodup.sublist (List.take_sublist (i+1) lots)
      rw [zbi lots 0 hil,hc,List.nodup_append] at this
      exact this.2.2 _ hm _ (by simp) rfl
    simp only [dlt hi,hl.len,d0le,Bool.and_self,cond_true,tn,zaw,hc,decide_eq_false (show ¬ (c:Int) < 0 by omega),decide_eq_false (show ¬ (n:Int)≤(c:Int) by omega),Bool.not_false,show decide ((c:Int) < 7)=true from decide_eq_true (by omega),zaz (fun v=>decide ((v:Int)∈lots.take i)) (show c < 7 by omega),hnot,cond_false,zfk,zbl (show i < 9223372036854775807 by omega)]
    have e:lst (upd (fun v=>decide ((v:Int)∈lots.take i)) c true) 7=lst (fun v=>decide ((v:Int)∈lots.take (i+1))) 7:=zbd fun v hv=>by
      rw [zbi lots 0 hil,hc]
      unfold upd
      by_cases hvc:v=c
      · subst hvc; simp
      · rw [if_neg hvc]
        refine decide_eq_decide.2 ?_
        rw [List.mem_append,List.mem_singleton]
        exact ⟨.inl,fun hm=>hm.resolve_right fun e=>hvc (Int.ofNat_inj.1 e)⟩
    rw [e]
  · simp only [nlt (Nat.le_refl n),cond_false]
  · simp only
    refine zae (fun i=>(tied,(n:Int),tied,(tied.length:Int),(i:Int))) tied.length rfl (fun i hi=>?_) (b:=.inl ()) ?_ rfl
    · obtain ⟨c,hc,hcn⟩:=htb _ (zcx hi)
      simp only [dlt hi,d0le,Bool.and_self,cond_true,tn,zaw,hc,decide_eq_false (show ¬ (c:Int) < 0 by omega),decide_eq_false (show ¬ (n:Int)≤(c:Int) by omega),Bool.not_false,zbl (show i < 9223372036854775807 by omega)]
      cases i with
      | zero=>rfl
      | succ i =>
        have hlt:tied.getD i 0 < tied.getD (i+1) 0:=by
          rw [List.getD_eq_getElem?_getD,List.getElem?_eq_getElem (by omega),List.getD_eq_getElem?_getD,List.getElem?_eq_getElem hi]
          exact List.pairwise_iff_getElem.1 hts i (i+1) (by omega) hi (by omega)
        rw [hc] at hlt
        simp only [show decide ((0:Int) < ((i+1:Nat):Int))=true from decide_eq_true (by omega),cond_true,wpred (show i < 9223372036854775807 by omega),d0le,dlt (show i < tied.length by omega),Bool.and_self,tn,decide_eq_false (show ¬ (c:Int)≤tied.getD i 0 by omega),cond_false]
    · simp only [nlt (Nat.le_refl tied.length),cond_false]
def RndOK (n:Nat) (r:List Rat):Prop:=r.length=n∧∀ q∈r,Bz eB q
theorem map_getD_rr {r:List Rat} {c:Nat} (h:c < r.length):(r.map rr).getD c (false,[],[])=rr (r.getD c 0):=by
  rw [List.getD_eq_getElem?_getD,List.getElem?_map,List.getElem?_eq_getElem h,List.getD_eq_getElem?_getD,List.getElem?_eq_getElem h]; rfl
theorem zcy {α:Type} {l:List α} {d:α} {i:Nat} (h:i < l.length):l.getD i d∈l:=by
  rw [List.getD_eq_getElem?_getD,List.getElem?_eq_getElem h]
  exact List.getElem_mem h
theorem RndOK.bz {n:Nat} {r:List Rat} (h:RndOK n r) {c:Nat} (hc:c < n):Bz eB (zbs r (c:Int)):=h.2 _ (zcy (by rw [h.1]; exact hc))
theorem d213_eq {n:Nat} {r:List Rat} (h:RndOK n r) {c:Nat} (hc:c < n):d213 (r.map rr) (c:Int)=some (rr (zbs r (c:Int))):=by
  have hc':c < r.length:=by rw [h.1]; exact hc
  unfold d213
  rw [List.length_map,dlt hc']
  simp only [cond_true,d0le,Bool.and_self,tn,map_getD_rr hc']
  rfl
theorem w_ord (least:Bool) (a b:Rat):(bif !least then w (0 - cmpQ a b) else cmpQ a b)=ordQ least a b:=by
  have:=cmpQ_bounds a b
  unfold ordQ
  cases least
  · rw [Bool.not_false,cond_true,zbm (by omega) (by omega)]; rfl
  · rfl
theorem zht (l:List Int):l.getD 0 0=l.headD 0:=by cases l <;> rfl
theorem zlr (ρ:Int→Rat) (l:List Int):(ext0 ρ l).length≤l.length:=List.length_filter_le _ _
theorem d187_eq {n:Nat} {r:List Rat} (h:RndOK n r) {l:List Int} (hl:∀ c∈l,∃ i:Nat,c=(i:Int)∧i < n) (hll:l.length≤1000) (least:Bool):d187 l (r.map rr) least=some (extr least (zbs r) l):=by
  rw [extr_ext0]
  unfold d187
  refine zae (fun i=>(r.map rr,least,ext0 (sgR least (zbs r)) (l.take i),l,(l.length:Int),(i:Int))) l.length rfl (fun i hi=>?_) (b:=ext0 (sgR least (zbs r)) l) ?_ rfl
  · obtain ⟨c,hc,hcn⟩:=hl _ (zcx hi)
    have hol:=zlr (sgR least (zbs r)) (l.take i)
    rw [List.length_take] at hol
    simp only [dlt hi,d0le,Bool.and_self,cond_true,tn,zaw,hc,zbl (show i < 9223372036854775807 by omega)]
    rw [zbi l 0 hi,hc]
    by_cases hi0:l.take i=[]
    · rw [hi0,zqg]
      have e:ext0 (sgR least (zbs r)) ([]++[(c:Int)])=[(c:Int)]:=by
        have:sgR least (zbs r) (c:Int)≤sgR least (zbs r) (c:Int):=Rat.le_refl
        simp [ext0,List.filter_cons,this]
      rw [e]
      simp only [show decide ((0:Int) < (([]:List Int).length:Int))=false from rfl,cond_false,show decide ((-1:Int)≤0)=true from rfl,cond_true,zch (l:=([]:List Int)) (d:=(c:Int)) (by simp)]
      rfl
    · have hne:=zng (ρ:=sgR least (zbs r)) hi0
      have hpos:=List.length_pos_iff.2 hne
      obtain ⟨y,hy⟩:∃ y,(ext0 (sgR least (zbs r)) (l.take i)).headD 0=y:=⟨_,rfl⟩
      have hym:y∈l:=by
        have:=zfr hne
        rw [hy] at this
        exact List.mem_of_mem_take (zjl.1 this).1
      obtain ⟨d,rfl,hdn⟩:=hl _ hym
      rw [znf _ _ hi0,hy]
      generalize ext0 (sgR least (zbs r)) (l.take i)=out at *
      have hlt1:=ordQ_lt least (zbs r) (c:Int) (d:Int)
      have heq1:=ordQ_eq least (zbs r) (c:Int) (d:Int)
      have hg0:(decide (0≤0) && decide ((0:Int) < (out.length:Int)))=true:=by
        rw [decide_eq_true (show (0:Int) < (out.length:Int) by omega)]; rfl
      have hg1:decide ((0:Int) < (out.length:Int))=true:=decide_eq_true (by omega)
      have hcut:zde 0 0 out.length=true:=by
        unfold zde
        simp only [Bool.and_eq_true,decide_eq_true_eq]
        omega
      have hb:=w_ord least (zbs r (c:Int)) (zbs r (d:Int))
      rw [hg0]
      simp only [hg1,cond_true,zht,hy,d213_eq h hcn,d213_eq h hdn,Option.bind_some,d137_rr (h.bz hcn).sz2 (h.bz hdn).sz2,hcut,List.take_zero]
      have hcl:decide ((([]:List Int).length:Int)+(([(c:Int)]:List Int).length:Int)≤LIM)=true:=zch (l:=([]:List Int)) (d:=(c:Int)) (by simp)
      have hol2:=zch (l:=out) (d:=(c:Int)) (by omega)
      have key:∀ o:Int,o=ordQ least (zbs r (c:Int)) (zbs r (d:Int))→(bif decide (o < 0) then
          bif decide (o≤0) then
            bif decide ((([]:List Int).length:Int)+(([(c:Int)]:List Int).length:Int)≤LIM) then (some (Sum.inl (r.map rr,least,([]:List Int)++[(c:Int)],l,(l.length:Int),((i+1:Nat):Int))):Option ((List Rt × Bool × List Int × List Int × Int × Int) ⊕ List Int)) else none
          else some (Sum.inl (r.map rr,least,([]:List Int),l,(l.length:Int),((i+1:Nat):Int)))
        else
          bif decide (o≤0) then
            bif decide ((out.length:Int)+(([(c:Int)]:List Int).length:Int)≤LIM) then some (Sum.inl (r.map rr,least,out++[(c:Int)],l,(l.length:Int),((i+1:Nat):Int))) else none
          else some (Sum.inl (r.map rr,least,out,l,(l.length:Int),((i+1:Nat):Int))))=some (.inl (r.map rr,least,if sgR least (zbs r) (c:Int) < sgR least (zbs r) (d:Int) then [(c:Int)] else if sgR least (zbs r) (c:Int)=sgR least (zbs r) (d:Int) then out++[(c:Int)] else out,l,(l.length:Int),((i+1:Nat):Int))):=by
        intro o ho
        rw [← ho] at hlt1 heq1
        rw [hcl,hol2]
        by_cases c1:o < 0
        · rw [decide_eq_true c1] at hlt1
          rw [if_pos (of_decide_eq_true hlt1.symm),decide_eq_true c1,decide_eq_true (show o≤0 by omega)]; rfl
        · rw [decide_eq_false c1] at hlt1
          rw [if_neg (of_decide_eq_false hlt1.symm),decide_eq_false c1]
          by_cases c2:o=0
          · rw [decide_eq_true c2] at heq1
            rw [if_pos (of_decide_eq_true heq1.symm),decide_eq_true (show o≤0 by omega)]; rfl
          · rw [decide_eq_false c2] at heq1
            rw [if_neg (of_decide_eq_false heq1.symm),decide_eq_false (show ¬ o≤0 by omega)]; rfl
      cases least
      · rw [Bool.not_false,cond_true] at hb ⊢
        exact key _ hb
      · rw [Bool.not_true,cond_false] at hb ⊢
        exact key _ hb
  · simp only [nlt (Nat.le_refl l.length),cond_false,List.take_length]
theorem zob:∀ {least:Bool} {rs:List (List Rat)} {l:List Int},l.length≤1→tieL least rs l=l
  | _,[],_,_=>rfl
  | least,r::rs,l,h=>by
    show tieL least rs (if 1 < l.length then extr least (zbs r) l else l)=l
    rw [if_neg (by omega)]
    exact zob h
theorem tieL_snoc (least:Bool) (rs:List (List Rat)) (r:List Rat) (l:List Int):tieL least (rs++[r]) l=if 1 < (tieL least rs l).length then extr least (zbs r) (tieL least rs l) else tieL least rs l:=by
  unfold tieL
  rw [List.foldl_append]; rfl
theorem tieL_append (least:Bool) (rs rs':List (List Rat)) (l:List Int):tieL least (rs++rs') l=tieL least rs' (tieL least rs l):=by
  unfold tieL
  rw [List.foldl_append]
theorem extr_len (least:Bool) (r:Int→Rat) (l:List Int):(extr least r l).length≤l.length:=List.length_filter_le _ _
theorem zpf:∀ (least:Bool) (rs:List (List Rat)) (l:List Int),(tieL least rs l).length≤l.length
  | _,[],_=>Nat.le_refl _
  | least,r::rs,l=>by
    show (tieL least rs (if 1 < l.length then extr least (zbs r) l else l)).length≤_
    refine Nat.le_trans (zpf least rs _) ?_
    split
    · exact extr_len _ _ _
    · exact Nat.le_refl _
theorem d155_eq {n:Nat} {ties:Int} {E:List (List Rat)} {tied lots:List Int} {least:Bool} (h1:1≤ties) (h3:ties≤3) (hl:LotsOK n lots) (hE:∀ r∈E,RndOK n r) (hEl:E.length≤1000000) (ht:tied ≠ []) (hts:tied.Pairwise (· < ·)) (htb:∀ c∈tied,∃ i:Nat,c=(i:Int)∧i < n) (htl:tied.length≤1000) :
    ∃ b,d155 ties (E.map (List.map rr)) tied lots least=some (tieB ties E tied lots least,b,E.map (List.map rr)):=by
  have hcl:d186 tied=some tied:=by unfold d186; rw [zbx (by omega)]; rfl
  unfold d155
  rw [d185_eq h1 h3 hl ht hts htb htl]
  simp only [Option.bind_some,Bool.not_true,cond_false,hcl]
  have hfin:∀ left:List Int,left=tieL least (zax ties E) tied→∃ b,(bif (decide ((left.length:Int)=1)) then
      bif (decide (0≤0) && decide (0 < (left.length:Int))) then
        some ((List.getD left 0 0),false,E.map (List.map rr))
      else none
    else
      bif least then
        (d190 left (fun a a_1=>d188 a a_1 lots)).bind fun r_3 =>
        some (r_3,true,E.map (List.map rr))
      else
        (d191 left (fun a_2 a_3=>d188 a_2 a_3 lots)).bind fun r_4 =>
        some (r_4,true,E.map (List.map rr)))=some (tieB ties E tied lots least,b,E.map (List.map rr)):=by
    intro left hleft
    have hne:left ≠ []:=by rw [hleft]; exact tieL_ne ht
    have hlen:left.length≤tied.length:=by rw [hleft]; exact zpf _ _ _
    have hlot:∀ a∈left,a∈lots:=fun a ha=>by
      rw [hleft] at ha
      obtain ⟨i,rfl,hi⟩:=htb _ (zim ha)
      exact hl.mem hi
    have hll:=hl.len
    have hn7:=hl.n7
    unfold tieB
    simp only [← hleft]
    by_cases hone:left.length=1
    · refine ⟨false,?_⟩
      rw [if_pos hone,hone,zht]; rfl
    · refine ⟨true,?_⟩
      rw [if_neg hone,decide_eq_false (show ¬ (left.length:Int)=1 by omega),cond_false]
      have hc:∀ a∈left,∀ b∈left,d188 a b lots=some ((zdu lots a:Int) - (zdu lots b:Int)):=fun a ha b hb=>d188_eq (by omega) (hlot a ha) (hlot b hb)
      cases least
      · rw [cond_false,d191_eq hne (by omega) hc,Option.bind_some]
        unfold byLot
        simp only [Bool.false_eq_true,if_false]
        congr 3
        funext m c
        by_cases h:zdu lots c < zdu lots m
        · rw [if_pos h,if_pos (by omega)]
        · rw [if_neg h,if_neg (by omega)]
      · rw [cond_true,d190_eq hne (by omega) hc,Option.bind_some]
        unfold byLot
        simp only [if_true]
        congr 3
        funext m c
        by_cases h:zdu lots m < zdu lots c
        · rw [if_pos h,if_pos (by omega)]
        · rw [if_neg h,if_neg (by omega)]
  refine zef (Q:=fun r=>∃ b,r=some (tieB ties E tied lots least,b,E.map (List.map rr))) (fun (M:Nat) (st:Int × (List (List Rt)) × Bool × (List Int) × (List Int) × Int)=>∃ i:Nat,st=(ties,E.map (List.map rr),least,lots,tieL least ((zax ties E).take i) tied,(i:Int))∧i+M=E.length) E.length ⟨0,by rw [List.take_zero]; rfl,by omega⟩ ?_
  rintro M st ⟨i,rfl,hM⟩
  have hsub:∀ c∈tieL least ((zax ties E).take i) tied,∃ j:Nat,c=(j:Int)∧j < n:=fun c hc=>htb c (zim hc)
  have hlen:=zpf least ((zax ties E).take i) tied
  obtain ⟨left,hleft⟩:∃ left,tieL least ((zax ties E).take i) tied=left:=⟨_,rfl⟩
  rw [hleft] at hsub hlen
  have hEm:(E.map (List.map rr)).length=E.length:=List.length_map ..
  simp only [hleft,hEm,zaw]
  by_cases c3:ties=3
  · have hr:zax ties E=[]:=by unfold zax; rw [if_pos c3]
    have hq:left=tieL least (zax ties E) tied:=by rw [← hleft,hr,List.take_nil]
    have hd3:(!decide (ties=3))=false:=by rw [decide_eq_true c3]; rfl
    refine .inr ⟨(E.map (List.map rr),least,lots,left),?_,hfin left hq⟩
    rw [hd3]
    simp only [cond_false]
    cases decide ((i:Int) < (E.length:Int)) <;> cases decide (1 < (left.length:Int)) <;> rfl
  · have hd3:(!decide (ties=3))=true:=by rw [decide_eq_false c3]; rfl
    have hrl:(zax ties E).length=E.length:=by
      unfold zax
      rw [if_neg c3]
      split
      · exact List.length_reverse
      · rfl
    rw [hd3]
    rcases Nat.eq_zero_or_pos M with h0 | h0
    · have hq:left=tieL least (zax ties E) tied:=by rw [← hleft,List.take_of_length_le (by omega)]
      refine .inr ⟨(E.map (List.map rr),least,lots,left),?_,hfin left hq⟩
      simp only [nlt (show E.length≤i by omega),cond_false]
    · have hiE:i < E.length:=by omega
      by_cases hl1:1 < left.length
      · have hg:decide ((1:Int) < (left.length:Int))=true:=decide_eq_true (by omega)
        have key:∀ (r:List Rat) (z:List Rt),r∈E→(zax ties E).getD i []=r→z=r.map rr→d187 left z least=some (tieL least ((zax ties E).take (i+1)) tied):=by
          rintro r z hr hri rfl
          rw [d187_eq (hE r hr) hsub (by omega),zbi (zax ties E) [] (by omega),tieL_snoc,hleft,hri,if_pos hl1]
        refine .inl ⟨(ties,E.map (List.map rr),least,lots,tieL least ((zax ties E).take (i+1)) tied,((i+1:Nat):Int)),M - 1,?_,by omega,i+1,rfl,by omega⟩
        simp only [dlt hiE,hg,cond_true,d0le,Bool.and_self,tn,zbl (show i < 9223372036854775807 by omega)]
        by_cases c1:ties=1
        · have i1:w (w ((E.length:Int) - 1) - (i:Int))=((E.length - 1 - i:Nat):Int):=by
            rw [zbm (n:=(E.length:Int) - 1) (by omega) (by omega),zbm (by omega) (by omega)]; omega
          have hgr:(zax ties E).getD i []=E.getD (E.length - 1 - i) []:=by
            unfold zax
            rw [if_neg c3,if_pos c1]
            rw [List.getD_eq_getElem?_getD,List.getElem?_reverse hiE,List.getD_eq_getElem?_getD]
          have hz:(E.map (List.map rr)).getD (E.length - 1 - i) []=(E.getD (E.length - 1 - i) []).map rr:=by
            rw [List.getD_eq_getElem?_getD,List.getElem?_map,List.getElem?_eq_getElem (by omega),List.getD_eq_getElem?_getD,List.getElem?_eq_getElem (by omega)]; rfl
          simp only [decide_eq_true c1,cond_true,i1,d0le,dlt (show E.length - 1 - i < E.length by omega),Bool.and_self,tn]
          rw [key _ _ (zcy (by omega)) hgr hz]; rfl
        · have hgr:(zax ties E).getD i []=E.getD i []:=by
            unfold zax
            rw [if_neg c3,if_neg c1]
          have hz:(E.map (List.map rr)).getD i []=(E.getD i []).map rr:=by
            rw [List.getD_eq_getElem?_getD,List.getElem?_map,List.getElem?_eq_getElem hiE,List.getD_eq_getElem?_getD,List.getElem?_eq_getElem hiE]; rfl
          simp only [decide_eq_false c1,cond_false]
          rw [key _ _ (zcy (by omega)) hgr hz]; rfl
      · have hg:decide ((1:Int) < (left.length:Int))=false:=decide_eq_false (by omega)
        have hq:left=tieL least (zax ties E) tied:=by
          have e:=tieL_append least ((zax ties E).take i) ((zax ties E).drop i) tied
          rw [List.take_append_drop,hleft,zob (l:=left) (by omega)] at e
          exact e.symm
        refine .inr ⟨(E.map (List.map rr),least,lots,left),?_,hfin left hq⟩
        simp only [dlt hiE,hg,cond_true,cond_false]
end Go.Proofs.YtmipjomnjkmdbaaGreat
set_option linter.unusedSimpArgs false
set_option linter.unusedVariables false
namespace Go.Proofs.YtmipjomnjkmdbaaGreat
open Go Go.X
set_option maxHeartbeats 1000000 in
theorem d178_eq {c:CT} {lots:List Int} {tot q:Int} {pc:List (List Int × (Int × (Int × Rt)))} {stl:List Int} {kp:List Rt} {filled:Int} {E:List (List Rat)} {rest:Int × (Int × (Int × (Int × (List RD × List Int))))}
    {n:Nat} {v:Nat→Rat} {kk:List Rt} {qu ex su:Rt} {el ex2 ti cls:List Int} {ties:Int} {least:Bool} (hties:c.2.2.2.2.2.2.1=ties) (h1:1≤ties) (h3:ties≤3) (hl:LotsOK n lots) (hE:∀ r∈E,RndOK n r) (hEl:E.length≤1000000)
    (hv:∀ i,i < n→Bz eB (v i)) (hcn:cls ≠ []) (hcs:cls.Pairwise (· < ·)) (hcb:∀ x∈cls,∃ i:Nat,x=(i:Int)∧i < n) (hcl:cls.length≤1000) :
    d178 (c,lots,tot,q,pc,stl,kp,filled,E.map (List.map rr),rest) (lst (fun i=>rr (v i)) n,kk,qu,ex,su,el,ex2,ti) cls least
      = some (if (extr least (fun x=>v x.toNat) cls).length=1 then (extr least (fun x=>v x.toNat) cls).headD 0 else tieB ties E (extr least (fun x=>v x.toNat) cls) lots least,(c,lots,tot,q,pc,stl,kp,filled,E.map (List.map rr),rest),(lst (fun i=>rr (v i)) n,kk,qu,ex,su,el,ex2,if (extr least (fun x=>v x.toNat) cls).length=1 then ti else extr least (fun x=>v x.toNat) cls)):=by
  unfold d178
  obtain ⟨K,hK⟩:∃ K:KT,(c,lots,tot,q,pc,stl,kp,filled,E.map (List.map rr),rest)=K:=⟨_,rfl⟩
  obtain ⟨R,hR⟩:∃ R:RD,(lst (fun i=>rr (v i)) n,kk,qu,ex,su,el,ex2,ti)=R:=⟨_,rfl⟩
  have hR1:R.1=lst (fun i=>rr (v i)) n:=by rw [← hR]
  rw [hK,hR]
  refine zae (fun i=>(K,R,least,ext0 (sgR least (fun x=>v x.toNat)) (cls.take i),cls,(cls.length:Int),(i:Int))) cls.length rfl (fun i hi=>?_) (b:=(K,R,least,ext0 (sgR least (fun x=>v x.toNat)) cls)) ?_ ?_
  · obtain ⟨c,hc,hcn⟩:=hcb _ (zcx hi)
    have hol:=zlr (sgR least (fun x=>v x.toNat)) (cls.take i)
    rw [List.length_take] at hol
    simp only [dlt hi,d0le,Bool.and_self,cond_true,tn,zaw,hc,zbl (show i < 9223372036854775807 by omega)]
    rw [zbi cls 0 hi,hc]
    by_cases hi0:cls.take i=[]
    · rw [hi0,zqg]
      have e:ext0 (sgR least (fun x=>v x.toNat)) ([]++[(c:Int)])=[(c:Int)]:=by
        have:sgR least (fun x=>v x.toNat) (c:Int)≤sgR least (fun x=>v x.toNat) (c:Int):=Rat.le_refl
        simp [ext0,List.filter_cons,this]
      rw [e]
      rfl
    · have hne:=zng (ρ:=sgR least (fun x=>v x.toNat)) hi0
      have hpos:=List.length_pos_iff.2 hne
      obtain ⟨y,hy⟩:∃ y,(ext0 (sgR least (fun x=>v x.toNat)) (cls.take i)).headD 0=y:=⟨_,rfl⟩
      have hym:y∈cls:=by
        have:=zfr hne
        rw [hy] at this
        exact List.mem_of_mem_take (zjl.1 this).1
      obtain ⟨d,rfl,hdn⟩:=hcb _ hym
      rw [znf _ _ hi0,hy]
      generalize ext0 (sgR least (fun x=>v x.toNat)) (cls.take i)=out at *
      have hlt1:ordQ least (v c) (v d) < 0↔sgR least (fun x=>v x.toNat) (c:Int) < sgR least (fun x=>v x.toNat) (d:Int):=decide_eq_decide.1 (ordQ_lt least (fun x=>v x.toNat) (c:Int) (d:Int))
      have heq1:ordQ least (v c) (v d)=0↔sgR least (fun x=>v x.toNat) (c:Int)=sgR least (fun x=>v x.toNat) (d:Int):=decide_eq_decide.1 (ordQ_eq least (fun x=>v x.toNat) (c:Int) (d:Int))
      have hg0:(decide (0≤0) && decide ((0:Int) < (out.length:Int)))=true:=by
        rw [decide_eq_true (show (0:Int) < (out.length:Int) by omega)]; rfl
      have hg1:decide ((0:Int) < (out.length:Int))=true:=decide_eq_true (by omega)
      have hb:=w_ord least (v c) (v d)
      rw [hg0]
      have hol2:=zch (l:=out) (d:=(c:Int)) (by omega)
      simp only [hg1,cond_true,zht,hy,d0le,tn,hR1,zal,dlt hcn,dlt hdn,Bool.and_self,zaz (fun i=>rr (v i)) hcn,zaz (fun i=>rr (v i)) hdn,d137_rr (hv c hcn).sz2 (hv d hdn).sz2,Option.bind_some,hol2]
      have key:∀ o:Int,o=ordQ least (v c) (v d)→(bif decide (o < 0) then
          (some (Sum.inl (K,R,least,[(c:Int)],cls,(cls.length:Int),((i+1:Nat):Int))):Option ((KT × RD × Bool × List Int × List Int × Int × Int) ⊕ (KT × RD × Bool × List Int)))
        else
          bif decide (o=0) then some (Sum.inl (K,R,least,out++[(c:Int)],cls,(cls.length:Int),((i+1:Nat):Int)))
          else some (Sum.inl (K,R,least,out,cls,(cls.length:Int),((i+1:Nat):Int))))=some (.inl (K,R,least,if sgR least (fun x=>v x.toNat) (c:Int) < sgR least (fun x=>v x.toNat) (d:Int) then [(c:Int)] else if sgR least (fun x=>v x.toNat) (c:Int)=sgR least (fun x=>v x.toNat) (d:Int) then out++[(c:Int)] else out,cls,(cls.length:Int),((i+1:Nat):Int))):=by
        intro o ho
        rw [← ho] at hlt1 heq1
        by_cases c1:o < 0
        · rw [if_pos (hlt1.1 c1),decide_eq_true c1]; rfl
        · rw [if_neg fun h=>c1 (hlt1.2 h),decide_eq_false c1]
          by_cases c2:o=0
          · rw [if_pos (heq1.1 c2),decide_eq_true c2]; rfl
          · rw [if_neg fun h=>c2 (heq1.2 h),decide_eq_false c2]; rfl
      cases least
      · rw [Bool.not_false,cond_true] at hb ⊢
        exact key _ hb
      · rw [Bool.not_true,cond_false] at hb ⊢
        exact key _ hb
  · simp only [nlt (Nat.le_refl cls.length),cond_false,List.take_length]
  · rw [← extr_ext0]
    have htne:extr least (fun x=>v x.toNat) cls ≠ []:=extr_ne hcn
    have htl:=extr_len least (fun x=>v x.toNat) cls
    have hts:(extr least (fun x=>v x.toNat) cls).Pairwise (· < ·):=hcs.sublist List.filter_sublist
    have htb:∀ x∈extr least (fun x=>v x.toNat) cls,∃ i:Nat,x=(i:Int)∧i < n:=fun x hx=>hcb x (extr_sub hx)
    generalize extr least (fun x=>v x.toNat) cls=tied at *
    by_cases hone:tied.length=1
    · simp only [if_pos hone]
      rw [hone,zht,← hR]; rfl
    · simp only [if_neg hone]
      rw [decide_eq_false (show ¬ (tied.length:Int)=1 by omega),cond_false]
      obtain ⟨b,hb⟩:=d155_eq (least:=least) h1 h3 hl hE hEl htne hts htb (by omega)
      simp only [← hK,← hR,hties,hb,Option.bind_some]
theorem zjg {a b c d:Nat} (hb:0 < b) (hd:0 < d):frac a b * frac c d=frac (a * c) (b * d):=by
  unfold frac
  have h1:(b:Rat) ≠ 0:=by
    have:(0:Rat) < (b:Rat):=by exact_mod_cast hb
    intro e
    rw [e] at this
    exact absurd this (by decide)
  have h2:(d:Rat) ≠ 0:=by
    have:(0:Rat) < (d:Rat):=by exact_mod_cast hd
    intro e
    rw [e] at this
    exact absurd this (by decide)
  rw [Rat.natCast_mul,Rat.natCast_mul]
  grind
theorem frac_cancel {a b c:Nat} (hb:0 < b) (hc:0 < c):frac (a * c) (b * c)=frac a b:=by
  rw [← zjg hb hc]
  have:frac c c=1:=by
    have:=zje (q:=1) hc
    rw [Nat.one_mul] at this
    exact this
  rw [this,Rat.mul_one]
theorem nxt_congr {p:List Int} {st st':Nat→Nat} (h:∀ i,st i=0↔st' i=0) (k:Nat):nxt p st k=nxt p st' k:=by
  unfold nxt
  congr 3
  funext c
  exact decide_eq_decide.2 (not_congr (h _))
theorem upd_upd {α:Type} (f:Nat→α) (i:Nat) (x y:α):upd (upd f i x) i y=upd f i y:=by
  funext j; unfold upd; split <;> rfl
variable {P:GP} {s:GS}
set_option maxHeartbeats 1000000 in
theorem d180_eq (hP:P.OK) (hI:GI P s) (hG:P.G≤1000000) {c:CT} {lots:List Int} {tot q:Int} {kp:List Rt} {filled:Int} {rest:List (List Rt) × (Int × (Int × (Int × (Int × (List RD × List Int)))))}
    {st st':Nat→Nat} {keep:Nat→Rat} {x a b:Nat} (hst:∀ i,st i=0↔st' i=0) (hb:0 < b) (hab:Bz eB (frac a b)) :
    d180 (c,lots,tot,q,lst (parc P s) P.G,lst (fun i=>(st i:Int)) P.n,kp,filled,rest) (x:Int) (rr (frac a b))
      = some (c,lots,tot,q,lst (parc P (s.move P st' keep x a b)) P.G,lst (fun i=>(st i:Int)) P.n,kp,filled,rest):=by
  unfold d180
  simp only [zal]
  refine zae (fun g=>((c,lots,tot,q,lst (fun j=>if j < g then parc P (s.move P st' keep x a b) j else parc P s j) P.G,lst (fun i=>(st i:Int)) P.n,kp,filled,rest),(x:Int),rr (frac a b),(P.G:Int),(g:Int))) P.G ?_ (fun g hg=>?_) (b:=(c,lots,tot,q,lst (parc P (s.move P st' keep x a b)) P.G,lst (fun i=>(st i:Int)) P.n,kp,filled,rest)) ?_ rfl
  · rfl
  · have hgF:(fun j=>if j < g then parc P (s.move P st' keep x a b) j else parc P s j) g=parc P s g:=by simp
    have hnext:upd (fun j=>if j < g then parc P (s.move P st' keep x a b) j else parc P s j) g (parc P (s.move P st' keep x a b) g)=fun j=>if j < g+1 then parc P (s.move P st' keep x a b) j else parc P s j:=by
      funext j
      unfold upd
      by_cases h:j=g
      · subst h; rw [if_pos rfl,if_pos (by omega)]
      · rw [if_neg h]
        show (if j < g then parc P (s.move P st' keep x a b) j else parc P s j)=_
        by_cases h2:j < g
        · rw [if_pos h2,if_pos (by omega)]
        · rw [if_neg h2,if_neg (by omega)]
    have hplen:=hP.plen g hg
    generalize (fun j=>if j < g then parc P (s.move P st' keep x a b) j else parc P s j)=F at hgF hnext ⊢
    have hw:w ((g:Int)+1)=((g+1:Nat):Int):=by rw [zbm (by omega) (by omega)]; omega
    have stay:s.on P g x=false→lst F P.G=lst (fun j=>if j < g+1 then parc P (s.move P st' keep x a b) j else parc P s j) P.G:=fun h=>by
      rw [← hnext]
      refine zbd fun i hi=>?_
      unfold upd
      by_cases hig:i=g
      · subst hig
        rw [if_pos rfl,hgF]
        unfold parc
        have e1:(s.move P st' keep x a b).at_ i=s.at_ i:=by
          show (if s.on P i x then _ else s.at_ i)=_
          rw [h]; rfl
        have e2:(s.move P st' keep x a b).num i=s.num i * b:=by
          show (if s.on P i x then _ else s.num i * b)=_
          rw [h]; rfl
        have e3:(s.move P st' keep x a b).D=s.D * b:=rfl
        rw [e1,e2,e3,frac_cancel hI.D0 hb]
      · rw [if_neg hig]
    simp only [dlt hg,d0le,zal,Bool.and_self,cond_true,tn,zaw,zaz F hg,hgF,parc,Int.toNat_natCast,hw]
    by_cases ha:s.at_ g < (P.p g).length
    · obtain ⟨d,d1,d2⟩:=GS.on_ex hP hg ha
      have d3:=GS.on_at d2
      rw [show decide (((P.p g).length:Int)≤(s.at_ g:Int))=false from decide_eq_false (by omega)]
      simp only [Bool.not_false,cond_true,dlt ha,d0le,Bool.and_self,d3,zhv,tn]
      by_cases hdx:d=x
      · subst hdx
        simp only [decide_true,Bool.not_true,cond_false]
        rw [d172_rr (num_small hP hI hg).sz2 hab.sz2,Option.bind_some,zjg hI.D0 hb]
        simp only [zfk,zaz (upd F g _) hg,zci,upd_upd,zbl (show s.at_ g < 9223372036854775807 by omega)]
        have hn1:=nxt_ge (P.p g) st (s.at_ g+1)
        have hn2:=nxt_le st (show s.at_ g+1≤(P.p g).length by omega)
        refine zae (fun m=>((c,lots,tot,q,lst (upd F g (P.p g,(P.k g:Int),((s.at_ g+1+m:Nat):Int),rr (frac (s.num g * a) (s.D * b)))) P.G,lst (fun i=>(st i:Int)) P.n,kp,filled,rest),(d:Int),rr (frac a b),(g:Int),(P.G:Int),(g:Int))) (nxt (P.p g) st (s.at_ g+1) - (s.at_ g+1)) ?_ (fun m hm=>?_) (b:=((c,lots,tot,q,lst (upd F g (P.p g,(P.k g:Int),((nxt (P.p g) st (s.at_ g+1):Nat):Int),rr (frac (s.num g * a) (s.D * b)))) P.G,lst (fun i=>(st i:Int)) P.n,kp,filled,rest),(d:Int),rr (frac a b),(P.G:Int),(g:Int))) ?_ ?_
        · rfl
        · have hlt:s.at_ g+1+m < (P.p g).length:=by omega
          obtain ⟨e,e1,e2⟩:=hP.prefs g hg _ (zcx hlt)
          have hbf:=zoj (p:=P.p g) (st:=st) (k:=s.at_ g+1) (i:=s.at_ g+1+m) (by omega) (by omega)
          rw [e1,Int.toNat_natCast] at hbf
          have hd0:decide ((st e:Int)=0)=false:=decide_eq_false (by omega)
          simp only [zaz (upd F g _) hg,zci,dlt hlt,d0le,Bool.and_self,cond_true,tn,e1,zal,dlt e2,zaz (fun i=>(st i:Int)) e2,hd0,Bool.not_false,zfk,upd_upd,zbl (show s.at_ g+1+m < 9223372036854775807 by omega)]
          rfl
        · obtain ⟨N,hN⟩:∃ N,nxt (P.p g) st (s.at_ g+1)=N:=⟨_,rfl⟩
          rw [hN] at hn1 hn2 ⊢
          rw [show s.at_ g+1+(N - (s.at_ g+1))=N by omega]
          by_cases hlt:N < (P.p g).length
          · obtain ⟨e,e1,e2⟩:=hP.prefs g hg _ (zcx hlt)
            have hat:=nxt_at (p:=P.p g) (st:=st) (k:=s.at_ g+1) (by rw [hN]; exact hlt)
            rw [hN,e1,Int.toNat_natCast] at hat
            have hd0:decide ((st e:Int)=0)=true:=decide_eq_true (by omega)
            simp only [zaz (upd F g _) hg,zci,dlt hlt,d0le,Bool.and_self,cond_true,cond_false,tn,e1,zal,dlt e2,zaz (fun i=>(st i:Int)) e2,hd0,Bool.not_true]
          · simp only [zaz (upd F g _) hg,zci,tn,nlt (show (P.p g).length≤N by omega),cond_false]
        · have e:(P.p g,(P.k g:Int),((nxt (P.p g) st (s.at_ g+1):Nat):Int),rr (frac (s.num g * a) (s.D * b)))=parc P (s.move P st' keep d a b) g:=by
            unfold parc
            have e1:(s.move P st' keep d a b).at_ g=nxt (P.p g) st (s.at_ g+1):=by
              show (if s.on P g d then _ else s.at_ g)=_
              rw [d2,nxt_congr hst]; rfl
            have e2:(s.move P st' keep d a b).num g=s.num g * a:=by
              show (if s.on P g d then s.num g * a else _)=_
              rw [d2]; rfl
            have e3:(s.move P st' keep d a b).D=s.D * b:=rfl
            rw [e1,e2,e3]
          rw [e,hnext]
          simp only [hw]
          rfl
      · have hoff:s.on P g x=false:=by
          cases h:s.on P g x
          · rfl
          · exact absurd (GS.on_uniq d2 h) hdx
        simp only [decide_eq_false hdx,Bool.not_false,cond_true]
        rw [stay hoff]
        rfl
    · have hoff:s.on P g x=false:=by
        cases h:s.on P g x
        · rfl
        · exact absurd (GS.on_lt h) ha
      rw [show decide (((P.p g).length:Int)≤(s.at_ g:Int))=true from decide_eq_true (by omega)]
      simp only [Bool.not_true,cond_false,cond_true]
      rw [stay hoff]
      rfl
  · have e:lst (fun j=>if j < P.G then parc P (s.move P st' keep x a b) j else parc P s j) P.G=lst (parc P (s.move P st' keep x a b)) P.G:=zbd fun i hi=>if_pos hi
    simp only [nlt (Nat.le_refl P.G),cond_false,e]
end Go.Proofs.YtmipjomnjkmdbaaGreat
set_option linter.unusedSimpArgs false
set_option linter.unusedVariables false
namespace Go.Proofs.YtmipjomnjkmdbaaGreat
open Go Go.X
def rdT (r:Rd):RD:=(r.votes.map rr,r.keep.map rr,rr r.quota,rr r.exh,rr r.sur,r.el,r.ex,r.ti)
def KTof (P:GP) (c:CT) (s:GS) (st:Nat→Nat) (fl:Nat) (rs:List Rd):KT :=
  (c,P.lots,(P.tot:Int),(P.q:Int),lst (parc P s) P.G,lst (fun i=>(st i:Int)) P.n,lst (fun i=>rr (s.keep i)) P.n,(fl:Int),(rs.map Rd.votes).map (List.map rr),3,(P.seats:Int),0,(P.n:Int),rs.map rdT,rs.flatMap Rd.el)
variable {P:GP} {s:GS}
theorem zic (p:Nat→Bool) (g:Int→Bool) (n:Nat):(selI p n).filter g=selI (fun i=>p i && g (i:Int)) n:=by
  unfold selI
  rw [List.filter_map,← selN_filter]
  rfl
theorem sum_sel (p:Nat→Bool) (f:Nat→Nat):∀ n:Nat,((selN p n).map f).sum=sumN (fun i=>if p i then f i else 0) n
  | 0=>rfl
  | n+1=>by
    rw [zmn,List.map_append,List.sum_append,sum_sel p f n,sumN]
    congr 1
    cases p n <;> simp
theorem sum_take_le (l:List Nat) (j:Nat):(l.take j).sum≤l.sum:=by
  conv=>rhs; rw [← List.take_append_drop j l]
  rw [List.sum_append]
  omega
theorem cnt_split (hI:GI P s):cntN (fun i=>decide (s.st i=1)) P.n+cntN (fun i=>decide (s.st i=2)) P.n+cntN (s.el1 P) P.n=s.e1 P+s.e2 P:=by
  unfold cntN GS.e1 GS.e2 cntN
  rw [← zdg,← zdg,← zdg]
  refine zau fun i hi=>?_
  rcases zcf (P:=P) (s:=s) i with ⟨h0,h1,h2,_⟩ | ⟨h0,h2⟩
  · simp [h0,h1,h2]
  · simp [h2,h0]
theorem tied_eq (hI:GI P s) (st:Nat→Nat) (c:Nat) (most:Bool):extr (!most) (fun x=>frac (s.vt P x.toNat) s.D) (selI (fun i=>decide (st i=c)) P.n)=selI (zlf P (s.vt P) st c most) P.n:=by
  unfold extr
  rw [zic]
  refine zka fun i hi=>?_
  unfold zlf
  congr 1
  rw [Bool.eq_iff_iff,List.all_eq_true,List.all_eq_true]
  constructor
  · intro h k hk
    by_cases hc:st k=c
    · have:=h (k:Int) (zcc.2 ⟨k,rfl,List.mem_range.1 hk,decide_eq_true hc⟩)
      cases most
      · simpa [hc,zgj hI.D0] using this
      · simpa [hc,zgj hI.D0] using this
    · simp [hc]
  · intro h x hx
    obtain ⟨k,rfl,hk,hc⟩:=zcc.1 hx
    have:=h k (List.mem_range.2 hk)
    rw [hc] at this
    cases most
    · simpa [zgj hI.D0] using this
    · simpa [zgj hI.D0] using this
theorem frac_div (hD:0 < s.D) {a b:Nat} (hb:0 < b):frac a s.D / frac b s.D=frac a b:=by
  unfold frac
  have h1:(s.D:Rat) ≠ 0:=by
    have:(0:Rat) < (s.D:Rat):=by exact_mod_cast hD
    intro e
    rw [e] at this
    exact absurd this (by decide)
  have h2:(b:Rat) ≠ 0:=by
    have:(0:Rat) < (b:Rat):=by exact_mod_cast hb
    intro e
    rw [e] at this
    exact absurd this (by decide)
  grind
theorem frac_pos {a b:Nat} (ha:0 < a) (hb:0 < b):0 < frac a b:=by
  have:=(frac_lt (a:=0) (b:=a) hb).2 ha
  have e:frac 0 b=0:=by unfold frac; rw [Rat.div_def]; simp
  rwa [e] at this
structure RsOK (P:GP) (s:GS) (rs:List Rd):Prop where
  rnd:∀ r∈rs,RndOK P.n r.votes∧r.el.length≤7
  len:rs.length≤7
  keep:∀ i,i < P.n→Bz eB (s.keep i)
theorem lotsOK (hP:P.OK):LotsOK P.n P.lots:=⟨hP.n1,hP.n7,hP.lotn,hP.lots,hP.lotd⟩
theorem flat_len:∀ {rs:List Rd},(∀ r∈rs,r.el.length≤7)→(rs.flatMap Rd.el).length≤7 * rs.length
  | [],_=>by simp
  | r::rs,h=>by
    rw [List.flatMap_cons,List.length_append,List.length_cons]
    have:=flat_len (rs:=rs) fun x hx=>h x (List.mem_cons_of_mem _ hx)
    have:=h r (by simp)
    omega
theorem votes_rnd (hP:P.OK) (hI:GI P s):RndOK P.n (lst (fun i=>frac (s.vt P i) s.D) P.n):=⟨zal _ _,fun q hq=>by
  obtain ⟨i,hi,rfl⟩:=mem_lst.1 hq
  exact zbe hP hI (zpd hP hI hi)⟩
theorem bz_zero:Bz eB (0:Rat):=by
  have:=zoz (n:=0) (by decide)
  exact this
def zcl (P:GP) (s:GS) (el:List Int):RD:=(lst (fun i=>rr (frac (s.vt P i) s.D)) P.n,lst (fun i=>rr (s.keep i)) P.n,rr (P.q:Rat),rr (frac (P.tot * s.D - sumN (s.vt P) P.n) s.D),rr (frac (sumN (fun i=>if s.st1 P i=1 then s.vt P i - s.bar P else 0) P.n) s.D),el,[],[])
theorem sur_le (hP:P.OK) (hI:GI P s):sumN (fun i=>if s.st1 P i=1 then s.vt P i - s.bar P else 0) P.n≤P.tot * s.D :=
  Nat.le_trans (zga fun i _=>by split <;> omega) (zjs hP hI)
theorem q_frac (hI:GI P s):(P.q:Rat)=frac (s.bar P) s.D:=(zje hI.D0).symm
theorem bar_le (hP:P.OK) (hI:GI P s):Bz eB (frac (s.bar P) s.D):=by rw [← q_frac hI]; exact zmr hP
theorem d136_eq (hP:P.OK) (hI:GI P s) {c:Nat} (hc:c < P.n) {r:RD} (h1:r.1=lst (fun i=>rr (frac (s.vt P i) s.D)) P.n) (h2:r.2.2.1=rr (P.q:Rat)):d136 (c:Int) r=some (decide (s.vt P c < s.bar P)):=by
  unfold d136
  simp only [h1,h2,zal,d0le,dlt hc,Bool.and_self,cond_true,tn,zaz (fun i=>rr (frac (s.vt P i) s.D)) hc]
  rw [d137_rr (zbe hP hI (zpd hP hI hc)).sz2 (zmr hP).sz2,Option.bind_some,q_frac hI]
  congr 1
  refine decide_eq_decide.2 ?_
  rw [← frac_lt hI.D0]
  unfold cmpQ
  by_cases h:frac (s.vt P c) s.D < frac (s.bar P) s.D
  · rw [if_pos h]; exact ⟨fun _=>h,fun _=>by omega⟩
  · rw [if_neg h]; exact ⟨fun hc=>by split at hc <;> omega,fun hc=>absurd hc h⟩
set_option maxHeartbeats 1000000 in
theorem d139_eq (hP:P.OK) (hI:GI P s) (hG:P.G≤1000000) {rs:List Rd} (hR:RsOK P s rs) {c:CT} (hc:c.2.2.2.2.2.2.1=P.ties) (fl:Nat) (hf:s.fin P=false) (hm:s.most P=true) (el:List Int) :
    d139 (KTof P c s (s.st1 P) fl rs) (zcl P s el)=some (KTof P c (s.trans P (rs.map Rd.votes)) (s.trans P (rs.map Rd.votes)).st fl rs,(zcl P s el).1,(zcl P s el).2.1,(zcl P s el).2.2.1,(zcl P s el).2.2.2.1,(zcl P s el).2.2.2.2.1,el,[],s.tiedR P):=by
  have hn7:=hP.n7
  have hq5:=hP.q5
  obtain ⟨x,x1,x2,x3⟩:=zfi hP hI hf (rs.map Rd.votes)
  rw [hm,if_pos rfl] at x3
  obtain ⟨_,k2,k3⟩:=zmg hI x2 x3
  have hb:=bar_pos hP hI
  have hvx:=zpd hP hI x2
  have htie:extr false (fun x=>frac (s.vt P x.toNat) s.D) (selI (fun i=>decide (s.st1 P i=1)) P.n)=s.tied P:=by
    have:=tied_eq hI (s.st1 P) 1 true
    unfold GS.tied
    rw [hm]
    exact this
  have hcls:selI (fun i=>decide (s.st1 P i=1)) P.n ≠ []:=List.ne_nil_of_mem (zcc.2 ⟨x,rfl,x2,decide_eq_true x3⟩)
  have hcl:(selI (fun i=>decide (s.st1 P i=1)) P.n).length≤1000:=by rw [zbn]; have:=zce (fun i=>decide (s.st1 P i=1)) P.n; omega
  unfold d139
  rw [show d135 (KTof P c s (s.st1 P) fl rs) 1=some (selI (fun i=>decide (s.st1 P i=1)) P.n) from zkp (k:=KTof P c s (s.st1 P) fl rs) rfl (by omega) 1]
  have hd:=d178_eq (c:=c) (lots:=P.lots) (tot:=(P.tot:Int)) (q:=(P.q:Int)) (pc:=lst (parc P s) P.G) (stl:=lst (fun i=>(s.st1 P i:Int)) P.n) (kp:=lst (fun i=>rr (s.keep i)) P.n) (filled:=(fl:Int)) (E:=rs.map Rd.votes) (rest:=(3,(P.seats:Int),0,(P.n:Int),rs.map rdT,rs.flatMap Rd.el)) (v:=fun i=>frac (s.vt P i) s.D) (kk:=(zcl P s el).2.1) (qu:=(zcl P s el).2.2.1) (ex:=(zcl P s el).2.2.2.1) (su:=(zcl P s el).2.2.2.2.1) (el:=el) (ex2:=[]) (ti:=[]) (least:=false) hc (by have:=hP.ties1; omega) hP.ties3 (lotsOK hP) (fun r hr=>by
      obtain ⟨r',h1,rfl⟩:=List.mem_map.1 hr
      exact (hR.rnd r' h1).1) (by rw [List.length_map]; have:=hR.len; omega) (fun i hi=>zbe hP hI (zpd hP hI hi)) hcls (zdl _ _) (fun y hy=>by
      obtain ⟨i,h1,h2,_⟩:=zcc.1 hy
      exact ⟨i,h1,h2⟩) hcl
  rw [htie] at hd
  have hpick:(if (s.tied P).length=1 then (s.tied P).headD 0 else tieB P.ties (rs.map Rd.votes) (s.tied P) P.lots false)=(x:Int):=by
    rw [← x1]; unfold GS.pick; rw [hm]; rfl
  rw [hpick] at hd
  rw [Option.bind_some,show d178 (KTof P c s (s.st1 P) fl rs) (zcl P s el) (selI (fun i=>decide (s.st1 P i=1)) P.n) false=_ from hd,Option.bind_some]
  have hbz:Bz eB (frac (s.vt P x - s.bar P) (s.vt P x)):=zkm (zhl hP hI (by omega)) (zhl hP hI hvx) (by decide)
  have h180:=d180_eq (keep:=upd s.keep x (frac (s.vt P x - s.bar P) (s.vt P x))) hP hI hG (c:=c) (lots:=P.lots) (tot:=(P.tot:Int)) (q:=(P.q:Int)) (kp:=lst (fun i=>rr (s.keep i)) P.n) (filled:=(fl:Int)) (rest:=((rs.map Rd.votes).map (List.map rr),3,(P.seats:Int),0,(P.n:Int),rs.map rdT,rs.flatMap Rd.el)) (st:=s.st1 P) (st':=upd (s.st1 P) x 2) (x:=x) (a:=s.vt P x - s.bar P) (b:=s.vt P x) (fun i=>by
    unfold upd
    by_cases h:i=x
    · subst h; rw [if_pos rfl,x3]; omega
    · rw [if_neg h]) (by omega) hbz
  simp only [d0le,zal,dlt x2,Bool.and_self,cond_true,tn,zaz (fun i=>rr (frac (s.vt P i) s.D)) x2,zfl (show P.q≤9223372036854775807 by omega),Option.bind_some,znl (zbe hP hI hvx).sz2 (zmr hP).sz2,q_frac hI,zlq hI.D0 k3]
  have hdiv:d179 (rr (frac (s.vt P x - s.bar P) s.D)) (rr (frac (s.vt P x) s.D))=some (rr (frac (s.vt P x - s.bar P) (s.vt P x)),true):=by
    rw [d179_rr (zbe hP hI (by omega)).sz2 (zbe hP hI hvx).sz2 (frac_pos (by omega) hI.D0),frac_div hI.D0 (by omega)]
  have hd132:d132 (rr (frac (s.vt P x) s.D)) (rr (frac (s.bar P) s.D))=some (rr (frac (s.vt P x - s.bar P) s.D)):=by
    rw [znl (zbe hP hI hvx).sz2 (bar_le hP hI).sz2,zlq hI.D0 k3]
  rw [hd132,Option.bind_some,hdiv,Option.bind_some]
  simp only [h180,Option.bind_some,zal,dlt x2,cond_true,zfk]
  have hxn:(s.pick P (rs.map Rd.votes)).toNat=x:=by rw [x1]; rfl
  congr 1
  unfold KTof GS.trans GS.tiedR zcl
  simp only [hxn]
  have e1:lst (upd (fun i=>(s.st1 P i:Int)) x 2) P.n=lst (fun i=>((s.move P (upd (s.st1 P) x 2) (upd s.keep x (frac (s.vt P x - s.bar P) (s.vt P x))) x (s.vt P x - s.bar P) (s.vt P x)).st i:Int)) P.n:=zbd fun i hi=>by
    show upd (fun i=>(s.st1 P i:Int)) x 2 i=((upd (s.st1 P) x 2 i:Nat):Int)
    unfold upd; split <;> rfl
  have e2:lst (upd (fun i=>rr (s.keep i)) x (rr (frac (s.vt P x - s.bar P) (s.vt P x)))) P.n=lst (fun i=>rr ((s.move P (upd (s.st1 P) x 2) (upd s.keep x (frac (s.vt P x - s.bar P) (s.vt P x))) x (s.vt P x - s.bar P) (s.vt P x)).keep i)) P.n:=zbd fun i hi=>by
    show upd (fun i=>rr (s.keep i)) x _ i=rr (upd s.keep x _ i)
    unfold upd; split <;> rfl
  rw [e1,e2,q_frac hI]
  rfl
set_option maxHeartbeats 1000000 in
theorem d140_eq (hP:P.OK) (hI:GI P s) (hG:P.G≤1000000) {rs:List Rd} (hR:RsOK P s rs) {c:CT} (hc:c.2.2.2.2.2.2.1=P.ties) (fl:Nat) (hf:s.fin P=false) (hm:s.most P=false) (el:List Int) :
    d140 (KTof P c s (s.st1 P) fl rs) (zcl P s el)=some (KTof P c (s.excl P (rs.map Rd.votes)) (s.excl P (rs.map Rd.votes)).st fl rs,(zcl P s el).1,(zcl P s el).2.1,(zcl P s el).2.2.1,(zcl P s el).2.2.2.1,(zcl P s el).2.2.2.2.1,el,[s.pick P (rs.map Rd.votes)],s.tiedR P):=by
  have hn7:=hP.n7
  obtain ⟨x,x1,x2,x3⟩:=zfi hP hI hf (rs.map Rd.votes)
  rw [hm] at x3
  have x3':s.st1 P x=0:=by simpa using x3
  have htie:extr true (fun x=>frac (s.vt P x.toNat) s.D) (selI (fun i=>decide (s.st1 P i=0)) P.n)=s.tied P:=by
    have:=tied_eq hI (s.st1 P) 0 false
    unfold GS.tied
    rw [hm]
    exact this
  have hcls:selI (fun i=>decide (s.st1 P i=0)) P.n ≠ []:=List.ne_nil_of_mem (zcc.2 ⟨x,rfl,x2,decide_eq_true x3'⟩)
  have hcl:(selI (fun i=>decide (s.st1 P i=0)) P.n).length≤1000:=by rw [zbn]; have:=zce (fun i=>decide (s.st1 P i=0)) P.n; omega
  unfold d140
  rw [show d135 (KTof P c s (s.st1 P) fl rs) 0=some (selI (fun i=>decide (s.st1 P i=0)) P.n) from zkp (k:=KTof P c s (s.st1 P) fl rs) rfl (by omega) 0]
  have hd:=d178_eq (c:=c) (lots:=P.lots) (tot:=(P.tot:Int)) (q:=(P.q:Int)) (pc:=lst (parc P s) P.G) (stl:=lst (fun i=>(s.st1 P i:Int)) P.n) (kp:=lst (fun i=>rr (s.keep i)) P.n) (filled:=(fl:Int)) (E:=rs.map Rd.votes) (rest:=(3,(P.seats:Int),0,(P.n:Int),rs.map rdT,rs.flatMap Rd.el)) (v:=fun i=>frac (s.vt P i) s.D) (kk:=(zcl P s el).2.1) (qu:=(zcl P s el).2.2.1) (ex:=(zcl P s el).2.2.2.1) (su:=(zcl P s el).2.2.2.2.1) (el:=el) (ex2:=[]) (ti:=[]) (least:=true) hc (by have:=hP.ties1; omega) hP.ties3 (lotsOK hP) (fun r hr=>by
      obtain ⟨r',h1,rfl⟩:=List.mem_map.1 hr
      exact (hR.rnd r' h1).1) (by rw [List.length_map]; have:=hR.len; omega) (fun i hi=>zbe hP hI (zpd hP hI hi)) hcls (zdl _ _) (fun y hy=>by
      obtain ⟨i,h1,h2,_⟩:=zcc.1 hy
      exact ⟨i,h1,h2⟩) hcl
  rw [htie] at hd
  have hpick:(if (s.tied P).length=1 then (s.tied P).headD 0 else tieB P.ties (rs.map Rd.votes) (s.tied P) P.lots true)=(x:Int):=by
    rw [← x1]; unfold GS.pick; rw [hm]; rfl
  rw [hpick] at hd
  rw [Option.bind_some,show d178 (KTof P c s (s.st1 P) fl rs) (zcl P s el) (selI (fun i=>decide (s.st1 P i=0)) P.n) true=_ from hd,Option.bind_some]
  have h180:=d180_eq (keep:=upd s.keep x 0) hP hI hG (c:=c) (lots:=P.lots) (tot:=(P.tot:Int)) (q:=(P.q:Int)) (kp:=lst (fun i=>rr (upd s.keep x 0 i)) P.n) (filled:=(fl:Int)) (rest:=((rs.map Rd.votes).map (List.map rr),3,(P.seats:Int),0,(P.n:Int),rs.map rdT,rs.flatMap Rd.el)) (st:=upd (s.st1 P) x 3) (st':=upd (s.st1 P) x 3) (x:=x) (a:=1) (b:=1) (fun i=>Iff.rfl) (by omega) (zkm (Nat.one_lt_two_pow (by decide)) (Nat.one_lt_two_pow (by decide)) (by decide))
  have hone:rr (frac 1 1)=rr (1:Rat):=by rw [zjf]; rfl
  have e1:lst (upd (fun i=>(s.st1 P i:Int)) x 3) P.n=lst (fun i=>((upd (s.st1 P) x 3 i:Nat):Int)) P.n:=zbd fun i hi=>by
    unfold upd; split <;> rfl
  have e2:lst (upd (fun i=>rr (s.keep i)) x (rr 0)) P.n=lst (fun i=>rr (upd s.keep x 0 i)) P.n:=zbd fun i hi=>by
    unfold upd; split <;> rfl
  have hz0:d68 0=some (rr 0):=zos (n:=0) (by omega) (by omega)
  have hz1:d68 1=some (rr 1):=zos (n:=1) (by omega) (by omega)
  rw [hone] at h180
  simp only [d0le,zal,dlt x2,Bool.and_self,cond_true,tn,hz0,hz1,Option.bind_some,zfk,e1,e2,h180]
  have hxn:(s.pick P (rs.map Rd.votes)).toNat=x:=by rw [x1]; rfl
  unfold KTof GS.excl GS.tiedR zcl
  simp only [hxn,x1]
  rfl
end Go.Proofs.YtmipjomnjkmdbaaGreat
set_option linter.unusedSimpArgs false
set_option linter.unusedVariables false
namespace Go.Proofs.YtmipjomnjkmdbaaGreat
open Go Go.X
variable {P:GP} {s:GS}
theorem zmy {α:Type} {l m:List α} (h:l.length+m.length≤4294967296):decide ((l.length:Int)+(m.length:Int)≤LIM)=true:=by
  rw [show (l.length:Int)+(m.length:Int)=((l.length+m.length:Nat):Int) by omega]; exact zbx h
theorem zpr {c:CT} {s:GS} {st:Nat→Nat} {fl:Nat} {rs:List Rd} {r:Rd} {T:RD} {b:Bool} (hT:T=rdT r) (hr:∀ x∈rs,x.el.length≤7) (hl:rs.length≤7) (he:r.el.length≤7) :
    (bif (decide (((KTof P c s st fl rs).2.2.2.2.2.2.2.2.1.length:Int)+(([T.1]:List (List Rt)).length:Int)≤LIM)) then
        bif (decide (((KTof P c s st fl rs).2.2.2.2.2.2.2.2.2.2.2.2.2.1.length:Int)+(([T]:List RD).length:Int)≤LIM)) then
          bif (decide (((KTof P c s st fl rs).2.2.2.2.2.2.2.2.2.2.2.2.2.2.length:Int)+(T.2.2.2.2.2.1.length:Int)≤LIM)) then
            some (!b,((KTof P c s st fl rs).1,(KTof P c s st fl rs).2.1,(KTof P c s st fl rs).2.2.1,(KTof P c s st fl rs).2.2.2.1,(KTof P c s st fl rs).2.2.2.2.1,(KTof P c s st fl rs).2.2.2.2.2.1,(KTof P c s st fl rs).2.2.2.2.2.2.1,(KTof P c s st fl rs).2.2.2.2.2.2.2.1,((KTof P c s st fl rs).2.2.2.2.2.2.2.2.1++[T.1]),(KTof P c s st fl rs).2.2.2.2.2.2.2.2.2.1,(KTof P c s st fl rs).2.2.2.2.2.2.2.2.2.2.1,(KTof P c s st fl rs).2.2.2.2.2.2.2.2.2.2.2.1,(KTof P c s st fl rs).2.2.2.2.2.2.2.2.2.2.2.2.1,((KTof P c s st fl rs).2.2.2.2.2.2.2.2.2.2.2.2.2.1++[T]),((KTof P c s st fl rs).2.2.2.2.2.2.2.2.2.2.2.2.2.2++T.2.2.2.2.2.1)))
          else none
        else none
      else none:Option (Bool × KT))=some (!b,KTof P c s st fl (rs++[r])):=by
  subst hT
  have h1:=flat_len hr
  have e1:(KTof P c s st fl rs).2.2.2.2.2.2.2.2.1.length=rs.length:=by simp [KTof]
  have e2:(KTof P c s st fl rs).2.2.2.2.2.2.2.2.2.2.2.2.2.1.length=rs.length:=by simp [KTof]
  have e3:(KTof P c s st fl rs).2.2.2.2.2.2.2.2.2.2.2.2.2.2.length=(rs.flatMap Rd.el).length:=rfl
  rw [zmy (by rw [e1]; simp; omega),zmy (by rw [e2]; simp; omega),zmy (by rw [e3]; show (rs.flatMap Rd.el).length+r.el.length≤_; omega)]
  simp only [cond_true,KTof,List.map_append,List.flatMap_append,List.map_cons,List.map_nil,List.flatMap_cons,List.flatMap_nil,List.append_nil]
  rfl
theorem zlu (P:GP) (s:GS) (el ex ti:List Int):((zcl P s el).1,(zcl P s el).2.1,(zcl P s el).2.2.1,(zcl P s el).2.2.2.1,(zcl P s el).2.2.2.2.1,el,ex,ti)=rdT { s.rd0 P with el:=el,ex:=ex,ti:=ti }:=by
  unfold zcl rdT GS.rd0
  simp only [lst_map]
set_option maxHeartbeats 2000000 in
theorem d69_eq (hP:P.OK) (hI:GI P s) (hG:P.G≤1000000) {rs:List Rd} (hR:RsOK P s rs) {c:CT} (hc:c.2.2.2.2.2.2.1=P.ties) (hcs:c.2.2.2.1=(P.seats:Int)) {fl:Nat} (hfl:fl=cntN (fun i=>decide (s.st i=1)) P.n+cntN (fun i=>decide (s.st i=2)) P.n) :
    (s.fin P=true∧∃ st' fl',d69 (KTof P c s s.st fl rs)=some (false,KTof P c s st' fl' (rs++[s.done P]))) ∨
    (s.fin P=false∧s.most P=true∧d69 (KTof P c s s.st fl rs)=some (true,KTof P c (s.trans P (rs.map Rd.votes)) (s.trans P (rs.map Rd.votes)).st (s.e1 P+s.e2 P) (rs++[{ s.rd0 P with ti:=s.tiedR P }]))) ∨
    (s.fin P=false∧s.most P=false∧d69 (KTof P c s s.st fl rs)=some (true,KTof P c (s.excl P (rs.map Rd.votes)) (s.excl P (rs.map Rd.votes)).st (s.e1 P+s.e2 P) (rs++[{ s.rd0 P with ti:=s.tiedR P,ex:=[s.pick P (rs.map Rd.votes)] }]))):=by
  have hn7:=hP.n7
  have hq5:=hP.q5
  have ht5:=hP.tot5
  have hs5:=hP.seats5
  have hsum:=zjs hP hI
  have hz0:d68 0=some (rr 0):=zos (n:=0) (by omega) (by omega)
  unfold d69
  rw [d130_eq hP hI hG (k:=KTof P c s s.st fl rs) rfl rfl rfl,Option.bind_some,show d131 (KTof P c s s.st fl rs).2.2.2.2.2.2.1=some (lst (fun i=>rr (s.keep i)) P.n) from d131_eq (by omega) hR.keep,Option.bind_some,
    show d68 (KTof P c s s.st fl rs).2.2.2.1=some (rr (P.q:Rat)) from zfl (by omega),Option.bind_some,show d68 (KTof P c s s.st fl rs).2.2.1=some (rr (P.tot:Rat)) from zfl (by omega),Option.bind_some,zal]
  obtain ⟨K,hK⟩:∃ K:KT,KTof P c s s.st fl rs=K:=⟨_,rfl⟩
  rw [hK]
  have partial_le:∀ i,i≤P.n→sumN (s.vt P) i≤sumN (s.vt P) P.n:=fun i hi=>by
    have key:∀ (f:Nat→Nat) (m n:Nat),m≤n→sumN f m≤sumN f n:=by
      intro f m n
      induction n with
      | zero=>intro h; rw [show m=0 by omega]; exact Nat.le_refl _
      | succ n ih =>
        intro h
        by_cases hm:m=n+1
        · rw [hm]; exact Nat.le_refl _
        · rw [sumN]; have:=ih (by omega); omega
    exact key _ _ _ hi
  have sumS:∀ i,sumN (s.vt P) (i+1)=sumN (s.vt P) i+s.vt P i:=fun i=>rfl
  obtain ⟨R0,hR0⟩:∃ R0:Nat→RD,(fun i=>((lst (fun i=>rr (frac (s.vt P i) s.D)) P.n,lst (fun i=>rr (s.keep i)) P.n,rr (P.q:Rat),rr (frac (P.tot * s.D - sumN (s.vt P) i) s.D),(false,[],[]),[],[],[]):RD))=R0:=⟨_,rfl⟩
  have goalA:∀ X:Option (Bool × KT)→Prop,∀ Kf:KT × RD→Option (Bool × KT),X (Kf (K,R0 P.n))→X ((zab (β:=(KT × RD)) (fun ((t0,t3,t29,t30,t31):KT × RD × (List Rt) × Int × Int) =>
      bif (decide (t31 < t30)) then
        bif (decide (0≤t31) && decide (t31 < (t29.length:Int))) then
          (d132 t3.2.2.2.1 (List.getD t29 (Int.toNat t31) (false,[],[]))).bind fun r_4 =>
          some (Sum.inl (t0,(t3.1,t3.2.1,t3.2.2.1,r_4,t3.2.2.2.2),t29,t30,(w (t31+1))))
        else none
      else
        some (Sum.inr (t0,t3))) (K,(lst (fun i=>rr (frac (s.vt P i) s.D)) P.n,lst (fun i=>rr (s.keep i)) P.n,rr (P.q:Rat),rr (P.tot:Rat),(false,[],[]),[],[],[]),lst (fun i=>rr (frac (s.vt P i) s.D)) P.n,(P.n:Int),0)).bind Kf):=by
    intro X Kf hX
    refine Eq.mpr (congrArg X ?_) hX
    refine zae (fun i=>(K,R0 i,lst (fun i=>rr (frac (s.vt P i) s.D)) P.n,(P.n:Int),(i:Int))) P.n (b:=(K,R0 P.n)) ?_ (fun i hi=>?_) ?_ rfl
    · rw [← hR0]
      simp only [sumN,Nat.sub_zero,zje hI.D0]; rfl
    · have h1:=partial_le i (by omega)
      have h2:=partial_le (i+1) (by omega)
      rw [sumS] at h2
      have hv:=zpd hP hI hi
      have hd:d132 (rr (frac (P.tot * s.D - sumN (s.vt P) i) s.D)) (rr (frac (s.vt P i) s.D))=some (rr (frac (P.tot * s.D - sumN (s.vt P) (i+1)) s.D)):=by
        rw [znl (zbe hP hI (by omega)).sz2 (zbe hP hI hv).sz2,zlq hI.D0 (by omega),sumS,Nat.sub_sub]
      rw [← hR0]
      simp only [dlt hi,d0le,zal,Bool.and_self,cond_true,tn,zaz (fun i=>rr (frac (s.vt P i) s.D)) hi,hd,Option.bind_some,zbl (show i < 9223372036854775807 by omega)]
    · simp only [nlt (Nat.le_refl P.n),cond_false]
  refine goalA (fun z=>(s.fin P=true∧∃ st' fl',z=some (false,KTof P c s st' fl' (rs++[s.done P]))) ∨
    (s.fin P=false∧s.most P=true∧z=some (true,KTof P c (s.trans P (rs.map Rd.votes)) (s.trans P (rs.map Rd.votes)).st (s.e1 P+s.e2 P) (rs++[{ s.rd0 P with ti:=s.tiedR P }]))) ∨
    (s.fin P=false∧s.most P=false∧z=some (true,KTof P c (s.excl P (rs.map Rd.votes)) (s.excl P (rs.map Rd.votes)).st (s.e1 P+s.e2 P) (rs++[{ s.rd0 P with ti:=s.tiedR P,ex:=[s.pick P (rs.map Rd.votes)] }])))) _ ?_
  clear goalA
  simp only
  have h5:d135 K 0=some (selI (fun i=>decide (s.st i=0)) P.n):=zkp (k:=K) (by rw [← hK]; rfl) (by omega) 0
  rw [h5,Option.bind_some]
  have h6:d134 (selI (fun i=>decide (s.st i=0)) P.n) (fun a=>d136 a (R0 P.n))=some (selI (s.el1 P) P.n):=by
    have hl:(selI (fun i=>decide (s.st i=0)) P.n).length≤1000000:=by rw [zbn]; have:=zce (fun i=>decide (s.st i=0)) P.n; omega
    rw [d134_eq (g:=fun c=>decide (s.vt P c.toNat < s.bar P)) (fun x hx=>by
      obtain ⟨i,rfl,hi,_⟩:=zcc.1 hx
      exact d136_eq hP hI hi (by rw [← hR0]) (by rw [← hR0])) hl,zic]
    congr 1
    refine zka fun i hi=>?_
    unfold GS.el1
    simp only [Int.toNat_natCast]
    congr 1
    by_cases h:s.vt P i < s.bar P
    · rw [decide_eq_true h,decide_eq_false (by omega)]; rfl
    · rw [decide_eq_false h,decide_eq_true (by omega)]; rfl
  rw [h6,Option.bind_some]
  have hKfl:fl≤1000:=by
    have h1:=zce (fun i=>decide (s.st i=1)) P.n
    have h2:=zce (fun i=>decide (s.st i=2)) P.n
    omega
  have hcs2:=cnt_split hI
  have h7:d133 K (R0 P.n) (selI (s.el1 P) P.n)=some (KTof P c s (s.st1 P) (s.e1 P+s.e2 P) rs,lst (fun i=>rr (frac (s.vt P i) s.D)) P.n,lst (fun i=>rr (s.keep i)) P.n,rr (P.q:Rat),rr (frac (P.tot * s.D - sumN (s.vt P) P.n) s.D),(false,[],[]),selI (s.el1 P) P.n,[],[]):=by
    rw [← hK,← hR0]
    unfold KTof
    simp only
    rw [d133_eq hn7 hKfl (by simp),List.nil_append,sortI_selI,hfl,hcs2]
    rfl
  rw [h7,Option.bind_some,hz0,Option.bind_some]
  simp only
  have h9:d135 (KTof P c s (s.st1 P) (s.e1 P+s.e2 P) rs) 1=some (selI (fun i=>decide (s.st1 P i=1)) P.n):=zkp (k:=KTof P c s (s.st1 P) (s.e1 P+s.e2 P) rs) rfl (by omega) 1
  have h10:d135 (KTof P c s (s.st1 P) (s.e1 P+s.e2 P) rs) 0=some (selI (fun i=>decide (s.st1 P i=0)) P.n):=zkp (k:=KTof P c s (s.st1 P) (s.e1 P+s.e2 P) rs) rfl (by omega) 0
  rw [h9,Option.bind_some]
  obtain ⟨L,hL⟩:∃ L,selN (fun i=>decide (s.st1 P i=1)) P.n=L:=⟨_,rfl⟩
  have hLi:(selI (fun i=>decide (s.st1 P i=1)) P.n).length=L.length:=by rw [← hL,selI,List.length_map]
  have hLl:L.length≤7:=by rw [← hL,zcb]; have:=zce (fun i=>decide (s.st1 P i=1)) P.n; omega
  have hLs:(L.map fun i=>s.vt P i - s.bar P).sum=sumN (fun i=>if s.st1 P i=1 then s.vt P i - s.bar P else 0) P.n:=by
    rw [← hL,sum_sel]
    refine zau fun i hi=>?_
    by_cases h:s.st1 P i=1
    · simp [h]
    · simp [h]
  have hLt:(L.map fun i=>s.vt P i - s.bar P).sum≤P.tot * s.D:=by rw [hLs]; exact sur_le hP hI
  rw [hLi]
  obtain ⟨K1,hK1⟩:∃ K1:KT,KTof P c s (s.st1 P) (s.e1 P+s.e2 P) rs=K1:=⟨_,rfl⟩
  rw [hK1]
  obtain ⟨T,hT⟩:∃ T:Nat→RD,(fun j=>((lst (fun i=>rr (frac (s.vt P i) s.D)) P.n,lst (fun i=>rr (s.keep i)) P.n,rr (P.q:Rat),rr (frac (P.tot * s.D - sumN (s.vt P) P.n) s.D),rr (frac ((L.take j).map fun i=>s.vt P i - s.bar P).sum s.D),selI (s.el1 P) P.n,[],[]):RD))=T:=⟨_,rfl⟩
  have hTb:T L.length=zcl P s (selI (s.el1 P) P.n):=by
    rw [← hT]
    simp only [List.take_length,hLs]
    rfl
  have goalB:∀ X:Option (Bool × KT)→Prop,∀ Kf:KT × RD→Option (Bool × KT),X (Kf (K1,zcl P s (selI (s.el1 P) P.n)))→X ((zab (β:=(KT × RD)) (fun ((t0_2,t3_2,t50,t51,t52):KT × RD × (List Int) × Int × Int) =>
      bif (decide (t52 < t51)) then
        bif (decide (0≤t52) && decide (t52 < (t50.length:Int))) then
          bif (decide (0≤(List.getD t50 (Int.toNat t52) 0)) && decide ((List.getD t50 (Int.toNat t52) 0) < (t3_2.1.length:Int))) then
            (d132 (List.getD t3_2.1 (Int.toNat (List.getD t50 (Int.toNat t52) 0)) (false,[],[])) t3_2.2.2.1).bind fun r_10 =>
            (d138 t3_2.2.2.2.2.1 r_10).bind fun r_11 =>
            some (Sum.inl (t0_2,(t3_2.1,t3_2.2.1,t3_2.2.2.1,t3_2.2.2.2.1,r_11,t3_2.2.2.2.2.2),t50,t51,(w (t52+1))))
          else none
        else none
      else
        some (Sum.inr (t0_2,t3_2))) (K1,(lst (fun i=>rr (frac (s.vt P i) s.D)) P.n,lst (fun i=>rr (s.keep i)) P.n,rr (P.q:Rat),rr (frac (P.tot * s.D - sumN (s.vt P) P.n) s.D),rr 0,selI (s.el1 P) P.n,[],[]),selI (fun i=>decide (s.st1 P i=1)) P.n,(L.length:Int),0)).bind Kf):=by
    intro X Kf hX
    refine Eq.mpr (congrArg X ?_) hX
    refine zae (fun j=>(K1,T j,selI (fun i=>decide (s.st1 P i=1)) P.n,(L.length:Int),(j:Int))) L.length (b:=(K1,zcl P s (selI (s.el1 P) P.n))) ?_ (fun j hj=>?_) ?_ rfl
    · rw [← hT]
      simp only [List.take_zero,List.map_nil,List.sum_nil]
      have:frac 0 s.D=0:=by unfold frac; rw [Rat.div_def]; simp
      rw [this]; rfl
    · have hj':j < (selN (fun i=>decide (s.st1 P i=1)) P.n).length:=by rw [hL]; exact hj
      have hg:=zgx hj'
      have hsg:=zir hj'
      rw [hL] at hg hsg
      obtain ⟨x,hx⟩:∃ x,L.getD j 0=x:=⟨_,rfl⟩
      rw [hx] at hg hsg
      obtain ⟨_,_,k3⟩:=zmg hI hg.1 (of_decide_eq_true hg.2)
      have hv:=zpd hP hI hg.1
      have hd1:d132 (rr (frac (s.vt P x) s.D)) (rr (P.q:Rat))=some (rr (frac (s.vt P x - s.bar P) s.D)):=by
        rw [q_frac hI,znl (zbe hP hI hv).sz2 (bar_le hP hI).sz2,zlq hI.D0 k3]
      have hst:((L.take (j+1)).map fun i=>s.vt P i - s.bar P).sum=((L.take j).map fun i=>s.vt P i - s.bar P).sum+(s.vt P x - s.bar P):=by
        rw [zbi L 0 hj,hx,List.map_append,List.sum_append]; simp
      have hle1:((L.take j).map fun i=>s.vt P i - s.bar P).sum≤P.tot * s.D:=by
        rw [List.map_take]; exact Nat.le_trans (sum_take_le _ _) hLt
      have hd2:d138 (rr (frac ((L.take j).map fun i=>s.vt P i - s.bar P).sum s.D)) (rr (frac (s.vt P x - s.bar P) s.D))=some (rr (frac ((L.take (j+1)).map fun i=>s.vt P i - s.bar P).sum s.D)):=by
        rw [d138_rr (zbe hP hI hle1).sz2 (zbe hP hI (by omega)).sz2,zqe hI.D0,hst]
      rw [← hT]
      simp only [dlt hj,d0le,hLi,Bool.and_self,cond_true,tn,hsg,zal,dlt hg.1,zaz (fun i=>rr (frac (s.vt P i) s.D)) hg.1,hd1,hd2,Option.bind_some,zbl (show j < 9223372036854775807 by omega)]
    · simp only [nlt (Nat.le_refl L.length),cond_false,hTb]
  refine goalB (fun z=>(s.fin P=true∧∃ st' fl',z=some (false,KTof P c s st' fl' (rs++[s.done P]))) ∨
    (s.fin P=false∧s.most P=true∧z=some (true,KTof P c (s.trans P (rs.map Rd.votes)) (s.trans P (rs.map Rd.votes)).st (s.e1 P+s.e2 P) (rs++[{ s.rd0 P with ti:=s.tiedR P }]))) ∨
    (s.fin P=false∧s.most P=false∧z=some (true,KTof P c (s.excl P (rs.map Rd.votes)) (s.excl P (rs.map Rd.votes)).st (s.e1 P+s.e2 P) (rs++[{ s.rd0 P with ti:=s.tiedR P,ex:=[s.pick P (rs.map Rd.votes)] }])))) _ ?_
  clear goalB hT hTb
  subst hK1
  clear hK h5 h6 h7
  have hel:(selI (s.el1 P) P.n).length≤7:=by rw [zbn]; have:=zce (s.el1 P) P.n; omega
  have hrl:=hR.len
  have hre:∀ x∈rs,x.el.length≤7:=fun x hx=>(hR.rnd x hx).2
  simp only [zaw]
  have hfs:(KTof P c s (s.st1 P) (s.e1 P+s.e2 P) rs).2.2.2.2.2.2.2.1=((s.e1 P+s.e2 P:Nat):Int):=rfl
  have hss:(KTof P c s (s.st1 P) (s.e1 P+s.e2 P) rs).1.2.2.2.1=(P.seats:Int):=hcs
  have helec:=zko hP hI
  simp only [hfs,hss,zhv]
  by_cases hq:s.e1 P+s.e2 P=P.seats
  · have hfin:s.fin P=true:=by
      unfold GS.fin
      rw [Bool.or_eq_true]
      exact .inl (decide_eq_true hq)
    refine .inl ⟨hfin,s.st1 P,s.e1 P+s.e2 P,?_⟩
    simp only [decide_eq_true hq,cond_true]
    have hdone:s.done P={ s.rd0 P with el:=selI (s.el1 P) P.n,ex:=[],ti:=[] }:=by
      unfold GS.done
      have h':¬ (cntN (fun i=>decide (s.st1 P i=1)) P.n+cntN (fun i=>decide (s.st1 P i=2)) P.n < P.seats):=by
        show ¬ (s.e1 P+s.e2 P < P.seats); omega
      simp only [if_neg h']
      rfl
    rw [hdone]
    exact zpr (b:=true) (zlu P s (selI (s.el1 P) P.n) [] []) hre (by omega) hel
  · simp only [decide_eq_false hq,cond_false,h10,Option.bind_some]
    have hlen0:(selI (fun i=>decide (s.st1 P i=0)) P.n).length=s.e0 P:=zbn _ _
    have he0:s.e0 P≤7:=by unfold GS.e0; have:=zce (fun i=>decide (s.st1 P i=0)) P.n; omega
    rw [hlen0,wadd (by omega)]
    by_cases hq2:s.e1 P+s.e2 P+s.e0 P≤P.seats
    · have hfin:s.fin P=true:=by
        unfold GS.fin
        rw [Bool.or_eq_true]
        exact .inr (decide_eq_true hq2)
      rw [show decide (((s.e1 P+s.e2 P+s.e0 P:Nat):Int)≤(P.seats:Int))=true from decide_eq_true (by omega),cond_true]
      have h14:d133 (KTof P c s (s.st1 P) (s.e1 P+s.e2 P) rs) (zcl P s (selI (s.el1 P) P.n)) (selI (fun i=>decide (s.st1 P i=0)) P.n)=some (KTof P c s (fun i=>if decide (s.st1 P i=0) then 1 else s.st1 P i) (s.e1 P+s.e2 P+s.e0 P) rs,zcl P s (selI (fun i=>s.el1 P i || decide (s.st1 P i=0)) P.n)):=by
        unfold KTof zcl
        rw [d133_eq (st:=s.st1 P) hn7 (by omega) (by omega),sortI_two fun i hi=>?_]
        · rfl
        · rcases zcf (P:=P) (s:=s) i with ⟨_,_,h2,_⟩ | ⟨h0,_⟩
          · rw [h2]; rfl
          · rw [h0] at hi; cases hi
      rw [h14,Option.bind_some]
      refine .inl ⟨hfin,fun i=>if decide (s.st1 P i=0) then 1 else s.st1 P i,s.e1 P+s.e2 P+s.e0 P,?_⟩
      have hdone:s.done P={ s.rd0 P with el:=selI (fun i=>s.el1 P i || decide (s.st1 P i=0)) P.n,ex:=[],ti:=[] }:=by
        unfold GS.done
        have h':cntN (fun i=>decide (s.st1 P i=1)) P.n+cntN (fun i=>decide (s.st1 P i=2)) P.n < P.seats:=by
          show s.e1 P+s.e2 P < P.seats; omega
        simp only [if_pos h']
        rfl
      rw [hdone]
      exact zpr (b:=true) (zlu P s (selI (fun i=>s.el1 P i || decide (s.st1 P i=0)) P.n) [] []) hre (by omega) (by
        show (selI _ _).length≤7
        rw [zbn]; have:=zce (fun i=>s.el1 P i || decide (s.st1 P i=0)) P.n; omega)
    · have hfin:s.fin P=false:=by
        unfold GS.fin
        rw [Bool.or_eq_false_iff]
        exact ⟨decide_eq_false hq,decide_eq_false hq2⟩
      rw [show decide (((s.e1 P+s.e2 P+s.e0 P:Nat):Int)≤(P.seats:Int))=false from decide_eq_false (by omega),cond_false,h9,Option.bind_some]
      have hlen1:(selI (fun i=>decide (s.st1 P i=1)) P.n).length=s.e1 P:=zbn _ _
      rw [hlen1]
      refine .inr ?_
      cases hm:s.most P with
      | true =>
        refine .inl ⟨hfin,rfl,?_⟩
        have h0:0 < s.e1 P:=of_decide_eq_true hm
        rw [show decide ((0:Int) < (s.e1 P:Int))=true from decide_eq_true (by omega),cond_true,d139_eq hP hI hG hR hc _ hfin hm,Option.bind_some]
        exact zpr (b:=false) (zlu P s (selI (s.el1 P) P.n) [] (s.tiedR P)) hre (by omega) hel
      | false =>
        refine .inr ⟨hfin,rfl,?_⟩
        have h0:¬ 0 < s.e1 P:=of_decide_eq_false hm
        rw [show decide ((0:Int) < (s.e1 P:Int))=false from decide_eq_false (by omega),cond_false,d140_eq hP hI hG hR hc _ hfin hm,Option.bind_some]
        exact zpr (b:=false) (zlu P s (selI (s.el1 P) P.n) [s.pick P (rs.map Rd.votes)] (s.tiedR P)) hre (by omega) hel
end Go.Proofs.YtmipjomnjkmdbaaGreat
set_option linter.unusedSimpArgs false
set_option linter.unusedVariables false
namespace Go.Proofs.YtmipjomnjkmdbaaGreat
open Go Go.X
def permB (n:Int) (lots:List Int):Bool:=decide ((lots.length:Int)=n) && decide (isB n lots)
def fitE (m:Int) (c:CT) (gs:List Grp) (lots:List Int):Int :=
  bif decide (m < 1) || (decide (3 < m) || !decide (c.2.2.1=m)) then 5
  else bif decide ((c.2.1.length:Int) < 1) || (decide (7 < (c.2.1.length:Int)) || (decide (c.2.2.2.1 < 1) || (decide (5 < c.2.2.2.1) || ((decide (m=1) && !decide (c.2.2.2.1=1)) || (!(bif decide (m=2) then decide (1≤c.2.2.2.2.2.1) && decide (c.2.2.2.2.2.1≤6) else decide (c.2.2.2.2.2.1=0)) || (decide (c.2.2.2.2.2.2.1 < 1) || decide (3 < c.2.2.2.2.2.2.1))))))) then 4
  else bif !zpu (c.2.1.length:Int) gs then 8
  else bif !permB (c.2.1.length:Int) lots then 13
  else 0
set_option maxHeartbeats 2000000 in
theorem d66_eq (m:Int) (c:CT) {gs:List Grp} {lots:List Int} (hg:GsOK gs) (hl:lots.length≤281474976710656):d66 m c gs lots=some (fitE m c gs lots):=by
  have hp:decide ((c.2.1.length:Int) < 1)=false→decide (7 < (c.2.1.length:Int))=false→d124 (c.2.1.length:Int) gs=some (zpu (c.2.1.length:Int) gs):=fun h1 h2=>by
    have h1:=of_decide_eq_false h1
    have h2:=of_decide_eq_false h2
    rw [d124_eq (by omega) hg.1 hg.2]
    unfold zpu goodP
    rw [decide_eq_true (show 1≤(c.2.1.length:Int)∧(c.2.1.length:Int)≤7 by omega)]; rfl
  have hq:decide (7 < (c.2.1.length:Int))=false→d125 lots (c.2.1.length:Int)=some (permB (c.2.1.length:Int) lots):=fun h2=>by
    have h2:=of_decide_eq_false h2
    unfold d125 permB
    by_cases h:(lots.length:Int)=(c.2.1.length:Int)
    · rw [decide_eq_true h,cond_true,d165_eq (by omega) hl]; rfl
    · rw [decide_eq_false h]; rfl
  unfold d66 fitE
  cases he2:decide (m=2) <;> cases hg1:decide (1≤c.2.2.2.2.2.1) <;> simp only [he2,hg1,Bool.not_true,Bool.not_false,cond_true,cond_false,Bool.true_or,Bool.false_or,Bool.or_true,Bool.or_false,Bool.true_and,Bool.false_and,Option.bind_some]
  all_goals
    rw [zaw]
    cases ha1:decide (m < 1)
    case true=>simp only [ha1,zaw,Bool.not_true,Bool.not_false,cond_true,cond_false,Bool.true_or,Bool.false_or,Bool.or_true,Bool.or_false,Bool.true_and,Bool.false_and,Option.bind_some]
    try simp only [ha1,Bool.not_true,Bool.not_false,cond_true,cond_false,Bool.true_or,Bool.false_or,Bool.or_true,Bool.or_false,Bool.true_and,Bool.false_and,Option.bind_some]
    cases ha2:decide (3 < m)
    case true=>simp only [ha2,zaw,Bool.not_true,Bool.not_false,cond_true,cond_false,Bool.true_or,Bool.false_or,Bool.or_true,Bool.or_false,Bool.true_and,Bool.false_and,Option.bind_some]
    try simp only [ha2,Bool.not_true,Bool.not_false,cond_true,cond_false,Bool.true_or,Bool.false_or,Bool.or_true,Bool.or_false,Bool.true_and,Bool.false_and,Option.bind_some]
    cases ha3:decide (c.2.2.1=m)
    case false=>simp only [ha3,zaw,Bool.not_true,Bool.not_false,cond_true,cond_false,Bool.true_or,Bool.false_or,Bool.or_true,Bool.or_false,Bool.true_and,Bool.false_and,Option.bind_some]
    try simp only [ha3,Bool.not_true,Bool.not_false,cond_true,cond_false,Bool.true_or,Bool.false_or,Bool.or_true,Bool.or_false,Bool.true_and,Bool.false_and,Option.bind_some]
    rw [zaw]
    try simp only [Bool.not_true,Bool.not_false,cond_true,cond_false,Bool.true_or,Bool.false_or,Bool.or_true,Bool.or_false,Bool.true_and,Bool.false_and,Option.bind_some]
    cases hn1:decide ((c.2.1.length:Int) < 1)
    case true=>simp only [hn1,zaw,Bool.not_true,Bool.not_false,cond_true,cond_false,Bool.true_or,Bool.false_or,Bool.or_true,Bool.or_false,Bool.true_and,Bool.false_and,Option.bind_some]
    try simp only [hn1,Bool.not_true,Bool.not_false,cond_true,cond_false,Bool.true_or,Bool.false_or,Bool.or_true,Bool.or_false,Bool.true_and,Bool.false_and,Option.bind_some]
    cases hn2:decide (7 < (c.2.1.length:Int))
    case true=>simp only [hn2,zaw,Bool.not_true,Bool.not_false,cond_true,cond_false,Bool.true_or,Bool.false_or,Bool.or_true,Bool.or_false,Bool.true_and,Bool.false_and,Option.bind_some]
    try simp only [hn2,Bool.not_true,Bool.not_false,cond_true,cond_false,Bool.true_or,Bool.false_or,Bool.or_true,Bool.or_false,Bool.true_and,Bool.false_and,Option.bind_some]
    simp only [zaw,hp hn1 hn2,hq hn2,Bool.not_true,Bool.not_false,cond_true,cond_false,Bool.true_or,Bool.false_or,Bool.or_true,Bool.or_false,Bool.true_and,Bool.false_and,Option.bind_some]
    cases hs1:decide (c.2.2.2.1 < 1)
    case true=>simp only [hs1,zaw,Bool.not_true,Bool.not_false,cond_true,cond_false,Bool.true_or,Bool.false_or,Bool.or_true,Bool.or_false,Bool.true_and,Bool.false_and,Option.bind_some]
    try simp only [hs1,Bool.not_true,Bool.not_false,cond_true,cond_false,Bool.true_or,Bool.false_or,Bool.or_true,Bool.or_false,Bool.true_and,Bool.false_and,Option.bind_some]
    cases hs2:decide (5 < c.2.2.2.1)
    case true=>simp only [hs2,zaw,Bool.not_true,Bool.not_false,cond_true,cond_false,Bool.true_or,Bool.false_or,Bool.or_true,Bool.or_false,Bool.true_and,Bool.false_and,Option.bind_some]
    try simp only [hs2,Bool.not_true,Bool.not_false,cond_true,cond_false,Bool.true_or,Bool.false_or,Bool.or_true,Bool.or_false,Bool.true_and,Bool.false_and,Option.bind_some]
    cases hm1:decide (m=1) <;> cases hso:decide (c.2.2.2.1=1) <;> simp only [hm1,hso,Bool.not_true,Bool.not_false,cond_true,cond_false,Bool.true_or,Bool.false_or,Bool.or_true,Bool.or_false,Bool.true_and,Bool.false_and,Option.bind_some]
    all_goals (try (cases hg2:decide (c.2.2.2.2.2.1≤6) <;> simp only [hg2,Bool.not_true,Bool.not_false,cond_true,cond_false,Bool.true_or,Bool.false_or,Bool.or_true,Bool.or_false,Bool.true_and,Bool.false_and,Option.bind_some]))
    all_goals (try (cases hg0:decide (c.2.2.2.2.2.1=0) <;> simp only [hg0,Bool.not_true,Bool.not_false,cond_true,cond_false,Bool.true_or,Bool.false_or,Bool.or_true,Bool.or_false,Bool.true_and,Bool.false_and,Option.bind_some]))
    all_goals (try (cases ht1:decide (c.2.2.2.2.2.2.1 < 1) <;> simp only [ht1,Bool.not_true,Bool.not_false,cond_true,cond_false,Bool.true_or,Bool.false_or,Bool.or_true,Bool.or_false,Bool.true_and,Bool.false_and,Option.bind_some]))
    all_goals (try (cases ht2:decide (3 < c.2.2.2.2.2.2.1) <;> simp only [ht2,Bool.not_true,Bool.not_false,cond_true,cond_false,Bool.true_or,Bool.false_or,Bool.or_true,Bool.or_false,Bool.true_and,Bool.false_and,Option.bind_some]))
    all_goals (try (cases zpu (c.2.1.length:Int) gs <;> simp only [Bool.not_true,Bool.not_false,cond_true,cond_false,Bool.true_or,Bool.false_or,Bool.or_true,Bool.or_false,Bool.true_and,Bool.false_and,Option.bind_some]))
    all_goals (try (cases permB (c.2.1.length:Int) lots <;> simp only [Bool.not_true,Bool.not_false,cond_true,cond_false,Bool.true_or,Bool.false_or,Bool.or_true,Bool.or_false,Bool.true_and,Bool.false_and,Option.bind_some]))
theorem zji {m:Int} {c:CT} {gs:List Grp} {lots:List Int} (h:fitE m c gs lots=0):1≤m∧m≤3∧c.2.2.1=m∧1≤c.2.1.length∧c.2.1.length≤7∧1≤c.2.2.2.1∧c.2.2.2.1≤5∧(m=1→c.2.2.2.1=1)∧(m=2→1≤c.2.2.2.2.2.1∧c.2.2.2.2.2.1≤6)∧(m ≠ 2→c.2.2.2.2.2.1=0)∧1≤c.2.2.2.2.2.2.1∧c.2.2.2.2.2.2.1≤3∧PileOK (c.2.1.length:Int) gs (wsum (fun _=>1) gs)∧lots.length=c.2.1.length∧isB (c.2.1.length:Int) lots:=by
  unfold fitE at h
  by_cases h1:(decide (m < 1) || (decide (3 < m) || !decide (c.2.2.1=m)))=true
  · rw [h1] at h; exact absurd h (by show ¬ (5:Int)=0; omega)
  have h1:(decide (m < 1) || (decide (3 < m) || !decide (c.2.2.1=m)))=false:=by simpa using h1
  rw [h1,cond_false] at h
  cases h2:(decide ((c.2.1.length:Int) < 1) || (decide (7 < (c.2.1.length:Int)) || (decide (c.2.2.2.1 < 1) || (decide (5 < c.2.2.2.1) || ((decide (m=1) && !decide (c.2.2.2.1=1)) || (!(bif decide (m=2) then decide (1≤c.2.2.2.2.2.1) && decide (c.2.2.2.2.2.1≤6) else decide (c.2.2.2.2.2.1=0)) || (decide (c.2.2.2.2.2.2.1 < 1) || decide (3 < c.2.2.2.2.2.2.1))))))))
  case true=>rw [h2] at h; exact absurd h (by show ¬ (4:Int)=0; omega)
  rw [h2,cond_false] at h
  cases h3:zpu (c.2.1.length:Int) gs
  case false=>rw [h3] at h; exact absurd h (by show ¬ (8:Int)=0; omega)
  rw [h3,Bool.not_true,cond_false] at h
  cases h4:permB (c.2.1.length:Int) lots
  case false=>rw [h4] at h; exact absurd h (by show ¬ (13:Int)=0; omega)
  simp only [Bool.or_eq_false_iff,decide_eq_false_iff_not,Bool.not_eq_false',decide_eq_true_eq] at h1 h2
  obtain ⟨a1,a2,a3⟩:=h1
  obtain ⟨b1,b2,b3,b4,b5,b6,b7,b8⟩:=h2
  unfold permB at h4
  simp only [Bool.and_eq_true,decide_eq_true_eq] at h4
  refine ⟨by omega,by omega,a3,by omega,by omega,by omega,by omega,fun hm=>?_,fun hm=>?_,fun hm=>?_,by omega,by omega,(pileB_ok h3).2.2,by omega,h4.2⟩
  · rw [decide_eq_true hm,Bool.true_and,Bool.not_eq_false',decide_eq_true_eq] at b5
    exact b5
  · rw [decide_eq_true hm,cond_true,Bool.and_eq_true,decide_eq_true_eq,decide_eq_true_eq] at b6
    exact b6
  · rw [decide_eq_false hm,cond_false,decide_eq_true_eq] at b6
    exact b6
theorem d30_eq {b s:Int} (h0:0≤b) (h1:b≤100000) (h2:1≤s) (h3:s≤5):d30 b s=some (b / (s+1)+1):=by
  have e:w (s+1)=s+1:=zbm (by omega) (by omega)
  have hd:Int.tdiv b (s+1)=b / (s+1):=Int.tdiv_eq_ediv_of_nonneg h0
  have hle:b / (s+1)≤b:=Int.ediv_le_self _ h0
  have hge:0≤b / (s+1):=Int.ediv_nonneg h0 (by omega)
  unfold d30
  rw [zaw]
  simp only [decide_eq_false (show ¬ b < 0 by omega),decide_eq_false (show ¬ 100000 < b by omega),decide_eq_false (show ¬ s < 1 by omega),decide_eq_false (show ¬ 5 < s by omega),Bool.not_false,cond_true,cond_false,e,decide_eq_false (show ¬ s+1=0 by omega),hd]
  rw [zbm (n:=b / (s+1)) (by omega) (by omega),zbm (by omega) (by omega)]
theorem PileOK.d67 {n:Int} {gs:List Grp} {N:Int} (h:PileOK n gs N) (hn:n≤7):d67 gs=some (wsum (fun _=>1) gs):=by
  obtain ⟨hl,hg⟩:=h.sizes hn
  have hf:∀ p:List Int,0≤(1:Int)∧(1:Int)≤1:=fun p=>by omega
  unfold Go.Proofs.YtmipjomnjkmdbaaGreat.d67
  rw [h.d100 hn]
  simp only [Option.bind_some,Bool.not_true,cond_false]
  have:d104 gs (fun a=>d126 a)=some (wsum (fun _=>1) gs):=by
    unfold d104
    refine zae (b:=wsum (fun _=>1) gs) (fun i=>((fun a=>d126 a),wsum (fun _=>1) (gs.take i),gs,(gs.length:Int),(i:Int))) gs.length rfl (fun i hi=>?_) ?_ rfl
    · have h1:=h.part hf (i+1)
      rw [zdr _ gs hi] at h1
      simp only [dlt hi,d0le,Bool.and_self,cond_true,tn,d126,Option.bind_some,zbl (show i < 9223372036854775807 by omega)]
      rw [zbm (by omega) (by omega),zdr _ gs hi,Int.mul_one]
    · simp only [nlt (Nat.le_refl gs.length),cond_false,List.take_length]
  rw [this]; rfl
def gpOf (c:CT) (gs:List Grp) (lots:List Int):GP :=
  { gs:=gs,n:=c.2.1.length,seats:=c.2.2.2.1.toNat,q:=(wsum zar gs / (c.2.2.2.1+1)+1).toNat,tot:=(wsum (fun _=>1) gs).toNat,ties:=c.2.2.2.2.2.2.1,lots:=lots }
theorem zij {n:Int} {gs:List Grp} {N:Int} (h:PileOK n gs N) (b:List Int→Bool) (c:CT) (lots:List Int):∀ m,m≤gs.length→wsum (fun p=>if b p then 1 else 0) (gs.take m)=((sumN (fun g=>if b ((gpOf c gs lots).p g) then (gpOf c gs lots).k g else 0) m:Nat):Int)
  | 0,_=>rfl
  | m+1,hm=>by
    have hb:=(h.ballots _ (zcy (l:=gs) (d:=([],0)) (i:=m) (by omega))).2
    rw [zdr _ gs (by omega),zij h b c lots m (by omega),sumN,Int.natCast_add]
    congr 1
    show _ * (if b (gs.getD m ([],0)).1 then 1 else 0)=((if b (gs.getD m ([],0)).1 then (gs.getD m ([],0)).2.toNat else 0:Nat):Int)
    split
    · rw [Int.mul_one]; omega
    · rw [Int.mul_zero]; rfl
theorem quo_lt {m s:Nat} (h1:1≤s) (h5:s≤5):m < (m / (s+1)+1) * (s+1):=by
  have:s=1∨s=2∨s=3∨s=4∨s=5:=by omega
  rcases this with rfl | rfl | rfl | rfl | rfl <;> omega
theorem gpOf_ok {c:CT} {gs:List Grp} {lots:List Int} (h:fitE 3 c gs lots=0):(gpOf c gs lots).OK∧(gpOf c gs lots).G≤1000000∧c.2.2.2.1=((gpOf c gs lots).seats:Int)∧d67 gs=some ((gpOf c gs lots).tot:Int)∧d52 gs=some (wsum zar gs)∧d30 (wsum zar gs) c.2.2.2.1=some ((gpOf c gs lots).q:Int):=by
  obtain ⟨_,_,_,n1,n7,s1,s5,_,_,_,t1,t3,hp,ll,hB⟩:=zji h
  obtain ⟨hl,hg⟩:=hp.sizes (by omega)
  have hmk:=hp.part (f:=zar) (fun p=>by unfold zar; split <;> omega) gs.length
  have hto:=hp.part (f:=fun _=>1) (fun p=>by omega) gs.length
  rw [List.take_length] at hmk hto
  have hS:c.2.2.2.1=(c.2.2.2.1.toNat:Int):=by omega
  have e1:wsum (fun _=>1) gs=((sumN (gpOf c gs lots).k gs.length:Nat):Int):=by
    have:=zij hp (fun _=>true) c lots gs.length (Nat.le_refl _)
    rw [List.take_length] at this
    simpa using this
  have e2:wsum zar gs=(((gpOf c gs lots).mkd:Nat):Int):=by
    have:=zij hp (fun p=>decide (p ≠ [])) c lots gs.length (Nat.le_refl _)
    rw [List.take_length] at this
    have hf:(fun p:List Int=>if decide (p ≠ [])=true then (1:Int) else 0)=zar:=by
      funext p; unfold zar; by_cases hp:p=[] <;> simp [hp]
    rw [hf] at this
    rw [this]
    congr 1
    unfold GP.mkd
    refine zau fun g hg=>?_
    by_cases hp:(gpOf c gs lots).p g=[] <;> simp [hp]
  obtain ⟨S,hSS⟩:∃ S,c.2.2.2.1.toNat=S:=⟨_,rfl⟩
  have hq:(gpOf c gs lots).q=(gpOf c gs lots).mkd / (S+1)+1:=by
    show (wsum zar gs / (c.2.2.2.1+1)+1).toNat=_
    rw [e2,hS,hSS]
    rfl
  have hm5:(gpOf c gs lots).mkd≤100000:=by omega
  have hdiv:=Nat.div_le_self (gpOf c gs lots).mkd (S+1)
  have hq1:1≤(gpOf c gs lots).q∧(gpOf c gs lots).q≤100001:=by
    rw [hq]
    generalize (gpOf c gs lots).mkd / (S+1)=Q at hdiv ⊢
    omega
  refine ⟨⟨n1,n7,by show 1≤c.2.2.2.1.toNat; omega,by show c.2.2.2.1.toNat≤5; omega,fun g hgl x hx=>?_,fun g hgl=>?_,?_,by show (wsum (fun _=>1) gs).toNat≤_; omega,hq1.1,hq1.2,?_,t1,t3,ll,fun x hx=>?_,hB.1⟩,by show gs.length≤_; omega,?_,?_,hp.d52 (by omega),?_⟩
  · have:=(hp.ballots _ (zcy (l:=gs) (d:=([],0)) (i:=g) hgl)).1.2 x hx
    exact ⟨x.toNat,by omega,by show x.toNat < c.2.1.length; omega⟩
  · exact (hg _ (zcy (l:=gs) (d:=([],0)) (i:=g) hgl)).1
  · show sumN (gpOf c gs lots).k gs.length=(wsum (fun _=>1) gs).toNat
    omega
  · rw [hq]
    show _ < _ * (c.2.2.2.1.toNat+1)
    rw [hSS]
    exact quo_lt (by omega) (by omega)
  · have:=hB.2 x hx
    exact ⟨x.toNat,by omega,by show x.toNat < c.2.1.length; omega⟩
  · exact hS
  · rw [hp.d67 (by omega)]
    congr 1
    show _=((wsum (fun _=>1) gs).toNat:Int)
    omega
  · rw [d30_eq hmk.1 hmk.2 s1 s5]
    congr 1
    show _=((wsum zar gs / (c.2.2.2.1+1)+1).toNat:Int)
    have:0≤wsum zar gs / (c.2.2.2.1+1):=Int.ediv_nonneg hmk.1 (by omega)
    omega
variable {P:GP} {s:GS}
theorem RsOK.next (hP:P.OK) (hI:GI P s) {rs:List Rd} (hR:RsOK P s rs) (hl:rs.length+1≤7) {s':GS} (hk:∀ i,i < P.n→Bz eB (s'.keep i)) {r:Rd} (hv:r.votes=(s.rd0 P).votes) (he:r.el.length≤7):RsOK P s' (rs++[r]):=by
  refine ⟨fun x hx=>?_,by simp; omega,hk⟩
  rcases List.mem_append.1 hx with hx | hx
  · exact hR.rnd x hx
  · rw [List.mem_singleton] at hx
    subst hx
    rw [hv]
    exact ⟨votes_rnd hP hI,he⟩
theorem el_len (hP:P.OK):(selI (s.el1 P) P.n).length≤7:=by rw [zbn]; have:=zce (s.el1 P) P.n; have:=hP.n7; omega
theorem fl_next {x y:Nat} (hx:x < P.n) (hy:(s.st1 P x=1∧y=2)∨(s.st1 P x=0∧y=3)) {st:Nat→Nat} (hst:st=upd (s.st1 P) x y):s.e1 P+s.e2 P=cntN (fun i=>decide (st i=1)) P.n+cntN (fun i=>decide (st i=2)) P.n:=by
  subst hst
  unfold GS.e1 GS.e2 cntN
  rw [← zdg,← zdg]
  refine zau fun i hi=>?_
  by_cases h:i=x
  · subst h
    rcases hy with ⟨h1,rfl⟩ | ⟨h1,rfl⟩ <;> simp [h1,zci]
  · simp [upd,h]
theorem trans_keep (hP:P.OK) (hI:GI P s) (hf:s.fin P=false) (hm:s.most P=true) (earlier:List (List Rat)) (hk:∀ i,i < P.n→Bz eB (s.keep i)):∀ i,i < P.n→Bz eB ((s.trans P earlier).keep i):=by
  intro i hi
  obtain ⟨x,x1,x2,x3⟩:=zfi hP hI hf earlier
  have hv:=zpd hP hI x2
  unfold GS.trans
  simp only [x1,Int.toNat_natCast]
  show Bz eB (upd s.keep x _ i)
  unfold upd
  split
  · exact zkm (zhl hP hI (by omega)) (zhl hP hI hv) (by decide)
  · exact hk i hi
theorem excl_keep (earlier:List (List Rat)) (hk:∀ i,i < P.n→Bz eB (s.keep i)):∀ i,i < P.n→Bz eB ((s.excl P earlier).keep i):=by
  intro i hi
  unfold GS.excl
  show Bz eB (upd s.keep _ 0 i)
  unfold upd
  split
  · exact bz_zero
  · exact hk i hi
theorem grun_fin {k:Nat} {rs:List Rd} (hf:s.fin P=true):grun P (k+1) rs s=rs++[s.done P]:=by
  unfold grun gstep; rw [if_pos hf]
theorem grun_trans {k:Nat} {rs:List Rd} (hf:s.fin P=false) (hm:s.most P=true):grun P (k+1) rs s=grun P k (rs++[{ s.rd0 P with ti:=s.tiedR P }]) (s.trans P (rs.map Rd.votes)):=by
  rw [grun]; unfold gstep; rw [if_neg (by rw [hf]; simp),if_pos hm]
theorem grun_excl {k:Nat} {rs:List Rd} (hf:s.fin P=false) (hm:s.most P=false):grun P (k+1) rs s=grun P k (rs++[{ s.rd0 P with ti:=s.tiedR P,ex:=[s.pick P (rs.map Rd.votes)] }]) (s.excl P (rs.map Rd.votes)):=by
  rw [grun]; unfold gstep; rw [if_neg (by rw [hf]; simp),if_neg (by rw [hm]; simp)]
structure Run (P:GP) (s:GS) (rs:List Rd):Prop where
  inv:GI P s
  ok:RsOK P s rs
  len:rs.length+s.meas P≤P.n
  run:grun P (P.n+1 - rs.length) rs s=zhg P
  one:∀ i,i < P.n→s.st i=0∨s.st i=1→s.keep i=1
theorem keep_one {x y:Nat} (hy:y=2∨y=3) {k:Rat} {a b:Nat} (h:∀ i,i < P.n→s.st i=0∨s.st i=1→s.keep i=1):∀ i,i < P.n→(s.move P (upd (s.st1 P) x y) (upd s.keep x k) x a b).st i=0∨(s.move P (upd (s.st1 P) x y) (upd s.keep x k) x a b).st i=1→(s.move P (upd (s.st1 P) x y) (upd s.keep x k) x a b).keep i=1:=by
  intro i hi hs
  have hs':upd (s.st1 P) x y i=0∨upd (s.st1 P) x y i=1:=hs
  show upd s.keep x k i=1
  by_cases hix:i=x
  · subst hix
    rw [zci] at hs'
    omega
  · rw [zep _ _ hix] at hs' ⊢
    refine h i hi ?_
    rcases zcf (P:=P) (s:=s) i with ⟨h0,h1,h2,_⟩ | ⟨h0,h2⟩ <;> omega
theorem Run.start (hP:P.OK):Run P g0 []:=⟨g0_inv hP,⟨fun r hr=>by simp at hr,by simp,fun i _=>by
  have:=zoz (n:=1) (by decide)
  exact this⟩,by simp; exact meas_le _,rfl,fun i _ _=>rfl⟩
theorem Run.trans (hP:P.OK) {rs:List Rd} (h:Run P s rs) (hf:s.fin P=false) (hm:s.most P=true):Run P (s.trans P (rs.map Rd.votes)) (rs++[{ s.rd0 P with ti:=s.tiedR P }]):=by
  have hme:=zjv hP h.inv hf hm (rs.map Rd.votes)
  have hl:=h.len
  have hn:=hP.n7
  refine ⟨trans_inv hP h.inv hf hm _,h.ok.next hP h.inv (by omega) (trans_keep hP h.inv hf hm _ h.ok.keep) rfl (el_len hP),by simp; omega,?_,keep_one (.inl rfl) h.one⟩
  have hr:=h.run
  rw [show P.n+1 - rs.length=P.n - rs.length+1 by omega,grun_trans hf hm] at hr
  rw [← hr]
  congr 1
  simp
theorem Run.excl (hP:P.OK) {rs:List Rd} (h:Run P s rs) (hf:s.fin P=false) (hm:s.most P=false):Run P (s.excl P (rs.map Rd.votes)) (rs++[{ s.rd0 P with ti:=s.tiedR P,ex:=[s.pick P (rs.map Rd.votes)] }]):=by
  have hme:=znh hP h.inv hf hm (rs.map Rd.votes)
  have hl:=h.len
  have hn:=hP.n7
  refine ⟨excl_inv hP h.inv hf hm _,h.ok.next hP h.inv (by omega) (excl_keep _ h.ok.keep) rfl (el_len hP),by simp; omega,?_,keep_one (.inr rfl) h.one⟩
  have hr:=h.run
  rw [show P.n+1 - rs.length=P.n - rs.length+1 by omega,grun_excl hf hm] at hr
  rw [← hr]
  congr 1
  simp
theorem Run.fin {rs:List Rd} (h:Run P s rs) (hf:s.fin P=true):rs++[s.done P]=zhg P:=by
  have hl:=h.len
  have hr:=h.run
  rw [show P.n+1 - rs.length=P.n - rs.length+1 by omega,grun_fin hf] at hr
  exact hr
def trT (P:GP):Int × (Int × (Int × (Int × (List RD × List Int)))):=(3,(P.seats:Int),0,(P.n:Int),(zhg P).map rdT,(zhg P).flatMap Rd.el)
set_option maxHeartbeats 1000000 in
theorem d22_eq {c:CT} {gs:List Grp} {lots:List Int} (hg:GsOK gs) (hl:lots.length≤281474976710656):d22 c gs lots=some (if fitE 3 c gs lots=0 then (trT (gpOf c gs lots),0) else ((0,0,0,0,[],[]),fitE 3 c gs lots)):=by
  unfold d22
  rw [d66_eq 3 c hg hl,Option.bind_some]
  by_cases hfit:¬ fitE 3 c gs lots=0
  · rw [if_neg hfit,decide_eq_false hfit]; rfl
  have hfit:=Decidable.not_not.1 hfit
  rw [if_pos hfit,decide_eq_true hfit,Bool.not_true,cond_false]
  obtain ⟨hP,hG,hs,h67,h52,h30⟩:=gpOf_ok hfit
  have hgs:(gpOf c gs lots).gs=gs:=rfl
  have hn:c.2.1.length=(gpOf c gs lots).n:=rfl
  have hlo:(gpOf c gs lots).lots=lots:=rfl
  have hti:c.2.2.2.2.2.2.1=(gpOf c gs lots).ties:=rfl
  have hGl:gs.length=(gpOf c gs lots).G:=rfl
  have hpar:∀ i,parc (gpOf c gs lots) g0 i=((gs.getD i ([],0)).1,((gs.getD i ([],0)).2.toNat:Int),0,rr (frac 1 1)):=fun i=>rfl
  have hpos:∀ i,i < gs.length→((gs.getD i ([],0)).2.toNat:Int)=(gs.getD i ([],0)).2:=fun i hi=>by
    obtain ⟨_,_,_,_,_,_,_,_,_,_,_,_,hp,_,_⟩:=zji hfit
    have:=(hp.ballots _ (zcy (l:=gs) (d:=([],0)) (i:=i) hi)).2
    omega
  rw [h67,h52,Option.bind_some,Option.bind_some,h30,Option.bind_some]
  generalize hPP:gpOf c gs lots=P at *
  have hn7:=hP.n7
  have hz1:d68 1=some (rr 1):=zos (n:=1) (by omega) (by omega)
  have hone:rr (frac 1 1)=rr (1:Rat):=by rw [zjf]; rfl
  rw [hn]
  simp only [decide_true,d0le,zbx (n:=P.n) (by omega),Bool.and_self,cond_true,tn,hs]
  refine zae (fun i=>(gs,(0,0,0,0,[],[]),(c,lots,(P.tot:Int),(P.q:Int),[],List.replicate P.n 0,lst (fun _=>rr 1) i,0,[],3,(P.seats:Int),0,(P.n:Int),[],[]),(P.n:Int),(i:Int))) P.n rfl (fun i hi=>?_) (b:=(gs,(0,0,0,0,[],[]),(c,lots,(P.tot:Int),(P.q:Int),[],List.replicate P.n 0,lst (fun _=>rr 1) P.n,0,[],3,(P.seats:Int),0,(P.n:Int),[],[]))) ?_ ?_
  · have hl:=zch (l:=lst (fun _=>rr (1:Rat)) i) (d:=rr 1) (by rw [zal]; omega)
    simp only [dlt hi,cond_true,hz1,Option.bind_some,hl,zbl (show i < 9223372036854775807 by omega),← zfc]
  · simp only [nlt (Nat.le_refl P.n),cond_false]
  simp only
  refine zae (fun i=>((0,0,0,0,[],[]),(c,lots,(P.tot:Int),(P.q:Int),lst (parc P g0) i,List.replicate P.n 0,lst (fun _=>rr 1) P.n,0,[],3,(P.seats:Int),0,(P.n:Int),[],[]),gs,(gs.length:Int),(i:Int))) gs.length rfl (fun i hi=>?_) (b:=((0,0,0,0,[],[]),(c,lots,(P.tot:Int),(P.q:Int),lst (parc P g0) gs.length,List.replicate P.n 0,lst (fun _=>rr 1) P.n,0,[],3,(P.seats:Int),0,(P.n:Int),[],[]))) ?_ ?_
  · have hl:=zch (l:=lst (parc P g0) i) (d:=((gs.getD i ([],0)).1,(gs.getD i ([],0)).2,0,rr 1)) (by rw [zal]; omega)
    simp only [dlt hi,d0le,Bool.and_self,cond_true,tn,hz1,Option.bind_some,hl,zbl (show i < 9223372036854775807 by omega),zfc,hpar,hpos i hi,hone]
  · simp only [nlt (Nat.le_refl gs.length),cond_false]
  simp only
  have hK0:(c,lots,(P.tot:Int),(P.q:Int),lst (parc P g0) gs.length,List.replicate P.n 0,lst (fun _=>rr 1) P.n,0,[],3,(P.seats:Int),0,(P.n:Int),[],[])=KTof P c g0 g0.st 0 []:=by
    unfold KTof
    rw [hlo,hGl,lst_rep]
    rfl
  rw [hK0]
  refine zef (Q:=fun r=>r=some (trT P,0)) (fun (M:Nat) (st:(Int × (Int × (Int × (Int × (List RD × List Int))))) × KT)=>∃ (s:GS) (rs:List Rd) (fl:Nat),st=((0,0,0,0,[],[]),KTof P c s s.st fl rs)∧Run P s rs∧fl=cntN (fun i=>decide (s.st i=1)) P.n+cntN (fun i=>decide (s.st i=2)) P.n∧M=s.meas P) (g0.meas P) ⟨g0,[],0,rfl,Run.start hP,?_,rfl⟩ ?_
  · have e1:cntN (fun i=>decide (g0.st i=1)) P.n=0:=by unfold cntN; exact zds _
    have e2:cntN (fun i=>decide (g0.st i=2)) P.n=0:=by unfold cntN; exact zds _
    rw [e1,e2]
  · rintro M st ⟨s,rs,fl,rfl,hR,hfl,rfl⟩
    rcases d69_eq hP hR.inv hG hR.ok hti hs hfl with ⟨hf,st',fl',he⟩ | ⟨hf,hm,he⟩ | ⟨hf,hm,he⟩
    · refine .inr ⟨((0,0,0,0,[],[]),KTof P c s st' fl' (rs++[s.done P])),by simp only [he,Option.bind_some,cond_false],?_⟩
      show some ((3,(P.seats:Int),0,(P.n:Int),(rs++[s.done P]).map rdT,(rs++[s.done P]).flatMap Rd.el),0)=some (trT P,0)
      rw [hR.fin hf]; rfl
    · have hme:=zjv hP hR.inv hf hm (rs.map Rd.votes)
      obtain ⟨x,x1,x2,x3⟩:=zfi hP hR.inv hf (rs.map Rd.votes)
      rw [hm,if_pos rfl] at x3
      exact .inl ⟨_,(s.trans P (rs.map Rd.votes)).meas P,by simp only [he,Option.bind_some,cond_true],by omega,_,_,_,rfl,hR.trans hP hf hm,fl_next x2 (.inl ⟨x3,rfl⟩) (by unfold GS.trans; simp only [x1,Int.toNat_natCast]; rfl),rfl⟩
    · have hme:=znh hP hR.inv hf hm (rs.map Rd.votes)
      obtain ⟨x,x1,x2,x3⟩:=zfi hP hR.inv hf (rs.map Rd.votes)
      rw [hm] at x3
      have x3':s.st1 P x=0:=by simpa using x3
      exact .inl ⟨_,(s.excl P (rs.map Rd.votes)).meas P,by simp only [he,Option.bind_some,cond_true],by omega,_,_,_,rfl,hR.excl hP hf hm,fl_next x2 (.inr ⟨x3',rfl⟩) (by unfold GS.excl; simp only [x1,Int.toNat_natCast]; rfl),rfl⟩
end Go.Proofs.YtmipjomnjkmdbaaGreat
set_option linter.unusedSimpArgs false
set_option linter.unusedVariables false
namespace Go.Proofs.YtmipjomnjkmdbaaGreat
open Go Go.X
theorem d122_eq (a b:Nat) (ha:a≤4611686018427387904) (hb:b≤4611686018427387904):d122 (a:Int) (b:Int)=some ((Nat.gcd a b:Nat):Int):=by
  unfold d122
  refine zef (Q:=fun r=>r=some ((Nat.gcd a b:Nat):Int)) (fun (M:Nat) (st:Int × Int)=>∃ x:Nat,st=((x:Int),(M:Int))∧x≤4611686018427387904∧M≤4611686018427387904∧Nat.gcd x M=Nat.gcd a b) b ⟨a,rfl,ha,hb,rfl⟩ ?_
  rintro M st ⟨x,rfl,h1,h2,h3⟩
  rcases Nat.eq_zero_or_pos M with h0 | h0
  · subst h0
    rw [Nat.gcd_zero_right] at h3
    exact .inr ⟨(x:Int),rfl,by rw [h3]⟩
  · have hm:=Nat.mod_lt x h0
    have e:w (Int.tmod (x:Int) (M:Int))=((x % M:Nat):Int):=by rw [tmodN,zbm (by omega) (by omega)]
    refine .inl ⟨((M:Int),((x % M:Nat):Int)),x % M,?_,hm,M,rfl,h2,by omega,?_⟩
    · simp only [decide_eq_true (show (0:Int) < (M:Int) by omega),decide_eq_false (show ¬ (M:Int)=0 by omega),Bool.not_false,cond_true,e]
    · rw [← h3,Nat.gcd_comm x M,Nat.gcd_rec M x,Nat.gcd_comm]
theorem d123_eq (n:Nat) (h:n≤4611686018427387904):d123 (n:Int)=some (zan n):=by
  unfold d123
  rw [zaq (by omega)]
  refine zef (Q:=fun r=>r=some (zan n)) (fun (M:Nat) (st:(List Int) × Int)=>∃ l:List Int,st=(l,(M:Int))∧M≤n∧l.length≤n - M∧l.length≤1000000∧l++zan M=zan n∧(l.length+(zan M).length=(zan n).length)) n ⟨[],rfl,Nat.le_refl _,by simp,by simp,rfl,by simp⟩ ?_
  rintro M st ⟨l,rfl,h1,h2,h3,h4,h5⟩
  have hln:(zan n).length≤2:=zid (by omega)
  rcases Nat.eq_zero_or_pos M with h0 | h0
  · subst h0
    rw [zbw,List.append_nil] at h4
    exact .inr ⟨l,rfl,by rw [h4]⟩
  · have hp:=zfp (n:=M) (by omega)
    have hl:=congrArg List.length hp
    rw [List.length_cons] at hl
    refine .inl ⟨(l++[((M % 4294967296:Nat):Int)],((M / 4294967296:Nat):Int)),M / 4294967296,?_,by omega,_,rfl,by omega,by simp; omega,by simp; omega,?_,by simp; omega⟩
    · simp only [decide_eq_true (show (0:Int) < (M:Int) by omega),cond_true,zcr,zch (l:=l) (d:=((M % 4294967296:Nat):Int)) (by omega),shr32,zaq (show M / 4294967296 < 18446744073709551616 by omega)]
    · rw [List.append_assoc,List.singleton_append,← hp,h4]
theorem d65_eq {a b:Nat} (ha:a≤4611686018427387904) (hb:b≤4611686018427387904) (hb0:0 < b):d65 (a:Int) (b:Int)=some (rr (frac a b)):=by
  have hg:0 < Nat.gcd a b:=Nat.gcd_pos_of_pos_right a hb0
  unfold d65
  rw [d122_eq a b ha hb,Option.bind_some,decide_eq_false (show ¬ ((Nat.gcd a b:Nat):Int)=0 by omega)]
  have h1:a / Nat.gcd a b≤a:=Nat.div_le_self _ _
  have h2:b / Nat.gcd a b≤b:=Nat.div_le_self _ _
  have wN:∀ A:Nat,A≤4611686018427387904→w (A:Int)=(A:Int):=fun A hA=>zbm (by omega) (by omega)
  have e1:w (Int.tdiv (a:Int) ((Nat.gcd a b:Nat):Int))=((a / Nat.gcd a b:Nat):Int):=by rw [tdivN,wN _ (Nat.le_trans h1 ha)]
  have e2:w (Int.tdiv (b:Int) ((Nat.gcd a b:Nat):Int))=((b / Nat.gcd a b:Nat):Int):=by rw [tdivN,wN _ (Nat.le_trans h2 hb)]
  simp only [Bool.not_false,cond_true,e1,e2,d123_eq _ (Nat.le_trans h1 ha),d123_eq _ (Nat.le_trans h2 hb),Option.bind_some]
  congr 1
  rcases Nat.eq_zero_or_pos a with h0 | h0
  · subst h0
    have:frac 0 b=0:=by unfold frac; rw [Rat.div_def]; simp
    rw [this,zpm,Nat.gcd_zero_left,Nat.zero_div,Nat.div_self hb0,zbw,zfp (n:=1) (by omega)]
    simp [zbw]
  · have h:=rr_make false (a:=a) (b:=b) (by omega) (by omega)
    have e:frac a b=mkRat (sgnN false a) b:=by
      unfold frac
      show _=mkRat (a:Int) b
      rw [Rat.mkRat_eq_div]
      rfl
    rw [e,h]
theorem d39_eq {a:Nat} (ha:a≤4611686018427387904):d39 (a:Int)=some (rr (a:Rat)):=by
  unfold d39
  have:=d65_eq (b:=1) ha (by omega) (by omega)
  rw [zjf] at this
  rw [show d65 (a:Int) 1=some (rr (a:Rat)) from this]; rfl
theorem d20_eq (l:List (List Int)) (hl:l.length≤281474976710656):d20 l=some (decide (∀ x∈l,x.length≤12) && decide (l.length≤16)):=by
  unfold d20
  by_cases h:∀ x∈l,x.length≤12
  · refine zae (b:=.inl l) (fun i=>(l,(i:Int))) l.length rfl (fun i hi=>?_) ?_ ?_
    · have:=h _ (zcy (d:=[]) hi)
      simp only [dlt hi,d0le,Bool.and_self,cond_true,tn,decide_eq_false (show ¬ (12:Int) < ((l.getD i []).length:Int) by omega),cond_false,zbl (show i < 9223372036854775807 by omega)]
    · simp only [nlt (Nat.le_refl l.length),cond_false]
    · rw [decide_eq_true h,Bool.true_and]
      exact congrArg some (decide_eq_decide.2 (by omega))
  · rw [decide_eq_false h,Bool.false_and]
    refine zef (Q:=fun r=>r=some false) (fun (M:Nat) (st:(List (List Int)) × Int)=>∃ i:Nat,st=(l,(i:Int))∧i+M=l.length∧∀ j,j < i→(l.getD j []).length≤12) l.length ⟨0,rfl,by omega,fun j hj=>by omega⟩ ?_
    rintro M st ⟨i,rfl,h1,h2⟩
    rcases Nat.eq_zero_or_pos M with h0 | h0
    · exfalso
      refine h fun x hx=>?_
      obtain ⟨k,hk,rfl⟩:=List.getElem_of_mem hx
      have:=h2 k (by omega)
      rw [List.getD_eq_getElem?_getD,List.getElem?_eq_getElem hk] at this
      exact this
    · have hi:i < l.length:=by omega
      simp only [dlt hi,d0le,Bool.and_self,cond_true,tn]
      by_cases hc:12 < (l.getD i []).length
      · refine .inr ⟨.inr false,by rw [decide_eq_true (show (12:Int) < ((l.getD i []).length:Int) by omega),cond_true],rfl⟩
      · refine .inl ⟨_,M - 1,by rw [decide_eq_false (show ¬ (12:Int) < ((l.getD i []).length:Int) by omega),cond_false],by omega,i+1,by rw [zbl (by omega)],by omega,fun j hj=>?_⟩
        by_cases hji:j=i
        · rw [hji]; omega
        · exact h2 j (by omega)
theorem d72_eq {n:Nat} (hn:n≤1000):∃ l,d72 (n:Int)=some l∧l.length=n:=by
  unfold d72
  refine ⟨lst (fun i=>[wu8 (w (97+(i:Int)))]) n,?_,zal _ _⟩
  refine zae (fun i=>((n:Int),lst (fun i=>[wu8 (w (97+(i:Int)))]) i,(i:Int))) n rfl (fun i hi=>?_) ?_ rfl
  · simp only [dlt hi,cond_true,zch (l:=lst (fun i=>[wu8 (w (97+(i:Int)))]) i) (d:=[wu8 (w (97+(i:Int)))]) (by rw [zal]; omega),zbl (show i < 9223372036854775807 by omega),zfc]
  · simp only [nlt (Nat.le_refl n),cond_false]
structure ConOK (c:CT) (n:Nat) (m:Int):Prop where
  names:c.2.1.length=n
  method:c.2.2.1=m
  seats1:1≤c.2.2.2.1
  seats5:c.2.2.2.1≤5
  seat:m=1→c.2.2.2.1=1
  digits:m=2→1≤c.2.2.2.2.2.1∧c.2.2.2.2.2.1≤6
  nodigits:m ≠ 2→c.2.2.2.2.2.1=0
  ties1:1≤c.2.2.2.2.2.2.1
  ties3:c.2.2.2.2.2.2.1≤3
theorem d25_eq {n:Nat} (hn:n≤1000) {m seats digits ties:Int} (hm:WT (.int .i64) m) (hs:WT (.int .i64) seats) (hd:WT (.int .i64) digits) (ht:WT (.int .i64) ties):∃ c:CT,d25 m (n:Int) seats digits ties=some c∧ConOK c n (1+m % 3)∧c.2.2.2.1=(if 1+m % 3=1 then 1 else 1+seats % 5)∧c.2.2.2.2.2.2.1=1+ties % 3:=by
  obtain ⟨l,l1,l2⟩:=d72_eq (n:=n) hn
  unfold d25
  rw [l1,znk hm (by omega) (by omega),znk hs (by omega) (by omega),znk ht (by omega) (by omega),znk hd (by omega) (by omega)]
  simp only [Option.bind_some,zaw]
  have w1:w (1+m % 3)=1+m % 3:=zbm (by omega) (by omega)
  have w2:w (1+seats % 5)=1+seats % 5:=zbm (by omega) (by omega)
  have w3:w (1+ties % 3)=1+ties % 3:=zbm (by omega) (by omega)
  have w4:w (1+digits % 6)=1+digits % 6:=zbm (by omega) (by omega)
  simp only [w1,w2,w3,w4]
  have hm3:1+m % 3=1∨1+m % 3=2∨1+m % 3=3:=by omega
  rcases hm3 with h | h | h
  · rw [h]
    exact ⟨_,rfl,⟨l2,rfl,by show (1:Int)≤1; omega,by show (1:Int)≤5; omega,fun _=>rfl,fun h=>absurd h (by omega),fun _=>rfl,by show 1≤1+ties % 3; omega,by show 1+ties % 3≤3; omega⟩,rfl,rfl⟩
  · rw [h]
    exact ⟨_,rfl,⟨l2,rfl,by show 1≤1+seats % 5; omega,by show 1+seats % 5≤5; omega,fun h=>absurd h (by omega),fun _=>by show 1≤1+digits % 6∧1+digits % 6≤6; omega,fun h=>absurd rfl h,by show 1≤1+ties % 3; omega,by show 1+ties % 3≤3; omega⟩,rfl,rfl⟩
  · rw [h]
    exact ⟨_,rfl,⟨l2,rfl,by show 1≤1+seats % 5; omega,by show 1+seats % 5≤5; omega,fun h=>absurd h (by omega),fun h=>absurd h (by omega),fun _=>rfl,by show 1≤1+ties % 3; omega,by show 1+ties % 3≤3; omega⟩,rfl,rfl⟩
theorem d27_eq {n:Nat} (hn:n≤1000) {code:Int} (hc:WT (.int .i64) code):∃ l,d27 (n:Int) code=some l∧l.length=n∧isB (n:Int) l:=by
  have hwt:∀ x:Int,WT (.int .i64) x→-9223372036854775808≤x∧x≤9223372036854775807:=fun x hx=>wt_int hx
  unfold d27
  refine zcm (Q:=fun r=>∃ l,r=some l∧l.length=n∧isB (n:Int) l) (fun (i:Nat) (st:Int × Int × (List Int) × Int)=>∃ (cd:Int) (out:List Int),st=((n:Int),cd,out,(i:Int))∧WT (.int .i64) cd∧out.length=i∧isB (i:Int) out) n ?_ ?_ ?_
  · exact ⟨code,[],rfl,hc,rfl,List.nodup_nil,fun x hx=>by simp at hx⟩
  · rintro i st hi ⟨cd,out,rfl,hcd,hlen,hb⟩
    have hcb:=hwt cd hcd
    have b:=zkg cd (n:=((i+1:Nat):Int)) (by omega)
    obtain ⟨r,hr⟩:∃ r:Nat,cd % ((i+1:Nat):Int)=(r:Int):=⟨(cd % ((i+1:Nat):Int)).toNat,by omega⟩
    have hri:r≤i:=by omega
    have c1:zde 0 (r:Int) out.length=true:=by
      unfold zde
      simp only [Bool.and_eq_true,decide_eq_true_eq]
      omega
    have c2:zde (r:Int) (out.length:Int) out.length=true:=by
      unfold zde
      simp only [Bool.and_eq_true,decide_eq_true_eq]
      omega
    have hq:-9223372036854775808≤Int.tdiv cd ((i+1:Nat):Int)∧Int.tdiv cd ((i+1:Nat):Int)≤9223372036854775807:=by
      have h1:=Int.natAbs_tdiv_le_natAbs cd ((i+1:Nat):Int)
      by_cases h0:cd=-9223372036854775808
      · subst h0
        have h2:Int.tdiv (-9223372036854775808) ((i+1:Nat):Int)=-(Int.tdiv 9223372036854775808 ((i+1:Nat):Int)):=by rw [← Int.neg_tdiv]
        have h3:0≤Int.tdiv 9223372036854775808 ((i+1:Nat):Int):=Int.tdiv_nonneg (by omega) (by omega)
        omega
      · omega
    have hne:decide (((i+1:Nat):Int)=0)=false:=decide_eq_false (by omega)
    have ht:(out.take r).length=r:=by rw [List.length_take]; omega
    have l1:decide ((([]:List Int).length:Int)+((out.take r).length:Int)≤LIM)=true:=zmy (by rw [ht]; simp; omega)
    have l2:=zch (l:=out.take r) (d:=(i:Int)) (by omega)
    have l3:decide (((out.take r++[(i:Int)]).length:Int)+((out.drop r).length:Int)≤LIM)=true:=zmy (by simp; omega)
    simp only [dlt hi,cond_true,zbl (show i < 9223372036854775807 by omega),znk hcd (show (0:Int) < ((i+1:Nat):Int) by omega) (by omega),hr,Option.bind_some,hne,Bool.not_false,c1,c2,List.drop_zero,tn,List.take_length,l1,l2,l3]
    refine ⟨_,rfl,_,_,rfl,?_,by simp; omega,?_,fun x hx=>?_⟩
    · rw [zbm hq.1 hq.2]
      exact zbm hq.1 hq.2
    · have hp:(out.take r++[(i:Int)]++out.drop r).Perm ((i:Int)::out):=by
        have h1:(out.take r++[(i:Int)]++out.drop r).Perm ([(i:Int)]++out.take r++out.drop r):=List.Perm.append_right _ List.perm_append_comm
        have h2:[(i:Int)]++out.take r++out.drop r=(i:Int)::out:=by rw [List.append_assoc,List.take_append_drop]; rfl
        rwa [h2] at h1
      refine hp.nodup_iff.2 (List.nodup_cons.2 ⟨fun hm=>?_,hb.1⟩)
      have:=hb.2 _ hm
      omega
    · simp only [List.mem_append,List.mem_singleton] at hx
      rcases hx with (hx | hx) | hx
      · have:=hb.2 x (List.mem_of_mem_take hx); omega
      · omega
      · have:=hb.2 x (List.mem_of_mem_drop hx); omega
  · rintro st ⟨cd,out,rfl,hcd,hlen,hb⟩
    exact ⟨out,by simp only [nlt (Nat.le_refl n),cond_false],out,rfl,hlen,hb⟩
theorem zjj {c:CT} {n:Nat} {m:Int} {gs:List Grp} {lots:List Int} {N:Int} (hc:ConOK c n m) (hm:1≤m) (hm3:m≤3) (h1:1≤n) (h7:n≤7) (hp:PileOK (n:Int) gs N) (hl:lots.length=n) (hb:isB (n:Int) lots):fitE m c gs lots=0:=by
  have hn:=hc.names
  have hpb:zpu (n:Int) gs=true:=by
    unfold zpu goodP
    rw [decide_eq_true hp.good,decide_eq_true (show 1≤(n:Int)∧(n:Int)≤7 by omega)]; rfl
  have hqb:permB (n:Int) lots=true:=by
    unfold permB
    rw [decide_eq_true hb,decide_eq_true (by omega)]; rfl
  have:=hc.seats1
  have:=hc.seats5
  have:=hc.ties1
  have:=hc.ties3
  unfold fitE
  rw [hn,hpb,hqb]
  simp only [decide_eq_false (show ¬ m < 1 by omega),decide_eq_false (show ¬ 3 < m by omega),decide_eq_true hc.method,decide_eq_false (show ¬ (n:Int) < 1 by omega),decide_eq_false (show ¬ 7 < (n:Int) by omega),decide_eq_false (show ¬ c.2.2.2.1 < 1 by omega),decide_eq_false (show ¬ 5 < c.2.2.2.1 by omega),decide_eq_false (show ¬ c.2.2.2.2.2.2.1 < 1 by omega),decide_eq_false (show ¬ 3 < c.2.2.2.2.2.2.1 by omega),Bool.not_true,Bool.or_false,Bool.false_or,cond_false]
  have h1:(decide (m=1) && !decide (c.2.2.2.1=1))=false:=by
    by_cases h:m=1
    · rw [decide_eq_true (hc.seat h)]; simp
    · rw [decide_eq_false h]; rfl
  have h2:(bif decide (m=2) then decide (1≤c.2.2.2.2.2.1) && decide (c.2.2.2.2.2.1≤6) else decide (c.2.2.2.2.2.1=0))=true:=by
    by_cases h:m=2
    · rw [decide_eq_true h,cond_true,decide_eq_true (hc.digits h).1,decide_eq_true (hc.digits h).2]; rfl
    · rw [decide_eq_false h,cond_false,decide_eq_true (hc.nodigits h)]
  rw [h1,h2]
  rfl
theorem gs_of {n:Nat} (h7:n≤7) {gs:List Grp} {N:Int} (hp:PileOK (n:Int) gs N):GsOK gs:=hp.gs (by omega)
def awG:GP:={ gs:=[([0,1],6),([2],3)],n:=3,seats:=2,q:=4,tot:=9,ties:=3,lots:=[0,1,2] }
theorem aw_pile:zdv [[0,1],[0,1],[0,1],[0,1],[0,1],[0,1],[2],[2],[2]]=[([0,1],6),([2],3)]:=by decide +kernel
theorem aw_count:(zhg awG).map (fun r=>(r.keep,r.exh,r.el))=[([1,1,1],0,[0]),([mkRat 1 3,1,1],0,[]),([mkRat 1 3,0,1],2,[2])]:=by decide +kernel
theorem aw_gp {c:CT} (h1:c.2.1.length=3) (h2:c.2.2.2.1=2) (h3:c.2.2.2.2.2.2.1=3):gpOf c [([0,1],6),([2],3)] [0,1,2]=awG:=by
  unfold gpOf awG
  rw [h1,h2,h3]
  have e1:(wsum zar [([0,1],6),([2],3)] / (2+1)+1).toNat=4:=by decide +kernel
  have e2:(wsum (fun _=>1) [([0,1],6),([2],3)]).toNat=9:=by decide +kernel
  rw [e1,e2]
  rfl
theorem d21_eq:d21=some true:=by
  have k:∀ x:Int,-9223372036854775808≤x→x≤9223372036854775807→WT (.int .i64) x:=fun x h0 h1=>zbm h0 h1
  obtain ⟨c,c1,c2,c3,c4⟩:=d25_eq (n:=3) (by omega) (k 2 (by omega) (by omega)) (k 1 (by omega) (by omega)) (k 0 (by omega) (by omega)) (k 2 (by omega) (by omega))
  have c3':c.2.2.2.1=2:=by rw [c3]; rfl
  have c4':c.2.2.2.2.2.2.1=3:=by rw [c4]; rfl
  have hb:∀ b∈[[0,1],[0,1],[0,1],[0,1],[0,1],[0,1],[2],[2],[2]],isB 3 b:=by decide +kernel
  have h48:=d48_eq (n:=3) (by omega) (by omega) hb (by simp)
  have hp:=(zmw (n:=3) _ hb (by simp)).1
  rw [aw_pile] at h48 hp
  have hfit:fitE 3 c [([0,1],6),([2],3)] [0,1,2]=0:=zjj (n:=3) (m:=3) c2 (by omega) (by omega) (by omega) (by omega) hp rfl (by decide +kernel)
  have h22:=d22_eq (c:=c) (lots:=[0,1,2]) (hp.gs (by omega)) (by simp)
  rw [if_pos hfit,aw_gp c2.names c3' c4'] at h22
  unfold d21
  have c1':d25 2 3 1 0 2=some c:=c1
  rw [h48,Option.bind_some,c1',Option.bind_some,h22,Option.bind_some]
  have hL:(zhg awG).length=3:=by have:=congrArg List.length aw_count; simpa using this
  obtain ⟨r0,r1,r2,hr⟩:∃ r0 r1 r2,zhg awG=[r0,r1,r2]:=by
    match h:zhg awG,hL with
    | [a,b,c],_=>exact ⟨a,b,c,rfl⟩
  have hc:=aw_count
  rw [hr] at hc
  simp only [List.map_cons,List.map_nil,List.cons.injEq,Prod.mk.injEq,and_true] at hc
  obtain ⟨⟨a1,a2,a3⟩,⟨b1,b2,b3⟩,⟨e1,e2,e3⟩⟩:=hc
  have hT:trT awG=(3,2,0,3,[rdT r0,rdT r1,rdT r2],[0,2]):=by
    unfold trT
    rw [hr]
    simp only [List.map_cons,List.map_nil,List.flatMap_cons,List.flatMap_nil,a3,b3,e3]
    rfl
  rw [hT,zaw]
  have f38:d38 [0,2] [0,2]=some true:=by rw [d38_eq (by simp) (by simp)]; rfl
  have f65:d65 1 3=some (rr (mkRat 1 3)):=by
    have:=d65_eq (a:=1) (b:=3) (by omega) (by omega) (by omega)
    rw [show frac 1 3=mkRat 1 3 by decide +kernel] at this
    exact this
  have f39:d39 2=some (rr 2):=d39_eq (a:=2) (by omega)
  have f30:d30 9 2=some 4:=by rw [d30_eq (by omega) (by omega) (by omega) (by omega)]; rfl
  have hk:(rdT r1).2.1=[rr (mkRat 1 3),rr 1,rr 1]:=by
    show r1.keep.map rr=_
    rw [b1]; rfl
  have hx:(rdT r2).2.2.2.1=rr 2:=by
    show rr r2.exh=_
    rw [e2]
  have g1:d37 (rr (mkRat 1 3)) (rr (mkRat 1 3))=some true:=by
    rw [d37_rr (Bz.sz2 ⟨Nat.lt_of_le_of_lt (show (mkRat 1 3).num.natAbs≤1 by decide +kernel) (Nat.one_lt_two_pow (by decide)),Nat.lt_of_le_of_lt (show (mkRat 1 3).den≤2 ^ 2 by decide +kernel) (Nat.pow_lt_pow_right (by decide) (by decide))⟩),decide_eq_true rfl]
  have g2:d37 (rr 2) (rr 2)=some true:=by
    have h:=d37_rr (x:=((2:Nat):Rat)) (y:=((2:Nat):Rat)) (zoz (n:=2) (by decide)).sz2
    rw [decide_eq_true rfl] at h
    exact h
  simp only [f38,f65,f39,f30,List.getD_cons_succ,List.getD_cons_zero,hk,hx,g1,g2,Option.bind_some,List.length_cons,List.length_nil]
  rfl
end Go.Proofs.YtmipjomnjkmdbaaGreat
set_option linter.unusedSimpArgs false
set_option linter.unusedVariables false
namespace Go.Proofs.YtmipjomnjkmdbaaGreat
open Go Go.X
inductive Tr (P:GP):GS→List Rd→List Rd→Prop
  | fin {s:GS} {rs:List Rd}:Run P s rs→s.fin P=true→Tr P s rs [s.done P]
  | trans {s:GS} {rs rest:List Rd}:Run P s rs→s.fin P=false→s.most P=true→Tr P (s.trans P (rs.map Rd.votes)) (rs++[{ s.rd0 P with ti:=s.tiedR P }]) rest→Tr P s rs ({ s.rd0 P with ti:=s.tiedR P }::rest)
  | excl {s:GS} {rs rest:List Rd}:Run P s rs→s.fin P=false→s.most P=false→Tr P (s.excl P (rs.map Rd.votes)) (rs++[{ s.rd0 P with ti:=s.tiedR P,ex:=[s.pick P (rs.map Rd.votes)] }]) rest→Tr P s rs ({ s.rd0 P with ti:=s.tiedR P,ex:=[s.pick P (rs.map Rd.votes)] }::rest)
theorem tr_ex {P:GP} (hP:P.OK):∀ (m:Nat) {s:GS} {rs:List Rd},s.meas P < m→Run P s rs→∃ rest,Tr P s rs rest∧rs++rest=zhg P
  | 0,_,_,h,_=>by omega
  | m+1,s,rs,h,hR=>by
    cases hf:s.fin P with
    | true=>exact ⟨_,.fin hR hf,hR.fin hf⟩
    | false =>
      cases hm:s.most P with
      | true =>
        have hme:=zjv hP hR.inv hf hm (rs.map Rd.votes)
        obtain ⟨rest,h1,h2⟩:=tr_ex hP m (by omega) (hR.trans hP hf hm)
        exact ⟨_,.trans hR hf hm h1,by rw [← h2,List.append_assoc]; rfl⟩
      | false =>
        have hme:=znh hP hR.inv hf hm (rs.map Rd.votes)
        obtain ⟨rest,h1,h2⟩:=tr_ex hP m (by omega) (hR.excl hP hf hm)
        exact ⟨_,.excl hR hf hm h1,by rw [← h2,List.append_assoc]; rfl⟩
theorem gcount_tr {P:GP} (hP:P.OK):Tr P g0 [] (zhg P):=by
  obtain ⟨rest,h1,h2⟩:=tr_ex hP (g0.meas P+1) (by omega) (Run.start hP)
  rw [List.nil_append] at h2
  rwa [h2] at h1
variable {P:GP} {s:GS}
theorem Tr.run {rs rest:List Rd} (h:Tr P s rs rest):Run P s rs:=by
  cases h <;> assumption
theorem excl_st (hP:P.OK) (hI:GI P s) (hf:s.fin P=false) (hm:s.most P=false) (E:List (List Rat)):∃ x,x < P.n∧s.st1 P x=0∧s.pick P E=(x:Int)∧s.excl P E=s.move P (upd (s.st1 P) x 3) (upd s.keep x 0) x 1 1:=by
  obtain ⟨x,x1,x2,x3⟩:=zfi hP hI hf E
  rw [hm] at x3
  exact ⟨x,x2,by simpa using x3,x1,by unfold GS.excl; simp only [x1,Int.toNat_natCast]⟩
theorem lie_move (hP:P.OK) (hI:GI P s) {st:Nat→Nat} {keep:Nat→Rat} {x a b:Nat} (hx:x < P.n) (hab:a≤b):sumN ((s.move P st keep x a b).lie P) P.n+(b - a) * s.lie P x≤sumN (s.lie P) P.n * b:=by
  rw [lie_sum hP,lie_sum hP]
  unfold GS.lie
  rw [Nat.mul_comm (b - a),← zhn,← zhn,← zdg]
  refine zga fun g hg=>?_
  cases h:s.on P g x
  · have e:(s.move P st keep x a b).at_ g=s.at_ g:=by
      show (if s.on P g x then _ else s.at_ g)=_
      rw [h]; rfl
    have e2:(s.move P st keep x a b).num g=s.num g * b:=by
      show (if s.on P g x then _ else s.num g * b)=_
      rw [h]; rfl
    simp only [e,e2,Bool.false_eq_true,if_false]
    split
    · rw [Nat.zero_mul,Nat.add_zero,Nat.mul_assoc]; exact Nat.le_refl _
    · simp
  · have e2:(s.move P st keep x a b).num g=s.num g * a:=by
      show (if s.on P g x then s.num g * a else _)=_
      rw [h]; rfl
    have hlt:=GS.on_lt h
    simp only [e2,if_true,if_pos hlt]
    have e3:P.k g * s.num g * b=P.k g * (s.num g * a)+P.k g * s.num g * (b - a):=by
      rw [← Nat.mul_assoc,← Nat.mul_add]
      congr 1
      omega
    rw [e3]
    split <;> omega
end Go.Proofs.YtmipjomnjkmdbaaGreat
set_option linter.unusedSimpArgs false
set_option linter.unusedVariables false
namespace Go.Proofs.YtmipjomnjkmdbaaGreat
open Go Go.X
structure Cnt (n:Nat) (c:CT) (gs:List Grp) (lots:List Int) (N:Int):Prop where
  con:ConOK c n 3
  n1:1≤n
  n7:n≤7
  pile:PileOK (n:Int) gs N
  len:lots.length=n
  perm:isB (n:Int) lots
  fit:fitE 3 c gs lots=0
  ok:(gpOf c gs lots).OK
  cands:(gpOf c gs lots).n=n
  seats:c.2.2.2.1=((gpOf c gs lots).seats:Int)
  tot:((gpOf c gs lots).tot:Int)=N
theorem Cnt.mk' {n:Nat} {c:CT} {gs:List Grp} {lots:List Int} {N:Int} (hc:ConOK c n 3) (h1:1≤n) (h7:n≤7) (hp:PileOK (n:Int) gs N) (hl:lots.length=n) (hb:isB (n:Int) lots):Cnt n c gs lots N:=by
  have hf:=zjj hc (by omega) (by omega) h1 h7 hp hl hb
  obtain ⟨k1,k2,k3,k4,_,_⟩:=gpOf_ok hf
  refine ⟨hc,h1,h7,hp,hl,hb,hf,k1,hc.names,k3,?_⟩
  have h67:=hp.d67 (by omega)
  rw [h67] at k4
  have:=Option.some.inj k4
  rw [← this]; exact hp.total
theorem Cnt.d22 {n:Nat} {c:CT} {gs:List Grp} {lots:List Int} {N:Int} (h:Cnt n c gs lots N):d22 c gs lots=some (trT (gpOf c gs lots),0):=by
  have hl:=h.len
  have h7:=h.n7
  rw [d22_eq (h.pile.gs (by omega)) (by omega),if_pos h.fit]
theorem d31_eq {n:Nat} (h1:1≤n) (h7:n≤7) {seats ties code:Int} {l:List (List Int)} (hs:WT (.int .i64) seats) (ht:WT (.int .i64) ties) (hc:WT (.int .i64) code) (hl:l.length≤281474976710656) (hw:∀ x∈l,WT (.slice (.int .i64)) x) :
    ∃ c lots,d31 (n:Int) seats ties code l=some (c,zdv (bals (n:Int) l 16),trT (gpOf c (zdv (bals (n:Int) l 16)) lots),0)∧Cnt n c (zdv (bals (n:Int) l 16)) lots ((bals (n:Int) l 16).length:Int)∧d27 (n:Int) code=some lots∧c.2.2.2.1=1+seats % 5∧c.2.2.2.2.2.2.1=1+ties % 3∧d25 2 (n:Int) seats 0 ties=some c:=by
  have k:∀ x:Int,-9223372036854775808≤x→x≤9223372036854775807→WT (.int .i64) x:=fun x h0 h1=>zbm h0 h1
  obtain ⟨c,c1,c2,c3,c4⟩:=d25_eq (n:=n) (by omega) (k 2 (by omega) (by omega)) hs (k 0 (by omega) (by omega)) ht
  obtain ⟨lots,l1,l2,l3⟩:=d27_eq (n:=n) (by omega) hc
  have hpl:=zmw (n:=(n:Int)) (bals (n:Int) l 16) (bals_isB (n:=(n:Int)) (by omega) (l:=l) (most:=16)) (by have:=@bals_len (n:Int) l 16; omega)
  have hC:=Cnt.mk' (c:=c) c2 h1 h7 hpl.1 l2 l3
  refine ⟨c,lots,?_,hC,l1,by rw [c3]; rfl,c4,c1⟩
  unfold d31
  rw [c1,Option.bind_some,show d26 (n:Int) l 16=some (zdv (bals (n:Int) l 16)) from d26_eq (n:=(n:Int)) (by omega) (by omega) hl hw (most:=16) (by omega),Option.bind_some,l1,Option.bind_some,hC.d22]
  rfl
variable {P:GP} {s:GS}
def rd0:Rd:=⟨[],[],0,0,0,[],[],[]⟩
end Go.Proofs.YtmipjomnjkmdbaaGreat
