/- Part 15 of what stands below the statement. -/
import Derived.Test.YtmipjomnjkmdbaaGreatQ14
set_option linter.unusedSimpArgs false
set_option linter.unusedVariables false
namespace Go.Proofs.YtmipjomnjkmdbaaGreat
open Go Go.X
def pl (P:GP) (st:Nat→Nat):GS:={ D:=1,num:=fun _=>1,at_:=fun g=>nxt (P.p g) st 0,st:=st,keep:=fun _=>1 }
def iv (P:GP) (st:Nat→Nat) (c:Nat):Nat:=(pl P st).lie P c
def zkk (P:GP) (st:Nat→Nat):Nat:=sumN (iv P st) P.n
def iquo (P:GP) (st:Nat→Nat):Nat:=zkk P st / 2+1
def zcv (P:GP) (st:Nat→Nat):List Nat:=selN (fun i=>decide (st i=0)) P.n
def iwin (P:GP) (st:Nat→Nat):Option Nat:=if (zcv P st).length=1 then (zcv P st).head? else (zcv P st).find? fun i=>decide (iquo P st≤iv P st i)
def zey (P:GP) (st:Nat→Nat):List Int:=selI (zlf P (iv P st) st 0 false) P.n
def ipick (P:GP) (E:List (List Rat)) (st:Nat→Nat):Int:=if (zey P st).length=1 then (zey P st).headD 0 else tieB P.ties E (zey P st) P.lots true
def iexh (P:GP) (st:Nat→Nat):Nat:=sumN (fun g=>if nxt (P.p g) st 0 < (P.p g).length then 0 else P.k g) P.G
def ird0 (P:GP) (st:Nat→Nat):Rd :=
  { votes:=lst (fun i=>(iv P st i:Rat)) P.n
    keep:=lst (fun i=>if st i=0 then 1 else 0) P.n
    quota:=(iquo P st:Rat)
    exh:=(iexh P st:Rat)
    sur:=0
    el:=[]
    ex:=[]
    ti:=[] }
def irdW (P:GP) (st:Nat→Nat) (x:Nat):Rd:={ ird0 P st with el:=[(x:Int)] }
def irdX (P:GP) (E:List (List Rat)) (st:Nat→Nat):Rd:={ ird0 P st with ex:=[ipick P E st],ti:=if (zey P st).length=1 then [] else zey P st }
def irun (P:GP):Nat→List Rd→(Nat→Nat)→List Rd
  | 0,rs,_=>rs
  | k+1,rs,st=>match iwin P st with
    | some x=>rs++[irdW P st x]
    | none=>irun P k (rs++[irdX P (rs.map Rd.votes) st]) (upd st (ipick P (rs.map Rd.votes) st).toNat 3)
def icount (P:GP):List Rd:=irun P P.n [] fun _=>0
theorem ziq {p:Nat→Bool} {x:Nat}:∀ {n:Nat},x < n→p x=true→(∀ i,i < n→p i=true→i=x)→selI p n=[(x:Int)]
  | 0,h,_,_=>by omega
  | n+1,h,hx,hu=>by
    rw [zer]
    by_cases hn:x=n
    · subst hn
      rw [if_pos hx]
      have:selI p x=[]:=by
        rw [← List.length_eq_zero_iff,zbn]
        refine Nat.eq_zero_of_not_pos fun h=>?_
        obtain ⟨i,h1,h2⟩:=zeg.1 h
        have:=hu i (by omega) h2
        omega
      rw [this]; rfl
    · rw [ziq (x:=x) (by omega) hx fun i hi h=>hu i (by omega) h,if_neg]
      · rfl
      · intro h
        have:=hu n (by omega) h
        omega
theorem cnt_two {p:Nat→Bool} {n x y:Nat} (hx:x < n) (hy:y < n) (hxy:x ≠ y) (h1:p x=true) (h2:p y=true):2≤cntN p n:=by
  have e:=zqn (p:=p) (q:=fun i=>p i && decide (i ≠ x)) hx (fun i hi hne=>by simp [hne]) (by simp) h1
  have:0 < cntN (fun i=>p i && decide (i ≠ x)) n:=zeg.2 ⟨y,hy,by simp [h2,Ne.symm hxy]⟩
  omega
theorem sum_two {f:Nat→Nat} {n x y:Nat} (hx:x < n) (hy:y < n) (hxy:x ≠ y):f x+f y≤sumN f n:=by
  have h1:=zgv (f:=fun i=>if i=x then 0 else f i) hy
  have h2:=sumN_upd (f:=f) (g:=fun i=>if i=x then 0 else f i) hx fun i hi hne=>by rw [if_neg hne]
  simp only [if_pos,if_neg (Ne.symm hxy)] at h1 h2
  omega
theorem nxt_skip {p:List Int} {st:Nat→Nat}:∀ {d k m:Nat},m=k+d→m≤p.length→(∀ i,k≤i→i < m→st (p.getD i 0).toNat ≠ 0)→nxt p st k=nxt p st m
  | 0,k,m,h,_,_=>by rw [h,Nat.add_zero]
  | d+1,k,m,h,hm,hs=>by
    rw [zpw (by omega),if_neg (hs k (by omega) (by omega))]
    exact nxt_skip (d:=d) (by omega) hm fun i h1 h2=>hs i (by omega) h2
theorem nxt_upd {p:List Int} {st:Nat→Nat} {x:Nat}:nxt p (upd st x 3) 0=if nxt p st 0 < p.length∧(p.getD (nxt p st 0) 0).toNat=x then nxt p (upd st x 3) (nxt p st 0+1) else nxt p st 0:=by
  have hle:nxt p st 0≤p.length:=nxt_le st (Nat.zero_le _)
  have h1:nxt p (upd st x 3) 0=nxt p (upd st x 3) (nxt p st 0):=nxt_skip (d:=nxt p st 0) (by omega) hle fun i _ hi=>by
    have:=zoj (st:=st) (Nat.zero_le i) hi
    unfold upd
    split
    · omega
    · exact this
  rw [h1]
  by_cases hlt:nxt p st 0 < p.length
  · have ha:=nxt_at hlt
    rw [zpw hlt]
    by_cases hx:(p.getD (nxt p st 0) 0).toNat=x
    · rw [if_neg (by rw [hx,zci]; omega),if_pos ⟨hlt,hx⟩]
    · rw [if_pos (by rw [zep _ _ hx]; exact ha),if_neg fun h=>hx h.2]
  · rw [if_neg fun h=>hlt h.1]
    exact nxt_end (by omega)
variable {P:GP} {s:GS}
structure PL (P:GP) (s:GS):Prop where
  D:s.D=1
  num:∀ g,s.num g=1
  at_:∀ g,s.at_ g=nxt (P.p g) s.st 0
  st:∀ c,s.st c=0∨s.st c=3
theorem PL.start:PL P g0:=⟨rfl,fun _=>rfl,fun g=>by
  show 0=nxt (P.p g) (fun _=>0) 0
  by_cases h:0 < (P.p g).length
  · rw [zpw h,if_pos rfl]
  · exact (nxt_end (by omega)).symm,fun _=>.inl rfl⟩
theorem PL.lie (h:PL P s) (c:Nat):s.lie P c=iv P s.st c:=by
  unfold iv GS.lie
  refine zau fun g _=>?_
  have e:s.on P g c=(pl P s.st).on P g c:=by
    unfold GS.on
    rw [h.at_]; rfl
  rw [e,h.num]; rfl
theorem PL.vt (h:PL P s) (hI:GI P s) (c:Nat):s.vt P c=iv P s.st c:=by
  rw [← h.lie]
  rcases h.st c with h0 | h0
  · exact vt_lie hI (.inl h0)
  · rw [zlp hI (.inr h0)]
    unfold GS.vt
    rw [if_neg (by omega),if_pos h0]
theorem PL.vtF (h:PL P s) (hI:GI P s):s.vt P=iv P s.st:=funext (h.vt hI)
theorem PL.bar (h:PL P s):s.bar P=P.q:=by unfold GS.bar; rw [h.D,Nat.mul_one]
theorem iv_out (hP:P.OK) (st:Nat→Nat) {c:Nat} (hc:P.n≤c):iv P st c=0:=by
  unfold iv GS.lie
  refine (zau fun g hg=>if_neg fun h=>?_).trans (zds _)
  obtain ⟨i,h1,h2⟩:=hP.prefs g hg _ (zcx (GS.on_lt h))
  have:=GS.on_at h
  omega
theorem zhe (hP:P.OK) (st:Nat→Nat):zkk P st≤P.mkd:=by
  refine Nat.le_trans (zkh (s:=pl P st) hP) (zga fun g _=>?_)
  show (if P.p g=[] then 0 else P.k g * 1)≤_
  rw [Nat.mul_one]
  exact Nat.le_refl _
theorem PL.no_two (h:PL P s) (hP:P.OK) (hq:P.seats=1) {i k:Nat} (hi:i < P.n) (hk:k < P.n) (hik:i ≠ k) (h1:P.q≤iv P s.st i) (h2:P.q≤iv P s.st k):False:=by
  have h3:=sum_two (f:=iv P s.st) hi hk hik
  have h4:=zhe hP s.st
  have h5:=hP.quota
  rw [hq] at h5
  have h6:sumN (iv P s.st) P.n=zkk P s.st:=rfl
  omega
theorem PL.el1 (h:PL P s) (hI:GI P s) (i:Nat):s.el1 P i=true↔s.st i=0∧P.q≤iv P s.st i:=by
  unfold GS.el1
  rw [Bool.and_eq_true,decide_eq_true_eq,decide_eq_true_eq,h.bar,h.vt hI]
theorem PL.e2 (h:PL P s):s.e2 P=0:=by
  refine Nat.eq_zero_of_not_pos fun h0=>?_
  obtain ⟨i,h1,h2⟩:=zeg.1 h0
  have:=(zmf i).1 (of_decide_eq_true h2)
  have:=h.st i
  omega
theorem PL.st1_0 (h:PL P s) (h0:s.e1 P=0) {i:Nat} (hi:i < P.n):s.el1 P i=false∧s.st1 P i=s.st i:=by
  rcases zcf (P:=P) (s:=s) i with ⟨_,k1,k2,_⟩ | ⟨k1,k2⟩
  · have:0 < s.e1 P:=zeg.2 ⟨i,hi,decide_eq_true k2⟩
    omega
  · exact ⟨k1,k2⟩
theorem PL.most (h:PL P s) (hP:P.OK) (hI:GI P s) (hq:P.seats=1) (hf:s.fin P=false):s.e1 P=0∧s.most P=false∧2≤s.e0 P:=by
  have h1:=fin_false hP hI hf
  have h2:s.e1 P=0:=by omega
  refine ⟨h2,?_,by omega⟩
  unfold GS.most
  exact decide_eq_false (by show ¬ 0 < s.e1 P; omega)
theorem PL.out (h:PL P s) (hP:P.OK) (hI:GI P s) {i:Nat} (hi:P.n≤i):s.el1 P i=false:=by
  cases he:s.el1 P i
  · rfl
  · have:=((h.el1 hI i).1 he).2
    rw [iv_out hP _ hi] at this
    have:=hP.q1
    omega
theorem PL.st1F (h:PL P s) (hP:P.OK) (hI:GI P s) (h0:s.e1 P=0):s.st1 P=s.st:=by
  funext i
  by_cases hi:i < P.n
  · exact (h.st1_0 h0 hi).2
  · unfold GS.st1
    rw [h.out hP hI (by omega)]; rfl
theorem PL.move (h:PL P s) (hP:P.OK) {x:Nat} (hx:x < P.n) (hpn:∀ g,P.G≤g→P.p g=[]) (keep:Nat→Rat):PL P (s.move P (upd s.st x 3) keep x 1 1):=by
  refine ⟨by show s.D * 1=1; rw [h.D],fun g=>?_,fun g=>?_,fun c=>?_⟩
  · show (if s.on P g x then s.num g * 1 else s.num g * 1)=1
    rw [h.num]; simp
  · show (if s.on P g x then nxt (P.p g) (upd s.st x 3) (s.at_ g+1) else s.at_ g)=nxt (P.p g) (upd s.st x 3) 0
    rw [nxt_upd,h.at_]
    have e:s.on P g x=true↔nxt (P.p g) s.st 0 < (P.p g).length∧((P.p g).getD (nxt (P.p g) s.st 0) 0).toNat=x:=by
      unfold GS.on
      rw [Bool.and_eq_true,decide_eq_true_eq,decide_eq_true_eq,h.at_]
      refine and_congr_right fun hlt=>?_
      have hg:g < P.G:=by
        refine Nat.lt_of_not_le fun hg=>?_
        rw [hpn g hg] at hlt
        simp at hlt
      obtain ⟨i,h1,h2⟩:=hP.prefs g hg _ (zcx hlt)
      rw [h1,Int.toNat_natCast]
      exact Int.ofNat_inj
    by_cases ho:s.on P g x=true
    · rw [if_pos ho,if_pos (e.1 ho)]
    · rw [if_neg ho,if_neg fun h=>ho (e.2 h)]
  · show upd s.st x 3 c=0∨upd s.st x 3 c=3
    unfold upd
    split
    · exact .inr rfl
    · exact h.st c
theorem p_out (g:Nat) (hg:P.G≤g):P.p g=[]:=by
  unfold GP.p
  rw [List.getD_eq_getElem?_getD,List.getElem?_eq_none hg]; rfl
theorem PL.excl (h:PL P s) (hP:P.OK) (hI:GI P s) (h0:s.e1 P=0) (hf:s.fin P=false) (hm:s.most P=false) (E:List (List Rat)):∃ x,x < P.n∧s.st x=0∧s.pick P E=(x:Int)∧s.excl P E=s.move P (upd s.st x 3) (upd s.keep x 0) x 1 1∧PL P (s.excl P E):=by
  obtain ⟨x,x1,x2,x3,x4⟩:=excl_st hP hI hf hm E
  rw [h.st1F hP hI h0] at x2 x4
  exact ⟨x,x1,x2,x3,x4,by rw [x4]; exact h.move hP x1 p_out _⟩
theorem PL.tied (h:PL P s) (hP:P.OK) (hI:GI P s) (h0:s.e1 P=0) (hm:s.most P=false):s.tied P=zey P s.st:=by
  unfold GS.tied zey
  rw [h.vtF hI,h.st1F hP hI h0,hm]; rfl
theorem PL.pick (h:PL P s) (hP:P.OK) (hI:GI P s) (h0:s.e1 P=0) (hm:s.most P=false) (E:List (List Rat)):s.pick P E=ipick P E s.st:=by
  unfold GS.pick ipick
  rw [h.tied hP hI h0 hm,hm]; rfl
structure Lead (P:GP) (s:GS) (x:Nat):Prop where
  lt:x < P.n
  st:s.st x=0
  how:(∀ i,i < P.n→s.st i=0→i=x)∨zkk P s.st < 2 * iv P s.st x
theorem lead_win (hP:P.OK) (hq:P.seats=1) {rs rest:List Rd} (h:Tr P s rs rest):∀ {x:Nat},PL P s→Lead P s x→rest.flatMap Rd.el=[(x:Int)]:=by
  induction h with
  | @fin s rs hR hf =>
    intro x hL hx
    have hI:=hR.inv
    have h2:=hL.e2
    have hle:=zko hP hI
    rw [List.flatMap_cons,List.flatMap_nil,List.append_nil]
    unfold GS.done
    show (if s.e1 P+s.e2 P < P.seats then selI (fun i=>s.el1 P i || decide (s.st1 P i=0)) P.n else selI (s.el1 P) P.n)=_
    by_cases h1:s.e1 P+s.e2 P < P.seats
    · rw [if_pos h1]
      have h10:s.e1 P=0:=by omega
      have he0:s.e0 P≤1:=by
        unfold GS.fin at hf
        rw [Bool.or_eq_true,decide_eq_true_eq,decide_eq_true_eq] at hf
        rcases hf with h | h
        · have:s.e1 P+s.e2 P=P.seats:=h
          omega
        · have:s.e1 P+s.e2 P+s.e0 P≤P.seats:=h
          omega
      have hsx:s.st1 P x=0:=by rw [(hL.st1_0 h10 hx.lt).2]; exact hx.st
      refine ziq hx.lt (by rw [hsx]; simp) fun i hi hp=>?_
      rw [(hL.st1_0 h10 hi).1,Bool.false_or] at hp
      refine Decidable.byContradiction fun hne=>?_
      have:2≤s.e0 P:=cnt_two hi hx.lt hne hp (decide_eq_true hsx)
      omega
    · rw [if_neg h1]
      have h11:0 < s.e1 P:=by omega
      obtain ⟨i,hi,hp⟩:=zeg.1 h11
      have hel:s.el1 P i=true:=by
        rcases zcf (P:=P) (s:=s) i with ⟨k1,_⟩ | ⟨k1,k2⟩
        · exact k1
        · have:=of_decide_eq_true hp
          have:=hL.st i
          omega
      obtain ⟨e1,e2⟩:=(hL.el1 hI i).1 hel
      have hix:i=x:=by
        rcases hx.how with h | h
        · exact h i hi e1
        · refine Decidable.byContradiction fun hne=>?_
          have h3:=sum_two (f:=iv P s.st) hi hx.lt hne
          have h4:sumN (iv P s.st) P.n=zkk P s.st:=rfl
          exact hL.no_two hP hq hi hx.lt hne e2 (by omega)
      subst hix
      refine ziq hi hel fun k hk hp=>?_
      obtain ⟨f1,f2⟩:=(hL.el1 hI k).1 hp
      exact Decidable.byContradiction fun hne=>hL.no_two hP hq hk hi hne f2 e2
  | @trans s rs rest hR hf hm h ih =>
    intro x hL hx
    have:=(hL.most hP hR.inv hq hf).2.1
    rw [hm] at this
    cases this
  | @excl s rs rest hR hf hm h ih =>
    intro w hL hw
    have hI:=hR.inv
    obtain ⟨h10,_,he0⟩:=hL.most hP hI hq hf
    obtain ⟨x,x1,x2,x3,x4,x5⟩:=hL.excl hP hI h10 hf hm (rs.map Rd.votes)
    have hel:selI (s.el1 P) P.n=[]:=by
      rw [← List.length_eq_zero_iff,zbn]
      refine Nat.eq_zero_of_not_pos fun h=>?_
      obtain ⟨i,h1,h2⟩:=zeg.1 h
      rw [(hL.st1_0 h10 h1).1] at h2
      cases h2
    rw [List.flatMap_cons]
    show selI (s.el1 P) P.n++_=_
    rw [hel,List.nil_append]
    have hlead:zkk P s.st < 2 * iv P s.st w:=by
      rcases hw.how with h | h
      · exfalso
        have:s.e0 P≤1:=by
          refine Nat.le_of_not_lt fun h2=>?_
          have hl:selI (fun i=>decide (s.st1 P i=0)) P.n=[(w:Int)]:=ziq hw.lt (decide_eq_true (by rw [(hL.st1_0 h10 hw.lt).2]; exact hw.st)) fun i hi hp=>h i hi (by rw [← (hL.st1_0 h10 hi).2]; exact of_decide_eq_true hp)
          have:=congrArg List.length hl
          rw [zbn] at this
          have e:s.e0 P=1:=this
          omega
        omega
      · exact h
    have hxw:x ≠ w:=by
      intro e
      subst e
      obtain ⟨i,hi,hix,hsi⟩:∃ i,i < P.n∧i ≠ x∧s.st i=0:=by
        refine Decidable.byContradiction fun hno=>?_
        have hl:selI (fun i=>decide (s.st1 P i=0)) P.n=[(x:Int)]:=ziq hw.lt (decide_eq_true (by rw [(hL.st1_0 h10 hw.lt).2]; exact hw.st)) fun i hi hp=>Decidable.byContradiction fun hne=>hno ⟨i,hi,hne,by rw [← (hL.st1_0 h10 hi).2]; exact of_decide_eq_true hp⟩
        have:=congrArg List.length hl
        rw [zbn] at this
        have e:s.e0 P=1:=this
        omega
      have h3:=sum_two (f:=iv P s.st) hi hw.lt hix
      have h4:sumN (iv P s.st) P.n=zkk P s.st:=rfl
      have hmem:=pick_mem (earlier:=rs.map Rd.votes) (tied_ne hP hI hf)
      rw [hL.tied hP hI h10 hm,x3] at hmem
      obtain ⟨j,j1,j2,j3⟩:=zcc.1 hmem
      have j1:=Int.ofNat_inj.1 j1
      subst j1
      unfold zlf at j3
      rw [Bool.and_eq_true,List.all_eq_true] at j3
      have:=j3.2 i (List.mem_range.2 hi)
      rw [hsi] at this
      simp only [decide_true,Bool.not_true,Bool.false_or,Bool.false_eq_true,if_false,decide_eq_true_eq] at this
      omega
    have hst':(s.excl P (rs.map Rd.votes)).st=upd s.st x 3:=by rw [x4]; rfl
    refine ih x5 ⟨hw.lt,by rw [hst',zep _ _ (Ne.symm hxw)]; exact hw.st,.inr ?_⟩
    have m1:=move_lie (P:=P) (s:=s) (st:=upd s.st x 3) (keep:=upd s.keep x 0) (x:=x) (a:=1) (b:=1) (c:=w) (Ne.symm hxw)
    have m2:=lie_move (st:=upd s.st x 3) (keep:=upd s.keep x 0) (a:=1) (b:=1) hP hI x1 (Nat.le_refl 1)
    rw [← x4] at m1 m2
    rw [Nat.mul_one,hL.lie,x5.lie] at m1
    have m3:zkk P (s.excl P (rs.map Rd.votes)).st≤zkk P s.st:=by
      unfold zkk
      rw [zau fun i _=>(x5.lie i).symm,zau (f:=iv P s.st) fun i _=>(hL.lie i).symm]
      omega
    omega
theorem iwin_some (hP:P.OK) {x:Nat} (h:iwin P s.st=some x):Lead P s x:=by
  unfold iwin at h
  split at h
  · rename_i h1
    obtain ⟨y,hy⟩:=List.length_eq_one_iff.1 h1
    rw [hy] at h
    cases h
    have hm:x∈zcv P s.st:=by rw [hy]; simp
    obtain ⟨m1,m2⟩:=zbt.1 hm
    refine ⟨m1,of_decide_eq_true m2,.inl fun i hi hs=>?_⟩
    have:i∈zcv P s.st:=zbt.2 ⟨hi,decide_eq_true hs⟩
    rw [hy] at this
    simpa using this
  · have hp:=List.find?_some h
    have hm:=List.mem_of_find?_eq_some h
    obtain ⟨m1,m2⟩:=zbt.1 hm
    refine ⟨m1,of_decide_eq_true m2,.inr ?_⟩
    have:=of_decide_eq_true hp
    unfold iquo at this
    omega
theorem iwin_none (h:iwin P s.st=none):(zcv P s.st).length ≠ 1∧∀ i,i < P.n→s.st i=0→iv P s.st i < iquo P s.st:=by
  unfold iwin at h
  split at h
  · rename_i h1
    obtain ⟨y,hy⟩:=List.length_eq_one_iff.1 h1
    rw [hy] at h
    cases h
  · rename_i h1
    refine ⟨h1,fun i hi hs=>?_⟩
    have:=List.find?_eq_none.1 h i (zbt.2 ⟨hi,decide_eq_true hs⟩)
    simpa using this
theorem left_e0 (h:PL P s) (h0:s.e1 P=0):s.e0 P=(zcv P s.st).length:=by
  unfold zcv
  rw [zcb]
  exact zkr fun i hi=>by rw [(h.st1_0 h0 hi).2]
theorem left_upd {st:Nat→Nat} {x:Nat} (hx:x < P.n) (h:st x=0):(zcv P st).length=(zcv P (upd st x 3)).length+1:=by
  unfold zcv
  rw [zcb,zcb]
  refine zqn hx (fun i hi hne=>by rw [zep _ _ hne]) (by rw [zci]; rfl) (decide_eq_true h)
theorem single_tr (hP:P.OK) (hq:P.seats=1) (hq2:P.q=P.mkd / 2+1):∀ (k:Nat) {s:GS} {rs rest rs':List Rd},Tr P s rs rest→PL P s→rs'.map Rd.votes=rs.map Rd.votes→0 < (zcv P s.st).length→(zcv P s.st).length≤k→∃ x:Nat,rest.flatMap Rd.el=[(x:Int)]∧(irun P k rs' s.st).flatMap Rd.el=rs'.flatMap Rd.el++[(x:Int)]
  | 0,s,rs,rest,rs',_,_,_,h1,h2=>by omega
  | k+1,s,rs,rest,rs',h,hL,hE,h1,h2=>by
    rw [irun]
    cases hw:iwin P s.st with
    | some x =>
      refine ⟨x,lead_win hP hq h hL (iwin_some hP hw),?_⟩
      simp only [List.flatMap_append,List.flatMap_cons,List.flatMap_nil,List.append_nil]
      rfl
    | none =>
      obtain ⟨n1,n2⟩:=iwin_none hw
      have hI:=h.run.inv
      have hsm:=zhe hP s.st
      have hel:∀ i,i < P.n→s.el1 P i=false:=fun i hi=>by
        cases he:s.el1 P i
        · rfl
        · obtain ⟨e1,e2⟩:=(hL.el1 hI i).1 he
          have:=n2 i hi e1
          unfold iquo at this
          omega
      have h10:s.e1 P=0:=by
        refine Nat.eq_zero_of_not_pos fun h0=>?_
        obtain ⟨i,k1,k2⟩:=zeg.1 h0
        rcases zcf (P:=P) (s:=s) i with ⟨k3,_⟩ | ⟨k3,k4⟩
        · rw [hel i k1] at k3; cases k3
        · have:=of_decide_eq_true k2
          have:=hL.st i
          omega
      have he0:=left_e0 hL h10
      have he2:=hL.e2
      have hf:s.fin P=false:=by
        unfold GS.fin
        rw [Bool.or_eq_false_iff,decide_eq_false_iff_not,decide_eq_false_iff_not]
        constructor
        · show ¬ s.e1 P+s.e2 P=P.seats
          omega
        · show ¬ s.e1 P+s.e2 P+s.e0 P≤P.seats
          omega
      have hm:=(hL.most hP hI hq hf).2.1
      cases h with
      | fin hR hf'=>rw [hf] at hf'; cases hf'
      | trans hR hf' hm' h=>rw [hm] at hm'; cases hm'
      | @excl s rs rest hR hf' hm' h =>
        obtain ⟨x,x1,x2,x3,x4,x5⟩:=hL.excl hP hI h10 hf hm (rs.map Rd.votes)
        have hpk:=hL.pick hP hI h10 hm (rs.map Rd.votes)
        rw [x3] at hpk
        have hst':(s.excl P (rs.map Rd.votes)).st=upd s.st x 3:=by rw [x4]; rfl
        have hlu:=left_upd (P:=P) x1 x2
        have hv:(irdX P (rs'.map Rd.votes) s.st).votes=(s.rd0 P).votes:=by
          show lst (fun i=>(iv P s.st i:Rat)) P.n=lst (fun i=>frac (s.vt P i) s.D) P.n
          refine zbd fun i _=>?_
          rw [hL.vt hI,hL.D,zjf]
        obtain ⟨y,y1,y2⟩:=single_tr hP hq hq2 k (rs':=rs'++[irdX P (rs'.map Rd.votes) s.st]) h x5 (by
          rw [List.map_append,List.map_append,hE]
          congr 1
          exact congrArg (fun v=>[v]) hv) (by rw [hst']; omega) (by rw [hst']; omega)
        refine ⟨y,?_,?_⟩
        · rw [List.flatMap_cons,y1]
          show selI (s.el1 P) P.n++_=_
          have:selI (s.el1 P) P.n=[]:=by
            rw [← List.length_eq_zero_iff,zbn]
            refine Nat.eq_zero_of_not_pos fun h=>?_
            obtain ⟨i,h1,h2⟩:=zeg.1 h
            rw [hel i h1] at h2
            cases h2
          rw [this]; rfl
        · rw [hst'] at y2
          simp only
          rw [hE,← hpk,Int.toNat_natCast,← hE,y2]
          simp only [List.flatMap_append,List.flatMap_cons,List.flatMap_nil,List.append_nil]
          show _++[]++_=_
          rw [List.append_nil]
theorem single_win (hP:P.OK) (hq:P.seats=1) (hq2:P.q=P.mkd / 2+1):∃ x:Nat,(zhg P).flatMap Rd.el=[(x:Int)]∧(icount P).flatMap Rd.el=[(x:Int)]:=by
  have hl:(zcv P g0.st).length=P.n:=by
    unfold zcv
    rw [zcb]
    have key:∀ n,sumN (fun _=>1) n=n:=fun n=>by
      induction n with
      | zero=>rfl
      | succ n ih=>rw [sumN,ih]
    exact (zau (g:=fun _=>1) fun i _=>rfl).trans (key _)
  have h1:=hP.n1
  obtain ⟨x,x1,x2⟩:=single_tr hP hq hq2 P.n (rs':=[]) (gcount_tr hP) PL.start rfl (by omega) (by omega)
  rw [List.flatMap_nil,List.nil_append] at x2
  exact ⟨x,x1,x2⟩
end Go.Proofs.YtmipjomnjkmdbaaGreat
set_option linter.unusedSimpArgs false
set_option linter.unusedVariables false
namespace Go.Proofs.YtmipjomnjkmdbaaGreat
open Go Go.X
theorem zlv {n:Int} {gs:List Grp} {N:Int} (h:PileOK n gs N) (b:List Int→Bool) (f:List Int→Int) (hf:∀ p,f p=if b p then 1 else 0) (c:CT) (lots:List Int):wsum f gs=((sumN (fun g=>if b ((gpOf c gs lots).p g) then (gpOf c gs lots).k g else 0) gs.length:Nat):Int):=by
  have:=zij h b c lots gs.length (Nat.le_refl _)
  rw [List.take_length] at this
  rw [← this]
  congr 1
  funext p
  exact hf p
theorem marked_mkd {n:Int} {gs:List Grp} {N:Int} (h:PileOK n gs N) (c:CT) (lots:List Int):wsum zar gs=(((gpOf c gs lots).mkd:Nat):Int):=by
  rw [zlv h (fun p=>decide (p ≠ [])) zar (fun p=>by unfold zar; by_cases hp:p=[] <;> simp [hp]) c lots]
  congr 1
  unfold GP.mkd
  refine zau fun g hg=>?_
  by_cases hp:(gpOf c gs lots).p g=[] <;> simp [hp]
theorem quota_eq {c:CT} {gs:List Grp} {lots:List Int} {n:Int} {N:Int} (h:PileOK n gs N) (h1:1≤c.2.2.2.1):(gpOf c gs lots).q=(gpOf c gs lots).mkd / ((gpOf c gs lots).seats+1)+1:=by
  show (wsum zar gs / (c.2.2.2.1+1)+1).toNat=_ / (c.2.2.2.1.toNat+1)+1
  rw [marked_mkd h c lots]
  generalize hS:c.2.2.2.1.toNat=S
  have:c.2.2.2.1=(S:Int):=by omega
  rw [this]
  rfl
end Go.Proofs.YtmipjomnjkmdbaaGreat
set_option linter.unusedSimpArgs false
set_option linter.unusedVariables false
namespace Go.Proofs.YtmipjomnjkmdbaaGreat
open Go Go.X
abbrev IT:=CT × (List Grp × (List Int × (List Bool × List (List Rt))))
theorem fit_any {m:Int} {c:CT} {gs:List Grp} {lots:List Int} (h:fitE m c gs lots=0):fitE 3 (c.1,c.2.1,3,c.2.2.2.1,c.2.2.2.2.1,0,c.2.2.2.2.2.2) gs lots=0:=by
  obtain ⟨_,_,_,n1,n7,s1,s5,_,_,_,t1,t3,hp,ll,hB⟩:=zji h
  exact zjj (n:=c.2.1.length) ⟨rfl,rfl,s1,s5,fun h=>absurd h (by omega),fun h=>absurd h (by omega),fun _=>rfl,t1,t3⟩ (by omega) (by omega) n1 n7 hp ll hB
theorem gpOf_okM {m:Int} {c:CT} {gs:List Grp} {lots:List Int} (h:fitE m c gs lots=0):(gpOf c gs lots).OK∧(gpOf c gs lots).G≤1000000:=by
  have:=gpOf_ok (fit_any h)
  exact ⟨this.1,this.2.1⟩
theorem lim_one {α:Type} {l:Nat} (h:l+1≤4294967296):decide ((l:Int)+((([]:List α).length+1:Nat):Int)≤LIM)=true:=zch (l:=List.replicate l ()) (d:=()) (by simpa using h) |> fun h=>by simpa using h
theorem lim_inc {l:Nat} (h:l+1≤4294967296):decide ((l:Int)+1≤LIM)=true:=zch (l:=List.replicate l ()) (d:=()) (by simpa using h) |> fun h=>by simpa using h
theorem d106_eq {c:CT} (gs:List Grp) (lots:List Int) (hn:c.2.1.length≤1000):d106 c gs lots=some (c,gs,lots,lst (fun _=>true) c.2.1.length,[]):=by
  unfold d106
  generalize hm:c.2.1.length=n at hn
  simp only [decide_true,d0le,zbx (n:=n) (by omega),Bool.and_self,cond_true,tn,List.length_replicate]
  refine zae (fun i=>(gs,lots,c,lst (fun k=>decide (k < i)) n,(n:Int),(i:Int))) n ?_ (fun i hi=>?_) (b:=(gs,lots,c,lst (fun _=>true) n)) ?_ rfl
  · have:lst (fun k=>decide (k < 0)) n=List.replicate n false:=by
      rw [lst_rep]
      exact zbd fun k _=>decide_eq_false (by omega)
    rw [this]; rfl
  · have e:(lst (fun k=>decide (k < i)) n).set i true=lst (fun k=>decide (k < i+1)) n:=by
      rw [zfk]
      refine zbd fun k _=>?_
      unfold upd
      by_cases h:k=i
      · rw [if_pos h]; exact (decide_eq_true (by omega)).symm
      · rw [if_neg h]; exact decide_eq_decide.2 (by omega)
    simp only [dlt hi,d0le,zal,Bool.and_self,cond_true,tn,e,zbl (show i < 9223372036854775807 by omega)]
  · have e:lst (fun k=>decide (k < n)) n=lst (fun _=>true) n:=zbd fun k hk=>decide_eq_true hk
    simp only [nlt (Nat.le_refl n),cond_false,e]
theorem d108_eq {k:IT} {st:Nat→Nat} {n:Nat} (hk:k.2.2.2.1=lst (fun i=>decide (st i=0)) n) (hn:n≤1000):d108 k=some (selI (fun i=>decide (st i=0)) n):=by
  unfold d108
  rw [hk,zal]
  refine zae (fun i=>(selI (fun i=>decide (st i=0)) i,lst (fun i=>decide (st i=0)) n,(n:Int),(i:Int))) n rfl (fun i hi=>?_) ?_ rfl
  · have hl:(selI (fun i=>decide (st i=0)) i).length+1≤4294967296:=by
      rw [zbn]; have:=zce (fun i=>decide (st i=0)) i; omega
    rw [zer]
    simp only [dlt hi,d0le,zal,Bool.and_self,cond_true,tn,zaz _ hi,zaw,zbl (show i < 9223372036854775807 by omega)]
    by_cases h:st i=0
    · rw [decide_eq_true h,cond_true,zch hl,cond_true]; rfl
    · rw [decide_eq_false h,cond_false]; simp
  · simp only [nlt (Nat.le_refl n),cond_false]
theorem d154_eq {v:Nat→Nat} {n:Nat} (hn:n≤1000) (hv:∀ i,i < n→v i≤9223372036854775807):d154 (lst (fun i=>(v i:Int)) n)=some (lst (fun i=>rr (v i:Rat)) n):=by
  unfold d154
  rw [zal]
  refine zae (fun i=>(lst (fun i=>rr (v i:Rat)) i,lst (fun i=>(v i:Int)) n,(n:Int),(i:Int))) n rfl (fun i hi=>?_) ?_ rfl
  · have hl:=zch (l:=lst (fun i=>rr (v i:Rat)) i) (d:=rr (v i:Rat)) (by rw [zal]; omega)
    simp only [dlt hi,d0le,zal,Bool.and_self,cond_true,tn,zaz (fun i=>(v i:Int)) hi,zfl (hv i hi),Option.bind_some,zbl (show i < 9223372036854775807 by omega)]
    rw [zal] at hl
    rw [hl,cond_true,zfc]
  · simp only [nlt (Nat.le_refl n),cond_false]
theorem d107_eq {k:IT} {st v:Nat→Nat} {n e:Nat} (hk:k.2.2.2.1=lst (fun i=>decide (st i=0)) n) (hn:n≤1000) (hs:sumN v n≤4611686018427387904) (he:e≤9223372036854775807) :
    d107 k (lst (fun i=>(v i:Int)) n) (e:Int)=some ((lst (fun i=>rr (v i:Rat)) n,lst (fun i=>rr (if st i=0 then 1 else 0)) n,rr ((sumN v n / 2+1:Nat):Rat),rr (e:Rat),rr 0,[],[],[]),((sumN v n / 2+1:Nat):Int)):=by
  have hv:∀ i,i < n→v i≤4611686018427387904:=fun i hi=>Nat.le_trans (zgv hi) hs
  have hpart:∀ i,i≤n→sumN v i≤sumN v n:=by
    intro i
    induction n with
    | zero=>intro h; rw [show i=0 by omega]; exact Nat.le_refl _
    | succ n ih=>?_
    intro h
    clear ih
    have key:∀ (f:Nat→Nat) (m n:Nat),m≤n→sumN f m≤sumN f n:=by
      intro f m n
      induction n with
      | zero=>intro h; rw [show m=0 by omega]; exact Nat.le_refl _
      | succ n ih =>
        intro h
        by_cases hm:m=n+1
        · rw [hm]; exact Nat.le_refl _
        · rw [sumN]; have:=ih (by omega); omega
    exact key v i (n+1) h
  unfold d107
  rw [zal]
  refine zae (fun i=>(k,lst (fun i=>(v i:Int)) n,(e:Int),([],[],(false,[],[]),(false,[],[]),(false,[],[]),[],[],[]),((sumN v i:Nat):Int),lst (fun i=>(v i:Int)) n,(n:Int),(i:Int))) n rfl (fun i hi=>?_) (b:=(k,lst (fun i=>(v i:Int)) n,(e:Int),([],[],(false,[],[]),(false,[],[]),(false,[],[]),[],[],[]),((sumN v n:Nat):Int))) ?_ ?_
  · have hp:=hpart (i+1) (by omega)
    rw [sumN] at hp
    simp only [dlt hi,d0le,zal,Bool.and_self,cond_true,tn,zaz (fun i=>(v i:Int)) hi,wadd (show sumN v i+v i≤9223372036854775807 by omega),zbl (show i < 9223372036854775807 by omega)]
    rfl
  · simp only [nlt (Nat.le_refl n),cond_false]
  have hq:w (w (Int.tdiv ((sumN v n:Nat):Int) 2)+1)=((sumN v n / 2+1:Nat):Int):=by
    have h1:Int.tdiv ((sumN v n:Nat):Int) 2=((sumN v n / 2:Nat):Int):=by
      rw [Int.tdiv_eq_ediv_of_nonneg (by omega)]; rfl
    rw [h1,zbm (n:=((sumN v n / 2:Nat):Int)) (by omega) (by omega),zbl (by omega)]
  have h0:d68 0=some (rr 0):=zfl (n:=0) (by omega)
  have h1:d68 1=some (rr 1):=zfl (n:=1) (by omega)
  simp only [d154_eq hn fun i hi=>Nat.le_trans (hv i hi) (by omega),Option.bind_some,hq,zfl (show sumN v n / 2+1≤9223372036854775807 by omega),zfl he,h0,hk,zal]
  generalize sumN v n / 2+1=q
  refine zae (fun i=>((lst (fun i=>rr (v i:Rat)) n,lst (fun i=>rr (if st i=0 then 1 else 0)) i,rr (q:Rat),rr (e:Rat),rr 0,[],[],[]),(q:Int),lst (fun i=>decide (st i=0)) n,(n:Int),(i:Int))) n rfl (fun i hi=>?_) (b:=((lst (fun i=>rr (v i:Rat)) n,lst (fun i=>rr (if st i=0 then 1 else 0)) n,rr (q:Rat),rr (e:Rat),rr 0,[],[],[]),(q:Int))) ?_ rfl
  · have hl:=fun d=>zch (l:=lst (fun i=>rr (if st i=0 then 1 else 0)) i) (d:=d) (by rw [zal]; omega)
    simp only [dlt hi,d0le,zal,Bool.and_self,cond_true,tn,zaz (fun i=>decide (st i=0)) hi,zaw,zbl (show i < 9223372036854775807 by omega),zfc]
    by_cases h:st i=0
    · have:=hl (rr 1)
      rw [zal] at this
      simp only [decide_eq_true h,cond_true,h1,Option.bind_some,this,if_pos h]
    · have:=hl (rr 0)
      rw [zal] at this
      simp only [decide_eq_false h,cond_false,h0,Option.bind_some,this,if_neg h,cond_true]
  · simp only [nlt (Nat.le_refl n),cond_false]
theorem zoo (q:Int→Bool):∀ p:List Int,zah q p=(p.takeWhile fun c=>!q c).length
  | []=>rfl
  | x::p=>by
    rw [zah,List.takeWhile_cons,zoo q p]
    cases q x <;> rfl
theorem zgu {α:Type} {p q:α→Bool}:∀ {l:List α},(∀ x∈l,p x=q x)→l.takeWhile p=l.takeWhile q
  | [],_=>rfl
  | x::l,h=>by
    rw [List.takeWhile_cons,List.takeWhile_cons,h x (by simp),zgu fun y hy=>h y (List.mem_cons_of_mem _ hy)]
theorem znc {st:Nat→Nat} {n:Nat} {p:List Int} (hb:isB (n:Int) p):zah (rem (lst (fun i=>decide (st i=0)) n)) p=nxt p st 0:=by
  rw [zoo]
  unfold nxt
  rw [List.drop_zero,Nat.zero_add]
  congr 1
  refine zgu fun x hx=>?_
  have:=hb.2 x hx
  unfold rem
  rw [zal,if_pos this.2,zaz _ (show x.toNat < n by omega)]
  by_cases h:st x.toNat=0 <;> simp [h]
theorem votes_iv {n:Nat} {gs:List Grp} {N:Int} (h:PileOK (n:Int) gs N) (c:CT) (lots:List Int) (st:Nat→Nat):zbp (lst (fun i=>decide (st i=0)) n) gs=lst (fun i=>((iv (gpOf c gs lots) st i:Nat):Int)) n:=by
  unfold zbp
  rw [zal]
  refine zbd (f:=fun (c:Nat)=>wsum (zgi (lst (fun i=>decide (st i=0)) n) (c:Int)) gs) fun x hx=>?_
  rw [zlv h (fun p=>decide (zah (rem (lst (fun i=>decide (st i=0)) n)) p < p.length) && decide (p.getD (zah (rem (lst (fun i=>decide (st i=0)) n)) p) 0=(x:Int))) (zgi (lst (fun i=>decide (st i=0)) n) (x:Int)) (fun p=>?_) c lots]
  · congr 1
    unfold iv GS.lie
    refine zau fun g hg=>?_
    have hb:isB (n:Int) ((gpOf c gs lots).p g):=(h.ballots _ (zcy (l:=gs) (d:=([],0)) (i:=g) hg)).1
    rw [znc hb]
    show _=if (pl (gpOf c gs lots) st).on (gpOf c gs lots) g x=true then (gpOf c gs lots).k g * 1 else 0
    rw [Nat.mul_one]; rfl
  · unfold zgi
    by_cases h1:zah (rem (lst (fun i=>decide (st i=0)) n)) p < p.length∧p.getD (zah (rem (lst (fun i=>decide (st i=0)) n)) p) 0=(x:Int)
    · rw [if_pos h1,decide_eq_true h1.1,decide_eq_true h1.2]; rfl
    · rw [if_neg h1]
      have:(decide (zah (rem (lst (fun i=>decide (st i=0)) n)) p < p.length) && decide (p.getD (zah (rem (lst (fun i=>decide (st i=0)) n)) p) 0=(x:Int)))=false:=by
        cases h2:(decide (zah (rem (lst (fun i=>decide (st i=0)) n)) p < p.length) && decide (p.getD (zah (rem (lst (fun i=>decide (st i=0)) n)) p) 0=(x:Int)))
        · rfl
        · rw [Bool.and_eq_true,decide_eq_true_eq,decide_eq_true_eq] at h2
          exact absurd h2 h1
      rw [this]; rfl
theorem exh_iv {n:Nat} {gs:List Grp} {N:Int} (h:PileOK (n:Int) gs N) (c:CT) (lots:List Int) (st:Nat→Nat):wsum (zgf (lst (fun i=>decide (st i=0)) n)) gs=((iexh (gpOf c gs lots) st:Nat):Int):=by
  rw [zlv h (fun p=>!decide (zah (rem (lst (fun i=>decide (st i=0)) n)) p < p.length)) (zgf (lst (fun i=>decide (st i=0)) n)) (fun p=>?_) c lots]
  · congr 1
    unfold iexh
    refine zau fun g hg=>?_
    have hb:isB (n:Int) ((gpOf c gs lots).p g):=(h.ballots _ (zcy (l:=gs) (d:=([],0)) (i:=g) hg)).1
    rw [znc hb]
    by_cases hlt:nxt ((gpOf c gs lots).p g) st 0 < ((gpOf c gs lots).p g).length <;> simp [hlt]
  · unfold zgf
    by_cases h1:zah (rem (lst (fun i=>decide (st i=0)) n)) p < p.length <;> simp [h1]
theorem ext0_tops (P:GP) (v st:Nat→Nat) (c:Nat):ext0 (fun x=>frac (v x.toNat) 1) (selI (fun i=>decide (st i=c)) P.n)=selI (zlf P v st c false) P.n:=by
  unfold ext0
  rw [zic]
  refine zka fun i hi=>?_
  unfold zlf
  congr 1
  rw [Bool.eq_iff_iff,List.all_eq_true,List.all_eq_true]
  constructor
  · intro h k hk
    by_cases hc:st k=c
    · have:=h (k:Int) (zcc.2 ⟨k,rfl,List.mem_range.1 hk,decide_eq_true hc⟩)
      simpa [hc,zgj] using this
    · simp [hc]
  · intro h x hx
    obtain ⟨k,rfl,hk,hc⟩:=zcc.1 hx
    have:=h k (List.mem_range.2 hk)
    rw [hc] at this
    simpa [zgj] using this
theorem votes_rndI {P:GP} (hP:P.OK) (st:Nat→Nat):RndOK P.n (lst (fun i=>(iv P st i:Rat)) P.n):=⟨zal _ _,fun q hq=>by
  obtain ⟨i,hi,rfl⟩:=mem_lst.1 hq
  have h1:=zhe hP st
  have h2:=mk_le hP
  have h3:=hP.tot5
  have h4:iv P st i≤zkk P st:=zgv hi
  exact zoz (by omega)⟩
theorem itied_ne {P:GP} {st:Nat→Nat} (h:0 < (zcv P st).length):zey P st ≠ []:=by
  unfold zey
  rw [← ext0_tops]
  refine zng fun e=>?_
  have:=congrArg List.length e
  rw [zbn,← zcb] at this
  have e2:(zcv P st).length=0:=this
  omega
theorem itied_in {P:GP} {st:Nat→Nat} {x:Int} (h:x∈zey P st):∃ i:Nat,x=(i:Int)∧i < P.n∧st i=0:=by
  obtain ⟨i,h1,h2,h3⟩:=zcc.1 h
  unfold zlf at h3
  rw [Bool.and_eq_true,decide_eq_true_eq] at h3
  exact ⟨i,h1,h2,h3.1⟩
theorem ipick_in {P:GP} {st:Nat→Nat} (E:List (List Rat)) (h:0 < (zcv P st).length):∃ i:Nat,ipick P E st=(i:Int)∧i < P.n∧st i=0:=by
  refine itied_in ?_
  unfold ipick
  have hne:=itied_ne h
  split
  · exact zfr hne
  · exact tieB_mem hne
set_option maxHeartbeats 1000000 in
theorem d110_eq {P:GP} (hP:P.OK) {st:Nat→Nat} {c:CT} {gs:List Grp} (hc:c.2.2.2.2.2.2.1=P.ties) {E:List (List Rat)} (hE:∀ r∈E,RndOK P.n r) (hEl:E.length≤1000) (hl:0 < (zcv P st).length) :
    ∃ x:Nat,x < P.n∧st x=0∧ipick P E st=(x:Int)∧d110 (c,gs,P.lots,lst (fun i=>decide (st i=0)) P.n,E.map (List.map rr)) (lst (fun i=>((iv P st i:Nat):Int)) P.n) =
      some ((x:Int),(if (zey P st).length=1 then [] else zey P st),(c,gs,P.lots,lst (fun i=>decide (upd st x 3 i=0)) P.n,(E++[lst (fun i=>(iv P st i:Rat)) P.n]).map (List.map rr))):=by
  obtain ⟨x,x1,x2,x3⟩:=ipick_in E hl
  refine ⟨x,x2,x3,x1,?_⟩
  have hn7:=hP.n7
  have hb:∀ i,i < P.n→iv P st i≤100000:=fun i hi=>by
    have h1:=zhe hP st
    have h2:=mk_le hP
    have h3:=hP.tot5
    have h4:iv P st i≤zkk P st:=zgv hi
    omega
  unfold d110
  rw [d108_eq (st:=st) (n:=P.n) rfl (by omega),Option.bind_some]
  have hL:∀ y∈selI (fun i=>decide (st i=0)) P.n,∃ i:Nat,y=(i:Int)∧i < P.n:=fun y hy=>by
    obtain ⟨i,h1,h2,h3⟩:=zcc.1 hy
    exact ⟨i,h1,h2⟩
  have hT:ext0 (fun x=>frac (iv P st x.toNat) 1) (selI (fun i=>decide (st i=0)) P.n)=zey P st:=ext0_tops P (iv P st) st 0
  have hLl:(selI (fun i=>decide (st i=0)) P.n).length≤7:=by
    rw [zbn]; have:=zce (fun i=>decide (st i=0)) P.n; omega
  generalize selI (fun i=>decide (st i=0)) P.n=L at hL hT hLl ⊢
  refine zae (fun i=>((c,gs,P.lots,lst (fun i=>decide (st i=0)) P.n,E.map (List.map rr)),lst (fun i=>((iv P st i:Nat):Int)) P.n,ext0 (fun x=>frac (iv P st x.toNat) 1) (L.take i),L,(L.length:Int),(i:Int))) L.length rfl (fun i hi=>?_) (b:=((c,gs,P.lots,lst (fun i=>decide (st i=0)) P.n,E.map (List.map rr)),lst (fun i=>((iv P st i:Nat):Int)) P.n,zey P st)) ?_ ?_
  · obtain ⟨y,hy,hyn⟩:=hL _ (zcx hi)
    have htk:L.take (i+1)=L.take i++[(y:Int)]:=by rw [zbi L 0 hi,hy]
    simp only [dlt hi,d0le,Bool.and_self,cond_true,tn,zaw,hy,zbl (show i < 9223372036854775807 by omega),htk]
    by_cases hi0:i=0
    · subst hi0
      rw [List.take_zero,zqg]
      have:ext0 (fun x=>frac (iv P st x.toNat) 1) ([]++[(y:Int)])=[(y:Int)]:=by
        unfold ext0
        have:frac (iv P st y) 1≤frac (iv P st y) 1:=Rat.le_refl
        simp [this]
      rw [this]
      rfl
    · have hne:L.take i ≠ []:=by
        intro e
        have:=congrArg List.length e
        rw [List.length_take,List.length_nil] at this
        omega
      have hne2:=zng (ρ:=fun x=>frac (iv P st x.toNat) 1) hne
      have hsub:∀ z∈ext0 (fun x=>frac (iv P st x.toNat) 1) (L.take i),z∈L:=fun z hz=>List.mem_of_mem_take (zjl.1 hz).1
      have hlen:(ext0 (fun x=>frac (iv P st x.toNat) 1) (L.take i)).length≤7:=by
        have:=zlr (fun x=>frac (iv P st x.toNat) 1) (L.take i)
        rw [List.length_take] at this
        omega
      rw [znf _ _ hne]
      generalize ext0 (fun x=>frac (iv P st x.toNat) 1) (L.take i)=T at hne2 hsub hlen ⊢
      obtain ⟨z,T',hT'⟩:=List.exists_cons_of_ne_nil hne2
      subst hT'
      obtain ⟨zn,hz,hzn⟩:=hL _ (hsub z (by simp))
      subst hz
      simp only [List.headD_cons,List.length_cons,List.getD_cons_zero,zal,dlt hyn,dlt hzn,d0le,Bool.and_self,cond_true,tn,zaz (fun i=>((iv P st i:Nat):Int)) hyn,zaz (fun i=>((iv P st i:Nat):Int)) hzn,decide_eq_false (show ¬ ((T'.length+1:Nat):Int)=0 by omega),Bool.not_false,decide_eq_true (show (0:Int) < ((T'.length+1:Nat):Int) by omega),show decide ((0:Nat)≤0)=true from rfl,Int.toNat_natCast,frac_lt (show 0 < 1 by omega),frac_inj (show 0 < 1 by omega)]
      have hl1:=lim_one (α:=Int) (l:=T'.length+1) (by rw [List.length_cons] at hlen; omega)
      by_cases c1:iv P st y < iv P st zn
      · simp only [dlt c1,cond_true,if_pos c1]
      · rw [if_neg c1,decide_eq_false (show ¬ ((iv P st y:Nat):Int) < ((iv P st zn:Nat):Int) by omega),cond_false]
        by_cases c2:iv P st y=iv P st zn
        · simp only [zhv,decide_eq_true c2,cond_true,hl1,if_pos c2]
        · simp only [zhv,decide_eq_false c2,cond_false,if_neg c2]
  · simp only [nlt (Nat.le_refl L.length),cond_false,List.take_length,hT]
  have hne:=itied_ne hl
  have hin:=fun y hy=>itied_in (P:=P) (st:=st) (x:=y) hy
  have hlt:(zey P st).length≤7:=by
    rw [← hT]
    have:=zlr (fun x=>frac (iv P st x.toNat) 1) L
    omega
  have h154:=d154_eq (v:=iv P st) (n:=P.n) (by omega) fun i hi=>by have:=hb i hi; omega
  have hset:(lst (fun i=>decide (st i=0)) P.n).set x false=lst (fun i=>decide (upd st x 3 i=0)) P.n:=by
    rw [zfk]
    refine zbd fun k _=>?_
    unfold upd
    by_cases h:k=x
    · rw [if_pos h,if_pos h]; rfl
    · rw [if_neg h,if_neg h]
  have hlE:=lim_one (α:=List Rt) (l:=(E.map (List.map rr)).length) (by rw [List.length_map]; omega)
  have hmap:(E++[lst (fun i=>(iv P st i:Rat)) P.n]).map (List.map rr)=E.map (List.map rr)++[lst (fun i=>rr (iv P st i:Rat)) P.n]:=by
    rw [List.map_append,List.map_cons,List.map_nil,lst_map]
  have hsorted:(zey P st).Pairwise (· < ·):=zdl _ _
  obtain ⟨b,hb155⟩:=d155_eq (n:=P.n) (ties:=P.ties) (E:=E) (tied:=zey P st) (lots:=P.lots) (least:=true) hP.ties1 hP.ties3 (lotsOK hP) hE (by omega) hne hsorted (fun y hy=>by obtain ⟨i,h1,h2,_⟩:=hin y hy; exact ⟨i,h1,h2⟩) (by omega)
  rw [hmap]
  unfold ipick at x1
  generalize zey P st=T at hne hlt x1 hb155 ⊢
  obtain ⟨z,T',hT'⟩:=List.exists_cons_of_ne_nil hne
  subst hT'
  simp only [List.length_cons,decide_eq_true (show (0:Int) < ((T'.length+1:Nat):Int) by omega),show decide ((0:Nat)≤0)=true from rfl,Bool.and_self,cond_true,zaw,hc,hb155,Option.bind_some,List.getD_cons_zero]
  rw [List.length_cons] at x1
  by_cases hone:T'.length+1=1
  · rw [if_pos hone,List.headD_cons] at x1
    simp only [if_pos hone,decide_eq_false (show ¬ (1:Int) < ((T'.length+1:Nat):Int) by omega),cond_false,x1,d0le,zal,dlt x2,Bool.and_self,cond_true,h154,Option.bind_some,hlE,tn,hset]
  · rw [if_neg hone] at x1
    simp only [if_neg hone,decide_eq_true (show (1:Int) < ((T'.length+1:Nat):Int) by omega),cond_true,x1,d0le,zal,dlt x2,Bool.and_self,h154,Option.bind_some,hlE,tn,hset]
theorem zkz (g:Nat→Bool) (q:Int→Bool) (hq:∀ i:Nat,q (i:Int)=g i):∀ L:List Nat,(zah q (L.map Int.ofNat) < L.length∧L.find? g=some ((L.map Int.ofNat).getD (zah q (L.map Int.ofNat)) 0).toNat)∨(zah q (L.map Int.ofNat)=L.length∧L.find? g=none)
  | []=>.inr ⟨rfl,rfl⟩
  | x::L=>by
    rw [List.map_cons,zah,List.find?_cons]
    have e:q (Int.ofNat x)=g x:=hq x
    rw [e]
    cases h:g x
    · rcases zkz g q hq L with ⟨h1,h2⟩ | ⟨h1,h2⟩
      · refine .inl ⟨by simp only [Bool.false_eq_true,if_false,List.length_cons]; omega,?_⟩
        simp only [Bool.false_eq_true,if_false,h2,List.getD_cons_succ]
      · refine .inr ⟨by simp only [Bool.false_eq_true,if_false,List.length_cons]; omega,h2⟩
    · refine .inl ⟨by simp,by simp⟩
def trI (P:GP):Int × (Int × (Int × (Int × (List RD × List Int)))):=(1,1,0,(P.n:Int),(icount P).map rdT,(icount P).flatMap Rd.el)
set_option maxHeartbeats 2000000 in
theorem d53_eq {c:CT} {gs:List Grp} {lots:List Int} (hg:GsOK gs) (hl:lots.length≤281474976710656):d53 c gs lots=some (if fitE 1 c gs lots=0 then (trI (gpOf c gs lots),0) else ((0,0,0,0,[],[]),fitE 1 c gs lots)):=by
  unfold d53
  rw [d66_eq 1 c hg hl,Option.bind_some]
  by_cases hfit:¬ fitE 1 c gs lots=0
  · rw [if_neg hfit,decide_eq_false hfit]; rfl
  have hfit:=Decidable.not_not.1 hfit
  rw [if_pos hfit,decide_eq_true hfit,Bool.not_true,cond_false]
  obtain ⟨hP,hG⟩:=gpOf_okM hfit
  obtain ⟨_,_,_,n1,n7,_,_,_,_,_,_,_,hp,_,_⟩:=zji hfit
  have hlo:(gpOf c gs lots).lots=lots:=rfl
  have hti:c.2.2.2.2.2.2.1=(gpOf c gs lots).ties:=rfl
  have hPn:c.2.1.length=(gpOf c gs lots).n:=rfl
  rw [d106_eq gs lots (by omega),Option.bind_some]
  have hvot:=fun st=>votes_iv hp c lots st
  have hexh:=fun st=>exh_iv hp c lots st
  have h50:=fun (st:Nat→Nat)=>hp.d50 (by omega) (r:=lst (fun i=>decide (st i=0)) c.2.1.length) (by rw [zal]; exact n7)
  have hexb:∀ st,iexh (gpOf c gs lots) st≤100000:=fun st=>by
    refine Nat.le_trans (Nat.le_trans (zga (g:=(gpOf c gs lots).k) fun g _=>?_) (Nat.le_of_eq hP.total)) hP.tot5
    split <;> omega
  simp only [hvot,hexh] at h50
  generalize hPP:gpOf c gs lots=P at *
  rw [hPn] at n1 n7 h50 ⊢
  rw [← hlo]
  have hst0:lst (fun _=>true) P.n=lst (fun i=>decide ((fun _=>0:Nat→Nat) i=0)) P.n:=rfl
  rw [hst0]
  refine zef (Q:=fun r=>r=some (trI P,0)) (fun (M:Nat) (a:List Grp × (Int × (Int × (Int × (Int × (List RD × List Int))))) × IT × (Int × (Int × (Int × (Int × (List RD × List Int))))))=>∃ (st:Nat→Nat) (rs:List Rd),a=(gs,(0,0,0,0,[],[]),(c,gs,P.lots,lst (fun i=>decide (st i=0)) P.n,(rs.map Rd.votes).map (List.map rr)),(1,1,0,(P.n:Int),rs.map rdT,[]))∧irun P M rs st=icount P∧0 < (zcv P st).length∧(zcv P st).length≤M∧rs.length+M=P.n∧(∀ r∈rs.map Rd.votes,RndOK P.n r)∧rs.flatMap Rd.el=[]) P.n ⟨fun _=>0,[],rfl,rfl,?_,?_,by simp,by simp,rfl⟩ ?_
  · have:0 < cntN (fun i=>decide ((fun _=>0:Nat→Nat) i=0)) P.n:=zeg.2 ⟨0,by omega,rfl⟩
    unfold zcv
    rw [zcb]
    exact this
  · unfold zcv
    rw [zcb]
    exact zce _ _
  · rintro M a ⟨st,rs,rfl,hrun,hl0,hlM,hrs,hR,hel⟩
    have hsum:=zhe hP st
    have hmk:=mk_le hP
    have ht5:=hP.tot5
    have hle:=hexb st
    have h107:=d107_eq (k:=(c,gs,P.lots,lst (fun i=>decide (st i=0)) P.n,(rs.map Rd.votes).map (List.map rr))) (st:=st) (v:=iv P st) (n:=P.n) (e:=iexh P st) rfl (by omega) (by show zkk P st≤_; omega) (by omega)
    have hquo:sumN (iv P st) P.n / 2+1=iquo P st:=rfl
    rw [hquo] at h107
    have hrd:(lst (fun i=>rr (iv P st i:Rat)) P.n,lst (fun i=>rr (if st i=0 then 1 else 0)) P.n,rr (iquo P st:Rat),rr (iexh P st:Rat),rr 0,[],[],[])=rdT (ird0 P st):=by
      unfold rdT ird0
      simp only [lst_map]
    have hleft:selI (fun i=>decide (st i=0)) P.n=(zcv P st).map Int.ofNat:=rfl
    have hll:(zcv P st).length≤7:=by
      unfold zcv
      rw [zcb]
      have:=zce (fun i=>decide (st i=0)) P.n
      omega
    have hlin:∀ i∈zcv P st,i < P.n:=fun i hi=>(zbt.1 hi).1
    have h101:=d101_on (s:=(zcv P st).map Int.ofNat) (f:=fun a=>d109 a (lst (fun i=>((iv P st i:Nat):Int)) P.n) ((iquo P st:Nat):Int)) (g:=fun x=>decide (iquo P st≤iv P st x.toNat)) (fun x hx=>by
      obtain ⟨i,hi,rfl⟩:=List.mem_map.1 hx
      have hin:=hlin i hi
      have e:Int.ofNat i=(i:Int):=rfl
      unfold d109
      rw [e]
      simp only [d0le,zal,dlt hin,Bool.and_self,cond_true,tn,zaz (fun i=>((iv P st i:Nat):Int)) hin]
      congr 1
      exact decide_eq_decide.2 (by omega)) (by rw [List.length_map]; omega)
    simp only [h50 st,Option.bind_some,h107,d108_eq (k:=(c,gs,P.lots,lst (fun i=>decide (st i=0)) P.n,(rs.map Rd.votes).map (List.map rr))) (st:=st) (n:=P.n) rfl (by omega),hleft,h101,zaw,List.length_map,zhv]
    obtain ⟨M,rfl⟩:∃ M',M=M'+1:=⟨M - 1,by omega⟩
    rw [irun] at hrun
    have hlr:=lim_inc (l:=rs.length) (by omega)
    have hlr1:=lim_one (α:=RD) (l:=rs.length) (by omega)
    have hW:∀ x:Nat,(lst (fun i=>rr (iv P st i:Rat)) P.n,lst (fun i=>rr (if st i=0 then 1 else 0)) P.n,rr (iquo P st:Rat),rr (iexh P st:Rat),rr 0,[(x:Int)],[],[])=rdT (irdW P st x):=fun x=>by
      have:=congrArg (fun r:RD=>(r.1,r.2.1,r.2.2.1,r.2.2.2.1,r.2.2.2.2.1,[(x:Int)],r.2.2.2.2.2.2.1,r.2.2.2.2.2.2.2)) hrd
      exact this
    have hdone:∀ x:Nat,iwin P st=some x→some (((1,1,0,(P.n:Int),rs.map rdT++[rdT (irdW P st x)],[(x:Int)]):Int × (Int × (Int × (Int × (List RD × List Int))))),(0:Int))=some (trI P,0):=fun x hx=>by
      rw [hx] at hrun
      unfold trI
      rw [← hrun,List.map_append,List.flatMap_append,hel]
      rfl
    by_cases h1:(zcv P st).length=1
    · obtain ⟨x,hx⟩:=List.length_eq_one_iff.1 h1
      have hw:iwin P st=some x:=by unfold iwin; rw [if_pos h1,hx]; rfl
      refine .inr ⟨((1,1,0,(P.n:Int),rs.map rdT++[rdT (irdW P st x)],[(x:Int)]),0),?_,hdone x hw⟩
      have e0:((zcv P st).map Int.ofNat).getD 0 0=(x:Int):=by rw [hx]; rfl
      simp only [h1,show decide (((1:Nat):Int)=1)=true from rfl,decide_true,cond_true,show decide ((0:Int)≤0)=true from rfl,show decide ((0:Int) < ((1:Nat):Int))=true from rfl,Bool.and_self,Int.toNat_zero,e0,hW,hlr,hlr1,List.length_map,List.length_cons]
    · have hd1:decide (((zcv P st).length:Int)=1)=false:=decide_eq_false (by omega)
      have hq:∀ i:Nat,(fun x:Int=>decide (iquo P st≤iv P st x.toNat)) (i:Int)=decide (iquo P st≤iv P st i):=fun i=>rfl
      rcases zkz (fun i=>decide (iquo P st≤iv P st i)) (fun x=>decide (iquo P st≤iv P st x.toNat)) hq (zcv P st) with ⟨f1,f2⟩ | ⟨f1,f2⟩
      · generalize zah (fun x=>decide (iquo P st≤iv P st x.toNat)) ((zcv P st).map Int.ofNat)=j at f1 f2 ⊢
        obtain ⟨x,hx⟩:∃ x:Nat,((zcv P st).map Int.ofNat).getD j 0=(x:Int):=⟨_,zir (p:=fun i=>decide (st i=0)) (n:=P.n) f1⟩
        rw [hx,Int.toNat_natCast] at f2
        have hw:iwin P st=some x:=by unfold iwin; rw [if_neg h1,f2]
        refine .inr ⟨((1,1,0,(P.n:Int),rs.map rdT++[rdT (irdW P st x)],[(x:Int)]),0),?_,hdone x hw⟩
        simp only [hd1,cond_false,if_pos f1,d0le,dlt f1,cond_true,Bool.and_self,tn,hx,hW,hlr,hlr1,List.length_map,List.length_cons]
      · rw [f1]
        have hw:iwin P st=none:=by unfold iwin; rw [if_neg h1,f2]
        rw [hw] at hrun
        obtain ⟨x,x1,x2,x3,x4⟩:=d110_eq (st:=st) (c:=c) (gs:=gs) hP hti hR (by rw [List.length_map]; omega) hl0
        have hlu:=left_upd (P:=P) x1 x2
        have hmap:(rs++[irdX P (rs.map Rd.votes) st]).map Rd.votes=rs.map Rd.votes++[lst (fun i=>(iv P st i:Rat)) P.n]:=by
          rw [List.map_append]; rfl
        have hX:(lst (fun i=>rr (iv P st i:Rat)) P.n,lst (fun i=>rr (if st i=0 then 1 else 0)) P.n,rr (iquo P st:Rat),rr (iexh P st:Rat),rr 0,[],[(x:Int)],(if (zey P st).length=1 then [] else zey P st))=rdT (irdX P (rs.map Rd.votes) st):=by
          have:=congrArg (fun r:RD=>(r.1,r.2.1,r.2.2.1,r.2.2.2.1,r.2.2.2.2.1,([]:List Int),[(x:Int)],(if (zey P st).length=1 then [] else zey P st))) hrd
          rw [← x3] at this ⊢
          exact this
        refine .inl ⟨(gs,(0,0,0,0,[],[]),(c,gs,P.lots,lst (fun i=>decide (upd st x 3 i=0)) P.n,((rs++[irdX P (rs.map Rd.votes) st]).map Rd.votes).map (List.map rr)),(1,1,0,(P.n:Int),(rs++[irdX P (rs.map Rd.votes) st]).map rdT,[])),M,?_,by omega,upd st x 3,rs++[irdX P (rs.map Rd.votes) st],rfl,?_,?_,by omega,by simp; omega,?_,?_⟩
        · simp only [hd1,cond_false,if_neg (Nat.lt_irrefl _),show decide ((0:Int)≤-1)=false from rfl,x4,Option.bind_some,hX,hlr,hlr1,cond_true,List.length_map,List.length_cons,hmap]
          simp only [List.map_append]
          rfl
        · rw [← hrun]
          simp only
          rw [x3,Int.toNat_natCast]
        · omega
        · rw [hmap]
          intro r hr
          rcases List.mem_append.1 hr with hr | hr
          · exact hR r hr
          · rw [List.mem_singleton.1 hr]
            exact votes_rndI hP st
        · rw [List.flatMap_append,hel]; rfl
end Go.Proofs.YtmipjomnjkmdbaaGreat
set_option linter.unusedSimpArgs false
set_option linter.unusedVariables false
namespace Go.Proofs.YtmipjomnjkmdbaaGreat
open Go Go.X
theorem gpOf_congr {c c':CT} (gs:List Grp) (lots:List Int) (h1:c.2.1.length=c'.2.1.length) (h2:c.2.2.2.1=c'.2.2.2.1) (h3:c.2.2.2.2.2.2.1=c'.2.2.2.2.2.2.1):gpOf c gs lots=gpOf c' gs lots:=by
  unfold gpOf
  rw [h1,h2,h3]
theorem d10_true {p0 p1 p2:Int} {p3:List (List Int)} (h0:WT (.int .i64) p0) (h1:WT (.int .i64) p1) (h2:WT (.int .i64) p2) (hl:p3.length≤281474976710656) (hw:∀ x∈p3,WT (.slice (.int .i64)) x):d10 p0 p1 p2 p3=some true:=by
  unfold d10
  rw [d20_eq p3 hl,Option.bind_some]
  cases hfew:(decide (∀ x∈p3,x.length≤12) && decide (p3.length≤16))
  · rw [d21_eq]; rfl
  have k:∀ x:Int,-9223372036854775808≤x→x≤9223372036854775807→WT (.int .i64) x:=fun x h0 h1=>zbm h0 h1
  rw [Bool.not_true,cond_false,znk h0 (by omega) (by omega),Option.bind_some]
  have b:=zkg p0 (n:=7) (by omega)
  obtain ⟨n,hn⟩:∃ n:Nat,1+p0 % 7=(n:Int):=⟨(1+p0 % 7).toNat,by omega⟩
  have hw1:w (1+p0 % 7)=(n:Int):=by rw [zbm (by omega) (by omega)]; exact hn
  rw [hw1]
  obtain ⟨c,lots,e31,hC,e27,cs,ct,_⟩:=d31_eq (n:=n) (by omega) (by omega) (k 0 (by omega) (by omega)) h1 h2 hl hw
  obtain ⟨c',e25,c2,c3,c4⟩:=d25_eq (n:=n) (by omega) (m:=0) (seats:=0) (digits:=0) (ties:=p1) (k 0 (by omega) (by omega)) (k 0 (by omega) (by omega)) (k 0 (by omega) (by omega)) h1
  rw [e31,Option.bind_some,e25,Option.bind_some,e27,Option.bind_some]
  generalize zdv (bals (n:Int) p3 16)=gs at hC ⊢
  have hfit:fitE 1 c' gs lots=0:=zjj c2 (by omega) (by omega) hC.n1 hC.n7 hC.pile hC.len hC.perm
  have hll:=hC.len
  have hn7:=hC.n7
  have hcs:c.2.2.2.1=1:=by rw [cs]; rfl
  have e53:=d53_eq (c:=c') (lots:=lots) (gs_of hC.n7 hC.pile) (by omega)
  rw [if_pos hfit,gpOf_congr gs lots (c':=c) (by rw [c2.names,hC.con.names]) (by rw [c3,hcs]; rfl) (by rw [c4,ct])] at e53
  rw [e53,Option.bind_some,d21_eq,Option.bind_some]
  have hP:=hC.ok
  have hPs:=hC.seats
  have hqe:=quota_eq (c:=c) (lots:=lots) hC.pile (by omega)
  generalize gpOf c gs lots=P at hP hPs hqe ⊢
  have hseat:P.seats=1:=by omega
  rw [hseat] at hqe
  obtain ⟨x,x1,x2⟩:=single_win hP hseat hqe
  have hT:(trT P).2.2.2.2.2=[(x:Int)]:=x1
  have hI:(trI P).2.2.2.2.2=[(x:Int)]:=x2
  simp only [hT,hI,decide_true,cond_true,show decide ((([(x:Int)]:List Int).length:Int)=1)=true from rfl,d38_eq (a:=[(x:Int)]) (b:=[(x:Int)]) (by simp) (by simp),Option.bind_some]
end Go.Proofs.YtmipjomnjkmdbaaGreat
