/- Part 14 of what stands below the statement. -/
import Derived.Test.YtmipjomnjkmdbaaGreatQ13
set_option linter.unusedSimpArgs false
set_option linter.unusedVariables false
namespace Go.Proofs.YtmipjomnjkmdbaaGreat
open Go Go.X
theorem d122_eq (a b:Nat) (ha:a≤4611686018427387904) (hb:b≤4611686018427387904):d122 (a:Int) (b:Int)=some ((Nat.gcd a b:Nat):Int):=by
  unfold d122
  refine while_wf (Q:=fun r=>r=some ((Nat.gcd a b:Nat):Int)) (fun (M:Nat) (st:Int × Int)=>∃ x:Nat,st=((x:Int),(M:Int))∧x≤4611686018427387904∧M≤4611686018427387904∧Nat.gcd x M=Nat.gcd a b) b ⟨a,rfl,ha,hb,rfl⟩ ?_
  rintro M st ⟨x,rfl,h1,h2,h3⟩
  rcases Nat.eq_zero_or_pos M with h0 | h0
  · subst h0
    rw [Nat.gcd_zero_right] at h3
    exact .inr ⟨(x:Int),rfl,by rw [h3]⟩
  · have hm:=Nat.mod_lt x h0
    have e:w (Int.tmod (x:Int) (M:Int))=((x % M:Nat):Int):=by rw [tmodN,wi_id (by omega) (by omega)]
    refine .inl ⟨((M:Int),((x % M:Nat):Int)),x % M,?_,hm,M,rfl,h2,by omega,?_⟩
    · simp only [decide_eq_true (show (0:Int) < (M:Int) by omega),decide_eq_false (show ¬ (M:Int)=0 by omega),Bool.not_false,cond_true,e]
    · rw [← h3,Nat.gcd_comm x M,Nat.gcd_rec M x,Nat.gcd_comm]
theorem d123_eq (n:Nat) (h:n≤4611686018427387904):d123 (n:Int)=some (limbs n):=by
  unfold d123
  rw [wu64_nat (by omega)]
  refine while_wf (Q:=fun r=>r=some (limbs n)) (fun (M:Nat) (st:(List Int) × Int)=>∃ l:List Int,st=(l,(M:Int))∧M≤n∧l.length≤n - M∧l.length≤1000000∧l++limbs M=limbs n∧(l.length+(limbs M).length=(limbs n).length)) n ⟨[],rfl,Nat.le_refl _,by simp,by simp,rfl,by simp⟩ ?_
  rintro M st ⟨l,rfl,h1,h2,h3,h4,h5⟩
  have hln:(limbs n).length≤2:=limbs_small (by omega)
  rcases Nat.eq_zero_or_pos M with h0 | h0
  · subst h0
    rw [limbs_zero,List.append_nil] at h4
    exact .inr ⟨l,rfl,by rw [h4]⟩
  · have hp:=limbs_pos (n:=M) (by omega)
    have hl:=congrArg List.length hp
    rw [List.length_cons] at hl
    refine .inl ⟨(l++[((M % 4294967296:Nat):Int)],((M / 4294967296:Nat):Int)),M / 4294967296,?_,by omega,_,rfl,by omega,by simp; omega,by simp; omega,?_,by simp; omega⟩
    · simp only [decide_eq_true (show (0:Int) < (M:Int) by omega),cond_true,wu32_nat,lim_app (l:=l) (d:=((M % 4294967296:Nat):Int)) (by omega),shr32,wu64_nat (show M / 4294967296 < 18446744073709551616 by omega)]
    · rw [List.append_assoc,List.singleton_append,← hp,h4]
theorem d65_eq {a b:Nat} (ha:a≤4611686018427387904) (hb:b≤4611686018427387904) (hb0:0 < b):d65 (a:Int) (b:Int)=some (rr (frac a b)):=by
  have hg:0 < Nat.gcd a b:=Nat.gcd_pos_of_pos_right a hb0
  unfold d65
  rw [d122_eq a b ha hb,Option.bind_some,decide_eq_false (show ¬ ((Nat.gcd a b:Nat):Int)=0 by omega)]
  have h1:a / Nat.gcd a b≤a:=Nat.div_le_self _ _
  have h2:b / Nat.gcd a b≤b:=Nat.div_le_self _ _
  have wN:∀ A:Nat,A≤4611686018427387904→w (A:Int)=(A:Int):=fun A hA=>wi_id (by omega) (by omega)
  have e1:w (Int.tdiv (a:Int) ((Nat.gcd a b:Nat):Int))=((a / Nat.gcd a b:Nat):Int):=by rw [tdivN,wN _ (Nat.le_trans h1 ha)]
  have e2:w (Int.tdiv (b:Int) ((Nat.gcd a b:Nat):Int))=((b / Nat.gcd a b:Nat):Int):=by rw [tdivN,wN _ (Nat.le_trans h2 hb)]
  simp only [Bool.not_false,cond_true,e1,e2,d123_eq _ (Nat.le_trans h1 ha),d123_eq _ (Nat.le_trans h2 hb),Option.bind_some]
  congr 1
  rcases Nat.eq_zero_or_pos a with h0 | h0
  · subst h0
    have:frac 0 b=0:=by unfold frac; rw [Rat.div_def]; simp
    rw [this,rr_zero,Nat.gcd_zero_left,Nat.zero_div,Nat.div_self hb0,limbs_zero,limbs_pos (n:=1) (by omega)]
    simp [limbs_zero]
  · have h:=rr_make false (a:=a) (b:=b) (by omega) (by omega)
    have e:frac a b=mkRat (sgnN false a) b:=by
      unfold frac
      show _=mkRat (a:Int) b
      rw [Rat.mkRat_eq_div]
      rfl
    rw [e,h]
theorem d39_eq {a:Nat} (ha:a≤4611686018427387904):d39 (a:Int)=some (rr (a:Rat)):=by
  unfold d39
  have:=d65_eq (b:=1) ha (by omega) (by omega)
  rw [frac_one] at this
  rw [show d65 (a:Int) 1=some (rr (a:Rat)) from this]; rfl
theorem d20_eq (l:List (List Int)) (hl:l.length≤281474976710656):d20 l=some (decide (∀ x∈l,x.length≤12) && decide (l.length≤16)):=by
  unfold d20
  by_cases h:∀ x∈l,x.length≤12
  · refine while_bind (b:=.inl l) (fun i=>(l,(i:Int))) l.length rfl (fun i hi=>?_) ?_ ?_
    · have:=h _ (getD_memG (d:=[]) hi)
      simp only [dlt hi,d0le,Bool.and_self,cond_true,tn,decide_eq_false (show ¬ (12:Int) < ((l.getD i []).length:Int) by omega),cond_false,wsucc (show i < 9223372036854775807 by omega)]
    · simp only [nlt (Nat.le_refl l.length),cond_false]
    · rw [decide_eq_true h,Bool.true_and]
      exact congrArg some (decide_eq_decide.2 (by omega))
  · rw [decide_eq_false h,Bool.false_and]
    refine while_wf (Q:=fun r=>r=some false) (fun (M:Nat) (st:(List (List Int)) × Int)=>∃ i:Nat,st=(l,(i:Int))∧i+M=l.length∧∀ j,j < i→(l.getD j []).length≤12) l.length ⟨0,rfl,by omega,fun j hj=>by omega⟩ ?_
    rintro M st ⟨i,rfl,h1,h2⟩
    rcases Nat.eq_zero_or_pos M with h0 | h0
    · exfalso
      refine h fun x hx=>?_
      obtain ⟨k,hk,rfl⟩:=List.getElem_of_mem hx
      have:=h2 k (by omega)
      rw [List.getD_eq_getElem?_getD,List.getElem?_eq_getElem hk] at this
      exact this
    · have hi:i < l.length:=by omega
      simp only [dlt hi,d0le,Bool.and_self,cond_true,tn]
      by_cases hc:12 < (l.getD i []).length
      · refine .inr ⟨.inr false,by rw [decide_eq_true (show (12:Int) < ((l.getD i []).length:Int) by omega),cond_true],rfl⟩
      · refine .inl ⟨_,M - 1,by rw [decide_eq_false (show ¬ (12:Int) < ((l.getD i []).length:Int) by omega),cond_false],by omega,i+1,by rw [wsucc (by omega)],by omega,fun j hj=>?_⟩
        by_cases hji:j=i
        · rw [hji]; omega
        · exact h2 j (by omega)
theorem d72_eq {n:Nat} (hn:n≤1000):∃ l,d72 (n:Int)=some l∧l.length=n:=by
  unfold d72
  refine ⟨lst (fun i=>[wu8 (w (97+(i:Int)))]) n,?_,lst_len _ _⟩
  refine while_bind (fun i=>((n:Int),lst (fun i=>[wu8 (w (97+(i:Int)))]) i,(i:Int))) n rfl (fun i hi=>?_) ?_ rfl
  · simp only [dlt hi,cond_true,lim_app (l:=lst (fun i=>[wu8 (w (97+(i:Int)))]) i) (d:=[wu8 (w (97+(i:Int)))]) (by rw [lst_len]; omega),wsucc (show i < 9223372036854775807 by omega),lst_succ]
  · simp only [nlt (Nat.le_refl n),cond_false]
structure ConOK (c:CT) (n:Nat) (m:Int):Prop where
  names:c.2.1.length=n
  method:c.2.2.1=m
  seats1:1≤c.2.2.2.1
  seats5:c.2.2.2.1≤5
  seat:m=1→c.2.2.2.1=1
  digits:m=2→1≤c.2.2.2.2.2.1∧c.2.2.2.2.2.1≤6
  nodigits:m ≠ 2→c.2.2.2.2.2.1=0
  ties1:1≤c.2.2.2.2.2.2.1
  ties3:c.2.2.2.2.2.2.1≤3
theorem d25_eq {n:Nat} (hn:n≤1000) {m seats digits ties:Int} (hm:WT (.int .i64) m) (hs:WT (.int .i64) seats) (hd:WT (.int .i64) digits) (ht:WT (.int .i64) ties):∃ c:CT,d25 m (n:Int) seats digits ties=some c∧ConOK c n (1+m % 3)∧c.2.2.2.1=(if 1+m % 3=1 then 1 else 1+seats % 5)∧c.2.2.2.2.2.2.1=1+ties % 3:=by
  obtain ⟨l,l1,l2⟩:=d72_eq (n:=n) hn
  unfold d25
  rw [l1,d24_eq hm (by omega) (by omega),d24_eq hs (by omega) (by omega),d24_eq ht (by omega) (by omega),d24_eq hd (by omega) (by omega)]
  simp only [Option.bind_some,letJ_eq]
  have w1:w (1+m % 3)=1+m % 3:=wi_id (by omega) (by omega)
  have w2:w (1+seats % 5)=1+seats % 5:=wi_id (by omega) (by omega)
  have w3:w (1+ties % 3)=1+ties % 3:=wi_id (by omega) (by omega)
  have w4:w (1+digits % 6)=1+digits % 6:=wi_id (by omega) (by omega)
  simp only [w1,w2,w3,w4]
  have hm3:1+m % 3=1∨1+m % 3=2∨1+m % 3=3:=by omega
  rcases hm3 with h | h | h
  · rw [h]
    exact ⟨_,rfl,⟨l2,rfl,by show (1:Int)≤1; omega,by show (1:Int)≤5; omega,fun _=>rfl,fun h=>absurd h (by omega),fun _=>rfl,by show 1≤1+ties % 3; omega,by show 1+ties % 3≤3; omega⟩,rfl,rfl⟩
  · rw [h]
    exact ⟨_,rfl,⟨l2,rfl,by show 1≤1+seats % 5; omega,by show 1+seats % 5≤5; omega,fun h=>absurd h (by omega),fun _=>by show 1≤1+digits % 6∧1+digits % 6≤6; omega,fun h=>absurd rfl h,by show 1≤1+ties % 3; omega,by show 1+ties % 3≤3; omega⟩,rfl,rfl⟩
  · rw [h]
    exact ⟨_,rfl,⟨l2,rfl,by show 1≤1+seats % 5; omega,by show 1+seats % 5≤5; omega,fun h=>absurd h (by omega),fun h=>absurd h (by omega),fun _=>rfl,by show 1≤1+ties % 3; omega,by show 1+ties % 3≤3; omega⟩,rfl,rfl⟩
theorem d27_eq {n:Nat} (hn:n≤1000) {code:Int} (hc:WT (.int .i64) code):∃ l,d27 (n:Int) code=some l∧l.length=n∧isB (n:Int) l:=by
  have hwt:∀ x:Int,WT (.int .i64) x→-9223372036854775808≤x∧x≤9223372036854775807:=fun x hx=>wt_int hx
  unfold d27
  refine while_inv (Q:=fun r=>∃ l,r=some l∧l.length=n∧isB (n:Int) l) (fun (i:Nat) (st:Int × Int × (List Int) × Int)=>∃ (cd:Int) (out:List Int),st=((n:Int),cd,out,(i:Int))∧WT (.int .i64) cd∧out.length=i∧isB (i:Int) out) n ?_ ?_ ?_
  · exact ⟨code,[],rfl,hc,rfl,List.nodup_nil,fun x hx=>by simp at hx⟩
  · rintro i st hi ⟨cd,out,rfl,hcd,hlen,hb⟩
    have hcb:=hwt cd hcd
    have b:=mod_bounds cd (n:=((i+1:Nat):Int)) (by omega)
    obtain ⟨r,hr⟩:∃ r:Nat,cd % ((i+1:Nat):Int)=(r:Int):=⟨(cd % ((i+1:Nat):Int)).toNat,by omega⟩
    have hri:r≤i:=by omega
    have c1:cutOK 0 (r:Int) out.length=true:=by
      unfold cutOK
      simp only [Bool.and_eq_true,decide_eq_true_eq]
      omega
    have c2:cutOK (r:Int) (out.length:Int) out.length=true:=by
      unfold cutOK
      simp only [Bool.and_eq_true,decide_eq_true_eq]
      omega
    have hq:-9223372036854775808≤Int.tdiv cd ((i+1:Nat):Int)∧Int.tdiv cd ((i+1:Nat):Int)≤9223372036854775807:=by
      have h1:=Int.natAbs_tdiv_le_natAbs cd ((i+1:Nat):Int)
      by_cases h0:cd=-9223372036854775808
      · subst h0
        have h2:Int.tdiv (-9223372036854775808) ((i+1:Nat):Int)=-(Int.tdiv 9223372036854775808 ((i+1:Nat):Int)):=by rw [← Int.neg_tdiv]
        have h3:0≤Int.tdiv 9223372036854775808 ((i+1:Nat):Int):=Int.tdiv_nonneg (by omega) (by omega)
        omega
      · omega
    have hne:decide (((i+1:Nat):Int)=0)=false:=decide_eq_false (by omega)
    have ht:(out.take r).length=r:=by rw [List.length_take]; omega
    have l1:decide ((([]:List Int).length:Int)+((out.take r).length:Int)≤LIM)=true:=lim_two (by rw [ht]; simp; omega)
    have l2:=lim_app (l:=out.take r) (d:=(i:Int)) (by omega)
    have l3:decide (((out.take r++[(i:Int)]).length:Int)+((out.drop r).length:Int)≤LIM)=true:=lim_two (by simp; omega)
    simp only [dlt hi,cond_true,wsucc (show i < 9223372036854775807 by omega),d24_eq hcd (show (0:Int) < ((i+1:Nat):Int) by omega) (by omega),hr,Option.bind_some,hne,Bool.not_false,c1,c2,List.drop_zero,tn,List.take_length,l1,l2,l3]
    refine ⟨_,rfl,_,_,rfl,?_,by simp; omega,?_,fun x hx=>?_⟩
    · rw [wi_id hq.1 hq.2]
      exact wi_id hq.1 hq.2
    · have hp:(out.take r++[(i:Int)]++out.drop r).Perm ((i:Int)::out):=by
        have h1:(out.take r++[(i:Int)]++out.drop r).Perm ([(i:Int)]++out.take r++out.drop r):=List.Perm.append_right _ List.perm_append_comm
        have h2:[(i:Int)]++out.take r++out.drop r=(i:Int)::out:=by rw [List.append_assoc,List.take_append_drop]; rfl
        rwa [h2] at h1
      refine hp.nodup_iff.2 (List.nodup_cons.2 ⟨fun hm=>?_,hb.1⟩)
      have:=hb.2 _ hm
      omega
    · simp only [List.mem_append,List.mem_singleton] at hx
      rcases hx with (hx | hx) | hx
      · have:=hb.2 x (List.mem_of_mem_take hx); omega
      · omega
      · have:=hb.2 x (List.mem_of_mem_drop hx); omega
  · rintro st ⟨cd,out,rfl,hcd,hlen,hb⟩
    exact ⟨out,by simp only [nlt (Nat.le_refl n),cond_false],out,rfl,hlen,hb⟩
theorem fitE_made {c:CT} {n:Nat} {m:Int} {gs:List Grp} {lots:List Int} {N:Int} (hc:ConOK c n m) (hm:1≤m) (hm3:m≤3) (h1:1≤n) (h7:n≤7) (hp:PileOK (n:Int) gs N) (hl:lots.length=n) (hb:isB (n:Int) lots):fitE m c gs lots=0:=by
  have hn:=hc.names
  have hpb:pileB (n:Int) gs=true:=by
    unfold pileB goodP
    rw [decide_eq_true hp.good,decide_eq_true (show 1≤(n:Int)∧(n:Int)≤7 by omega)]; rfl
  have hqb:permB (n:Int) lots=true:=by
    unfold permB
    rw [decide_eq_true hb,decide_eq_true (by omega)]; rfl
  have:=hc.seats1
  have:=hc.seats5
  have:=hc.ties1
  have:=hc.ties3
  unfold fitE
  rw [hn,hpb,hqb]
  simp only [decide_eq_false (show ¬ m < 1 by omega),decide_eq_false (show ¬ 3 < m by omega),decide_eq_true hc.method,decide_eq_false (show ¬ (n:Int) < 1 by omega),decide_eq_false (show ¬ 7 < (n:Int) by omega),decide_eq_false (show ¬ c.2.2.2.1 < 1 by omega),decide_eq_false (show ¬ 5 < c.2.2.2.1 by omega),decide_eq_false (show ¬ c.2.2.2.2.2.2.1 < 1 by omega),decide_eq_false (show ¬ 3 < c.2.2.2.2.2.2.1 by omega),Bool.not_true,Bool.or_false,Bool.false_or,cond_false]
  have h1:(decide (m=1) && !decide (c.2.2.2.1=1))=false:=by
    by_cases h:m=1
    · rw [decide_eq_true (hc.seat h)]; simp
    · rw [decide_eq_false h]; rfl
  have h2:(bif decide (m=2) then decide (1≤c.2.2.2.2.2.1) && decide (c.2.2.2.2.2.1≤6) else decide (c.2.2.2.2.2.1=0))=true:=by
    by_cases h:m=2
    · rw [decide_eq_true h,cond_true,decide_eq_true (hc.digits h).1,decide_eq_true (hc.digits h).2]; rfl
    · rw [decide_eq_false h,cond_false,decide_eq_true (hc.nodigits h)]
  rw [h1,h2]
  rfl
def awG:GP:={ gs:=[([0,1],6),([2],3)],n:=3,seats:=2,q:=4,tot:=9,ties:=3,lots:=[0,1,2] }
theorem aw_pile:pileOf [[0,1],[0,1],[0,1],[0,1],[0,1],[0,1],[2],[2],[2]]=[([0,1],6),([2],3)]:=by decide +kernel
theorem aw_count:(gcount awG).map (fun r=>(r.keep,r.exh,r.el))=[([1,1,1],0,[0]),([mkRat 1 3,1,1],0,[]),([mkRat 1 3,0,1],2,[2])]:=by decide +kernel
theorem aw_gp {c:CT} (h1:c.2.1.length=3) (h2:c.2.2.2.1=2) (h3:c.2.2.2.2.2.2.1=3):gpOf c [([0,1],6),([2],3)] [0,1,2]=awG:=by
  unfold gpOf awG
  rw [h1,h2,h3]
  have e1:(wsum isMarked [([0,1],6),([2],3)] / (2+1)+1).toNat=4:=by decide +kernel
  have e2:(wsum (fun _=>1) [([0,1],6),([2],3)]).toNat=9:=by decide +kernel
  rw [e1,e2]
  rfl
theorem d21_eq:d21=some true:=by
  have k:∀ x:Int,-9223372036854775808≤x→x≤9223372036854775807→WT (.int .i64) x:=fun x h0 h1=>wi_id h0 h1
  obtain ⟨c,c1,c2,c3,c4⟩:=d25_eq (n:=3) (by omega) (k 2 (by omega) (by omega)) (k 1 (by omega) (by omega)) (k 0 (by omega) (by omega)) (k 2 (by omega) (by omega))
  have c3':c.2.2.2.1=2:=by rw [c3]; rfl
  have c4':c.2.2.2.2.2.2.1=3:=by rw [c4]; rfl
  have hb:∀ b∈[[0,1],[0,1],[0,1],[0,1],[0,1],[0,1],[2],[2],[2]],isB 3 b:=by decide +kernel
  have h48:=d48_eq (n:=3) (by omega) (by omega) hb (by simp)
  have hp:=(pileOf_ok (n:=3) _ hb (by simp)).1
  rw [aw_pile] at h48 hp
  have hfit:fitE 3 c [([0,1],6),([2],3)] [0,1,2]=0:=fitE_made (n:=3) (m:=3) c2 (by omega) (by omega) (by omega) (by omega) hp rfl (by decide +kernel)
  have h22:=d22_eq (c:=c) (lots:=[0,1,2]) (hp.gs (by omega)) (by simp)
  rw [if_pos hfit,aw_gp c2.names c3' c4'] at h22
  unfold d21
  have c1':d25 2 3 1 0 2=some c:=c1
  rw [h48,Option.bind_some,c1',Option.bind_some,h22,Option.bind_some]
  have hL:(gcount awG).length=3:=by have:=congrArg List.length aw_count; simpa using this
  obtain ⟨r0,r1,r2,hr⟩:∃ r0 r1 r2,gcount awG=[r0,r1,r2]:=by
    match h:gcount awG,hL with
    | [a,b,c],_=>exact ⟨a,b,c,rfl⟩
  have hc:=aw_count
  rw [hr] at hc
  simp only [List.map_cons,List.map_nil,List.cons.injEq,Prod.mk.injEq,and_true] at hc
  obtain ⟨⟨a1,a2,a3⟩,⟨b1,b2,b3⟩,⟨e1,e2,e3⟩⟩:=hc
  have hT:trT awG=(3,2,0,3,[rdT r0,rdT r1,rdT r2],[0,2]):=by
    unfold trT
    rw [hr]
    simp only [List.map_cons,List.map_nil,List.flatMap_cons,List.flatMap_nil,a3,b3,e3]
    rfl
  rw [hT,letJ_eq]
  have f38:d38 [0,2] [0,2]=some true:=by rw [d38_eq (by simp) (by simp)]; rfl
  have f65:d65 1 3=some (rr (mkRat 1 3)):=by
    have:=d65_eq (a:=1) (b:=3) (by omega) (by omega) (by omega)
    rw [show frac 1 3=mkRat 1 3 by decide +kernel] at this
    exact this
  have f39:d39 2=some (rr 2):=d39_eq (a:=2) (by omega)
  have f30:d30 9 2=some 4:=by rw [d30_eq (by omega) (by omega) (by omega) (by omega)]; rfl
  have hk:(rdT r1).2.1=[rr (mkRat 1 3),rr 1,rr 1]:=by
    show r1.keep.map rr=_
    rw [b1]; rfl
  have hx:(rdT r2).2.2.2.1=rr 2:=by
    show rr r2.exh=_
    rw [e2]
  have g1:d37 (rr (mkRat 1 3)) (rr (mkRat 1 3))=some true:=by
    rw [d37_rr (Bz.sz2 ⟨Nat.lt_of_le_of_lt (show (mkRat 1 3).num.natAbs≤1 by decide +kernel) (Nat.one_lt_two_pow (by decide)),Nat.lt_of_le_of_lt (show (mkRat 1 3).den≤2 ^ 2 by decide +kernel) (Nat.pow_lt_pow_right (by decide) (by decide))⟩),decide_eq_true rfl]
  have g2:d37 (rr 2) (rr 2)=some true:=by
    have h:=d37_rr (x:=((2:Nat):Rat)) (y:=((2:Nat):Rat)) (bz_nat (n:=2) (by decide)).sz2
    rw [decide_eq_true rfl] at h
    exact h
  simp only [f38,f65,f39,f30,List.getD_cons_succ,List.getD_cons_zero,hk,hx,g1,g2,Option.bind_some,List.length_cons,List.length_nil]
  rfl
end Go.Proofs.YtmipjomnjkmdbaaGreat
set_option linter.unusedSimpArgs false
set_option linter.unusedVariables false
namespace Go.Proofs.YtmipjomnjkmdbaaGreat
open Go Go.X
inductive Tr (P:GP):GS→List Rd→List Rd→Prop
  | fin {s:GS} {rs:List Rd}:Run P s rs→s.fin P=true→Tr P s rs [s.done P]
  | trans {s:GS} {rs rest:List Rd}:Run P s rs→s.fin P=false→s.most P=true→Tr P (s.trans P (rs.map Rd.votes)) (rs++[{ s.rd0 P with ti:=s.tiedR P }]) rest→Tr P s rs ({ s.rd0 P with ti:=s.tiedR P }::rest)
  | excl {s:GS} {rs rest:List Rd}:Run P s rs→s.fin P=false→s.most P=false→Tr P (s.excl P (rs.map Rd.votes)) (rs++[{ s.rd0 P with ti:=s.tiedR P,ex:=[s.pick P (rs.map Rd.votes)] }]) rest→Tr P s rs ({ s.rd0 P with ti:=s.tiedR P,ex:=[s.pick P (rs.map Rd.votes)] }::rest)
theorem tr_ex {P:GP} (hP:P.OK):∀ (m:Nat) {s:GS} {rs:List Rd},s.meas P < m→Run P s rs→∃ rest,Tr P s rs rest∧rs++rest=gcount P
  | 0,_,_,h,_=>by omega
  | m+1,s,rs,h,hR=>by
    cases hf:s.fin P with
    | true=>exact ⟨_,.fin hR hf,hR.fin hf⟩
    | false =>
      cases hm:s.most P with
      | true =>
        have hme:=trans_meas hP hR.inv hf hm (rs.map Rd.votes)
        obtain ⟨rest,h1,h2⟩:=tr_ex hP m (by omega) (hR.trans hP hf hm)
        exact ⟨_,.trans hR hf hm h1,by rw [← h2,List.append_assoc]; rfl⟩
      | false =>
        have hme:=excl_meas hP hR.inv hf hm (rs.map Rd.votes)
        obtain ⟨rest,h1,h2⟩:=tr_ex hP m (by omega) (hR.excl hP hf hm)
        exact ⟨_,.excl hR hf hm h1,by rw [← h2,List.append_assoc]; rfl⟩
theorem gcount_tr {P:GP} (hP:P.OK):Tr P g0 [] (gcount P):=by
  obtain ⟨rest,h1,h2⟩:=tr_ex hP (g0.meas P+1) (by omega) (Run.start hP)
  rw [List.nil_append] at h2
  rwa [h2] at h1
variable {P:GP} {s:GS}
theorem Tr.run {rs rest:List Rd} (h:Tr P s rs rest):Run P s rs:=by
  cases h <;> assumption
theorem Tr.ne {rs rest:List Rd} (h:Tr P s rs rest):rest ≠ []:=by
  cases h <;> simp
theorem trans_st (hP:P.OK) (hI:GI P s) (hf:s.fin P=false) (hm:s.most P=true) (E:List (List Rat)):∃ x,x < P.n∧s.st1 P x=1∧s.pick P E=(x:Int)∧s.trans P E=s.move P (upd (s.st1 P) x 2) (upd s.keep x (frac (s.vt P x - s.bar P) (s.vt P x))) x (s.vt P x - s.bar P) (s.vt P x):=by
  obtain ⟨x,x1,x2,x3⟩:=pick_ok hP hI hf E
  rw [hm,if_pos rfl] at x3
  exact ⟨x,x2,x3,x1,by unfold GS.trans; simp only [x1,Int.toNat_natCast]⟩
theorem excl_st (hP:P.OK) (hI:GI P s) (hf:s.fin P=false) (hm:s.most P=false) (E:List (List Rat)):∃ x,x < P.n∧s.st1 P x=0∧s.pick P E=(x:Int)∧s.excl P E=s.move P (upd (s.st1 P) x 3) (upd s.keep x 0) x 1 1:=by
  obtain ⟨x,x1,x2,x3⟩:=pick_ok hP hI hf E
  rw [hm] at x3
  exact ⟨x,x2,by simpa using x3,x1,by unfold GS.excl; simp only [x1,Int.toNat_natCast]⟩
theorem gcount_ne (hP:P.OK):gcount P ≠ []:=(gcount_tr hP).ne
def GS.exh (P:GP) (s:GS):Nat:=P.tot * s.D - sumN (s.vt P) P.n
end Go.Proofs.YtmipjomnjkmdbaaGreat
set_option linter.unusedSimpArgs false
set_option linter.unusedVariables false
namespace Go.Proofs.YtmipjomnjkmdbaaGreat
open Go Go.X
structure Cnt (n:Nat) (c:CT) (gs:List Grp) (lots:List Int) (N:Int):Prop where
  con:ConOK c n 3
  n1:1≤n
  n7:n≤7
  pile:PileOK (n:Int) gs N
  len:lots.length=n
  perm:isB (n:Int) lots
  fit:fitE 3 c gs lots=0
  ok:(gpOf c gs lots).OK
  cands:(gpOf c gs lots).n=n
  seats:c.2.2.2.1=((gpOf c gs lots).seats:Int)
  tot:((gpOf c gs lots).tot:Int)=N
theorem Cnt.mk' {n:Nat} {c:CT} {gs:List Grp} {lots:List Int} {N:Int} (hc:ConOK c n 3) (h1:1≤n) (h7:n≤7) (hp:PileOK (n:Int) gs N) (hl:lots.length=n) (hb:isB (n:Int) lots):Cnt n c gs lots N:=by
  have hf:=fitE_made hc (by omega) (by omega) h1 h7 hp hl hb
  obtain ⟨k1,k2,k3,k4,_,_⟩:=gpOf_ok hf
  refine ⟨hc,h1,h7,hp,hl,hb,hf,k1,hc.names,k3,?_⟩
  have h67:=hp.d67 (by omega)
  rw [h67] at k4
  have:=Option.some.inj k4
  rw [← this]; exact hp.total
theorem Cnt.d22 {n:Nat} {c:CT} {gs:List Grp} {lots:List Int} {N:Int} (h:Cnt n c gs lots N):d22 c gs lots=some (trT (gpOf c gs lots),0):=by
  have hl:=h.len
  have h7:=h.n7
  rw [d22_eq (h.pile.gs (by omega)) (by omega),if_pos h.fit]
theorem d31_eq {n:Nat} (h1:1≤n) (h7:n≤7) {seats ties code:Int} {l:List (List Int)} (hs:WT (.int .i64) seats) (ht:WT (.int .i64) ties) (hc:WT (.int .i64) code) (hl:l.length≤281474976710656) (hw:∀ x∈l,WT (.slice (.int .i64)) x) :
    ∃ c lots,d31 (n:Int) seats ties code l=some (c,pileOf (bals (n:Int) l 16),trT (gpOf c (pileOf (bals (n:Int) l 16)) lots),0)∧Cnt n c (pileOf (bals (n:Int) l 16)) lots ((bals (n:Int) l 16).length:Int)∧d27 (n:Int) code=some lots∧c.2.2.2.1=1+seats % 5∧c.2.2.2.2.2.2.1=1+ties % 3∧d25 2 (n:Int) seats 0 ties=some c:=by
  have k:∀ x:Int,-9223372036854775808≤x→x≤9223372036854775807→WT (.int .i64) x:=fun x h0 h1=>wi_id h0 h1
  obtain ⟨c,c1,c2,c3,c4⟩:=d25_eq (n:=n) (by omega) (k 2 (by omega) (by omega)) hs (k 0 (by omega) (by omega)) ht
  obtain ⟨lots,l1,l2,l3⟩:=d27_eq (n:=n) (by omega) hc
  have hpl:=pileOf_ok (n:=(n:Int)) (bals (n:Int) l 16) (bals_isB (n:=(n:Int)) (by omega) (l:=l) (most:=16)) (by have:=@bals_len (n:Int) l 16; omega)
  have hC:=Cnt.mk' (c:=c) c2 h1 h7 hpl.1 l2 l3
  refine ⟨c,lots,?_,hC,l1,by rw [c3]; rfl,c4,c1⟩
  unfold d31
  rw [c1,Option.bind_some,show d26 (n:Int) l 16=some (pileOf (bals (n:Int) l 16)) from d26_eq (n:=(n:Int)) (by omega) (by omega) hl hw (most:=16) (by omega),Option.bind_some,l1,Option.bind_some,hC.d22]
  rfl
variable {P:GP} {s:GS}
theorem Tr.drop:∀ {i:Nat} {s:GS} {rs rest:List Rd},Tr P s rs rest→i < rest.length→∃ s' rs',Tr P s' rs' (rest.drop i)
  | 0,s,rs,rest,h,_=>⟨s,rs,h⟩
  | i+1,s,rs,rest,h,hi=>by
    cases h with
    | fin hR hf=>simp at hi
    | trans hR hf hm h=>exact Tr.drop (i:=i) h (by simpa using hi)
    | excl hR hf hm h=>exact Tr.drop (i:=i) h (by simpa using hi)
def rd0:Rd:=⟨[],[],0,0,0,[],[],[]⟩
theorem drop_getD {α:Type} {l:List α} {i:Nat} (d:α) (h:i < l.length):l.drop i=l.getD i d::l.drop (i+1):=by
  rw [List.getD_eq_getElem?_getD,List.getElem?_eq_getElem h]
  exact List.drop_eq_getElem_cons h
structure StR (P:GP) (s:GS) (r:Rd):Prop where
  inv:GI P s
  keepOK:∀ i,i < P.n→Bz eB (s.keep i)
  votes:r.votes=lst (fun i=>frac (s.vt P i) s.D) P.n
  keep:r.keep=lst s.keep P.n
  quota:r.quota=(P.q:Rat)
  exh:r.exh=frac (s.exh P) s.D
  one:∀ i,i < P.n→s.st i=0∨s.st i=1→s.keep i=1
  el:∀ i,i < P.n→s.el1 P i=true→(i:Int)∈r.el
theorem done_el (P:GP) (s:GS):∀ i,i < P.n→s.el1 P i=true→(i:Int)∈(s.done P).el:=by
  intro i hi h
  show (i:Int)∈(if _ then _ else _)
  split
  · exact mem_selI.2 ⟨i,rfl,hi,by rw [h]; rfl⟩
  · exact mem_selI.2 ⟨i,rfl,hi,h⟩
theorem rd0_el (P:GP) (s:GS):∀ i,i < P.n→s.el1 P i=true→(i:Int)∈(s.rd0 P).el:=fun i hi h=>mem_selI.2 ⟨i,rfl,hi,h⟩
theorem Tr.head {rs rest:List Rd} {r:Rd} (h:Tr P s rs (r::rest)):StR P s r:=by
  have hR:=h.run
  cases h with
  | fin=>exact ⟨hR.inv,hR.ok.keep,rfl,rfl,rfl,rfl,hR.one,done_el P s⟩
  | trans=>exact ⟨hR.inv,hR.ok.keep,rfl,rfl,rfl,rfl,hR.one,rd0_el P s⟩
  | excl=>exact ⟨hR.inv,hR.ok.keep,rfl,rfl,rfl,rfl,hR.one,rd0_el P s⟩
inductive Stp (P:GP) (s:GS) (r:Rd) (s':GS):Prop
  | trans (E:List (List Rat)):s.fin P=false→s.most P=true→s'=s.trans P E→r.ex=[]→Stp P s r s'
  | excl (E:List (List Rat)):s.fin P=false→s.most P=false→s'=s.excl P E→r.ex=[s.pick P E]→Stp P s r s'
theorem Tr.next {rs rest:List Rd} {r r':Rd} (h:Tr P s rs (r::r'::rest)):∃ s',Stp P s r s'∧StR P s' r':=by
  cases h with
  | trans hR hf hm h=>exact ⟨_,.trans _ hf hm rfl rfl,h.head⟩
  | excl hR hf hm h=>exact ⟨_,.excl _ hf hm rfl rfl,h.head⟩
theorem round_next (hP:P.OK) {i:Nat} (h:i+1 < (gcount P).length):∃ s s',StR P s ((gcount P).getD i rd0)∧StR P s' ((gcount P).getD (i+1) rd0)∧Stp P s ((gcount P).getD i rd0) s':=by
  obtain ⟨s,rs,ht⟩:=(gcount_tr hP).drop (show i < _ by omega)
  rw [drop_getD rd0 (show i < _ by omega),drop_getD rd0 h] at ht
  obtain ⟨s',h1,h2⟩:=ht.next
  exact ⟨s,s',ht.head,h2,h1⟩
theorem Bz.big {q:Rat} (h:Bz eB q):Bz 268435456 q:=h.mono (by decide)
theorem rdsT_getD {i:Nat} (h:i < (gcount P).length) (d:RD):((gcount P).map rdT).getD i d=rdT ((gcount P).getD i rd0):=by
  rw [List.getD_eq_getElem?_getD,List.getElem?_map,List.getElem?_eq_getElem h,List.getD_eq_getElem?_getD,List.getElem?_eq_getElem h]; rfl
theorem gcount_len (hP:P.OK):(gcount P).length≤1000:=by
  have key:∀ (k:Nat) (rs:List Rd) (s:GS),(grun P k rs s).length≤rs.length+k:=by
    intro k
    induction k with
    | zero=>intro rs s; exact Nat.le_refl _
    | succ k ih =>
      intro rs s
      rw [grun]
      split
      · rename_i r _
        simp
      · rename_i r s' _
        have:=ih (rs++[r]) s'
        rw [List.length_append] at this
        simp at this
        omega
  have hk:=key (P.n+1) [] g0
  have hn7:=hP.n7
  have e:gcount P=grun P (P.n+1) [] g0:=rfl
  rw [e]
  simp only [List.length_nil] at hk
  omega
end Go.Proofs.YtmipjomnjkmdbaaGreat
set_option linter.unusedSimpArgs false
set_option linter.unusedVariables false
namespace Go.Proofs.YtmipjomnjkmdbaaGreat
open Go Go.X
variable {P:GP} {s:GS}
theorem vt_two {c:Nat} (h:s.st c=2):s.vt P c=s.bar P:=by unfold GS.vt; rw [if_pos h]
theorem keep_quota (hI:GI P s) {v:Nat} (hb:s.bar P≤v) (hv:0 < v):frac v s.D * (1+-frac (v - s.bar P) v)=(P.q:Rat):=by
  have e1:(1:Rat)=frac v v:=by
    have:=frac_self (q:=1) hv
    rw [Nat.one_mul] at this
    exact this.symm
  have e2:(1:Rat)+-frac (v - s.bar P) v=frac (s.bar P) v:=by
    rw [← Rat.sub_eq_add_neg,e1,frac_sub hv (Nat.sub_le _ _),show v - (v - s.bar P)=s.bar P by omega]
  rw [e2,frac_mul_frac hI.D0 hv,Nat.mul_comm v,frac_cancel hI.D0 hv,q_frac hI]
theorem frac_ne_one {a b:Nat} (hb:0 < b) (h:a ≠ b):frac a b ≠ 1:=by
  intro e
  have e1:(1:Rat)=frac b b:=by
    have:=frac_self (q:=1) hb
    rw [Nat.one_mul] at this
    exact this.symm
  rw [e1,frac_inj hb] at e
  exact h e
structure StpK (P:GP) (s s':GS) (r r':Rd) (x:Nat):Prop where
  lt:x < P.n
  same:∀ i,i < P.n→i ≠ x→s'.keep i=s.keep i
  one:s.keep x=1
  how:(r.ex=[(x:Int)]∧s'.keep x=0)∨(r.ex=[]∧s'.keep x ≠ 1∧frac (s.vt P x) s.D * (1+-(s'.keep x))=(P.q:Rat)∧frac (s'.vt P x) s'.D=(P.q:Rat))
theorem stp_keep (hP:P.OK) {r r':Rd} {s':GS} (h1:StR P s r) (h2:StR P s' r') (h:Stp P s r s'):∃ x,StpK P s s' r r' x:=by
  have hI:=h1.inv
  cases h with
  | trans E hf hm he hx =>
    obtain ⟨x,x1,x2,x3,x4⟩:=trans_st hP hI hf hm E
    obtain ⟨k1,k2,k3⟩:=st1_one hI x1 x2
    have hb:=bar_pos hP hI
    rw [he,x4]
    refine ⟨x,x1,fun i hi hne=>upd_ne _ _ hne,h1.one x x1 k1,.inr ⟨hx,?_,?_,?_⟩⟩
    · show upd s.keep x _ x ≠ 1
      rw [upd_self]
      exact frac_ne_one (by omega) (by omega)
    · show frac _ _ * (1+-(upd s.keep x _ x))=_
      rw [upd_self]
      exact keep_quota hI k3 (by omega)
    · have hI2:=h2.inv
      rw [he,x4] at hI2
      have:(s.move P (upd (s.st1 P) x 2) (upd s.keep x (frac (s.vt P x - s.bar P) (s.vt P x))) x (s.vt P x - s.bar P) (s.vt P x)).vt P x=(s.move P (upd (s.st1 P) x 2) (upd s.keep x (frac (s.vt P x - s.bar P) (s.vt P x))) x (s.vt P x - s.bar P) (s.vt P x)).bar P:=vt_two (show upd (s.st1 P) x 2 x=2 from upd_self _ _ _)
      rw [this,q_frac hI2]
  | excl E hf hm he hx =>
    obtain ⟨x,x1,x2,x3,x4⟩:=excl_st hP hI hf hm E
    have hst:s.st x=0∨s.st x=1:=by
      rcases st1_cases (P:=P) (s:=s) x with ⟨h0,k1,k2,_⟩ | ⟨h0,k2⟩ <;> omega
    rw [he,x4]
    refine ⟨x,x1,fun i hi hne=>upd_ne _ _ hne,h1.one x x1 hst,.inl ⟨by rw [hx,x3],?_⟩⟩
    show upd s.keep x 0 x=0
    rw [upd_self]
set_option maxHeartbeats 1000000 in
theorem d6_true {p0 p1 p2 p3:Int} {p4:List (List Int)} (h0:WT (.int .i64) p0) (h1:WT (.int .i64) p1) (h2:WT (.int .i64) p2) (h3:WT (.int .i64) p3) (hl:p4.length≤281474976710656) (hw:∀ x∈p4,WT (.slice (.int .i64)) x):d6 p0 p1 p2 p3 p4=some true:=by
  unfold d6
  rw [d20_eq p4 hl,Option.bind_some]
  cases hfew:(decide (∀ x∈p4,x.length≤12) && decide (p4.length≤16))
  · rw [d21_eq]; rfl
  rw [Bool.not_true,cond_false,d24_eq h0 (by omega) (by omega),Option.bind_some]
  have b:=mod_bounds p0 (n:=7) (by omega)
  obtain ⟨n,hn⟩:∃ n:Nat,1+p0 % 7=(n:Int):=⟨(1+p0 % 7).toNat,by omega⟩
  have hw1:w (1+p0 % 7)=(n:Int):=by rw [wi_id (by omega) (by omega)]; exact hn
  rw [hw1]
  obtain ⟨c,lots,e31,hC,_,cs,ct,_⟩:=d31_eq (n:=n) (by omega) (by omega) h1 h2 h3 hl hw
  rw [e31,Option.bind_some]
  generalize pileOf (bals (n:Int) p4 16)=gs at hC ⊢
  have hP:=hC.ok
  have hPn:=hC.cands
  generalize gpOf c gs lots=P at hP hPn ⊢
  clear hC
  subst hPn
  have hne:=List.length_pos_iff.2 (gcount_ne hP)
  have hlen:=gcount_len hP
  have hn7:=hP.n7
  have hone:d33 1=some (qb 1):=d33_eq (n:=1) (by omega) (by omega)
  have hTr:(trT P).2.2.2.2.1=(gcount P).map rdT:=rfl
  have hTl:((gcount P).map rdT).length=(gcount P).length:=List.length_map ..
  rw [letJ_eq]
  simp only [decide_true,Bool.not_true,Bool.not_false,cond_true,hTr,hTl,decide_eq_false (show ¬ (((gcount P).length:Nat):Int) < 1 by omega),cond_false,hone,Option.bind_some]
  obtain ⟨M,hM⟩:∃ M,(gcount P).length=M+1:=⟨(gcount P).length - 1,by omega⟩
  refine while_bind (fun i=>((P.n:Int),trT P,qb 1,(i:Int))) M rfl (fun i hi=>?_) (b:=(Sum.inl ():Unit ⊕ Bool)) ?_ (by simp only [d21_eq,Option.bind_some])
  · have hi0:i < (gcount P).length:=by omega
    have hi1:i+1 < (gcount P).length:=by omega
    obtain ⟨s,s',hS,hS',hstp⟩:=round_next hP hi1
    obtain ⟨x,hK⟩:=stp_keep hP hS hS' hstp
    have hI:=hS.inv
    have hI':=hS'.inv
    have hxn:=hK.lt
    have hv:(rdT ((gcount P).getD i rd0)).1=lst (fun i=>rr (frac (s.vt P i) s.D)) P.n:=by
      show (((gcount P).getD i rd0).votes).map rr=_
      rw [hS.votes,lst_map]
    have hv':(rdT ((gcount P).getD (i+1) rd0)).1=lst (fun i=>rr (frac (s'.vt P i) s'.D)) P.n:=by
      show (((gcount P).getD (i+1) rd0).votes).map rr=_
      rw [hS'.votes,lst_map]
    have hk:(rdT ((gcount P).getD i rd0)).2.1=lst (fun i=>rr (s.keep i)) P.n:=by
      show (((gcount P).getD i rd0).keep).map rr=_
      rw [hS.keep,lst_map]
    have hk':(rdT ((gcount P).getD (i+1) rd0)).2.1=lst (fun i=>rr (s'.keep i)) P.n:=by
      show (((gcount P).getD (i+1) rd0).keep).map rr=_
      rw [hS'.keep,lst_map]
    have hq:(rdT ((gcount P).getD i rd0)).2.2.1=rr (P.q:Rat):=by
      show rr ((gcount P).getD i rd0).quota=_
      rw [hS.quota]
    have hq':(rdT ((gcount P).getD (i+1) rd0)).2.2.1=rr (P.q:Rat):=by
      show rr ((gcount P).getD (i+1) rd0).quota=_
      rw [hS'.quota]
    have hex:(rdT ((gcount P).getD i rd0)).2.2.2.2.2.2.1=((gcount P).getD i rd0).ex:=rfl
    have hw2:w ((i:Int)+1)=((i+1:Nat):Int):=wsucc (by omega)
    have hqb:=quo_small hP
    have h37q:d37 (rr (P.q:Rat)) (rr (P.q:Rat))=some true:=by rw [d37_rr hqb.sz2,decide_eq_true rfl]
    generalize hR:rdT ((gcount P).getD i rd0)=R at *
    generalize hR':rdT ((gcount P).getD (i+1) rd0)=R' at *
    have hgR:∀ d,((gcount P).map rdT).getD i d=R:=fun d=>by rw [rdsT_getD hi0,hR]
    have hgR':∀ d,((gcount P).map rdT).getD (i+1) d=R':=fun d=>by rw [rdsT_getD hi1,hR']
    simp only [hTr,hTl,hw2,dlt hi1,dlt hi0,d0le,Bool.and_self,cond_true,tn,letJ_eq,hgR,hgR',hk,hk',hv,hv',hq,hq',lst_len,decide_true,Bool.not_true,Bool.not_false,h37q,Option.bind_some,cond_false]
    refine while_bind (fun k=>((P.n:Int),trT P,qb 1,(i:Int),R,R',(if x < k then 1 else 0:Int),(k:Int))) P.n rfl (fun k hkn=>?_) (b:=.inl ((P.n:Int),trT P,qb 1,(i:Int),1)) ?_ ?_
    · have hb1:=hS.keepOK k hkn
      have hb2:=hS'.keepOK k hkn
      simp only [dlt hkn,cond_true,hk,hk',lst_len,d0le,Bool.and_self,tn,lst_getD (fun i=>rr (s.keep i)) hkn,lst_getD (fun i=>rr (s'.keep i)) hkn,d37_rr hb1.sz2,Option.bind_some,wsucc (show k < 9223372036854775807 by omega)]
      by_cases hkx:k=x
      · subst hkx
        have hks:¬ s.keep k=s'.keep k:=by
          rw [hK.one]
          rcases hK.how with ⟨_,h⟩ | ⟨_,h,_⟩
          · rw [h]; decide
          · exact fun e=>h e.symm
        have ht:(if k < k then 1 else 0:Int)=0:=if_neg (by omega)
        have ht':(if k < k+1 then 1 else 0:Int)=1:=if_pos (by omega)
        have hw0:w ((0:Int)+1)=1:=wi_id (by omega) (by omega)
        rw [decide_eq_false hks,cond_false,ht,ht']
        have hexl:R.2.2.2.2.2.2.1.length≤281474976710656:=by
          rw [hex]
          rcases hK.how with ⟨h,_⟩ | ⟨h,_⟩ <;> rw [h] <;> simp
        rw [d38_eq hexl (by simp),Option.bind_some]
        rcases hK.how with ⟨h4,h5⟩ | ⟨h4,h5,h6,h7⟩
        · rw [hex,h4,decide_eq_true rfl,cond_true]
          have hz:d39 0=some (rr 0):=d39_eq (a:=0) (by omega)
          have h37:d37 (rr (s'.keep k)) (rr 0)=some true:=by
            rw [h5,d37_rr bz_zero.sz2,decide_eq_true rfl]
          simp only [hz,h37,Option.bind_some,Bool.not_true,cond_false,hw0]
        · rw [hex,h4,decide_eq_false (show ¬ ([]:List Int)=[(k:Int)] by simp),cond_false]
          have hvb:=frac_small hP hI (vt_le hP hI hkn)
          have hvb':=frac_small hP hI' (vt_le hP hI' hkn)
          have hb1':Bz 268435456 (1:Rat):=by
            have:=(bz_nat (n:=1) (by decide)).big
            exact this
          have hsum:∃ B,B≤268435456∧Bz B (1+-(s'.keep k)):=by
            refine ⟨eB+1,by decide,?_⟩
            obtain ⟨a1,a2⟩:=hb2.neg
            have e:(1:Rat)+-(s'.keep k)=mkRat ((1:Rat).num * (-(s'.keep k)).den+(-(s'.keep k)).num * (1:Rat).den) ((1:Rat).den * (-(s'.keep k)).den):=add_mk.symm
            have hd0:(-(s'.keep k)).den ≠ 0:=(-(s'.keep k)).den_nz
            have e2:(1:Rat).num * ((-(s'.keep k)).den:Int)+(-(s'.keep k)).num * ((1:Rat).den:Int)=(((-(s'.keep k)).den:Nat):Int)+(-(s'.keep k)).num:=by
              show 1 * _+_ * 1=_
              omega
            have e3:(1:Rat).den * (-(s'.keep k)).den=(-(s'.keep k)).den:=Nat.one_mul _
            rw [e2,e3] at e
            rw [e]
            generalize (-(s'.keep k)).num=A at *
            generalize (-(s'.keep k)).den=D at *
            have hpow:2 ^ eB+2 ^ eB≤2 ^ (eB+1):=by
              rw [Nat.pow_succ]; omega
            unfold Bz
            rw [Rat.num_mkRat,Rat.den_mkRat,if_neg hd0,if_neg hd0]
            constructor
            · refine Nat.lt_of_le_of_lt (Int.natAbs_ediv_le_natAbs _ _) ?_
              omega
            · refine Nat.lt_of_le_of_lt (Nat.div_le_self _ _) ?_
              omega
          obtain ⟨B,hB1,hB2⟩:=hsum
          have hex0:R.2.2.2.2.2.2.1=[]:=by rw [hex,h4]
          have hc0:cmpQ (P.q:Rat) (P.q:Rat)=0:=by unfold cmpQ; rw [if_neg Rat.lt_irrefl,if_pos rfl]
          have hd34q:d34 (rr (P.q:Rat))=some (qb (P.q:Rat)):=d34_rr (hqb.mono (by decide))
          have h40:d40 (qb (frac (s.vt P k) s.D)) (qb (1+-(s'.keep k)))=some (qb (P.q:Rat)):=by
            rw [d40_qb hvb.big (hB2.mono hB1),h6]
          simp only [hv,hv',hex0,lst_len,dlt hkn,cond_true,Bool.and_self,lst_getD (fun i=>rr (frac (s.vt P i) s.D)) hkn,lst_getD (fun i=>rr (frac (s'.vt P i) s'.D)) hkn,d34_rr (hvb.mono (show eB≤1073741824 by decide)),d34_rr (hb2.mono (show eB≤1073741824 by decide)),Option.bind_some,d41_qb (hb2.mono (show eB≤1073741824 by decide)),d35_qb hb1' hb2.neg.big,h40,List.length_nil,show decide (((0:Nat):Int)=0)=true from rfl,Bool.not_true,Bool.not_false,hq,hd34q,d36_qb hqb.big hqb.big,hc0,show decide ((0:Int)=0)=true from rfl,h7,h37q,cond_false,hw0,decide_true]
      · have hks:s.keep k=s'.keep k:=(hK.same k hkn hkx).symm
        rw [decide_eq_true hks,cond_true]
        congr 8
        by_cases hlt:x < k
        · rw [if_pos hlt,if_pos (by omega)]
        · rw [if_neg hlt,if_neg (by omega)]
    · rw [if_pos hxn]
      simp only [nlt (Nat.le_refl P.n),cond_false]
    · simp only [show decide ((1:Int)=1)=true from rfl,decide_true,Bool.not_true,cond_false,hw2]
  · simp only [hTr,hTl,hM,wsucc (show M < 9223372036854775807 by omega),nlt (Nat.le_refl (M+1)),cond_false]
end Go.Proofs.YtmipjomnjkmdbaaGreat
