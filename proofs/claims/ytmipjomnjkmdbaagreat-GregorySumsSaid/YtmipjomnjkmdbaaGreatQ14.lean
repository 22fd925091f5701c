/- Part 14 of what stands below the statement. -/
import Derived.Test.YtmipjomnjkmdbaaGreatQ13
set_option linter.unusedSimpArgs false
set_option linter.unusedVariables false
namespace Go.Proofs.YtmipjomnjkmdbaaGreat
open Go Go.X
theorem d122_eq (a b:Nat) (ha:a≤4611686018427387904) (hb:b≤4611686018427387904):d122 (a:Int) (b:Int)=some ((Nat.gcd a b:Nat):Int):=by
  unfold d122
  refine while_wf (Q:=fun r=>r=some ((Nat.gcd a b:Nat):Int)) (fun (M:Nat) (st:Int × Int)=>∃ x:Nat,st=((x:Int),(M:Int))∧x≤4611686018427387904∧M≤4611686018427387904∧Nat.gcd x M=Nat.gcd a b) b ⟨a,rfl,ha,hb,rfl⟩ ?_
  rintro M st ⟨x,rfl,h1,h2,h3⟩
  rcases Nat.eq_zero_or_pos M with h0 | h0
  · subst h0
    rw [Nat.gcd_zero_right] at h3
    exact .inr ⟨(x:Int),rfl,by rw [h3]⟩
  · have hm:=Nat.mod_lt x h0
    have e:w (Int.tmod (x:Int) (M:Int))=((x % M:Nat):Int):=by rw [tmodN,wi_id (by omega) (by omega)]
    refine .inl ⟨((M:Int),((x % M:Nat):Int)),x % M,?_,hm,M,rfl,h2,by omega,?_⟩
    · simp only [decide_eq_true (show (0:Int) < (M:Int) by omega),decide_eq_false (show ¬ (M:Int)=0 by omega),Bool.not_false,cond_true,e]
    · rw [← h3,Nat.gcd_comm x M,Nat.gcd_rec M x,Nat.gcd_comm]
theorem d123_eq (n:Nat) (h:n≤4611686018427387904):d123 (n:Int)=some (limbs n):=by
  unfold d123
  rw [wu64_nat (by omega)]
  refine while_wf (Q:=fun r=>r=some (limbs n)) (fun (M:Nat) (st:(List Int) × Int)=>∃ l:List Int,st=(l,(M:Int))∧M≤n∧l.length≤n - M∧l.length≤1000000∧l++limbs M=limbs n∧(l.length+(limbs M).length=(limbs n).length)) n ⟨[],rfl,Nat.le_refl _,by simp,by simp,rfl,by simp⟩ ?_
  rintro M st ⟨l,rfl,h1,h2,h3,h4,h5⟩
  have hln:(limbs n).length≤2:=limbs_small (by omega)
  rcases Nat.eq_zero_or_pos M with h0 | h0
  · subst h0
    rw [limbs_zero,List.append_nil] at h4
    exact .inr ⟨l,rfl,by rw [h4]⟩
  · have hp:=limbs_pos (n:=M) (by omega)
    have hl:=congrArg List.length hp
    rw [List.length_cons] at hl
    refine .inl ⟨(l++[((M % 4294967296:Nat):Int)],((M / 4294967296:Nat):Int)),M / 4294967296,?_,by omega,_,rfl,by omega,by simp; omega,by simp; omega,?_,by simp; omega⟩
    · simp only [decide_eq_true (show (0:Int) < (M:Int) by omega),cond_true,wu32_nat,lim_app (l:=l) (d:=((M % 4294967296:Nat):Int)) (by omega),shr32,wu64_nat (show M / 4294967296 < 18446744073709551616 by omega)]
    · rw [List.append_assoc,List.singleton_append,← hp,h4]
theorem d65_eq {a b:Nat} (ha:a≤4611686018427387904) (hb:b≤4611686018427387904) (hb0:0 < b):d65 (a:Int) (b:Int)=some (rr (frac a b)):=by
  have hg:0 < Nat.gcd a b:=Nat.gcd_pos_of_pos_right a hb0
  unfold d65
  rw [d122_eq a b ha hb,Option.bind_some,decide_eq_false (show ¬ ((Nat.gcd a b:Nat):Int)=0 by omega)]
  have h1:a / Nat.gcd a b≤a:=Nat.div_le_self _ _
  have h2:b / Nat.gcd a b≤b:=Nat.div_le_self _ _
  have wN:∀ A:Nat,A≤4611686018427387904→w (A:Int)=(A:Int):=fun A hA=>wi_id (by omega) (by omega)
  have e1:w (Int.tdiv (a:Int) ((Nat.gcd a b:Nat):Int))=((a / Nat.gcd a b:Nat):Int):=by rw [tdivN,wN _ (Nat.le_trans h1 ha)]
  have e2:w (Int.tdiv (b:Int) ((Nat.gcd a b:Nat):Int))=((b / Nat.gcd a b:Nat):Int):=by rw [tdivN,wN _ (Nat.le_trans h2 hb)]
  simp only [Bool.not_false,cond_true,e1,e2,d123_eq _ (Nat.le_trans h1 ha),d123_eq _ (Nat.le_trans h2 hb),Option.bind_some]
  congr 1
  rcases Nat.eq_zero_or_pos a with h0 | h0
  · subst h0
    have:frac 0 b=0:=by unfold frac; rw [Rat.div_def]; simp
    rw [this,rr_zero,Nat.gcd_zero_left,Nat.zero_div,Nat.div_self hb0,limbs_zero,limbs_pos (n:=1) (by omega)]
    simp [limbs_zero]
  · have h:=rr_make false (a:=a) (b:=b) (by omega) (by omega)
    have e:frac a b=mkRat (sgnN false a) b:=by
      unfold frac
      show _=mkRat (a:Int) b
      rw [Rat.mkRat_eq_div]
      rfl
    rw [e,h]
theorem d39_eq {a:Nat} (ha:a≤4611686018427387904):d39 (a:Int)=some (rr (a:Rat)):=by
  unfold d39
  have:=d65_eq (b:=1) ha (by omega) (by omega)
  rw [frac_one] at this
  rw [show d65 (a:Int) 1=some (rr (a:Rat)) from this]; rfl
theorem d20_eq (l:List (List Int)) (hl:l.length≤281474976710656):d20 l=some (decide (∀ x∈l,x.length≤12) && decide (l.length≤16)):=by
  unfold d20
  by_cases h:∀ x∈l,x.length≤12
  · refine while_bind (b:=.inl l) (fun i=>(l,(i:Int))) l.length rfl (fun i hi=>?_) ?_ ?_
    · have:=h _ (getD_memG (d:=[]) hi)
      simp only [dlt hi,d0le,Bool.and_self,cond_true,tn,decide_eq_false (show ¬ (12:Int) < ((l.getD i []).length:Int) by omega),cond_false,wsucc (show i < 9223372036854775807 by omega)]
    · simp only [nlt (Nat.le_refl l.length),cond_false]
    · rw [decide_eq_true h,Bool.true_and]
      exact congrArg some (decide_eq_decide.2 (by omega))
  · rw [decide_eq_false h,Bool.false_and]
    refine while_wf (Q:=fun r=>r=some false) (fun (M:Nat) (st:(List (List Int)) × Int)=>∃ i:Nat,st=(l,(i:Int))∧i+M=l.length∧∀ j,j < i→(l.getD j []).length≤12) l.length ⟨0,rfl,by omega,fun j hj=>by omega⟩ ?_
    rintro M st ⟨i,rfl,h1,h2⟩
    rcases Nat.eq_zero_or_pos M with h0 | h0
    · exfalso
      refine h fun x hx=>?_
      obtain ⟨k,hk,rfl⟩:=List.getElem_of_mem hx
      have:=h2 k (by omega)
      rw [List.getD_eq_getElem?_getD,List.getElem?_eq_getElem hk] at this
      exact this
    · have hi:i < l.length:=by omega
      simp only [dlt hi,d0le,Bool.and_self,cond_true,tn]
      by_cases hc:12 < (l.getD i []).length
      · refine .inr ⟨.inr false,by rw [decide_eq_true (show (12:Int) < ((l.getD i []).length:Int) by omega),cond_true],rfl⟩
      · refine .inl ⟨_,M - 1,by rw [decide_eq_false (show ¬ (12:Int) < ((l.getD i []).length:Int) by omega),cond_false],by omega,i+1,by rw [wsucc (by omega)],by omega,fun j hj=>?_⟩
        by_cases hji:j=i
        · rw [hji]; omega
        · exact h2 j (by omega)
theorem d72_eq {n:Nat} (hn:n≤1000):∃ l,d72 (n:Int)=some l∧l.length=n:=by
  unfold d72
  refine ⟨lst (fun i=>[wu8 (w (97+(i:Int)))]) n,?_,lst_len _ _⟩
  refine while_bind (fun i=>((n:Int),lst (fun i=>[wu8 (w (97+(i:Int)))]) i,(i:Int))) n rfl (fun i hi=>?_) ?_ rfl
  · simp only [dlt hi,cond_true,lim_app (l:=lst (fun i=>[wu8 (w (97+(i:Int)))]) i) (d:=[wu8 (w (97+(i:Int)))]) (by rw [lst_len]; omega),wsucc (show i < 9223372036854775807 by omega),lst_succ]
  · simp only [nlt (Nat.le_refl n),cond_false]
structure ConOK (c:CT) (n:Nat) (m:Int):Prop where
  names:c.2.1.length=n
  method:c.2.2.1=m
  seats1:1≤c.2.2.2.1
  seats5:c.2.2.2.1≤5
  seat:m=1→c.2.2.2.1=1
  digits:m=2→1≤c.2.2.2.2.2.1∧c.2.2.2.2.2.1≤6
  nodigits:m ≠ 2→c.2.2.2.2.2.1=0
  ties1:1≤c.2.2.2.2.2.2.1
  ties3:c.2.2.2.2.2.2.1≤3
theorem d25_eq {n:Nat} (hn:n≤1000) {m seats digits ties:Int} (hm:WT (.int .i64) m) (hs:WT (.int .i64) seats) (hd:WT (.int .i64) digits) (ht:WT (.int .i64) ties):∃ c:CT,d25 m (n:Int) seats digits ties=some c∧ConOK c n (1+m % 3)∧c.2.2.2.1=(if 1+m % 3=1 then 1 else 1+seats % 5)∧c.2.2.2.2.2.2.1=1+ties % 3:=by
  obtain ⟨l,l1,l2⟩:=d72_eq (n:=n) hn
  unfold d25
  rw [l1,d24_eq hm (by omega) (by omega),d24_eq hs (by omega) (by omega),d24_eq ht (by omega) (by omega),d24_eq hd (by omega) (by omega)]
  simp only [Option.bind_some,letJ_eq]
  have w1:w (1+m % 3)=1+m % 3:=wi_id (by omega) (by omega)
  have w2:w (1+seats % 5)=1+seats % 5:=wi_id (by omega) (by omega)
  have w3:w (1+ties % 3)=1+ties % 3:=wi_id (by omega) (by omega)
  have w4:w (1+digits % 6)=1+digits % 6:=wi_id (by omega) (by omega)
  simp only [w1,w2,w3,w4]
  have hm3:1+m % 3=1∨1+m % 3=2∨1+m % 3=3:=by omega
  rcases hm3 with h | h | h
  · rw [h]
    exact ⟨_,rfl,⟨l2,rfl,by show (1:Int)≤1; omega,by show (1:Int)≤5; omega,fun _=>rfl,fun h=>absurd h (by omega),fun _=>rfl,by show 1≤1+ties % 3; omega,by show 1+ties % 3≤3; omega⟩,rfl,rfl⟩
  · rw [h]
    exact ⟨_,rfl,⟨l2,rfl,by show 1≤1+seats % 5; omega,by show 1+seats % 5≤5; omega,fun h=>absurd h (by omega),fun _=>by show 1≤1+digits % 6∧1+digits % 6≤6; omega,fun h=>absurd rfl h,by show 1≤1+ties % 3; omega,by show 1+ties % 3≤3; omega⟩,rfl,rfl⟩
  · rw [h]
    exact ⟨_,rfl,⟨l2,rfl,by show 1≤1+seats % 5; omega,by show 1+seats % 5≤5; omega,fun h=>absurd h (by omega),fun h=>absurd h (by omega),fun _=>rfl,by show 1≤1+ties % 3; omega,by show 1+ties % 3≤3; omega⟩,rfl,rfl⟩
theorem d27_eq {n:Nat} (hn:n≤1000) {code:Int} (hc:WT (.int .i64) code):∃ l,d27 (n:Int) code=some l∧l.length=n∧isB (n:Int) l:=by
  have hwt:∀ x:Int,WT (.int .i64) x→-9223372036854775808≤x∧x≤9223372036854775807:=fun x hx=>wt_int hx
  unfold d27
  refine while_inv (Q:=fun r=>∃ l,r=some l∧l.length=n∧isB (n:Int) l) (fun (i:Nat) (st:Int × Int × (List Int) × Int)=>∃ (cd:Int) (out:List Int),st=((n:Int),cd,out,(i:Int))∧WT (.int .i64) cd∧out.length=i∧isB (i:Int) out) n ?_ ?_ ?_
  · exact ⟨code,[],rfl,hc,rfl,List.nodup_nil,fun x hx=>by simp at hx⟩
  · rintro i st hi ⟨cd,out,rfl,hcd,hlen,hb⟩
    have hcb:=hwt cd hcd
    have b:=mod_bounds cd (n:=((i+1:Nat):Int)) (by omega)
    obtain ⟨r,hr⟩:∃ r:Nat,cd % ((i+1:Nat):Int)=(r:Int):=⟨(cd % ((i+1:Nat):Int)).toNat,by omega⟩
    have hri:r≤i:=by omega
    have c1:cutOK 0 (r:Int) out.length=true:=by
      unfold cutOK
      simp only [Bool.and_eq_true,decide_eq_true_eq]
      omega
    have c2:cutOK (r:Int) (out.length:Int) out.length=true:=by
      unfold cutOK
      simp only [Bool.and_eq_true,decide_eq_true_eq]
      omega
    have hq:-9223372036854775808≤Int.tdiv cd ((i+1:Nat):Int)∧Int.tdiv cd ((i+1:Nat):Int)≤9223372036854775807:=by
      have h1:=Int.natAbs_tdiv_le_natAbs cd ((i+1:Nat):Int)
      by_cases h0:cd=-9223372036854775808
      · subst h0
        have h2:Int.tdiv (-9223372036854775808) ((i+1:Nat):Int)=-(Int.tdiv 9223372036854775808 ((i+1:Nat):Int)):=by rw [← Int.neg_tdiv]
        have h3:0≤Int.tdiv 9223372036854775808 ((i+1:Nat):Int):=Int.tdiv_nonneg (by omega) (by omega)
        omega
      · omega
    have hne:decide (((i+1:Nat):Int)=0)=false:=decide_eq_false (by omega)
    have ht:(out.take r).length=r:=by rw [List.length_take]; omega
    have l1:decide ((([]:List Int).length:Int)+((out.take r).length:Int)≤LIM)=true:=lim_two (by rw [ht]; simp; omega)
    have l2:=lim_app (l:=out.take r) (d:=(i:Int)) (by omega)
    have l3:decide (((out.take r++[(i:Int)]).length:Int)+((out.drop r).length:Int)≤LIM)=true:=lim_two (by simp; omega)
    simp only [dlt hi,cond_true,wsucc (show i < 9223372036854775807 by omega),d24_eq hcd (show (0:Int) < ((i+1:Nat):Int) by omega) (by omega),hr,Option.bind_some,hne,Bool.not_false,c1,c2,List.drop_zero,tn,List.take_length,l1,l2,l3]
    refine ⟨_,rfl,_,_,rfl,?_,by simp; omega,?_,fun x hx=>?_⟩
    · rw [wi_id hq.1 hq.2]
      exact wi_id hq.1 hq.2
    · have hp:(out.take r++[(i:Int)]++out.drop r).Perm ((i:Int)::out):=by
        have h1:(out.take r++[(i:Int)]++out.drop r).Perm ([(i:Int)]++out.take r++out.drop r):=List.Perm.append_right _ List.perm_append_comm
        have h2:[(i:Int)]++out.take r++out.drop r=(i:Int)::out:=by rw [List.append_assoc,List.take_append_drop]; rfl
        rwa [h2] at h1
      refine hp.nodup_iff.2 (List.nodup_cons.2 ⟨fun hm=>?_,hb.1⟩)
      have:=hb.2 _ hm
      omega
    · simp only [List.mem_append,List.mem_singleton] at hx
      rcases hx with (hx | hx) | hx
      · have:=hb.2 x (List.mem_of_mem_take hx); omega
      · omega
      · have:=hb.2 x (List.mem_of_mem_drop hx); omega
  · rintro st ⟨cd,out,rfl,hcd,hlen,hb⟩
    exact ⟨out,by simp only [nlt (Nat.le_refl n),cond_false],out,rfl,hlen,hb⟩
theorem fitE_made {c:CT} {n:Nat} {m:Int} {gs:List Grp} {lots:List Int} {N:Int} (hc:ConOK c n m) (hm:1≤m) (hm3:m≤3) (h1:1≤n) (h7:n≤7) (hp:PileOK (n:Int) gs N) (hl:lots.length=n) (hb:isB (n:Int) lots):fitE m c gs lots=0:=by
  have hn:=hc.names
  have hpb:pileB (n:Int) gs=true:=by
    unfold pileB goodP
    rw [decide_eq_true hp.good,decide_eq_true (show 1≤(n:Int)∧(n:Int)≤7 by omega)]; rfl
  have hqb:permB (n:Int) lots=true:=by
    unfold permB
    rw [decide_eq_true hb,decide_eq_true (by omega)]; rfl
  have:=hc.seats1
  have:=hc.seats5
  have:=hc.ties1
  have:=hc.ties3
  unfold fitE
  rw [hn,hpb,hqb]
  simp only [decide_eq_false (show ¬ m < 1 by omega),decide_eq_false (show ¬ 3 < m by omega),decide_eq_true hc.method,decide_eq_false (show ¬ (n:Int) < 1 by omega),decide_eq_false (show ¬ 7 < (n:Int) by omega),decide_eq_false (show ¬ c.2.2.2.1 < 1 by omega),decide_eq_false (show ¬ 5 < c.2.2.2.1 by omega),decide_eq_false (show ¬ c.2.2.2.2.2.2.1 < 1 by omega),decide_eq_false (show ¬ 3 < c.2.2.2.2.2.2.1 by omega),Bool.not_true,Bool.or_false,Bool.false_or,cond_false]
  have h1:(decide (m=1) && !decide (c.2.2.2.1=1))=false:=by
    by_cases h:m=1
    · rw [decide_eq_true (hc.seat h)]; simp
    · rw [decide_eq_false h]; rfl
  have h2:(bif decide (m=2) then decide (1≤c.2.2.2.2.2.1) && decide (c.2.2.2.2.2.1≤6) else decide (c.2.2.2.2.2.1=0))=true:=by
    by_cases h:m=2
    · rw [decide_eq_true h,cond_true,decide_eq_true (hc.digits h).1,decide_eq_true (hc.digits h).2]; rfl
    · rw [decide_eq_false h,cond_false,decide_eq_true (hc.nodigits h)]
  rw [h1,h2]
  rfl
def awG:GP:={ gs:=[([0,1],6),([2],3)],n:=3,seats:=2,q:=4,tot:=9,ties:=3,lots:=[0,1,2] }
theorem aw_pile:pileOf [[0,1],[0,1],[0,1],[0,1],[0,1],[0,1],[2],[2],[2]]=[([0,1],6),([2],3)]:=by decide +kernel
theorem aw_count:(gcount awG).map (fun r=>(r.keep,r.exh,r.el))=[([1,1,1],0,[0]),([mkRat 1 3,1,1],0,[]),([mkRat 1 3,0,1],2,[2])]:=by decide +kernel
theorem aw_gp {c:CT} (h1:c.2.1.length=3) (h2:c.2.2.2.1=2) (h3:c.2.2.2.2.2.2.1=3):gpOf c [([0,1],6),([2],3)] [0,1,2]=awG:=by
  unfold gpOf awG
  rw [h1,h2,h3]
  have e1:(wsum isMarked [([0,1],6),([2],3)] / (2+1)+1).toNat=4:=by decide +kernel
  have e2:(wsum (fun _=>1) [([0,1],6),([2],3)]).toNat=9:=by decide +kernel
  rw [e1,e2]
  rfl
theorem d21_eq:d21=some true:=by
  have k:∀ x:Int,-9223372036854775808≤x→x≤9223372036854775807→WT (.int .i64) x:=fun x h0 h1=>wi_id h0 h1
  obtain ⟨c,c1,c2,c3,c4⟩:=d25_eq (n:=3) (by omega) (k 2 (by omega) (by omega)) (k 1 (by omega) (by omega)) (k 0 (by omega) (by omega)) (k 2 (by omega) (by omega))
  have c3':c.2.2.2.1=2:=by rw [c3]; rfl
  have c4':c.2.2.2.2.2.2.1=3:=by rw [c4]; rfl
  have hb:∀ b∈[[0,1],[0,1],[0,1],[0,1],[0,1],[0,1],[2],[2],[2]],isB 3 b:=by decide +kernel
  have h48:=d48_eq (n:=3) (by omega) (by omega) hb (by simp)
  have hp:=(pileOf_ok (n:=3) _ hb (by simp)).1
  rw [aw_pile] at h48 hp
  have hfit:fitE 3 c [([0,1],6),([2],3)] [0,1,2]=0:=fitE_made (n:=3) (m:=3) c2 (by omega) (by omega) (by omega) (by omega) hp rfl (by decide +kernel)
  have h22:=d22_eq (c:=c) (lots:=[0,1,2]) (hp.gs (by omega)) (by simp)
  rw [if_pos hfit,aw_gp c2.names c3' c4'] at h22
  unfold d21
  have c1':d25 2 3 1 0 2=some c:=c1
  rw [h48,Option.bind_some,c1',Option.bind_some,h22,Option.bind_some]
  have hL:(gcount awG).length=3:=by have:=congrArg List.length aw_count; simpa using this
  obtain ⟨r0,r1,r2,hr⟩:∃ r0 r1 r2,gcount awG=[r0,r1,r2]:=by
    match h:gcount awG,hL with
    | [a,b,c],_=>exact ⟨a,b,c,rfl⟩
  have hc:=aw_count
  rw [hr] at hc
  simp only [List.map_cons,List.map_nil,List.cons.injEq,Prod.mk.injEq,and_true] at hc
  obtain ⟨⟨a1,a2,a3⟩,⟨b1,b2,b3⟩,⟨e1,e2,e3⟩⟩:=hc
  have hT:trT awG=(3,2,0,3,[rdT r0,rdT r1,rdT r2],[0,2]):=by
    unfold trT
    rw [hr]
    simp only [List.map_cons,List.map_nil,List.flatMap_cons,List.flatMap_nil,a3,b3,e3]
    rfl
  rw [hT,letJ_eq]
  have f38:d38 [0,2] [0,2]=some true:=by rw [d38_eq (by simp) (by simp)]; rfl
  have f65:d65 1 3=some (rr (mkRat 1 3)):=by
    have:=d65_eq (a:=1) (b:=3) (by omega) (by omega) (by omega)
    rw [show frac 1 3=mkRat 1 3 by decide +kernel] at this
    exact this
  have f39:d39 2=some (rr 2):=d39_eq (a:=2) (by omega)
  have f30:d30 9 2=some 4:=by rw [d30_eq (by omega) (by omega) (by omega) (by omega)]; rfl
  have hk:(rdT r1).2.1=[rr (mkRat 1 3),rr 1,rr 1]:=by
    show r1.keep.map rr=_
    rw [b1]; rfl
  have hx:(rdT r2).2.2.2.1=rr 2:=by
    show rr r2.exh=_
    rw [e2]
  have g1:d37 (rr (mkRat 1 3)) (rr (mkRat 1 3))=some true:=by
    rw [d37_rr (Bz.sz2 ⟨Nat.lt_of_le_of_lt (show (mkRat 1 3).num.natAbs≤1 by decide +kernel) (Nat.one_lt_two_pow (by decide)),Nat.lt_of_le_of_lt (show (mkRat 1 3).den≤2 ^ 2 by decide +kernel) (Nat.pow_lt_pow_right (by decide) (by decide))⟩),decide_eq_true rfl]
  have g2:d37 (rr 2) (rr 2)=some true:=by
    have h:=d37_rr (x:=((2:Nat):Rat)) (y:=((2:Nat):Rat)) (bz_nat (n:=2) (by decide)).sz2
    rw [decide_eq_true rfl] at h
    exact h
  simp only [f38,f65,f39,f30,List.getD_cons_succ,List.getD_cons_zero,hk,hx,g1,g2,Option.bind_some,List.length_cons,List.length_nil]
  rfl
end Go.Proofs.YtmipjomnjkmdbaaGreat
set_option linter.unusedSimpArgs false
set_option linter.unusedVariables false
namespace Go.Proofs.YtmipjomnjkmdbaaGreat
open Go Go.X
inductive Tr (P:GP):GS→List Rd→List Rd→Prop
  | fin {s:GS} {rs:List Rd}:Run P s rs→s.fin P=true→Tr P s rs [s.done P]
  | trans {s:GS} {rs rest:List Rd}:Run P s rs→s.fin P=false→s.most P=true→Tr P (s.trans P (rs.map Rd.votes)) (rs++[{ s.rd0 P with ti:=s.tiedR P }]) rest→Tr P s rs ({ s.rd0 P with ti:=s.tiedR P }::rest)
  | excl {s:GS} {rs rest:List Rd}:Run P s rs→s.fin P=false→s.most P=false→Tr P (s.excl P (rs.map Rd.votes)) (rs++[{ s.rd0 P with ti:=s.tiedR P,ex:=[s.pick P (rs.map Rd.votes)] }]) rest→Tr P s rs ({ s.rd0 P with ti:=s.tiedR P,ex:=[s.pick P (rs.map Rd.votes)] }::rest)
theorem tr_ex {P:GP} (hP:P.OK):∀ (m:Nat) {s:GS} {rs:List Rd},s.meas P < m→Run P s rs→∃ rest,Tr P s rs rest∧rs++rest=gcount P
  | 0,_,_,h,_=>by omega
  | m+1,s,rs,h,hR=>by
    cases hf:s.fin P with
    | true=>exact ⟨_,.fin hR hf,hR.fin hf⟩
    | false =>
      cases hm:s.most P with
      | true =>
        have hme:=trans_meas hP hR.inv hf hm (rs.map Rd.votes)
        obtain ⟨rest,h1,h2⟩:=tr_ex hP m (by omega) (hR.trans hP hf hm)
        exact ⟨_,.trans hR hf hm h1,by rw [← h2,List.append_assoc]; rfl⟩
      | false =>
        have hme:=excl_meas hP hR.inv hf hm (rs.map Rd.votes)
        obtain ⟨rest,h1,h2⟩:=tr_ex hP m (by omega) (hR.excl hP hf hm)
        exact ⟨_,.excl hR hf hm h1,by rw [← h2,List.append_assoc]; rfl⟩
theorem gcount_tr {P:GP} (hP:P.OK):Tr P g0 [] (gcount P):=by
  obtain ⟨rest,h1,h2⟩:=tr_ex hP (g0.meas P+1) (by omega) (Run.start hP)
  rw [List.nil_append] at h2
  rwa [h2] at h1
variable {P:GP} {s:GS}
theorem Tr.run {rs rest:List Rd} (h:Tr P s rs rest):Run P s rs:=by
  cases h <;> assumption
theorem Tr.ne {rs rest:List Rd} (h:Tr P s rs rest):rest ≠ []:=by
  cases h <;> simp
def GS.act (P:GP) (s:GS):Nat:=cntN (fun i=>decide (s.st i ≠ 3)) P.n
theorem act_split (hI:GI P s):s.e1 P+s.e2 P+s.e0 P=s.act P:=by
  unfold GS.e1 GS.e2 GS.e0 GS.act cntN
  rw [← sumN_add,← sumN_add]
  refine sumN_congr fun i hi=>?_
  have h3:=hI.st3 i
  rcases st1_cases (P:=P) (s:=s) i with ⟨h0,h1,h2,_⟩ | ⟨h0,h2⟩
  · simp [h1,h2]
  · have:s.st i=0∨s.st i=1∨s.st i=2∨s.st i=3:=by omega
    rcases this with h | h | h | h <;> simp [h,h2]
theorem el1_hop {i:Nat} (h:s.el1 P i=true):s.st i=0:=by
  unfold GS.el1 at h
  rw [Bool.and_eq_true,decide_eq_true_eq] at h
  exact h.1
theorem trans_st (hP:P.OK) (hI:GI P s) (hf:s.fin P=false) (hm:s.most P=true) (E:List (List Rat)):∃ x,x < P.n∧s.st1 P x=1∧s.pick P E=(x:Int)∧s.trans P E=s.move P (upd (s.st1 P) x 2) (upd s.keep x (frac (s.vt P x - s.bar P) (s.vt P x))) x (s.vt P x - s.bar P) (s.vt P x):=by
  obtain ⟨x,x1,x2,x3⟩:=pick_ok hP hI hf E
  rw [hm,if_pos rfl] at x3
  exact ⟨x,x2,x3,x1,by unfold GS.trans; simp only [x1,Int.toNat_natCast]⟩
theorem excl_st (hP:P.OK) (hI:GI P s) (hf:s.fin P=false) (hm:s.most P=false) (E:List (List Rat)):∃ x,x < P.n∧s.st1 P x=0∧s.pick P E=(x:Int)∧s.excl P E=s.move P (upd (s.st1 P) x 3) (upd s.keep x 0) x 1 1:=by
  obtain ⟨x,x1,x2,x3⟩:=pick_ok hP hI hf E
  rw [hm] at x3
  exact ⟨x,x2,by simpa using x3,x1,by unfold GS.excl; simp only [x1,Int.toNat_natCast]⟩
theorem next_hop {x y:Nat} (hy:y ≠ 0) {keep:Nat→Rat} {a b i:Nat} (h:(s.move P (upd (s.st1 P) x y) keep x a b).st i=0):s.st i=0∧s.el1 P i=false:=by
  have h':upd (s.st1 P) x y i=0:=h
  unfold upd at h'
  split at h'
  · omega
  · rcases st1_cases (P:=P) (s:=s) i with ⟨h0,h1,h2,_⟩ | ⟨h0,h2⟩
    · omega
    · exact ⟨by omega,h0⟩
structure WinOK (P:GP) (s:GS) (l:List Int):Prop where
  nodup:l.Nodup
  within:∀ c∈l,∃ i:Nat,c=(i:Int)∧i < P.n∧s.st i=0
  num:l.length+cntN (fun i=>decide (s.st i=1)) P.n+cntN (fun i=>decide (s.st i=2)) P.n=min P.seats P.n
theorem selI_nodup (p:Nat→Bool) (n:Nat):(selI p n).Nodup:=(selI_sorted p n).imp fun h=>by omega
theorem WinOK.cons (hI:GI P s) {x y:Nat} (hx:x < P.n) (hy:(s.st1 P x=1∧y=2)∨(s.st1 P x=0∧y=3)) {keep:Nat→Rat} {a b:Nat} {l:List Int} (h:WinOK P (s.move P (upd (s.st1 P) x y) keep x a b) l):WinOK P s (selI (s.el1 P) P.n++l):=by
  refine ⟨List.nodup_append.2 ⟨selI_nodup _ _,h.nodup,fun c hc d hd hcd=>?_⟩,fun c hc=>?_,?_⟩
  · subst hcd
    obtain ⟨i,rfl,h1,h2⟩:=mem_selI.1 hc
    obtain ⟨j,h3,h4,h5⟩:=h.within _ hd
    have:=(next_hop (by omega) h5).2
    rw [← Int.ofNat_inj.1 h3,h2] at this
    cases this
  · rcases List.mem_append.1 hc with hc | hc
    · obtain ⟨i,rfl,h1,h2⟩:=mem_selI.1 hc
      exact ⟨i,rfl,h1,el1_hop h2⟩
    · obtain ⟨j,h3,h4,h5⟩:=h.within _ hc
      exact ⟨j,h3,h4,(next_hop (by omega) h5).1⟩
  · have h1:=h.num
    have h2:=fl_next (P:=P) (s:=s) hx hy (st:=(s.move P (upd (s.st1 P) x y) keep x a b).st) rfl
    have h3:=cnt_split hI
    rw [List.length_append,selI_len]
    omega
theorem act_move {x y:Nat} (hx:x < P.n) (hy:(s.st1 P x=1∧y=2)∨(s.st1 P x=0∧y=3)) {keep:Nat→Rat} {a b:Nat}:(s.move P (upd (s.st1 P) x y) keep x a b).act P+(if y=3 then 1 else 0)=s.act P:=by
  unfold GS.act
  show cntN (fun i=>decide (upd (s.st1 P) x y i ≠ 3)) P.n+_=_
  have e:∀ i,decide (s.st1 P i ≠ 3)=decide (s.st i ≠ 3):=fun i=>by
    refine decide_eq_decide.2 ?_
    rcases st1_cases (P:=P) (s:=s) i with ⟨h0,h1,h2,_⟩ | ⟨h0,h2⟩ <;> omega
  rcases hy with ⟨h1,rfl⟩ | ⟨h1,rfl⟩
  · rw [if_neg (by omega),Nat.add_zero]
    refine cntN_congr fun i hi=>?_
    by_cases h:i=x
    · subst h
      rw [upd_self,← e,h1]; rfl
    · rw [upd_ne _ _ h,e]
  · rw [if_pos rfl]
    refine (cnt_upd (p:=fun i=>decide (s.st i ≠ 3)) hx (fun i hi hne=>?_) ?_ ?_).symm
    · rw [upd_ne _ _ hne,e]
    · rw [upd_self]; rfl
    · rw [← e,h1]; rfl
theorem fin_win (hP:P.OK) (hI:GI P s) (hf:s.fin P=true) (hact:min P.seats P.n≤s.act P):WinOK P s (s.done P).el:=by
  have hs:=act_split hI
  have hc:=cnt_split hI
  have helec:=elected_le hP hI
  have hactn:s.act P≤P.n:=cntN_le _ _
  unfold GS.done
  show WinOK P s (if s.e1 P+s.e2 P < P.seats then selI (fun i=>s.el1 P i || decide (s.st1 P i=0)) P.n else selI (s.el1 P) P.n)
  by_cases h:s.e1 P+s.e2 P < P.seats
  · rw [if_pos h]
    have hq:s.e1 P+s.e2 P+s.e0 P≤P.seats:=by
      unfold GS.fin at hf
      rw [Bool.or_eq_true,decide_eq_true_eq,decide_eq_true_eq] at hf
      rcases hf with h1 | h1
      · have:s.e1 P+s.e2 P=P.seats:=h1
        omega
      · exact h1
    refine ⟨selI_nodup _ _,fun c hc=>?_,?_⟩
    · obtain ⟨i,rfl,h1,h2⟩:=mem_selI.1 hc
      refine ⟨i,rfl,h1,?_⟩
      rcases st1_cases (P:=P) (s:=s) i with ⟨h0,k1,k2,_⟩ | ⟨h0,k2⟩
      · exact k1
      · rw [h0,Bool.false_or,decide_eq_true_eq] at h2
        omega
    · rw [selI_len]
      have e:cntN (fun i=>s.el1 P i || decide (s.st1 P i=0)) P.n=cntN (s.el1 P) P.n+s.e0 P:=by
        unfold GS.e0 cntN
        rw [← sumN_add]
        refine sumN_congr fun i hi=>?_
        rcases st1_cases (P:=P) (s:=s) i with ⟨h0,k1,k2,_⟩ | ⟨h0,k2⟩
        · simp [h0,k2]
        · simp [h0]
      rw [e]
      omega
  · rw [if_neg h]
    refine ⟨selI_nodup _ _,fun c hc=>?_,?_⟩
    · obtain ⟨i,rfl,h1,h2⟩:=mem_selI.1 hc
      exact ⟨i,rfl,h1,el1_hop h2⟩
    · rw [selI_len]
      have:s.e1 P+s.e2 P≤P.n:=by omega
      omega
theorem win_tr (hP:P.OK) {rs rest:List Rd} (h:Tr P s rs rest):min P.seats P.n≤s.act P→WinOK P s (rest.flatMap Rd.el):=by
  induction h with
  | fin hR hf =>
    intro hact
    rw [List.flatMap_cons,List.flatMap_nil,List.append_nil]
    exact fin_win hP hR.inv hf hact
  | @trans s rs rest hR hf hm h ih =>
    intro hact
    obtain ⟨x,x1,x2,x3,x4⟩:=trans_st hP hR.inv hf hm (rs.map Rd.votes)
    rw [x4] at ih
    have ha:=act_move (P:=P) (s:=s) (y:=2) x1 (.inl ⟨x2,rfl⟩) (keep:=upd s.keep x (frac (s.vt P x - s.bar P) (s.vt P x))) (a:=s.vt P x - s.bar P) (b:=s.vt P x)
    rw [if_neg (by omega),Nat.add_zero] at ha
    rw [List.flatMap_cons]
    exact WinOK.cons hR.inv x1 (.inl ⟨x2,rfl⟩) (ih (by rw [ha]; exact hact))
  | @excl s rs rest hR hf hm h ih =>
    intro hact
    obtain ⟨x,x1,x2,x3,x4⟩:=excl_st hP hR.inv hf hm (rs.map Rd.votes)
    rw [x4] at ih
    have ha:=act_move (P:=P) (s:=s) (y:=3) x1 (.inr ⟨x2,rfl⟩) (keep:=upd s.keep x 0) (a:=1) (b:=1)
    rw [if_pos rfl] at ha
    have hs:=act_split hR.inv
    have hff:=fin_false hP hR.inv hf
    rw [List.flatMap_cons]
    exact WinOK.cons hR.inv x1 (.inr ⟨x2,rfl⟩) (ih (by omega))
theorem win_ok (hP:P.OK):WinOK P g0 ((gcount P).flatMap Rd.el):=by
  refine win_tr hP (gcount_tr hP) ?_
  have:g0.act P=P.n:=by
    unfold GS.act cntN
    have key:∀ n,sumN (fun _=>1) n=n:=fun n=>by
      induction n with
      | zero=>rfl
      | succ n ih=>rw [sumN,ih]
    exact (sumN_congr (g:=fun _=>1) fun i _=>rfl).trans (key _)
  rw [this]
  exact Nat.min_le_right _ _
theorem win_len (hP:P.OK):((gcount P).flatMap Rd.el).length=min P.seats P.n:=by
  have h:=(win_ok hP).num
  have e1:cntN (fun i=>decide (g0.st i=1)) P.n=0:=by unfold cntN; exact sumN_zero _
  have e2:cntN (fun i=>decide (g0.st i=2)) P.n=0:=by unfold cntN; exact sumN_zero _
  rw [e1,e2] at h
  exact h
theorem win_isB (hP:P.OK):isB (P.n:Int) ((gcount P).flatMap Rd.el):=⟨(win_ok hP).nodup,fun c hc=>by
  obtain ⟨i,rfl,h,_⟩:=(win_ok hP).within c hc
  omega⟩
theorem gcount_ne (hP:P.OK):gcount P ≠ []:=(gcount_tr hP).ne
def GS.exh (P:GP) (s:GS):Nat:=P.tot * s.D - sumN (s.vt P) P.n
theorem lie_move (hP:P.OK) (hI:GI P s) {st:Nat→Nat} {keep:Nat→Rat} {x a b:Nat} (hx:x < P.n) (hab:a≤b):sumN ((s.move P st keep x a b).lie P) P.n+(b - a) * s.lie P x≤sumN (s.lie P) P.n * b:=by
  rw [lie_sum hP,lie_sum hP]
  unfold GS.lie
  rw [Nat.mul_comm (b - a),← sumN_mul,← sumN_mul,← sumN_add]
  refine sumN_le fun g hg=>?_
  cases h:s.on P g x
  · have e:(s.move P st keep x a b).at_ g=s.at_ g:=by
      show (if s.on P g x then _ else s.at_ g)=_
      rw [h]; rfl
    have e2:(s.move P st keep x a b).num g=s.num g * b:=by
      show (if s.on P g x then _ else s.num g * b)=_
      rw [h]; rfl
    simp only [e,e2,Bool.false_eq_true,if_false]
    split
    · rw [Nat.zero_mul,Nat.add_zero,Nat.mul_assoc]; exact Nat.le_refl _
    · simp
  · have e2:(s.move P st keep x a b).num g=s.num g * a:=by
      show (if s.on P g x then s.num g * a else _)=_
      rw [h]; rfl
    have hlt:=GS.on_lt h
    simp only [e2,if_true,if_pos hlt]
    have e3:P.k g * s.num g * b=P.k g * (s.num g * a)+P.k g * s.num g * (b - a):=by
      rw [← Nat.mul_assoc,← Nat.mul_add]
      congr 1
      omega
    rw [e3]
    split <;> omega
theorem exh_move (hP:P.OK) (hI:GI P s) {x a b y:Nat} {keep:Nat→Rat} (hx:x < P.n) (hab:a≤b) (hI':GI P (s.move P (upd (s.st1 P) x y) keep x a b)) (hc2:(s.move P (upd (s.st1 P) x y) keep x a b).c2 P=s.c2 P+if y=2 then 1 else 0) (hd:y=2→(b - a) * s.lie P x=s.bar P * b) (hd3:y ≠ 2→a=b) :
    s.exh P * b≤(s.move P (upd (s.st1 P) x y) keep x a b).exh P:=by
  have h1:=lie_move (st:=upd (s.st1 P) x y) (keep:=keep) hP hI hx hab
  have h2:=vt_sum hP hI
  have h3:=vt_sum hP hI'
  have h4:=vt_sum_tot hP hI
  rw [hc2] at h3
  have e1:(s.move P (upd (s.st1 P) x y) keep x a b).bar P=s.bar P * b:=by
    show P.q * (s.D * b)=P.q * s.D * b
    rw [Nat.mul_assoc]
  rw [e1] at h3
  have h5:sumN ((s.move P (upd (s.st1 P) x y) keep x a b).vt P) P.n≤sumN (s.vt P) P.n * b:=by
    rw [h3,h2,Nat.add_mul]
    by_cases hy:y=2
    · have:=hd hy
      rw [if_pos hy,Nat.mul_add,Nat.mul_one,Nat.mul_right_comm (s.bar P) b]
      omega
    · rw [if_neg hy,Nat.add_zero,Nat.mul_right_comm (s.bar P) b]
      omega
  unfold GS.exh
  have e2:(s.move P (upd (s.st1 P) x y) keep x a b).D=s.D * b:=rfl
  rw [e2,Nat.sub_mul,← Nat.mul_assoc]
  omega
theorem trans_exh (hP:P.OK) (hI:GI P s) (hf:s.fin P=false) (hm:s.most P=true) (E:List (List Rat)):frac (s.exh P) s.D≤frac ((s.trans P E).exh P) (s.trans P E).D:=by
  have hI':=trans_inv hP hI hf hm E
  obtain ⟨x,x1,x2,x3,x4⟩:=trans_st hP hI hf hm E
  rw [x4] at hI' ⊢
  obtain ⟨k1,k2,k3⟩:=st1_one hI x1 x2
  have hb:=bar_pos hP hI
  have hx2:s.st x ≠ 2:=by omega
  have hc2:(s.move P (upd (s.st1 P) x 2) (upd s.keep x (frac (s.vt P x - s.bar P) (s.vt P x))) x (s.vt P x - s.bar P) (s.vt P x)).c2 P=s.c2 P+1:=by
    unfold GS.c2
    refine cnt_upd x1 (fun i hi hne=>?_) (decide_eq_false hx2) (by show decide (upd (s.st1 P) x 2 x=2)=true; rw [upd_self]; rfl)
    show decide (upd (s.st1 P) x 2 i=2)=_
    rw [upd_ne _ _ hne]
    exact decide_eq_decide.2 (st1_two i)
  have h:=exh_move hP hI (y:=2) x1 (Nat.sub_le _ _) hI' (by rw [if_pos rfl]; exact hc2) (fun _=>by rw [← k2]; congr 1; omega) (fun h=>absurd rfl h)
  have hD:=hI.D0
  rw [← frac_cancel (a:=s.exh P) hD (show 0 < s.vt P x by omega)]
  exact (frac_le (Nat.mul_pos hD (by omega))).2 h
theorem excl_exh (hP:P.OK) (hI:GI P s) (hf:s.fin P=false) (hm:s.most P=false) (E:List (List Rat)):frac (s.exh P) s.D≤frac ((s.excl P E).exh P) (s.excl P E).D:=by
  have hI':=excl_inv hP hI hf hm E
  obtain ⟨x,x1,x2,x3,x4⟩:=excl_st hP hI hf hm E
  rw [x4] at hI' ⊢
  have hx2:s.st x ≠ 2:=by
    have:=st1_two (P:=P) (s:=s) x
    omega
  have hc2:(s.move P (upd (s.st1 P) x 3) (upd s.keep x 0) x 1 1).c2 P=s.c2 P:=by
    unfold GS.c2
    refine cntN_congr fun i hi=>?_
    show decide (upd (s.st1 P) x 3 i=2)=_
    by_cases h:i=x
    · subst h; rw [upd_self]; exact decide_eq_decide.2 ⟨fun h=>by omega,fun h=>absurd h hx2⟩
    · rw [upd_ne _ _ h]; exact decide_eq_decide.2 (st1_two i)
  have h:=exh_move hP hI (y:=3) x1 (Nat.le_refl 1) hI' (by rw [if_neg (by omega)]; exact hc2) (fun h=>absurd h (by omega)) (fun _=>rfl)
  have hD:=hI.D0
  have e:(s.move P (upd (s.st1 P) x 3) (upd s.keep x 0) x 1 1).D=s.D:=Nat.mul_one _
  rw [e]
  rw [Nat.mul_one] at h
  exact (frac_le hD).2 h
end Go.Proofs.YtmipjomnjkmdbaaGreat
set_option linter.unusedSimpArgs false
set_option linter.unusedVariables false
namespace Go.Proofs.YtmipjomnjkmdbaaGreat
open Go Go.X
structure Cnt (n:Nat) (c:CT) (gs:List Grp) (lots:List Int) (N:Int):Prop where
  con:ConOK c n 3
  n1:1≤n
  n7:n≤7
  pile:PileOK (n:Int) gs N
  len:lots.length=n
  perm:isB (n:Int) lots
  fit:fitE 3 c gs lots=0
  ok:(gpOf c gs lots).OK
  cands:(gpOf c gs lots).n=n
  seats:c.2.2.2.1=((gpOf c gs lots).seats:Int)
  tot:((gpOf c gs lots).tot:Int)=N
theorem Cnt.mk' {n:Nat} {c:CT} {gs:List Grp} {lots:List Int} {N:Int} (hc:ConOK c n 3) (h1:1≤n) (h7:n≤7) (hp:PileOK (n:Int) gs N) (hl:lots.length=n) (hb:isB (n:Int) lots):Cnt n c gs lots N:=by
  have hf:=fitE_made hc (by omega) (by omega) h1 h7 hp hl hb
  obtain ⟨k1,k2,k3,k4,_,_⟩:=gpOf_ok hf
  refine ⟨hc,h1,h7,hp,hl,hb,hf,k1,hc.names,k3,?_⟩
  have h67:=hp.d67 (by omega)
  rw [h67] at k4
  have:=Option.some.inj k4
  rw [← this]; exact hp.total
theorem Cnt.d22 {n:Nat} {c:CT} {gs:List Grp} {lots:List Int} {N:Int} (h:Cnt n c gs lots N):d22 c gs lots=some (trT (gpOf c gs lots),0):=by
  have hl:=h.len
  have h7:=h.n7
  rw [d22_eq (h.pile.gs (by omega)) (by omega),if_pos h.fit]
theorem d31_eq {n:Nat} (h1:1≤n) (h7:n≤7) {seats ties code:Int} {l:List (List Int)} (hs:WT (.int .i64) seats) (ht:WT (.int .i64) ties) (hc:WT (.int .i64) code) (hl:l.length≤281474976710656) (hw:∀ x∈l,WT (.slice (.int .i64)) x) :
    ∃ c lots,d31 (n:Int) seats ties code l=some (c,pileOf (bals (n:Int) l 16),trT (gpOf c (pileOf (bals (n:Int) l 16)) lots),0)∧Cnt n c (pileOf (bals (n:Int) l 16)) lots ((bals (n:Int) l 16).length:Int)∧d27 (n:Int) code=some lots∧c.2.2.2.1=1+seats % 5∧c.2.2.2.2.2.2.1=1+ties % 3∧d25 2 (n:Int) seats 0 ties=some c:=by
  have k:∀ x:Int,-9223372036854775808≤x→x≤9223372036854775807→WT (.int .i64) x:=fun x h0 h1=>wi_id h0 h1
  obtain ⟨c,c1,c2,c3,c4⟩:=d25_eq (n:=n) (by omega) (k 2 (by omega) (by omega)) hs (k 0 (by omega) (by omega)) ht
  obtain ⟨lots,l1,l2,l3⟩:=d27_eq (n:=n) (by omega) hc
  have hpl:=pileOf_ok (n:=(n:Int)) (bals (n:Int) l 16) (bals_isB (n:=(n:Int)) (by omega) (l:=l) (most:=16)) (by have:=@bals_len (n:Int) l 16; omega)
  have hC:=Cnt.mk' (c:=c) c2 h1 h7 hpl.1 l2 l3
  refine ⟨c,lots,?_,hC,l1,by rw [c3]; rfl,c4,c1⟩
  unfold d31
  rw [c1,Option.bind_some,show d26 (n:Int) l 16=some (pileOf (bals (n:Int) l 16)) from d26_eq (n:=(n:Int)) (by omega) (by omega) hl hw (most:=16) (by omega),Option.bind_some,l1,Option.bind_some,hC.d22]
  rfl
variable {P:GP} {s:GS}
theorem Tr.drop:∀ {i:Nat} {s:GS} {rs rest:List Rd},Tr P s rs rest→i < rest.length→∃ s' rs',Tr P s' rs' (rest.drop i)
  | 0,s,rs,rest,h,_=>⟨s,rs,h⟩
  | i+1,s,rs,rest,h,hi=>by
    cases h with
    | fin hR hf=>simp at hi
    | trans hR hf hm h=>exact Tr.drop (i:=i) h (by simpa using hi)
    | excl hR hf hm h=>exact Tr.drop (i:=i) h (by simpa using hi)
def rd0:Rd:=⟨[],[],0,0,0,[],[],[]⟩
theorem drop_getD {α:Type} {l:List α} {i:Nat} (d:α) (h:i < l.length):l.drop i=l.getD i d::l.drop (i+1):=by
  rw [List.getD_eq_getElem?_getD,List.getElem?_eq_getElem h]
  exact List.drop_eq_getElem_cons h
structure StR (P:GP) (s:GS) (r:Rd):Prop where
  inv:GI P s
  keepOK:∀ i,i < P.n→Bz eB (s.keep i)
  votes:r.votes=lst (fun i=>frac (s.vt P i) s.D) P.n
  keep:r.keep=lst s.keep P.n
  quota:r.quota=(P.q:Rat)
  exh:r.exh=frac (s.exh P) s.D
  one:∀ i,i < P.n→s.st i=0∨s.st i=1→s.keep i=1
  el:∀ i,i < P.n→s.el1 P i=true→(i:Int)∈r.el
theorem done_el (P:GP) (s:GS):∀ i,i < P.n→s.el1 P i=true→(i:Int)∈(s.done P).el:=by
  intro i hi h
  show (i:Int)∈(if _ then _ else _)
  split
  · exact mem_selI.2 ⟨i,rfl,hi,by rw [h]; rfl⟩
  · exact mem_selI.2 ⟨i,rfl,hi,h⟩
theorem rd0_el (P:GP) (s:GS):∀ i,i < P.n→s.el1 P i=true→(i:Int)∈(s.rd0 P).el:=fun i hi h=>mem_selI.2 ⟨i,rfl,hi,h⟩
theorem Tr.head {rs rest:List Rd} {r:Rd} (h:Tr P s rs (r::rest)):StR P s r:=by
  have hR:=h.run
  cases h with
  | fin=>exact ⟨hR.inv,hR.ok.keep,rfl,rfl,rfl,rfl,hR.one,done_el P s⟩
  | trans=>exact ⟨hR.inv,hR.ok.keep,rfl,rfl,rfl,rfl,hR.one,rd0_el P s⟩
  | excl=>exact ⟨hR.inv,hR.ok.keep,rfl,rfl,rfl,rfl,hR.one,rd0_el P s⟩
inductive Stp (P:GP) (s:GS) (r:Rd) (s':GS):Prop
  | trans (E:List (List Rat)):s.fin P=false→s.most P=true→s'=s.trans P E→r.ex=[]→Stp P s r s'
  | excl (E:List (List Rat)):s.fin P=false→s.most P=false→s'=s.excl P E→r.ex=[s.pick P E]→Stp P s r s'
theorem Tr.next {rs rest:List Rd} {r r':Rd} (h:Tr P s rs (r::r'::rest)):∃ s',Stp P s r s'∧StR P s' r':=by
  cases h with
  | trans hR hf hm h=>exact ⟨_,.trans _ hf hm rfl rfl,h.head⟩
  | excl hR hf hm h=>exact ⟨_,.excl _ hf hm rfl rfl,h.head⟩
theorem round_st (hP:P.OK) {i:Nat} (h:i < (gcount P).length):∃ s,StR P s ((gcount P).getD i rd0):=by
  obtain ⟨s,rs,ht⟩:=(gcount_tr hP).drop h
  rw [drop_getD rd0 h] at ht
  exact ⟨s,ht.head⟩
theorem round_next (hP:P.OK) {i:Nat} (h:i+1 < (gcount P).length):∃ s s',StR P s ((gcount P).getD i rd0)∧StR P s' ((gcount P).getD (i+1) rd0)∧Stp P s ((gcount P).getD i rd0) s':=by
  obtain ⟨s,rs,ht⟩:=(gcount_tr hP).drop (show i < _ by omega)
  rw [drop_getD rd0 (show i < _ by omega),drop_getD rd0 h] at ht
  obtain ⟨s',h1,h2⟩:=ht.next
  exact ⟨s,s',ht.head,h2,h1⟩
theorem exh_mono (hP:P.OK) {i:Nat} (h:i+1 < (gcount P).length):((gcount P).getD i rd0).exh≤((gcount P).getD (i+1) rd0).exh:=by
  obtain ⟨s,s',h1,h2,h3⟩:=round_next hP h
  rw [h1.exh,h2.exh]
  cases h3 with
  | trans E hf hm he hx=>rw [he]; exact trans_exh hP h1.inv hf hm E
  | excl E hf hm he hx=>rw [he]; exact excl_exh hP h1.inv hf hm E
theorem Bz.big {q:Rat} (h:Bz eB q):Bz 268435456 q:=h.mono (by decide)
theorem exh_le (hP:P.OK) (hI:GI P s):s.exh P≤P.tot * s.D:=Nat.sub_le _ _
theorem rdsT_getD {i:Nat} (h:i < (gcount P).length) (d:RD):((gcount P).map rdT).getD i d=rdT ((gcount P).getD i rd0):=by
  rw [List.getD_eq_getElem?_getD,List.getElem?_map,List.getElem?_eq_getElem h,List.getD_eq_getElem?_getD,List.getElem?_eq_getElem h]; rfl
theorem gcount_len (hP:P.OK):(gcount P).length≤1000:=by
  have key:∀ (k:Nat) (rs:List Rd) (s:GS),(grun P k rs s).length≤rs.length+k:=by
    intro k
    induction k with
    | zero=>intro rs s; exact Nat.le_refl _
    | succ k ih =>
      intro rs s
      rw [grun]
      split
      · rename_i r _
        simp
      · rename_i r s' _
        have:=ih (rs++[r]) s'
        rw [List.length_append] at this
        simp at this
        omega
  have hk:=key (P.n+1) [] g0
  have hn7:=hP.n7
  have e:gcount P=grun P (P.n+1) [] g0:=rfl
  rw [e]
  simp only [List.length_nil] at hk
  omega
theorem d5_true {p0 p1 p2 p3:Int} {p4:List (List Int)} (h0:WT (.int .i64) p0) (h1:WT (.int .i64) p1) (h2:WT (.int .i64) p2) (h3:WT (.int .i64) p3) (hl:p4.length≤281474976710656) (hw:∀ x∈p4,WT (.slice (.int .i64)) x):d5 p0 p1 p2 p3 p4=some true:=by
  unfold d5
  rw [d20_eq p4 hl,Option.bind_some]
  cases hfew:(decide (∀ x∈p4,x.length≤12) && decide (p4.length≤16))
  · rw [d21_eq]; rfl
  rw [Bool.not_true,cond_false,d24_eq h0 (by omega) (by omega),Option.bind_some]
  have hl16:p4.length≤16:=by
    rw [Bool.and_eq_true,decide_eq_true_eq,decide_eq_true_eq] at hfew
    exact hfew.2
  have b:=mod_bounds p0 (n:=7) (by omega)
  obtain ⟨n,hn⟩:∃ n:Nat,1+p0 % 7=(n:Int):=⟨(1+p0 % 7).toNat,by omega⟩
  have hw1:w (1+p0 % 7)=(n:Int):=by rw [wi_id (by omega) (by omega)]; exact hn
  rw [hw1]
  obtain ⟨c,lots,e31,hC,_,cs,ct,_⟩:=d31_eq (n:=n) (by omega) (by omega) h1 h2 h3 hl hw
  have hbl:((bals (n:Int) p4 16).length:Int)=(p4.length:Int):=by simp [bals]; omega
  rw [e31,Option.bind_some]
  rw [hbl] at hC
  generalize pileOf (bals (n:Int) p4 16)=gs at hC ⊢
  have hP:=hC.ok
  have hPn:=hC.cands
  have hPs:=hC.seats
  have hPt:=hC.tot
  generalize gpOf c gs lots=P at hP hPn hPs hPt ⊢
  clear hC
  subst hPn
  have hne:=List.length_pos_iff.2 (gcount_ne hP)
  have hlen:=gcount_len hP
  have hwl:=win_len hP
  have hwb:=win_isB hP
  have hn7:=hP.n7
  have hs5:=hP.seats5
  have hz0:d33 0=some (qb 0):=d33_eq (n:=0) (by omega) (by omega)
  have hzl:d33 (p4.length:Int)=some (qb ((P.tot:Nat):Rat)):=by
    rw [d33_eq (by omega) (by omega),← hPt]; rfl
  have hTr:(trT P).2.2.2.2.1=(gcount P).map rdT:=rfl
  have hTw:(trT P).2.2.2.2.2=(gcount P).flatMap Rd.el:=rfl
  have hTl:((gcount P).map rdT).length=(gcount P).length:=List.length_map ..
  rw [letJ_eq]
  have hmin:(bif decide ((P.n:Int) < (P.seats:Int)) then (P.n:Int) else (P.seats:Int))=((min P.seats P.n:Nat):Int):=by
    by_cases h:(P.n:Int) < (P.seats:Int)
    · rw [decide_eq_true h,cond_true]; omega
    · rw [decide_eq_false h,cond_false]; omega
  simp only [decide_true,Bool.not_true,Bool.not_false,cond_true,hTr,hTw,hTl,decide_eq_false (show ¬ (((gcount P).length:Nat):Int) < 1 by omega),hPs,hmin,hwl,d32_eq (P.n:Int) (show ((gcount P).flatMap Rd.el).length≤281474976710656 by omega),decide_eq_true hwb,Option.bind_some,cond_false,hz0]
  refine while_bind (fun i=>((P.n:Int),p4,trT P,qb (if i=0 then 0 else ((gcount P).getD (i - 1) rd0).exh),(i:Int))) (gcount P).length rfl (fun i hi=>?_) (b:=(Sum.inl ():Unit ⊕ Bool)) ?_ (by simp only [d21_eq,Option.bind_some])
  · obtain ⟨s,hS⟩:=round_st hP hi
    have hI:=hS.inv
    have hexs:=frac_small hP hI (exh_le hP hI)
    have hvt:=vt_sum_tot hP hI
    simp only [hTr,hTl,dlt hi,d0le,Bool.and_self,cond_true,tn,rdsT_getD hi]
    have hv:(rdT ((gcount P).getD i rd0)).1=lst (fun i=>rr (frac (s.vt P i) s.D)) P.n:=by
      show (((gcount P).getD i rd0).votes).map rr=_
      rw [hS.votes,lst_map]
    have hx:(rdT ((gcount P).getD i rd0)).2.2.2.1=rr (frac (s.exh P) s.D):=by
      show rr ((gcount P).getD i rd0).exh=_
      rw [hS.exh]
    rw [hx,d34_rr (hexs.mono (by decide)),Option.bind_some]
    have psum:∀ k,k≤P.n→s.exh P+sumN (s.vt P) k≤P.tot * s.D:=fun k hk=>by
      have key:∀ (f:Nat→Nat) (m n:Nat),m≤n→sumN f m≤sumN f n:=by
        intro f m n
        induction n with
        | zero=>intro h; rw [show m=0 by omega]; exact Nat.le_refl _
        | succ n ih =>
          intro h
          by_cases hm:m=n+1
          · rw [hm]; exact Nat.le_refl _
          · rw [sumN]; have:=ih (by omega); omega
      have:=key (s.vt P) k P.n hk
      unfold GS.exh
      omega
    refine while_bind (fun k=>((P.n:Int),p4,trT P,qb (if i=0 then 0 else ((gcount P).getD (i - 1) rd0).exh),(i:Int),rdT ((gcount P).getD i rd0),qb (frac (s.exh P) s.D),qb (frac (s.exh P+sumN (s.vt P) k) s.D),(k:Int))) P.n rfl (fun k hk=>?_) (b:=((P.n:Int),p4,trT P,qb (if i=0 then 0 else ((gcount P).getD (i - 1) rd0).exh),(i:Int),rdT ((gcount P).getD i rd0),qb (frac (s.exh P) s.D),qb ((P.tot:Nat):Rat))) ?_ ?_
    · have hvk:=frac_small hP hI (vt_le hP hI hk)
      have hp1:=psum k (by omega)
      have hsum:frac (s.exh P+sumN (s.vt P) k) s.D+frac (s.vt P k) s.D=frac (s.exh P+sumN (s.vt P) (k+1)) s.D:=by
        rw [frac_add hI.D0,sumN,Nat.add_assoc]
      simp only [hv,lst_len,dlt hk,d0le,Bool.and_self,cond_true,tn,lst_getD (fun i=>rr (frac (s.vt P i) s.D)) hk,d34_rr (hvk.mono (by decide)),Option.bind_some,d35_qb (frac_small hP hI hp1).big hvk.big,hsum,wsucc (show k < 9223372036854775807 by omega)]
    · have:s.exh P+sumN (s.vt P) P.n=P.tot * s.D:=by unfold GS.exh; omega
      simp only [hv,lst_len,nlt (Nat.le_refl P.n),cond_false,this,frac_self hI.D0]
    · have htot:Bz eB ((P.tot:Nat):Rat):=bz_nat (by have:=hP.tot5; omega)
      have hlast:Bz 268435456 (if i=0 then 0 else ((gcount P).getD (i - 1) rd0).exh)∧(if i=0 then 0 else ((gcount P).getD (i - 1) rd0).exh)≤frac (s.exh P) s.D:=by
        by_cases h:i=0
        · rw [if_pos h]
          refine ⟨bz_zero.big,?_⟩
          have:=(frac_le (a:=0) (b:=s.exh P) hI.D0).2 (Nat.zero_le _)
          rwa [show frac 0 s.D=0 by unfold frac; rw [Rat.div_def]; simp] at this
        · rw [if_neg h]
          obtain ⟨s',hS'⟩:=round_st hP (show i - 1 < (gcount P).length by omega)
          refine ⟨by rw [hS'.exh]; exact (frac_small hP hS'.inv (exh_le hP hS'.inv)).big,?_⟩
          have:=exh_mono hP (i:=i - 1) (by omega)
          rw [show i - 1+1=i by omega] at this
          rw [← hS.exh]; exact this
      have hc1:cmpQ ((P.tot:Nat):Rat) ((P.tot:Nat):Rat)=0:=by unfold cmpQ; rw [if_neg Rat.lt_irrefl,if_pos rfl]
      have hc2:decide (cmpQ (frac (s.exh P) s.D) (if i=0 then 0 else ((gcount P).getD (i - 1) rd0).exh) < 0)=false:=by
        refine decide_eq_false ?_
        unfold cmpQ
        rw [if_neg (Rat.not_lt.2 hlast.2)]
        split <;> omega
      have hxe:((gcount P).getD i rd0).exh=frac (s.exh P) s.D:=hS.exh
      simp only [letJ_eq,hv,lst_len,decide_true,Bool.not_true,Bool.not_false,cond_true,cond_false,hzl,Option.bind_some,d36_qb htot.big htot.big,hc1,d36_qb hexs.big hlast.1,hc2,wsucc (show i < 9223372036854775807 by omega)]
      rw [if_neg (show ¬ i+1=0 by omega),Nat.add_sub_cancel,hxe]
  · simp only [hTr,hTl,nlt (Nat.le_refl (gcount P).length),cond_false]
end Go.Proofs.YtmipjomnjkmdbaaGreat
