/- Part 15 of what stands below the statement. -/
import Derived.Test.YtmipjomnjkmdbaaGreatQ14
set_option linter.unusedSimpArgs false
set_option linter.unusedVariables false
namespace Go.Proofs.YtmipjomnjkmdbaaGreat
open Go Go.X
theorem d122_eq (a b:Nat) (ha:a≤4611686018427387904) (hb:b≤4611686018427387904):d122 (a:Int) (b:Int)=some ((Nat.gcd a b:Nat):Int):=by
  unfold d122
  refine zda (Q:=fun r=>r=some ((Nat.gcd a b:Nat):Int)) (fun (M:Nat) (st:Int × Int)=>∃ x:Nat,st=((x:Int),(M:Int))∧x≤4611686018427387904∧M≤4611686018427387904∧Nat.gcd x M=Nat.gcd a b) b ⟨a,rfl,ha,hb,rfl⟩ ?_
  rintro M st ⟨x,rfl,h1,h2,h3⟩
  rcases Nat.eq_zero_or_pos M with h0 | h0
  · subst h0
    rw [Nat.gcd_zero_right] at h3
    exact .inr ⟨(x:Int),rfl,by rw [h3]⟩
  · have hm:=Nat.mod_lt x h0
    have e:w (Int.tmod (x:Int) (M:Int))=((x % M:Nat):Int):=by rw [tmodN,zbl (by omega) (by omega)]
    refine .inl ⟨((M:Int),((x % M:Nat):Int)),x % M,?_,hm,M,rfl,h2,by omega,?_⟩
    · simp only [decide_eq_true (show (0:Int) < (M:Int) by omega),decide_eq_false (show ¬ (M:Int)=0 by omega),Bool.not_false,cond_true,e]
    · rw [← h3,Nat.gcd_comm x M,Nat.gcd_rec M x,Nat.gcd_comm]
theorem d123_eq (n:Nat) (h:n≤4611686018427387904):d123 (n:Int)=some (zap n):=by
  unfold d123
  rw [zaq (by omega)]
  refine zda (Q:=fun r=>r=some (zap n)) (fun (M:Nat) (st:(List Int) × Int)=>∃ l:List Int,st=(l,(M:Int))∧M≤n∧l.length≤n - M∧l.length≤1000000∧l++zap M=zap n∧(l.length+(zap M).length=(zap n).length)) n ⟨[],rfl,Nat.le_refl _,by simp,by simp,rfl,by simp⟩ ?_
  rintro M st ⟨l,rfl,h1,h2,h3,h4,h5⟩
  have hln:(zap n).length≤2:=zis (by omega)
  rcases Nat.eq_zero_or_pos M with h0 | h0
  · subst h0
    rw [zch,List.append_nil] at h4
    exact .inr ⟨l,rfl,by rw [h4]⟩
  · have hp:=zfg (n:=M) (by omega)
    have hl:=congrArg List.length hp
    rw [List.length_cons] at hl
    refine .inl ⟨(l++[((M % 4294967296:Nat):Int)],((M / 4294967296:Nat):Int)),M / 4294967296,?_,by omega,_,rfl,by omega,by simp; omega,by simp; omega,?_,by simp; omega⟩
    · simp only [decide_eq_true (show (0:Int) < (M:Int) by omega),cond_true,zbz,zbj (l:=l) (d:=((M % 4294967296:Nat):Int)) (by omega),shr32,zaq (show M / 4294967296 < 18446744073709551616 by omega)]
    · rw [List.append_assoc,List.singleton_append,← hp,h4]
theorem d65_eq {a b:Nat} (ha:a≤4611686018427387904) (hb:b≤4611686018427387904) (hb0:0 < b):d65 (a:Int) (b:Int)=some (rr (frac a b)):=by
  have hg:0 < Nat.gcd a b:=Nat.gcd_pos_of_pos_right a hb0
  unfold d65
  rw [d122_eq a b ha hb,Option.bind_some,decide_eq_false (show ¬ ((Nat.gcd a b:Nat):Int)=0 by omega)]
  have h1:a / Nat.gcd a b≤a:=Nat.div_le_self _ _
  have h2:b / Nat.gcd a b≤b:=Nat.div_le_self _ _
  have wN:∀ A:Nat,A≤4611686018427387904→w (A:Int)=(A:Int):=fun A hA=>zbl (by omega) (by omega)
  have e1:w (Int.tdiv (a:Int) ((Nat.gcd a b:Nat):Int))=((a / Nat.gcd a b:Nat):Int):=by rw [tdivN,wN _ (Nat.le_trans h1 ha)]
  have e2:w (Int.tdiv (b:Int) ((Nat.gcd a b:Nat):Int))=((b / Nat.gcd a b:Nat):Int):=by rw [tdivN,wN _ (Nat.le_trans h2 hb)]
  simp only [Bool.not_false,cond_true,e1,e2,d123_eq _ (Nat.le_trans h1 ha),d123_eq _ (Nat.le_trans h2 hb),Option.bind_some]
  congr 1
  rcases Nat.eq_zero_or_pos a with h0 | h0
  · subst h0
    have:frac 0 b=0:=by unfold frac; rw [Rat.div_def]; simp
    rw [this,zpw,Nat.gcd_zero_left,Nat.zero_div,Nat.div_self hb0,zch,zfg (n:=1) (by omega)]
    simp [zch]
  · have h:=zpx false (a:=a) (b:=b) (by omega) (by omega)
    have e:frac a b=mkRat (sgnN false a) b:=by
      unfold frac
      show _=mkRat (a:Int) b
      rw [Rat.mkRat_eq_div]
      rfl
    rw [e,h]
theorem d39_eq {a:Nat} (ha:a≤4611686018427387904):d39 (a:Int)=some (rr (a:Rat)):=by
  unfold d39
  have:=d65_eq (b:=1) ha (by omega) (by omega)
  rw [zjq] at this
  rw [show d65 (a:Int) 1=some (rr (a:Rat)) from this]; rfl
theorem d20_eq (l:List (List Int)) (hl:l.length≤281474976710656):d20 l=some (decide (∀ x∈l,x.length≤12) && decide (l.length≤16)):=by
  unfold d20
  by_cases h:∀ x∈l,x.length≤12
  · refine zac (b:=.inl l) (fun i=>(l,(i:Int))) l.length rfl (fun i hi=>?_) ?_ ?_
    · have:=h _ (zca (d:=[]) hi)
      simp only [dlt hi,d0le,Bool.and_self,cond_true,tn,decide_eq_false (show ¬ (12:Int) < ((l.getD i []).length:Int) by omega),cond_false,zaz (show i < 9223372036854775807 by omega)]
    · simp only [nlt (Nat.le_refl l.length),cond_false]
    · rw [decide_eq_true h,Bool.true_and]
      exact congrArg some (decide_eq_decide.2 (by omega))
  · rw [decide_eq_false h,Bool.false_and]
    refine zda (Q:=fun r=>r=some false) (fun (M:Nat) (st:(List (List Int)) × Int)=>∃ i:Nat,st=(l,(i:Int))∧i+M=l.length∧∀ j,j < i→(l.getD j []).length≤12) l.length ⟨0,rfl,by omega,fun j hj=>by omega⟩ ?_
    rintro M st ⟨i,rfl,h1,h2⟩
    rcases Nat.eq_zero_or_pos M with h0 | h0
    · exfalso
      refine h fun x hx=>?_
      obtain ⟨k,hk,rfl⟩:=List.getElem_of_mem hx
      have:=h2 k (by omega)
      rw [List.getD_eq_getElem?_getD,List.getElem?_eq_getElem hk] at this
      exact this
    · have hi:i < l.length:=by omega
      simp only [dlt hi,d0le,Bool.and_self,cond_true,tn]
      by_cases hc:12 < (l.getD i []).length
      · refine .inr ⟨.inr false,by rw [decide_eq_true (show (12:Int) < ((l.getD i []).length:Int) by omega),cond_true],rfl⟩
      · refine .inl ⟨_,M - 1,by rw [decide_eq_false (show ¬ (12:Int) < ((l.getD i []).length:Int) by omega),cond_false],by omega,i+1,by rw [zaz (by omega)],by omega,fun j hj=>?_⟩
        by_cases hji:j=i
        · rw [hji]; omega
        · exact h2 j (by omega)
theorem d72_eq {n:Nat} (hn:n≤1000):∃ l,d72 (n:Int)=some l∧l.length=n:=by
  unfold d72
  refine ⟨lst (fun i=>[wu8 (w (97+(i:Int)))]) n,?_,zak _ _⟩
  refine zac (fun i=>((n:Int),lst (fun i=>[wu8 (w (97+(i:Int)))]) i,(i:Int))) n rfl (fun i hi=>?_) ?_ rfl
  · simp only [dlt hi,cond_true,zbj (l:=lst (fun i=>[wu8 (w (97+(i:Int)))]) i) (d:=[wu8 (w (97+(i:Int)))]) (by rw [zak]; omega),zaz (show i < 9223372036854775807 by omega),zdu]
  · simp only [nlt (Nat.le_refl n),cond_false]
structure ConOK (c:CT) (n:Nat) (m:Int):Prop where
  names:c.2.1.length=n
  method:c.2.2.1=m
  seats1:1≤c.2.2.2.1
  seats5:c.2.2.2.1≤5
  seat:m=1→c.2.2.2.1=1
  digits:m=2→1≤c.2.2.2.2.2.1∧c.2.2.2.2.2.1≤6
  nodigits:m ≠ 2→c.2.2.2.2.2.1=0
  ties1:1≤c.2.2.2.2.2.2.1
  ties3:c.2.2.2.2.2.2.1≤3
theorem d25_eq {n:Nat} (hn:n≤1000) {m seats digits ties:Int} (hm:WT (.int .i64) m) (hs:WT (.int .i64) seats) (hd:WT (.int .i64) digits) (ht:WT (.int .i64) ties):∃ c:CT,d25 m (n:Int) seats digits ties=some c∧ConOK c n (1+m % 3)∧c.2.2.2.1=(if 1+m % 3=1 then 1 else 1+seats % 5)∧c.2.2.2.2.2.2.1=1+ties % 3:=by
  obtain ⟨l,l1,l2⟩:=d72_eq (n:=n) hn
  unfold d25
  rw [l1,znn hm (by omega) (by omega),znn hs (by omega) (by omega),znn ht (by omega) (by omega),znn hd (by omega) (by omega)]
  simp only [Option.bind_some,zah]
  have w1:w (1+m % 3)=1+m % 3:=zbl (by omega) (by omega)
  have w2:w (1+seats % 5)=1+seats % 5:=zbl (by omega) (by omega)
  have w3:w (1+ties % 3)=1+ties % 3:=zbl (by omega) (by omega)
  have w4:w (1+digits % 6)=1+digits % 6:=zbl (by omega) (by omega)
  simp only [w1,w2,w3,w4]
  have hm3:1+m % 3=1∨1+m % 3=2∨1+m % 3=3:=by omega
  rcases hm3 with h | h | h
  · rw [h]
    exact ⟨_,rfl,⟨l2,rfl,by show (1:Int)≤1; omega,by show (1:Int)≤5; omega,fun _=>rfl,fun h=>absurd h (by omega),fun _=>rfl,by show 1≤1+ties % 3; omega,by show 1+ties % 3≤3; omega⟩,rfl,rfl⟩
  · rw [h]
    exact ⟨_,rfl,⟨l2,rfl,by show 1≤1+seats % 5; omega,by show 1+seats % 5≤5; omega,fun h=>absurd h (by omega),fun _=>by show 1≤1+digits % 6∧1+digits % 6≤6; omega,fun h=>absurd rfl h,by show 1≤1+ties % 3; omega,by show 1+ties % 3≤3; omega⟩,rfl,rfl⟩
  · rw [h]
    exact ⟨_,rfl,⟨l2,rfl,by show 1≤1+seats % 5; omega,by show 1+seats % 5≤5; omega,fun h=>absurd h (by omega),fun h=>absurd h (by omega),fun _=>rfl,by show 1≤1+ties % 3; omega,by show 1+ties % 3≤3; omega⟩,rfl,rfl⟩
theorem d27_eq {n:Nat} (hn:n≤1000) {code:Int} (hc:WT (.int .i64) code):∃ l,d27 (n:Int) code=some l∧l.length=n∧isB (n:Int) l:=by
  have hwt:∀ x:Int,WT (.int .i64) x→-9223372036854775808≤x∧x≤9223372036854775807:=fun x hx=>wt_int hx
  unfold d27
  refine zbo (Q:=fun r=>∃ l,r=some l∧l.length=n∧isB (n:Int) l) (fun (i:Nat) (st:Int × Int × (List Int) × Int)=>∃ (cd:Int) (out:List Int),st=((n:Int),cd,out,(i:Int))∧WT (.int .i64) cd∧out.length=i∧isB (i:Int) out) n ?_ ?_ ?_
  · exact ⟨code,[],rfl,hc,rfl,List.nodup_nil,fun x hx=>by simp at hx⟩
  · rintro i st hi ⟨cd,out,rfl,hcd,hlen,hb⟩
    have hcb:=hwt cd hcd
    have b:=zkq cd (n:=((i+1:Nat):Int)) (by omega)
    obtain ⟨r,hr⟩:∃ r:Nat,cd % ((i+1:Nat):Int)=(r:Int):=⟨(cd % ((i+1:Nat):Int)).toNat,by omega⟩
    have hri:r≤i:=by omega
    have c1:zdg 0 (r:Int) out.length=true:=by
      unfold zdg
      simp only [Bool.and_eq_true,decide_eq_true_eq]
      omega
    have c2:zdg (r:Int) (out.length:Int) out.length=true:=by
      unfold zdg
      simp only [Bool.and_eq_true,decide_eq_true_eq]
      omega
    have hq:-9223372036854775808≤Int.tdiv cd ((i+1:Nat):Int)∧Int.tdiv cd ((i+1:Nat):Int)≤9223372036854775807:=by
      have h1:=Int.natAbs_tdiv_le_natAbs cd ((i+1:Nat):Int)
      by_cases h0:cd=-9223372036854775808
      · subst h0
        have h2:Int.tdiv (-9223372036854775808) ((i+1:Nat):Int)=-(Int.tdiv 9223372036854775808 ((i+1:Nat):Int)):=by rw [← Int.neg_tdiv]
        have h3:0≤Int.tdiv 9223372036854775808 ((i+1:Nat):Int):=Int.tdiv_nonneg (by omega) (by omega)
        omega
      · omega
    have hne:decide (((i+1:Nat):Int)=0)=false:=decide_eq_false (by omega)
    have ht:(out.take r).length=r:=by rw [List.length_take]; omega
    have l1:decide ((([]:List Int).length:Int)+((out.take r).length:Int)≤LIM)=true:=zit (by rw [ht]; simp; omega)
    have l2:=zbj (l:=out.take r) (d:=(i:Int)) (by omega)
    have l3:decide (((out.take r++[(i:Int)]).length:Int)+((out.drop r).length:Int)≤LIM)=true:=zit (by simp; omega)
    simp only [dlt hi,cond_true,zaz (show i < 9223372036854775807 by omega),znn hcd (show (0:Int) < ((i+1:Nat):Int) by omega) (by omega),hr,Option.bind_some,hne,Bool.not_false,c1,c2,List.drop_zero,tn,List.take_length,l1,l2,l3]
    refine ⟨_,rfl,_,_,rfl,?_,by simp; omega,?_,fun x hx=>?_⟩
    · rw [zbl hq.1 hq.2]
      exact zbl hq.1 hq.2
    · have hp:(out.take r++[(i:Int)]++out.drop r).Perm ((i:Int)::out):=by
        have h1:(out.take r++[(i:Int)]++out.drop r).Perm ([(i:Int)]++out.take r++out.drop r):=List.Perm.append_right _ List.perm_append_comm
        have h2:[(i:Int)]++out.take r++out.drop r=(i:Int)::out:=by rw [List.append_assoc,List.take_append_drop]; rfl
        rwa [h2] at h1
      refine hp.nodup_iff.2 (List.nodup_cons.2 ⟨fun hm=>?_,hb.1⟩)
      have:=hb.2 _ hm
      omega
    · simp only [List.mem_append,List.mem_singleton] at hx
      rcases hx with (hx | hx) | hx
      · have:=hb.2 x (List.mem_of_mem_take hx); omega
      · omega
      · have:=hb.2 x (List.mem_of_mem_drop hx); omega
  · rintro st ⟨cd,out,rfl,hcd,hlen,hb⟩
    exact ⟨out,by simp only [nlt (Nat.le_refl n),cond_false],out,rfl,hlen,hb⟩
theorem fitE_made {c:CT} {n:Nat} {m:Int} {gs:List Grp} {lots:List Int} {N:Int} (hc:ConOK c n m) (hm:1≤m) (hm3:m≤3) (h1:1≤n) (h7:n≤7) (hp:PileOK (n:Int) gs N) (hl:lots.length=n) (hb:isB (n:Int) lots):fitE m c gs lots=0:=by
  have hn:=hc.names
  have hpb:pileB (n:Int) gs=true:=by
    unfold pileB goodP
    rw [decide_eq_true hp.good,decide_eq_true (show 1≤(n:Int)∧(n:Int)≤7 by omega)]; rfl
  have hqb:zmx (n:Int) lots=true:=by
    unfold zmx
    rw [decide_eq_true hb,decide_eq_true (by omega)]; rfl
  have:=hc.seats1
  have:=hc.seats5
  have:=hc.ties1
  have:=hc.ties3
  unfold fitE
  rw [hn,hpb,hqb]
  simp only [decide_eq_false (show ¬ m < 1 by omega),decide_eq_false (show ¬ 3 < m by omega),decide_eq_true hc.method,decide_eq_false (show ¬ (n:Int) < 1 by omega),decide_eq_false (show ¬ 7 < (n:Int) by omega),decide_eq_false (show ¬ c.2.2.2.1 < 1 by omega),decide_eq_false (show ¬ 5 < c.2.2.2.1 by omega),decide_eq_false (show ¬ c.2.2.2.2.2.2.1 < 1 by omega),decide_eq_false (show ¬ 3 < c.2.2.2.2.2.2.1 by omega),Bool.not_true,Bool.or_false,Bool.false_or,cond_false]
  have h1:(decide (m=1) && !decide (c.2.2.2.1=1))=false:=by
    by_cases h:m=1
    · rw [decide_eq_true (hc.seat h)]; simp
    · rw [decide_eq_false h]; rfl
  have h2:(bif decide (m=2) then decide (1≤c.2.2.2.2.2.1) && decide (c.2.2.2.2.2.1≤6) else decide (c.2.2.2.2.2.1=0))=true:=by
    by_cases h:m=2
    · rw [decide_eq_true h,cond_true,decide_eq_true (hc.digits h).1,decide_eq_true (hc.digits h).2]; rfl
    · rw [decide_eq_false h,cond_false,decide_eq_true (hc.nodigits h)]
  rw [h1,h2]
  rfl
theorem gs_of {n:Nat} (h7:n≤7) {gs:List Grp} {N:Int} (hp:PileOK (n:Int) gs N):GsOK gs:=hp.gs (by omega)
def awG:GP:={ gs:=[([0,1],6),([2],3)],n:=3,seats:=2,q:=4,tot:=9,ties:=3,lots:=[0,1,2] }
theorem aw_pile:zdh [[0,1],[0,1],[0,1],[0,1],[0,1],[0,1],[2],[2],[2]]=[([0,1],6),([2],3)]:=by decide +kernel
theorem aw_count:(zfh awG).map (fun r=>(r.keep,r.exh,r.el))=[([1,1,1],0,[0]),([mkRat 1 3,1,1],0,[]),([mkRat 1 3,0,1],2,[2])]:=by decide +kernel
theorem aw_gp {c:CT} (h1:c.2.1.length=3) (h2:c.2.2.2.1=2) (h3:c.2.2.2.2.2.2.1=3):gpOf c [([0,1],6),([2],3)] [0,1,2]=awG:=by
  unfold gpOf awG
  rw [h1,h2,h3]
  have e1:(wsum zar [([0,1],6),([2],3)] / (2+1)+1).toNat=4:=by decide +kernel
  have e2:(wsum (fun _=>1) [([0,1],6),([2],3)]).toNat=9:=by decide +kernel
  rw [e1,e2]
  rfl
theorem d21_eq:d21=some true:=by
  have k:∀ x:Int,-9223372036854775808≤x→x≤9223372036854775807→WT (.int .i64) x:=fun x h0 h1=>zbl h0 h1
  obtain ⟨c,c1,c2,c3,c4⟩:=d25_eq (n:=3) (by omega) (k 2 (by omega) (by omega)) (k 1 (by omega) (by omega)) (k 0 (by omega) (by omega)) (k 2 (by omega) (by omega))
  have c3':c.2.2.2.1=2:=by rw [c3]; rfl
  have c4':c.2.2.2.2.2.2.1=3:=by rw [c4]; rfl
  have hb:∀ b∈[[0,1],[0,1],[0,1],[0,1],[0,1],[0,1],[2],[2],[2]],isB 3 b:=by decide +kernel
  have h48:=d48_eq (n:=3) (by omega) (by omega) hb (by simp)
  have hp:=(zmw (n:=3) _ hb (by simp)).1
  rw [aw_pile] at h48 hp
  have hfit:fitE 3 c [([0,1],6),([2],3)] [0,1,2]=0:=fitE_made (n:=3) (m:=3) c2 (by omega) (by omega) (by omega) (by omega) hp rfl (by decide +kernel)
  have h22:=d22_eq (c:=c) (lots:=[0,1,2]) (hp.gs (by omega)) (by simp)
  rw [if_pos hfit,aw_gp c2.names c3' c4'] at h22
  unfold d21
  have c1':d25 2 3 1 0 2=some c:=c1
  rw [h48,Option.bind_some,c1',Option.bind_some,h22,Option.bind_some]
  have hL:(zfh awG).length=3:=by have:=congrArg List.length aw_count; simpa using this
  obtain ⟨r0,r1,r2,hr⟩:∃ r0 r1 r2,zfh awG=[r0,r1,r2]:=by
    match h:zfh awG,hL with
    | [a,b,c],_=>exact ⟨a,b,c,rfl⟩
  have hc:=aw_count
  rw [hr] at hc
  simp only [List.map_cons,List.map_nil,List.cons.injEq,Prod.mk.injEq,and_true] at hc
  obtain ⟨⟨a1,a2,a3⟩,⟨b1,b2,b3⟩,⟨e1,e2,e3⟩⟩:=hc
  have hT:trT awG=(3,2,0,3,[rdT r0,rdT r1,rdT r2],[0,2]):=by
    unfold trT
    rw [hr]
    simp only [List.map_cons,List.map_nil,List.flatMap_cons,List.flatMap_nil,a3,b3,e3]
    rfl
  rw [hT,zah]
  have f38:d38 [0,2] [0,2]=some true:=by rw [zpd (by simp) (by simp)]; rfl
  have f65:d65 1 3=some (rr (mkRat 1 3)):=by
    have:=d65_eq (a:=1) (b:=3) (by omega) (by omega) (by omega)
    rw [show frac 1 3=mkRat 1 3 by decide +kernel] at this
    exact this
  have f39:d39 2=some (rr 2):=d39_eq (a:=2) (by omega)
  have f30:d30 9 2=some 4:=by rw [d30_eq (by omega) (by omega) (by omega) (by omega)]; rfl
  have hk:(rdT r1).2.1=[rr (mkRat 1 3),rr 1,rr 1]:=by
    show r1.keep.map rr=_
    rw [b1]; rfl
  have hx:(rdT r2).2.2.2.1=rr 2:=by
    show rr r2.exh=_
    rw [e2]
  have g1:d37 (rr (mkRat 1 3)) (rr (mkRat 1 3))=some true:=by
    rw [zpe (Bz.sz2 ⟨Nat.lt_of_le_of_lt (show (mkRat 1 3).num.natAbs≤1 by decide +kernel) (Nat.one_lt_two_pow (by decide)),Nat.lt_of_le_of_lt (show (mkRat 1 3).den≤2 ^ 2 by decide +kernel) (Nat.pow_lt_pow_right (by decide) (by decide))⟩),decide_eq_true rfl]
  have g2:d37 (rr 2) (rr 2)=some true:=by
    have h:=zpe (x:=((2:Nat):Rat)) (y:=((2:Nat):Rat)) (bz_nat (n:=2) (by decide)).sz2
    rw [decide_eq_true rfl] at h
    exact h
  simp only [f38,f65,f39,f30,List.getD_cons_succ,List.getD_cons_zero,hk,hx,g1,g2,Option.bind_some,List.length_cons,List.length_nil]
  rfl
end Go.Proofs.YtmipjomnjkmdbaaGreat
set_option linter.unusedSimpArgs false
set_option linter.unusedVariables false
namespace Go.Proofs.YtmipjomnjkmdbaaGreat
open Go Go.X
theorem d211_eq (a:Rt) (h2:a.2.2.length≤1000000000) (h1:a.2.1.length≤1000000000):d211 a=some (!a.1 && (decide (a.2.1.length≤1) && (decide (a.2.2.length=1) && decide (0 < a.2.2.getD 0 0)))):=by
  unfold d211
  cases a.1
  · rw [Bool.not_false,cond_true,Bool.true_and]
    by_cases hn:a.2.1.length≤1
    · rw [decide_eq_true (show (a.2.1.length:Int)≤1 by omega),cond_true,decide_eq_true hn,Bool.true_and]
      by_cases hd:a.2.2.length=1
      · rw [decide_eq_true (show (a.2.2.length:Int)=1 by omega),cond_true,decide_eq_true hd,Bool.true_and]
        rw [show (decide (0≤0) && decide ((0:Int) < (a.2.2.length:Int)))=true by rw [decide_eq_true (show (0:Int) < (a.2.2.length:Int) by omega)]; rfl]
        rfl
      · rw [decide_eq_false (show ¬ (a.2.2.length:Int)=1 by omega),decide_eq_false hd]; rfl
    · rw [decide_eq_false (show ¬ (a.2.1.length:Int)≤1 by omega),decide_eq_false hn]; rfl
  · rfl
theorem limbs_one {n:Nat} (h:(zap n).length=1):n < 4294967296∧(zap n).getD 0 0=(n:Int):=by
  have h1:=(zaw n 1).1 (by omega)
  have hp:0 < n:=zet.1 (by omega)
  rw [Nat.pow_one] at h1
  refine ⟨h1,?_⟩
  rw [zfg (by omega),List.getD_cons_zero,Nat.mod_eq_of_lt h1]
theorem d212_eq {x y:Rat} (hx:(rr x).2.1.length≤1) (hy:(rr y).2.2.length=1):d212 (rr x) (rr y)=some ((x.num.natAbs * y.den:Nat):Int):=by
  unfold d212
  have hyd:=limbs_one (n:=y.den) hy
  by_cases h0:(rr x).2.1.length=0
  · rw [decide_eq_true (show ((rr x).2.1.length:Int)=0 by omega),cond_true]
    have:x.num.natAbs=0:=znb.1 (List.length_eq_zero_iff.1 h0)
    rw [this,Nat.zero_mul]; rfl
  · have h1:(rr x).2.1.length=1:=by omega
    have hxn:=limbs_one (n:=x.num.natAbs) h1
    have e1:(rr x).2.1.getD 0 0=(x.num.natAbs:Int):=hxn.2
    have e2:(rr y).2.2.getD 0 0=(y.den:Int):=hyd.2
    obtain ⟨p,hp⟩:∃ p,x.num.natAbs * y.den=p:=⟨_,rfl⟩
    have hpl:p≤4294967295 * 4294967295:=by rw [← hp]; exact Nat.mul_le_mul (by omega) (by omega)
    have hpi:(x.num.natAbs:Int) * (y.den:Int)=(p:Int):=by rw [← hp]; simp
    rw [decide_eq_false (show ¬ ((rr x).2.1.length:Int)=0 by omega),cond_false,h1,hy]
    simp only [e1,e2,zaq (show x.num.natAbs < 18446744073709551616 by omega),zaq (show y.den < 18446744073709551616 by omega),hpi,zaq (show p < 18446744073709551616 by omega),hp]
    rfl
theorem d182_eq {x y:Rat} (hx:Bz eB x) (hy:Bz eB y):d182 (rr x) (rr y)=some (cmpQ x y):=by
  have sx:=hx.sz2
  have sy:=hy.sz2
  have hl:(d34 (rr x)).bind (fun r_2=>(d34 (rr y)).bind fun r_3=>(d36 r_2 r_3).bind fun r_4=>some r_4)=some (cmpQ x y):=by
    rw [d34_rr (hx.mono (by decide)),d34_rr (hy.mono (by decide)),Option.bind_some,Option.bind_some,d36_qb (hx.mono (by decide)) (hy.mono (by decide))]; rfl
  unfold d182
  rw [zah,d211_eq (rr x) (by have:=sx.2; omega) (by have:=sx.1; omega),Option.bind_some]
  cases h1:(!(rr x).1 && (decide ((rr x).2.1.length≤1) && (decide ((rr x).2.2.length=1) && decide (0 < (rr x).2.2.getD 0 0))))
  · simp only [Bool.not_false,Bool.not_true,cond_false,cond_true]
    exact hl
  · rw [d211_eq (rr y) (by have:=sy.2; omega) (by have:=sy.1; omega)]
    simp only [Bool.not_true,Bool.not_false,cond_true,Option.bind_some]
    cases h2:(!(rr y).1 && (decide ((rr y).2.1.length≤1) && (decide ((rr y).2.2.length=1) && decide (0 < (rr y).2.2.getD 0 0))))
    · simp only [Bool.not_false,cond_true]
      exact hl
    · simp only [Bool.and_eq_true,Bool.not_eq_true',decide_eq_true_eq] at h1 h2
      obtain ⟨a1,a2,a3,_⟩:=h1
      obtain ⟨b1,b2,b3,_⟩:=h2
      rw [rr_neg] at a1 b1
      have hxn:=(Rat.num_nonneg (q:=x)).2 (Rat.not_lt.1 (of_decide_eq_false a1))
      have hyn:=(Rat.num_nonneg (q:=y)).2 (Rat.not_lt.1 (of_decide_eq_false b1))
      simp only [Bool.not_true,cond_false,d212_eq a2 b3,d212_eq b2 a3,Option.bind_some]
      have hlt:x < y↔x.num.natAbs * y.den < y.num.natAbs * x.den:=by
        rw [Rat.lt_iff]
        have e1:x.num=(x.num.natAbs:Int):=by omega
        have e2:y.num=(y.num.natAbs:Int):=by omega
        rw [e1,e2]
        simp only [Int.natAbs_natCast]
        constructor
        · intro h; exact_mod_cast h
        · intro h; exact_mod_cast h
      have hgt:y < x↔y.num.natAbs * x.den < x.num.natAbs * y.den:=by
        rw [Rat.lt_iff]
        have e1:x.num=(x.num.natAbs:Int):=by omega
        have e2:y.num=(y.num.natAbs:Int):=by omega
        rw [e1,e2]
        simp only [Int.natAbs_natCast]
        constructor
        · intro h; exact_mod_cast h
        · intro h; exact_mod_cast h
      unfold cmpQ
      generalize x.num.natAbs * y.den=p at hlt hgt ⊢
      generalize y.num.natAbs * x.den=q at hlt hgt ⊢
      by_cases c1:p < q
      · rw [if_pos (hlt.2 c1),dlt c1]; rfl
      · rw [if_neg fun h=>c1 (hlt.1 h),nlt (by omega),cond_false]
        by_cases c2:q < p
        · have:=hgt.2 c2
          rw [if_neg (by intro e; rw [e] at this; exact Rat.lt_irrefl this),dlt c2]; rfl
        · rw [nlt (by omega),cond_false]
          have h1:=Rat.not_lt.1 fun h=>c1 (hlt.1 h)
          have h2:=Rat.not_lt.1 fun h=>c2 (hgt.1 h)
          rw [if_pos (Rat.le_antisymm h2 h1)]
theorem d183_eq {n:Nat} {r:List Rat} (h:RndOK n r) {c:Nat} (hc:c < n):d183 (r.map rr) (c:Int)=some (rr (zag r (c:Int))):=by
  have hc':c < r.length:=by rw [h.1]; exact hc
  unfold d183
  rw [List.length_map,dlt hc']
  simp only [cond_true,d0le,Bool.and_self,tn,zmz hc']
  rfl
theorem zre {α:Type} (l:List α) (d:α) (p:α→Bool) {k:Nat} (h:k < l.length):(l.take (k+1)).all p=((l.take k).all p && p (l.getD k d)):=by
  rw [zbb l d h,List.all_append]; simp
theorem d148_eq {n:Nat} {r:List Rat} (h:RndOK n r) {l:List Int} (hl:∀ c∈l,∃ i:Nat,c=(i:Int)∧i < n) (hll:l.length≤1000) (least:Bool):d148 (r.map rr) l least=some (extr least (zag r) l):=by
  unfold d148
  have hb:∀ i k:Int,∀ q:Bool,(if least then decide (zag r i≤zag r k) else decide (zag r k≤zag r i))=q→q=(if least then decide (zag r i≤zag r k) else decide (zag r k≤zag r i)):=fun i k q h=>h.symm
  refine zac (fun i=>(r.map rr,l,least,(l.take i).filter (fun i=>l.all fun k=>if least then decide (zag r i≤zag r k) else decide (zag r k≤zag r i)),(i:Int))) l.length rfl (fun i hi=>?_) (b:=extr least (zag r) l) ?_ rfl
  · obtain ⟨c,hc,hcn⟩:=hl _ (zcn hi)
    simp only [dlt hi,cond_true,zah]
    have hfl:((l.take i).filter (fun i=>l.all fun k=>if least then decide (zag r i≤zag r k) else decide (zag r k≤zag r i))).length≤i:=by
      refine Nat.le_trans (List.length_filter_le _ _) ?_
      rw [List.length_take]; omega
    have hnext:(l.take (i+1)).filter (fun i=>l.all fun k=>if least then decide (zag r i≤zag r k) else decide (zag r k≤zag r i))=(l.take i).filter (fun i=>l.all fun k=>if least then decide (zag r i≤zag r k) else decide (zag r k≤zag r i))++(if (l.all fun k=>if least then decide (zag r (c:Int)≤zag r k) else decide (zag r k≤zag r (c:Int))) then [(c:Int)] else []):=by
      rw [zby _ l hi,hc]
    generalize (l.take i).filter (fun i=>l.all fun k=>if least then decide (zag r i≤zag r k) else decide (zag r k≤zag r i))=out at hfl hnext ⊢
    refine zac (fun k=>(r.map rr,l,least,out,(i:Int),(l.take k).all (fun k=>if least then decide (zag r (c:Int)≤zag r k) else decide (zag r k≤zag r (c:Int))),(k:Int))) l.length rfl (fun k hk=>?_) (b:=(r.map rr,l,least,out,(i:Int),l.all (fun k=>if least then decide (zag r (c:Int)≤zag r k) else decide (zag r k≤zag r (c:Int))))) ?_ ?_
    · obtain ⟨d,hd,hdn⟩:=hl _ (zcn hk)
      have hcb:=zns (zag r (d:Int)) (zag r (c:Int))
      simp only [dlt hk,dlt hi,d0le,Bool.and_self,cond_true,tn,hc,hd,d183_eq h hcn,d183_eq h hdn,Option.bind_some,d182_eq (h.bz hdn) (h.bz hcn),zah,zaz (show k < 9223372036854775807 by omega)]
      rw [zre l 0 _ hk,hd]
      have k1:cmpQ (zag r (d:Int)) (zag r (c:Int)) < 0↔¬ zag r (c:Int)≤zag r (d:Int):=by
        unfold cmpQ
        rw [Rat.not_le]
        by_cases h1:zag r (d:Int) < zag r (c:Int)
        · rw [if_pos h1]; exact ⟨fun _=>h1,fun _=>by omega⟩
        · rw [if_neg h1]; exact ⟨fun h=>by split at h <;> omega,fun h=>absurd h h1⟩
      have k2:0 < cmpQ (zag r (d:Int)) (zag r (c:Int))↔¬ zag r (d:Int)≤zag r (c:Int):=by
        unfold cmpQ
        by_cases h1:zag r (d:Int) < zag r (c:Int)
        · rw [if_pos h1]; exact ⟨fun h=>by omega,fun h=>absurd (Rat.le_of_lt h1) h⟩
        · rw [if_neg h1]
          by_cases h2:zag r (d:Int)=zag r (c:Int)
          · rw [if_pos h2,h2]; exact ⟨fun h=>by omega,fun h=>absurd Rat.le_refl h⟩
          · rw [if_neg h2]; exact ⟨fun _ hle=>h2 (Rat.le_antisymm hle (Rat.not_lt.1 h1)),fun _=>by omega⟩
      cases least
      · simp only [Bool.not_false,cond_true,cond_false,Bool.false_eq_true,if_false]
        by_cases hx:0 < cmpQ (zag r (d:Int)) (zag r (c:Int))
        · rw [decide_eq_true hx,cond_true,decide_eq_false (k2.1 hx),Bool.and_false]
        · rw [decide_eq_false hx,cond_false,decide_eq_true (Decidable.not_not.1 fun hn=>hx (k2.2 hn)),Bool.and_true]
      · simp only [Bool.not_true,Bool.not_false,cond_true,cond_false,if_true]
        by_cases hx:cmpQ (zag r (d:Int)) (zag r (c:Int)) < 0
        · rw [decide_eq_true hx,decide_eq_false (k1.1 hx),Bool.and_false]; rfl
        · rw [decide_eq_false hx,decide_eq_true (Decidable.not_not.1 fun hn=>hx (k1.2 hn)),Bool.and_true]; rfl
    · simp only [nlt (Nat.le_refl l.length),cond_false,List.take_length]
    · simp only [hnext]
      cases (l.all fun k=>if least then decide (zag r (c:Int)≤zag r k) else decide (zag r k≤zag r (c:Int)))
      · rw [cond_false,zaz (by omega)]; simp
      · rw [cond_true]
        simp only [d0le,dlt hi,Bool.and_self,cond_true,tn,hc,zbj (l:=out) (d:=(c:Int)) (by omega),zaz (show i < 9223372036854775807 by omega),if_true]
  · simp only [nlt (Nat.le_refl l.length),cond_false,List.take_length]
    rfl
theorem d149_eq' {lots:List Int} (hl:lots.length≤1000) {c:Int} (hc:c∈lots):d149 lots c=some (zcj lots c:Int):=by
  rw [d149_eq c (by omega),zgt]
  rfl
theorem d147_eq {n:Nat} {ties:Int} {tied lots:List Int} (h1:1≤ties) (h3:ties≤3) (hl:LotsOK n lots) (ht:tied ≠ []) (hts:tied.Pairwise (· < ·)) (htb:∀ c∈tied,∃ i:Nat,c=(i:Int)∧i < n) (htl:tied.length≤1000):d147 ties tied lots=some true:=by
  have hn1:=hl.n1
  have hn7:=hl.n7
  have hp:=List.length_pos_iff.2 ht
  have hlb:isB (n:Int) lots:=⟨hl.nodup,fun x hx=>by obtain ⟨i,rfl,hi⟩:=hl.within x hx; omega⟩
  have htb':isB (n:Int) tied:=⟨hts.imp fun h=>by omega,fun x hx=>by obtain ⟨i,rfl,hi⟩:=htb x hx; omega⟩
  have h71:d71 (n:Int) lots=some true:=by
    unfold d71
    rw [hl.len,decide_eq_true rfl,cond_true,d32_eq _ (by rw [hl.len]; omega),decide_eq_true hlb]; rfl
  have h32:d32 (n:Int) tied=some true:=by rw [d32_eq _ (by omega),decide_eq_true htb']
  unfold d147
  rw [zah]
  simp only [hl.len,decide_eq_false (show ¬ ties < 1 by omega),decide_eq_false (show ¬ 3 < ties by omega),decide_eq_false (show ¬ (n:Int) < 1 by omega),decide_eq_false (show ¬ 7 < (n:Int) by omega),decide_eq_false (show ¬ (tied.length:Int)=0 by omega),Bool.not_false,Bool.not_true,cond_true,cond_false,h71,h32,Option.bind_some]
  refine zac (fun i=>(tied,((i+1:Nat):Int))) (tied.length - 1) rfl (fun i hi=>?_) (b:=.inl ()) ?_ rfl
  · have hlt:i+1 < tied.length:=by omega
    have hord:tied.getD i 0 < tied.getD (i+1) 0:=by
      rw [List.getD_eq_getElem?_getD,List.getElem?_eq_getElem (by omega),List.getD_eq_getElem?_getD,List.getElem?_eq_getElem hlt]
      exact List.pairwise_iff_getElem.1 hts i (i+1) (by omega) hlt (by omega)
    simp only [dlt hlt,cond_true,wpred (show i < 9223372036854775807 by omega),d0le,dlt (show i < tied.length by omega),Bool.and_self,tn,decide_eq_false (show ¬ tied.getD (i+1) 0≤tied.getD i 0 by omega),cond_false,zaz (show i+1 < 9223372036854775807 by omega)]
  · rw [show tied.length - 1+1=tied.length by omega]
    simp only [nlt (Nat.le_refl tied.length),cond_false]
theorem d88_eq {n:Nat} {ties:Int} {E:List (List Rat)} {tied lots:List Int} {least:Bool} (h1:1≤ties) (h3:ties≤3) (hl:LotsOK n lots) (hE:∀ r∈E,RndOK n r) (hEl:E.length≤1000000) (ht:tied ≠ []) (hts:tied.Pairwise (· < ·)) (htb:∀ c∈tied,∃ i:Nat,c=(i:Int)∧i < n) (htl:tied.length≤1000) :
    ∃ b,d88 ties (E.map (List.map rr)) tied lots least=some (tieB ties E tied lots least,b):=by
  unfold d88
  rw [d147_eq h1 h3 hl ht hts htb htl]
  simp only [Option.bind_some,Bool.not_true,cond_false]
  have hEm:(E.map (List.map rr)).length=E.length:=List.length_map ..
  have hfin:∀ left:List Int,left=tieL least (zai ties E) tied→∃ b,(bif (decide ((left.length:Int)=1)) then
      bif (decide (0≤0) && decide (0 < (left.length:Int))) then
        some ((List.getD left 0 0),false)
      else none
    else
      bif (decide (0≤0) && decide (0 < (left.length:Int))) then
        (zae (β:=Int) (fun ((t3_5,t4_5,t12_5,t15,t16):(List Int) × Bool × (List Int) × Int × Int) =>
            bif (decide (t16 < (t12_5.length:Int))) then
              letJ (fun ((t3_6,t4_6,t12_6,t15_1,t16_1):(List Int) × Bool × (List Int) × Int × Int) =>
                  some (Sum.inl (t3_6,t4_6,t12_6,t15_1,(w (t16_1+1))))) fun j__3 =>
              bif (decide (0≤t16) && decide (t16 < (t12_5.length:Int))) then
                (d149 t3_5 (List.getD t12_5 (Int.toNat t16) 0)).bind fun r_2 =>
                (d149 t3_5 t15).bind fun r_3 =>
                bif ((decide (r_3 < r_2)) == t4_5) then
                  bif (decide (0≤t16) && decide (t16 < (t12_5.length:Int))) then
                    j__3 (t3_5,t4_5,t12_5,(List.getD t12_5 (Int.toNat t16) 0),t16)
                  else none
                else
                  j__3 (t3_5,t4_5,t12_5,t15,t16)
              else none
            else
              some (Sum.inr t15)) (lots,least,left,(List.getD left 0 0),1)).bind fun (t15_2:Int) =>
        some (t15_2,true)
      else none:Option (Int × Bool))=some (tieB ties E tied lots least,b):=by
    intro left hleft
    have hne:left ≠ []:=by rw [hleft]; exact zpp ht
    have hpos:=List.length_pos_iff.2 hne
    have hlen:left.length≤tied.length:=by rw [hleft]; exact ziz _ _ _
    have hlot:∀ a∈left,a∈lots:=fun a ha=>by
      rw [hleft] at ha
      obtain ⟨i,rfl,hi⟩:=htb _ (zgk ha)
      exact hl.mem hi
    have hnd:left.Nodup:=by
      have key:∀ (rs:List (List Rat)) (l:List Int),l.Nodup→(tieL least rs l).Nodup:=by
        intro rs
        induction rs with
        | nil=>intro l h; exact h
        | cons r rs ih =>
          intro l h
          show (tieL least rs (if 1 < l.length then extr least (zag r) l else l)).Nodup
          refine ih _ ?_
          split
          · exact h.sublist List.filter_sublist
          · exact h
      rw [hleft]
      exact key _ _ (hts.imp fun h=>by omega)
    have hll:=hl.len
    have hn7:=hl.n7
    unfold tieB
    simp only [← hleft]
    by_cases hone:left.length=1
    · refine ⟨false,?_⟩
      rw [if_pos hone,hone,zdm]; rfl
    · refine ⟨true,?_⟩
      rw [if_neg hone,decide_eq_false (show ¬ (left.length:Int)=1 by omega),cond_false,show (decide (0≤0) && decide ((0:Int) < (left.length:Int)))=true by rw [decide_eq_true (show (0:Int) < (left.length:Int) by omega)]; rfl,cond_true]
      have hmem:∀ i,zil lots least (left.take (i+1))∈left.take (i+1):=fun i=>byLot_mem (List.ne_nil_of_length_pos (by rw [List.length_take]; omega))
      refine zac (fun i=>(lots,least,left,zil lots least (left.take (i+1)),((i+1:Nat):Int))) (left.length - 1) ?_ (fun i hi=>?_) (b:=zil lots least left) ?_ rfl
      · have e:left.take 1=[left.headD 0]:=by
          cases left with
          | nil=>exact absurd rfl hne
          | cons y l=>rfl
        rw [show (0:Nat)+1=1 from rfl,e,zdm]
        rfl
      · have hlt:i+1 < left.length:=by omega
        have hm:=hmem i
        have hxm:left.getD (i+1) 0∈left:=zcn hlt
        have hs:zil lots least (left.take (i+1+1))=if least then (if zcj lots (zil lots least (left.take (i+1))) < zcj lots (left.getD (i+1) 0) then left.getD (i+1) 0 else zil lots least (left.take (i+1))) else (if zcj lots (left.getD (i+1) 0) < zcj lots (zil lots least (left.take (i+1))) then left.getD (i+1) 0 else zil lots least (left.take (i+1))):=by
          rw [zbb left 0 hlt]
          have e:left.take (i+1)=left.headD 0::(left.take (i+1)).tail:=by
            cases left with
            | nil=>exact absurd rfl hne
            | cons y l=>rfl
          have e2:(left.take (i+1)++[left.getD (i+1) 0]).tail=(left.take (i+1)).tail++[left.getD (i+1) 0]:=by rw [e]; rfl
          have e3:(left.take (i+1)++[left.getD (i+1) 0]).headD 0=(left.take (i+1)).headD 0:=by rw [e]; rfl
          show (left.take (i+1)++[left.getD (i+1) 0]).tail.foldl _ ((left.take (i+1)++[left.getD (i+1) 0]).headD 0)=_
          rw [e2,e3,List.foldl_append]
          rfl
        have hneq:left.getD (i+1) 0 ≠ zil lots least (left.take (i+1)):=fun e=>by
          have:=hnd.sublist (List.take_sublist (i+1+1) left)
          rw [zbb left 0 hlt,List.nodup_append] at this
          exact this.2.2 _ hm _ (by simp) e.symm
        have hpl:zcj lots (left.getD (i+1) 0) ≠ zcj lots (zil lots least (left.take (i+1))):=fun e=>by
          have h1:=hlot _ hxm
          have h2:=hlot _ (List.mem_of_mem_take hm)
          have g1:=List.idxOf_lt_length_iff.2 h1
          have g2:=List.idxOf_lt_length_iff.2 h2
          refine hneq ?_
          rw [← List.getElem_idxOf g1,← List.getElem_idxOf g2]
          congr 1
        rw [hs]
        simp only [dlt hlt,d0le,Bool.and_self,cond_true,tn,zah,d149_eq' (show lots.length≤1000 by omega) (hlot _ hxm),d149_eq' (show lots.length≤1000 by omega) (hlot _ (List.mem_of_mem_take hm)),Option.bind_some,zaz (show i+1 < 9223372036854775807 by omega)]
        generalize zil lots least (left.take (i+1))=m at *
        generalize left.getD (i+1) 0=y at *
        by_cases c1:zcj lots m < zcj lots y
        · rw [dlt c1]
          cases least
          · rw [if_neg (by simp),if_neg (by omega)]; rfl
          · rw [if_pos rfl,if_pos c1]; rfl
        · rw [nlt (by omega)]
          cases least
          · rw [if_neg (by simp),if_pos (by omega)]; rfl
          · rw [if_pos rfl,if_neg c1]; rfl
      · rw [show left.length - 1+1=left.length by omega,List.take_length]
        simp only [nlt (Nat.le_refl left.length),cond_false]
  by_cases c3:ties=3
  · have hr:zai ties E=[]:=by unfold zai; rw [if_pos c3]
    obtain ⟨b,hb⟩:=hfin tied (by rw [hr]; rfl)
    refine ⟨b,?_⟩
    rw [zdz (b:=(lots,least,tied)) ?_]
    · exact hb
    · simp only [zah,decide_eq_true c3,Bool.not_true]
      cases decide ((0:Int) < ((E.map (List.map rr)).length:Int)) <;> rfl
  · have hrl:(zai ties E).length=E.length:=by
      unfold zai
      rw [if_neg c3]
      split
      · exact List.length_reverse
      · rfl
    obtain ⟨b,hb⟩:=hfin (tieL least (zai ties E) tied) rfl
    refine ⟨b,?_⟩
    refine zac (fun i=>(ties,E.map (List.map rr),lots,least,tieL least ((zai ties E).take i) tied,(i:Int))) E.length (by rw [List.take_zero]; rfl) (fun i hi=>?_) (b:=(lots,least,tieL least (zai ties E) tied)) ?_ hb
    · have hsub:∀ c∈tieL least ((zai ties E).take i) tied,∃ j:Nat,c=(j:Int)∧j < n:=fun c hc=>htb c (zgk hc)
      have hlen:=ziz least ((zai ties E).take i) tied
      have hsn:tieL least ((zai ties E).take (i+1)) tied=if 1 < (tieL least ((zai ties E).take i) tied).length then extr least (zag ((zai ties E).getD i [])) (tieL least ((zai ties E).take i) tied) else tieL least ((zai ties E).take i) tied:=by
        rw [zbb (zai ties E) [] (by omega),tieL_snoc]
      rw [hsn]
      generalize tieL least ((zai ties E).take i) tied=left at *
      have key:∀ (r:List Rat) (z:List Rt),r∈E→(zai ties E).getD i []=r→z=r.map rr→d148 z left least=some (extr least (zag ((zai ties E).getD i [])) left):=by
        rintro r z hr hri rfl
        rw [d148_eq (hE r hr) hsub (by omega),hri]
      simp only [zah,hEm,dlt hi,cond_true,decide_eq_false c3,Bool.not_false]
      by_cases hl1:1 < left.length
      · have hg:decide ((1:Int) < (left.length:Int))=true:=decide_eq_true (by omega)
        rw [if_pos hl1]
        by_cases c1:ties=1
        · have i1:w (w ((E.length:Int) - 1) - (i:Int))=((E.length - 1 - i:Nat):Int):=by
            rw [zbl (n:=(E.length:Int) - 1) (by omega) (by omega),zbl (by omega) (by omega)]; omega
          have hgr:(zai ties E).getD i []=E.getD (E.length - 1 - i) []:=by
            unfold zai
            rw [if_neg c3,if_pos c1]
            rw [List.getD_eq_getElem?_getD,List.getElem?_reverse hi,List.getD_eq_getElem?_getD]
          have hz:(E.map (List.map rr)).getD (E.length - 1 - i) []=(E.getD (E.length - 1 - i) []).map rr:=by
            rw [List.getD_eq_getElem?_getD,List.getElem?_map,List.getElem?_eq_getElem (by omega),List.getD_eq_getElem?_getD,List.getElem?_eq_getElem (by omega)]; rfl
          simp only [decide_eq_true c1,cond_true,hg,i1,d0le,dlt (show E.length - 1 - i < E.length by omega),Bool.and_self,tn,key _ _ (zca (by omega)) hgr hz,Option.bind_some,zaz (show i < 9223372036854775807 by omega)]
        · have hgr:(zai ties E).getD i []=E.getD i []:=by
            unfold zai
            rw [if_neg c3,if_neg c1]
          have hz:(E.map (List.map rr)).getD i []=(E.getD i []).map rr:=by
            rw [List.getD_eq_getElem?_getD,List.getElem?_map,List.getElem?_eq_getElem hi,List.getD_eq_getElem?_getD,List.getElem?_eq_getElem hi]; rfl
          simp only [decide_eq_false c1,cond_false,cond_true,hg,d0le,dlt hi,Bool.and_self,tn,key _ _ (zca hi) hgr hz,Option.bind_some,zaz (show i < 9223372036854775807 by omega)]
      · have hg:decide ((1:Int) < (left.length:Int))=false:=decide_eq_false (by omega)
        rw [if_neg hl1]
        by_cases c1:ties=1
        · simp only [decide_eq_true c1,cond_true,hg,cond_false,zaz (show i < 9223372036854775807 by omega)]
        · simp only [decide_eq_false c1,cond_false,hg,zaz (show i < 9223372036854775807 by omega)]
    · simp only [zah,hEm,nlt (Nat.le_refl E.length),cond_false]
      rw [List.take_of_length_le (by omega)]
end Go.Proofs.YtmipjomnjkmdbaaGreat
set_option linter.unusedSimpArgs false
set_option linter.unusedVariables false
namespace Go.Proofs.YtmipjomnjkmdbaaGreat
open Go Go.X
theorem zlh {n:Nat} (h:n≤4611686018427387904):d75 (n:Int)=some (binl n):=by
  unfold d75
  rw [zaq (by omega),d93_eq (by omega) (by omega)]
  rfl
theorem zha {x:Nat} (h:x < 2 ^ eB):(binl x).length≤2208:=Nat.le_trans ((zbi x eB).2 h) (by decide)
theorem qb_nat (n:Nat):qb (n:Rat)=(false,binl n,binl 1):=by
  unfold qb
  have h1:(n:Rat).num=(n:Int):=Rat.num_natCast n
  have h2:(n:Rat).den=1:=Rat.den_natCast n
  rw [h1,h2,decide_eq_false (by omega),Int.natAbs_natCast]
theorem natBz {a:Nat} (h:a < 2 ^ eB):Bz eB (a:Rat):=by
  rw [← zjq]
  exact zho h (Nat.one_lt_two_pow (by decide)) (by decide)
theorem d78_eq {a b:Nat} (ha:a < 2 ^ eB) (hb:b < 2 ^ eB) (hb0:0 < b):d78 (binl a) (binl b)=some (rr (frac a b)):=by
  unfold d78
  rw [show d75 1=some (binl 1) from zlh (n:=1) (by omega)]
  simp only [Option.bind_some]
  have hp:(0:Rat) < (b:Rat):=by exact_mod_cast hb0
  have e:=d144_qb ((natBz ha).mono (by decide)) ((natBz hb).mono (by decide)) hp
  rw [qb_nat,qb_nat] at e
  rw [e,Option.bind_some,d143_qb (q:=(a:Rat) / (b:Rat)) ((zho ha hb (by decide)).mono (by decide))]
  rfl
theorem d81_eq {l:List Int} (c:Int) (hl:l.length≤1000):d81 l c=some (l.filter (fun x=>decide (x < c))++[c]++l.filter (fun x=>decide (c < x))):=by
  unfold d81
  have hf1:=List.length_filter_le (fun x=>decide (x < c)) l
  refine zac (fun i=>(l,c,(l.take i).filter (fun x=>decide (x < c)),(i:Int))) l.length rfl (fun i hi=>?_) (b:=(l,c,l.filter (fun x=>decide (x < c)))) ?_ ?_
  · have hfl:=List.length_filter_le (fun x=>decide (x < c)) (l.take i)
    rw [List.length_take] at hfl
    rw [zby _ l hi]
    simp only [dlt hi,d0le,Bool.and_self,cond_true,tn,zah,zaz (show i < 9223372036854775807 by omega)]
    cases decide (l.getD i 0 < c)
    · simp
    · rw [cond_true,zbj (by omega)]; rfl
  · simp only [nlt (Nat.le_refl l.length),cond_false,List.take_length]
  · simp only [zbj (l:=l.filter (fun x=>decide (x < c))) (d:=c) (by omega),cond_true]
    refine zac (fun i=>(l,c,l.filter (fun x=>decide (x < c))++[c]++(l.take i).filter (fun x=>decide (c < x)),(i:Int))) l.length (by simp) (fun i hi=>?_) (b:=l.filter (fun x=>decide (x < c))++[c]++l.filter (fun x=>decide (c < x))) ?_ rfl
    · have hfl:=List.length_filter_le (fun x=>decide (c < x)) (l.take i)
      rw [List.length_take] at hfl
      rw [zby _ l hi]
      simp only [dlt hi,d0le,Bool.and_self,cond_true,tn,zah,zaz (show i < 9223372036854775807 by omega)]
      cases decide (c < l.getD i 0)
      · simp
      · rw [cond_true,zbj (by simp; omega),if_pos rfl,← List.append_assoc]; rfl
    · simp only [nlt (Nat.le_refl l.length),cond_false,List.take_length]
theorem selI_put (p:Nat→Bool) {i:Nat}:∀ {n:Nat},i < n→selI (fun j=>p j && decide ((j:Int) < (i:Int))) n++[(i:Int)]++selI (fun j=>p j && decide ((i:Int) < (j:Int))) n=selI (fun j=>p j || decide (j=i)) n
  | 0,h=>by omega
  | n+1,h=>by
    rw [zdp,zdp,zdp (fun j=>p j || decide (j=i))]
    by_cases hin:i=n
    · subst hin
      rw [decide_eq_false (show ¬ (i:Int) < (i:Int) by omega),Bool.and_false,decide_eq_true (rfl:i=i),Bool.or_true]
      have e1:selI (fun j=>p j && decide ((j:Int) < (i:Int))) i=selI p i:=zbu fun j hj=>by rw [decide_eq_true (by omega),Bool.and_true]
      have e2:selI (fun j=>p j && decide ((i:Int) < (j:Int))) i=[]:=by
        have:selI (fun j=>p j && decide ((i:Int) < (j:Int))) i=selI (fun _=>false) i:=zbu fun j hj=>by rw [decide_eq_false (by omega),Bool.and_false]
        rw [this]
        have hl:(selI (fun _=>false) i).length=0:=by rw [zbn]; unfold cntN; exact zcv _
        exact List.length_eq_zero_iff.1 hl
      have e3:selI (fun j=>p j || decide (j=i)) i=selI p i:=zbu fun j hj=>by rw [decide_eq_false (by omega),Bool.or_false]
      rw [e1,e2,e3]
      simp
    · have ih:=selI_put p (i:=i) (n:=n) (by omega)
      rw [decide_eq_false (show ¬ (n:Int) < (i:Int) by omega),Bool.and_false,decide_eq_true (show (i:Int) < (n:Int) by omega),Bool.and_true,decide_eq_false (fun e=>hin e.symm),Bool.or_false,← ih]
      simp
theorem d81_sel (p:Nat→Bool) {i n:Nat} (hi:i < n) (hn:n≤1000):d81 (selI p n) (i:Int)=some (selI (fun j=>p j || decide (j=i)) n):=by
  rw [d81_eq _ (by rw [zbn]; have:=zbm p n; omega),zgo,zgo,selI_put p hi]
theorem d84_eq (st:Nat→Nat) {n:Nat} (hn:n≤1000) (x:Nat):d84 (lst (fun i=>(st i:Int)) n) (x:Int)=some ((cntN (fun i=>decide (st i=x)) n:Nat):Int):=by
  unfold d84
  refine zac (fun i=>(lst (fun i=>(st i:Int)) n,(x:Int),((cntN (fun i=>decide (st i=x)) i:Nat):Int),(i:Int))) n rfl (fun i hi=>?_) (b:=((cntN (fun i=>decide (st i=x)) n:Nat):Int)) ?_ rfl
  · have hc:=zbm (fun i=>decide (st i=x)) i
    have hs:cntN (fun i=>decide (st i=x)) (i+1)=cntN (fun i=>decide (st i=x)) i+(if decide (st i=x) then 1 else 0):=rfl
    rw [hs]
    simp only [zak,dlt hi,d0le,Bool.and_self,cond_true,tn,zau _ hi,zah,zfu,zaz (show i < 9223372036854775807 by omega)]
    cases decide (st i=x)
    · simp
    · rw [cond_true,zaz (by omega)]; rfl
  · simp only [zak,nlt (Nat.le_refl n),cond_false]
theorem d85_eq (p:Nat→Bool) (st:Nat→Nat) {n:Nat} (hn:n≤7):∃ z,d85 (selI p n) (lst (fun i=>(st i:Int)) n)=some (selI (fun i=>p i || decide (st i=0)) n,z):=by
  refine ⟨lst (fun i=>((if st i=0 then 1 else st i:Nat):Int)) n,?_⟩
  unfold d85
  refine zac (fun i=>(selI (fun j=>p j || (decide (st j=0) && decide (j < i))) n,lst (fun j=>((if st j=0∧j < i then 1 else st j:Nat):Int)) n,(i:Int))) n ?_ (fun i hi=>?_) (b:=(selI (fun i=>p i || decide (st i=0)) n,lst (fun i=>((if st i=0 then 1 else st i:Nat):Int)) n)) ?_ rfl
  · have e1:selI (fun j=>p j || (decide (st j=0) && decide (j < 0))) n=selI p n:=zbu fun j _=>by simp
    have e2:lst (fun j=>((if st j=0∧j < 0 then 1 else st j:Nat):Int)) n=lst (fun i=>(st i:Int)) n:=zbe fun j _=>by rw [if_neg (by omega)]
    rw [e1,e2]; rfl
  · have hg:(if st i=0∧i < i then 1 else st i:Nat)=st i:=if_neg (by omega)
    simp only [zak,dlt hi,d0le,Bool.and_self,cond_true,tn,zau _ hi,zah,hg,zaz (show i < 9223372036854775807 by omega)]
    by_cases h0:st i=0
    · rw [decide_eq_true (show ((st i:Nat):Int)=0 by omega),cond_true,d81_sel _ hi (by omega),Option.bind_some,zdv]
      have e1:selI (fun j=>(p j || (decide (st j=0) && decide (j < i))) || decide (j=i)) n=selI (fun j=>p j || (decide (st j=0) && decide (j < i+1))) n:=zbu fun j _=>by
        by_cases hji:j=i
        · subst hji; simp [h0]
        · have:decide (j < i+1)=decide (j < i):=decide_eq_decide.2 (by omega)
          rw [decide_eq_false hji,Bool.or_false,this]
      have e2:lst (upd (fun j=>((if st j=0∧j < i then 1 else st j:Nat):Int)) i 1) n=lst (fun j=>((if st j=0∧j < i+1 then 1 else st j:Nat):Int)) n:=zbe fun j _=>by
        unfold upd
        by_cases hji:j=i
        · subst hji; rw [if_pos rfl,if_pos ⟨h0,by omega⟩]; rfl
        · rw [if_neg hji]
          show ((if st j=0∧j < i then 1 else st j:Nat):Int)=_
          by_cases h1:st j=0∧j < i
          · rw [if_pos h1,if_pos ⟨h1.1,by omega⟩]
          · rw [if_neg h1,if_neg (by omega)]
      rw [e1,e2]
    · rw [decide_eq_false (show ¬ ((st i:Nat):Int)=0 by omega),cond_false]
      have e1:selI (fun j=>p j || (decide (st j=0) && decide (j < i))) n=selI (fun j=>p j || (decide (st j=0) && decide (j < i+1))) n:=zbu fun j _=>by
        by_cases hji:j=i
        · subst hji; simp [h0]
        · have:decide (j < i+1)=decide (j < i):=decide_eq_decide.2 (by omega)
          rw [this]
      have e2:lst (fun j=>((if st j=0∧j < i then 1 else st j:Nat):Int)) n=lst (fun j=>((if st j=0∧j < i+1 then 1 else st j:Nat):Int)) n:=zbe fun j _=>by
        by_cases hji:j=i
        · subst hji; rw [if_neg (by omega),if_neg (by omega)]
        · by_cases h1:st j=0∧j < i
          · rw [if_pos h1,if_pos ⟨h1.1,by omega⟩]
          · rw [if_neg h1,if_neg (by omega)]
      rw [e1,e2]
  · simp only [zak,nlt (Nat.le_refl n),cond_false]
    have e1:selI (fun j=>p j || (decide (st j=0) && decide (j < n))) n=selI (fun i=>p i || decide (st i=0)) n:=zbu fun j hj=>by rw [decide_eq_true hj,Bool.and_true]
    have e2:lst (fun j=>((if st j=0∧j < n then 1 else st j:Nat):Int)) n=lst (fun i=>((if st i=0 then 1 else st i:Nat):Int)) n:=zbe fun j hj=>by
      by_cases h1:st j=0
      · rw [if_pos ⟨h1,hj⟩,if_pos h1]
      · rw [if_neg fun h=>h1 h.1,if_neg h1]
    rw [e1,e2]
theorem d86_eq {m s d n:Int} {w0:List Int} {rs:List Rd} (hr:∀ r∈rs,r.el.length≤7) (hl:rs.length≤1000):d86 (m,s,d,n,rs.map rdT,w0)=some (rs.flatMap Rd.el):=by
  unfold d86
  refine zac (fun i=>((m,s,d,n,rs.map rdT,w0),(rs.take i).flatMap Rd.el,(i:Int))) rs.length rfl (fun i hi=>?_) (b:=rs.flatMap Rd.el) ?_ rfl
  · have hg:∀ d,(rs.map rdT).getD i d=rdT (rs.getD i ⟨[],[],0,0,0,[],[],[]⟩):=fun d=>by
      rw [List.getD_eq_getElem?_getD,List.getElem?_map,List.getElem?_eq_getElem hi,List.getD_eq_getElem?_getD,List.getElem?_eq_getElem hi]; rfl
    have h1:=zqp (rs:=rs.take i) fun x hx=>hr x (List.mem_of_mem_take hx)
    rw [List.length_take] at h1
    have h2:=hr _ (zca (l:=rs) (d:=⟨[],[],0,0,0,[],[],[]⟩) hi)
    have e:(rdT (rs.getD i ⟨[],[],0,0,0,[],[],[]⟩)).2.2.2.2.2.1=(rs.getD i ⟨[],[],0,0,0,[],[],[]⟩).el:=rfl
    rw [zbb rs ⟨[],[],0,0,0,[],[],[]⟩ hi,List.flatMap_append,List.flatMap_cons,List.flatMap_nil,List.append_nil]
    simp only [List.length_map,dlt hi,d0le,Bool.and_self,cond_true,tn,hg,e,zit (show ((rs.take i).flatMap Rd.el).length+(rs.getD i ⟨[],[],0,0,0,[],[],[]⟩).el.length≤4294967296 by omega),zaz (show i < 9223372036854775807 by omega)]
  · simp only [List.length_map,nlt (Nat.le_refl rs.length),cond_false,List.take_length]
theorem d89_eq {rs:List Rd} (hl:rs.length≤1000):d89 (rs.map rdT)=some ((rs.map Rd.votes).map (List.map rr),rs.map rdT):=by
  unfold d89
  refine zac (fun i=>(rs.map rdT,((rs.take i).map Rd.votes).map (List.map rr),(i:Int))) rs.length rfl (fun i hi=>?_) (b:=(rs.map rdT,(rs.map Rd.votes).map (List.map rr))) ?_ rfl
  · have hg:∀ d,(rs.map rdT).getD i d=rdT (rs.getD i ⟨[],[],0,0,0,[],[],[]⟩):=fun d=>by
      rw [List.getD_eq_getElem?_getD,List.getElem?_map,List.getElem?_eq_getElem hi,List.getD_eq_getElem?_getD,List.getElem?_eq_getElem hi]; rfl
    have e:(rdT (rs.getD i ⟨[],[],0,0,0,[],[],[]⟩)).1=(rs.getD i ⟨[],[],0,0,0,[],[],[]⟩).votes.map rr:=rfl
    rw [zbb rs ⟨[],[],0,0,0,[],[],[]⟩ hi,List.map_append,List.map_append]
    simp only [List.length_map,dlt hi,d0le,Bool.and_self,cond_true,tn,hg,e,zbj (l:=((rs.take i).map Rd.votes).map (List.map rr)) (d:=(rs.getD i ⟨[],[],0,0,0,[],[],[]⟩).votes.map rr) (by simp; omega),zaz (show i < 9223372036854775807 by omega),List.map_cons,List.map_nil]
    rw [← List.length_map (f:=Rd.votes),← List.length_map (f:=List.map rr)]
    have:=zbj (l:=((rs.take i).map Rd.votes).map (List.map rr)) (d:=(rs.getD i ⟨[],[],0,0,0,[],[],[]⟩).votes.map rr) (by simp; omega)
    rw [this]; rfl
  · simp only [List.length_map,nlt (Nat.le_refl rs.length),cond_false,List.take_length]
theorem d150_eq {p:List Int} {st:Nat→Nat} {n k:Nat} (hp:∀ c∈p,∃ i:Nat,c=(i:Int)∧i < n) (hl:p.length≤1000) (hk:k≤1000):d150 p (lst (fun i=>(st i:Int)) n) (k:Int)=some ((nxt p st k:Nat):Int):=by
  unfold d150
  refine zac (fun m=>(p,lst (fun i=>(st i:Int)) n,((k+m:Nat):Int))) (nxt p st k - k) rfl (fun m hm=>?_) (b:=((nxt p st k:Nat):Int)) ?_ rfl
  · have hlt:k+m < p.length:=by
      by_cases hkp:k≤p.length
      · have:=nxt_le st hkp; omega
      · rw [nxt_end (by omega)] at hm; omega
    obtain ⟨e,e1,e2⟩:=hp _ (zcn hlt)
    have hbf:=zos (p:=p) (st:=st) (k:=k) (i:=k+m) (by omega) (by omega)
    rw [e1,Int.toNat_natCast] at hbf
    simp only [zah,dlt hlt,d0le,Bool.and_self,cond_true,tn,e1,zak,dlt e2,zau (fun i=>(st i:Int)) e2,decide_eq_false (show ¬ ((st e:Nat):Int)=0 by omega),Bool.not_false,zaz (show k+m < 9223372036854775807 by omega)]
    rfl
  · have hge:=nxt_ge p st k
    obtain ⟨N,hN⟩:∃ N,nxt p st k=N:=⟨_,rfl⟩
    rw [hN] at hge ⊢
    rw [show k+(N - k)=N by omega]
    by_cases hlt:N < p.length
    · obtain ⟨e,e1,e2⟩:=hp _ (zcn hlt)
      have hat:=nxt_at (p:=p) (st:=st) (k:=k) (by rw [hN]; exact hlt)
      rw [hN,e1,Int.toNat_natCast] at hat
      simp only [zah,dlt hlt,d0le,Bool.and_self,cond_true,cond_false,tn,e1,zak,dlt e2,zau (fun i=>(st i:Int)) e2,decide_eq_true (show ((st e:Nat):Int)=0 by omega),Bool.not_true]
    · simp only [zah,nlt (show p.length≤N by omega),cond_false]
variable {P:GP} {s:GS}
def GS.vtU (P:GP) (s:GS) (m c:Nat):Nat:=if s.st c=2 then s.bar P else if s.st c=3 then 0 else s.lieU P m c
theorem lie_small (hP:P.OK) (hI:GI P s) {m c:Nat} (hm:m≤P.G) (hc:c < P.n):s.lieU P m c < 2 ^ eB:=zbk hP hI (Nat.le_trans (lieU_le m c hm) (lie_le hP hI hc))
theorem bar_small (hP:P.OK) (hI:GI P s):s.bar P < 2 ^ eB:=by
  have h1:=D_small hP hI
  have h2:P.q * s.D≤100001 * 2 ^ eD:=Nat.mul_le_mul hP.q5 h1
  have h3:100001 * 2 ^ eD≤2 ^ 17 * 2 ^ eD:=Nat.mul_le_mul_right _ (by decide)
  have h4:2 ^ 17 * 2 ^ eD < 2 ^ eB:=by rw [← Nat.pow_add]; exact Nat.pow_lt_pow_right (by decide) (by decide)
  unfold GS.bar
  omega
theorem vtU_small (hP:P.OK) (hI:GI P s) {m c:Nat} (hm:m≤P.G) (hc:c < P.n):s.vtU P m c < 2 ^ eB:=by
  unfold GS.vtU
  split
  · exact bar_small hP hI
  · split
    · exact Nat.pow_pos (by decide)
    · exact lie_small hP hI hm hc
def pilB (P:GP) (s:GS):List (List Bool) × (List Bool × List Int):=(lst (fun g=>binl (s.num g)) P.G,binl s.D,lst (fun g=>(s.at_ g:Int)) P.G)
set_option maxHeartbeats 1000000 in
theorem d76_eq (hP:P.OK) (hI:GI P s) (hG:P.G≤1000000) (hk:∀ g,g < P.G→(P.gs.getD g ([],0)).2=(P.k g:Int)):d76 (pilB P s) P.gs (lst (fun i=>(s.st i:Int)) P.n) (P.q:Int)=some (lst (fun c=>binl (s.vt P c)) P.n):=by
  have hn7:=hP.n7
  have hq5:=hP.q5
  have hgl:P.gs.length=P.G:=rfl
  have hz:d75 0=some (binl 0):=zlh (n:=0) (by omega)
  have hDl:=zha (D_lt hP hI)
  have hql:=zha (x:=P.q) (Nat.lt_of_le_of_lt hq5 (Nat.lt_of_lt_of_le (show 100001 < 2 ^ 17 by decide) (Nat.pow_le_pow_right (by decide) (by decide))))
  unfold d76
  refine zac (fun c=>(P.gs,lst (fun i=>(s.st i:Int)) P.n,(P.q:Int),pilB P s,lst (fun c=>binl (s.vt P c)) c,(c:Int))) P.n rfl (fun c hc=>?_) (b:=lst (fun c=>binl (s.vt P c)) P.n) ?_ rfl
  · have hst3:=hI.st3 c
    simp only [zak,dlt hc,d0le,Bool.and_self,cond_true,tn,hz,Option.bind_some,zah,zau (fun i=>(s.st i:Int)) hc]
    by_cases h2:s.st c=2
    rw [decide_eq_true (show ((s.st c:Nat):Int)=2 by omega),cond_true,zlh (by omega),Option.bind_some,show d77 (binl P.q) (pilB P s).2.1=some (binl (P.q * s.D)) from zeq _ _ (by omega) (by omega),Option.bind_some,show P.q * s.D=s.vtU P 0 c by unfold GS.vtU; rw [if_pos h2]; rfl]
    rotate_left
    rw [decide_eq_false (show ¬ ((s.st c:Nat):Int)=2 by omega),cond_false,show binl 0=binl (s.vtU P 0 c) by unfold GS.vtU GS.lieU; rw [if_neg h2,sumN]; split <;> rfl]
    all_goals
      refine zac (fun g=>(P.gs,lst (fun i=>(s.st i:Int)) P.n,(P.q:Int),pilB P s,lst (fun c=>binl (s.vt P c)) c,(c:Int),binl (s.vtU P g c),(g:Int))) P.G rfl (fun g hg=>?_) (b:=(P.gs,lst (fun i=>(s.st i:Int)) P.n,(P.q:Int),pilB P s,lst (fun c=>binl (s.vt P c)) c,(c:Int),binl (s.vt P c))) ?_ ?_
      · have hag:=hI.at_ g hg
        have hpl:(pilB P s).2.2=lst (fun g=>(s.at_ g:Int)) P.G:=rfl
        have hpn:(pilB P s).1=lst (fun g=>binl (s.num g)) P.G:=rfl
        have hp:(P.gs.getD g ([],0)).1=P.p g:=rfl
        simp only [hgl,dlt hg,cond_true,d0le,Bool.and_self,hpl,hpn,zak,tn,zau (fun g=>(s.at_ g:Int)) hg,zau (fun g=>binl (s.num g)) hg,hp,hk g hg,zaz (show g < 9223372036854775807 by omega),dlt hc,zau (fun i=>(s.st i:Int)) hc]
        by_cases ha:s.at_ g < (P.p g).length
        · simp only [dlt ha,cond_true]
          by_cases hgc:(P.p g).getD (s.at_ g) 0=(c:Int)
          · have hon:s.on P g c=true:=by
              unfold GS.on
              rw [decide_eq_true ha,decide_eq_true hgc]; rfl
            have hs01:=hI.lies g c hg hon
            rw [decide_eq_true hgc,cond_true,decide_eq_true (show ((s.st c:Nat):Int) < 2 by omega),cond_true]
            have hkl:=k_le hP hg
            have ht:=hP.tot5
            have hkn:=knum_le hP hI hg
            have h1:(binl (P.k g)).length≤2208:=zha (Nat.lt_of_le_of_lt (show P.k g≤100000 by omega) (Nat.lt_of_lt_of_le (show 100000 < 2 ^ 17 by decide) (Nat.pow_le_pow_right (by decide) (by decide))))
            have h2:(binl (s.num g)).length≤2208:=zha (Nat.lt_of_le_of_lt (hI.num g hg) (D_lt hP hI))
            have h3:(binl (P.k g * s.num g)).length≤2208:=zha (zbk hP hI hkn)
            have h4:(binl (s.vtU P g c)).length≤2208:=zha (vtU_small hP hI (by omega) hc)
            rw [zlh (by omega),Option.bind_some,zeq _ _ (by omega) (by omega),Option.bind_some,zqw _ _ (by omega) (by omega),Option.bind_some]
            have e:s.vtU P g c+P.k g * s.num g=s.vtU P (g+1) c:=by
              unfold GS.vtU
              rw [if_neg (by omega),if_neg (by omega),if_neg (by omega),if_neg (by omega)]
              unfold GS.lieU
              rw [sumN,if_pos hon]
            rw [e]; rfl
          · have hon:s.on P g c=false:=by
              unfold GS.on
              rw [decide_eq_false hgc,Bool.and_false]
            rw [decide_eq_false hgc,cond_false]
            have e:s.vtU P g c=s.vtU P (g+1) c:=by
              unfold GS.vtU GS.lieU
              rw [sumN,hon]; rfl
            rw [e]; rfl
        · have hon:s.on P g c=false:=by
            unfold GS.on
            rw [decide_eq_false ha,Bool.false_and]
          rw [nlt (by omega),cond_false]
          have e:s.vtU P g c=s.vtU P (g+1) c:=by
            unfold GS.vtU GS.lieU
            rw [sumN,hon]; rfl
          rw [e]; rfl
      · simp only [hgl,nlt (Nat.le_refl P.G),cond_false]
        rfl
      · have:=zbj (l:=lst (fun c=>binl (s.vt P c)) c) (d:=binl (s.vt P c)) (by rw [zak]; omega)
        simp only [this,cond_true,zaz (show c < 9223372036854775807 by omega),zdu]
  · simp only [zak,nlt (Nat.le_refl P.n),cond_false]
end Go.Proofs.YtmipjomnjkmdbaaGreat
set_option linter.unusedSimpArgs false
set_option linter.unusedVariables false
namespace Go.Proofs.YtmipjomnjkmdbaaGreat
open Go Go.X
def topQ (v st:Nat→Nat) (x:Nat) (most:Bool) (m i:Nat):Bool:=decide (st i=x) && (List.range m).all fun k=>!decide (st k=x) || (if most then decide (v k≤v i) else decide (v i≤v k))
theorem topQ_succ (v st:Nat→Nat) (x:Nat) (most:Bool) (m i:Nat):topQ v st x most (m+1) i=(topQ v st x most m i && (!decide (st m=x) || (if most then decide (v m≤v i) else decide (v i≤v m)))):=by
  unfold topQ
  rw [List.range_succ,List.all_append,← Bool.and_assoc]
  simp
theorem d87_eq {v st:Nat→Nat} {n x:Nat} (hn:n≤1000) (hv:∀ c,c < n→(binl (v c)).length≤2208) (most:Bool):d87 (lst (fun c=>binl (v c)) n) (lst (fun i=>(st i:Int)) n) (x:Int) most=some (selI (topQ v st x most n) n):=by
  unfold d87
  refine zac (fun i=>(lst (fun c=>binl (v c)) n,lst (fun i=>(st i:Int)) n,(x:Int),most,selI (topQ v st x most n) i,(i:Int))) n rfl (fun i hi=>?_) (b:=selI (topQ v st x most n) n) ?_ rfl
  · simp only [zah,zak,dlt hi,d0le,Bool.and_self,cond_true,tn,zau (fun i=>(st i:Int)) hi,zfu]
    refine zac (fun m=>(lst (fun c=>binl (v c)) n,lst (fun i=>(st i:Int)) n,(x:Int),most,selI (topQ v st x most n) i,(i:Int),topQ v st x most m i,(m:Int))) n ?_ (fun m hm=>?_) (b:=(lst (fun c=>binl (v c)) n,lst (fun i=>(st i:Int)) n,(x:Int),most,selI (topQ v st x most n) i,(i:Int),topQ v st x most n i)) ?_ ?_
    · have:topQ v st x most 0 i=decide (st i=x):=by simp [topQ]
      rw [this]; rfl
    · have l1:=hv m hm
      have l2:=hv i hi
      have h80:d80 (binl (v m)) (binl (v i))=some (cmpN (v m) (v i)):=d80_bin _ _ (by omega) (by omega)
      simp only [zak,dlt hm,dlt hi,d0le,Bool.and_self,cond_true,tn,zau (fun i=>(st i:Int)) hm,zau (fun c=>binl (v c)) hm,zau (fun c=>binl (v c)) hi,h80,Option.bind_some,zfu,zaz (show m < 9223372036854775807 by omega),topQ_succ]
      by_cases hs:st m=x
      · simp only [decide_eq_true hs,cond_true,Bool.not_true,Bool.false_or]
        cases most
        · simp only [cond_false,Bool.not_false,cond_true,Bool.false_eq_true,if_false]
          by_cases hc:v i≤v m
          · have:decide (cmpN (v m) (v i) < 0)=false:=decide_eq_false (by unfold cmpN; split <;> (try split) <;> omega)
            rw [this,decide_eq_true hc,Bool.and_true]; rfl
          · have:decide (cmpN (v m) (v i) < 0)=true:=decide_eq_true (by unfold cmpN; split <;> (try split) <;> omega)
            rw [this,decide_eq_false hc,Bool.and_false]; rfl
        · simp only [cond_true,Bool.not_true,cond_false,if_true]
          by_cases hc:v m≤v i
          · have:decide (0 < cmpN (v m) (v i))=false:=decide_eq_false (by unfold cmpN; split <;> (try split) <;> omega)
            rw [this,decide_eq_true hc,Bool.and_true]; rfl
          · have:decide (0 < cmpN (v m) (v i))=true:=decide_eq_true (by unfold cmpN; split <;> (try split) <;> omega)
            rw [this,decide_eq_false hc,Bool.and_false]; rfl
      · simp only [decide_eq_false hs,cond_false,Bool.not_false,Bool.true_or,Bool.and_true]
    · simp only [zak,nlt (Nat.le_refl n),cond_false]
    · have hcl:=zbm (topQ v st x most n) i
      rw [zdp,zaz (show i < 9223372036854775807 by omega)]
      cases topQ v st x most n i
      · simp only [cond_false,Bool.false_eq_true,if_false,List.append_nil]
      · simp only [cond_true,if_true,zbj (l:=selI (topQ v st x most n) i) (d:=(i:Int)) (by rw [zbn]; omega)]
  · simp only [zak,nlt (Nat.le_refl n),cond_false]
variable {P:GP} {s:GS}
theorem d90_eq (hP:P.OK) (hI:GI P s) (hG:P.G≤1000000) {st st':Nat→Nat} {keep:Nat→Rat} {x a b:Nat} (hst:∀ i,st i=0↔st' i=0) (ha:(binl a).length≤2208) (hb:(binl b).length≤2208) :
    d90 (pilB P s) P.gs (lst (fun i=>(st i:Int)) P.n) (x:Int) (binl a) (binl b)=some (pilB P (s.move P st' keep x a b)):=by
  have hDl:=zha (D_lt hP hI)
  have hn7:=hP.n7
  obtain ⟨S,hS⟩:∃ S,s.move P st' keep x a b=S:=⟨_,rfl⟩
  unfold d90
  rw [show d77 (pilB P s).2.1 (binl b)=some (binl (s.D * b)) from zeq _ _ (by omega) (by omega),Option.bind_some]
  refine zac (fun g=>(P.gs,lst (fun i=>(st i:Int)) P.n,(x:Int),binl a,binl b,pilB P s,(([],[],[]):List (List Bool) × (List Bool × List Int)),((lst (fun g=>binl (S.num g)) g,binl (s.D * b),lst (fun g=>(S.at_ g:Int)) g):List (List Bool) × (List Bool × List Int)),(g:Int))) P.G rfl (fun g hg=>?_) (b:=(([],[],[]),pilB P S)) ?_ (by rw [hS])
  · have hag:=hI.at_ g hg
    have hpl:(pilB P s).2.2=lst (fun g=>(s.at_ g:Int)) P.G:=rfl
    have hpn:(pilB P s).1=lst (fun g=>binl (s.num g)) P.G:=rfl
    have hp:(P.gs.getD g ([],0)).1=P.p g:=rfl
    have hgl:P.gs.length=P.G:=rfl
    have hnl:(binl (s.num g)).length≤2208:=zha (Nat.lt_of_le_of_lt (hI.num g hg) (D_lt hP hI))
    have hplen:=hP.plen g hg
    have e77a:d77 (binl (s.num g)) (binl a)=some (binl (s.num g * a)):=zeq _ _ (by omega) (by omega)
    have e77b:d77 (binl (s.num g)) (binl b)=some (binl (s.num g * b)):=zeq _ _ (by omega) (by omega)
    have l1:∀ y:List Bool,decide ((((lst (fun g=>binl (S.num g)) g).length:Nat):Int)+(([y]:List (List Bool)).length:Int)≤LIM)=true:=fun y=>zbj (by rw [zak]; omega)
    have l2:∀ y:Int,decide ((((lst (fun g=>(S.at_ g:Int)) g).length:Nat):Int)+(([y]:List Int).length:Int)≤LIM)=true:=fun y=>zbj (by rw [zak]; omega)
    have stay:s.on P g x=false→binl (s.num g * b)=binl (S.num g)∧(s.at_ g:Int)=(S.at_ g:Int):=fun h=>by
      subst hS
      unfold GS.move
      simp only [h,Bool.false_eq_true,if_false,and_self]
    simp only [zah,hgl,dlt hg,cond_true,d0le,Bool.and_self,hpl,hpn,zak,tn,zau (fun g=>(s.at_ g:Int)) hg,zau (fun g=>binl (s.num g)) hg,hp,zaz (show g < 9223372036854775807 by omega),zdu]
    simp only [zak] at l1 l2
    by_cases hat:s.at_ g < (P.p g).length
    · obtain ⟨d,d1,d2⟩:=GS.on_ex hP hg hat
      have d3:=GS.on_at d2
      simp only [dlt hat,cond_true,d3,zfu]
      by_cases hdx:d=x
      · subst hdx
        have hd:S.num g=s.num g * a∧S.at_ g=nxt (P.p g) st (s.at_ g+1):=by
          subst hS
          unfold GS.move
          simp only [d2,if_true,nxt_congr hst,and_self]
        have h150:d150 (P.p g) (lst (fun i=>(st i:Int)) P.n) (((s.at_ g+1:Nat):Nat):Int)=some ((nxt (P.p g) st (s.at_ g+1):Nat):Int):=d150_eq (hP.prefs g hg) (by omega) (by omega)
        simp only [decide_true,cond_true,e77a,Option.bind_some,l1,zaz (show s.at_ g < 9223372036854775807 by omega),h150,l2,hd.1,hd.2]
        rfl
      · have hon:s.on P g x=false:=by
          cases h:s.on P g x
          · rfl
          · have:=GS.on_at h
            rw [d3] at this
            omega
        obtain ⟨s1,s2⟩:=stay hon
        simp only [decide_eq_false hdx,cond_false,e77b,Option.bind_some,l1,l2,cond_true,Bool.and_self]
        rw [s1,s2]
    · have hon:s.on P g x=false:=by
        unfold GS.on
        rw [decide_eq_false hat,Bool.false_and]
      obtain ⟨s1,s2⟩:=stay hon
      simp only [nlt (show (P.p g).length≤s.at_ g by omega),cond_false,e77b,Option.bind_some,l1,l2,cond_true,Bool.and_self]
      rw [s1,s2]
  · have hgl:P.gs.length=P.G:=rfl
    simp only [hgl,nlt (Nat.le_refl P.G),cond_false]
    subst hS
    rfl
theorem d184_eq {l:List Rat} (hl:l.length≤1000) (h:∀ q∈l,Sz 268435456 (rr q)):d184 (l.map rr) (l.map rr)=some true:=by
  unfold d184
  rw [decide_eq_true rfl,Bool.not_true,cond_false]
  refine zac (fun i=>(l.map rr,l.map rr,(i:Int))) l.length rfl (fun i hi=>?_) (b:=(Sum.inl ():Unit ⊕ Bool)) ?_ rfl
  · have hg:∀ d,(l.map rr).getD i d=rr (l.getD i 0):=fun d=>by
      rw [List.getD_eq_getElem?_getD,List.getElem?_map,List.getElem?_eq_getElem hi,List.getD_eq_getElem?_getD,List.getElem?_eq_getElem hi]; rfl
    simp only [List.length_map,dlt hi,d0le,Bool.and_self,cond_true,tn,hg,zpe (h _ (zca hi)),Option.bind_some,decide_true,Bool.not_true,cond_false,zaz (show i < 9223372036854775807 by omega)]
  · simp only [List.length_map,nlt (Nat.le_refl l.length),cond_false]
structure Rd.Sm (r:Rd):Prop where
  v:r.votes.length≤1000∧∀ q∈r.votes,Sz 268435456 (rr q)
  k:r.keep.length≤1000∧∀ q∈r.keep,Sz 268435456 (rr q)
  q:Sz 268435456 (rr r.quota)
  e:Sz 268435456 (rr r.exh)
  s:Sz 268435456 (rr r.sur)
  l:r.el.length≤1000∧r.ex.length≤1000∧r.ti.length≤1000
theorem d151_eq {r:Rd} (h:r.Sm):d151 (rdT r) (rdT r)=some true:=by
  unfold d151 rdT
  simp only [d184_eq h.v.1 h.v.2,d184_eq h.k.1 h.k.2,zpe h.q,zpe h.e,zpe h.s,Option.bind_some,cond_true,decide_true]
  rw [zpd (by have:=h.l; omega) (by have:=h.l; omega),zpd (by have:=h.l; omega) (by have:=h.l; omega),zpd (by have:=h.l; omega) (by have:=h.l; omega)]
  simp
theorem d29_eq {m s d n:Int} {rs:List Rd} {w0:List Int} (h:∀ r∈rs,r.Sm) (hl:rs.length≤1000) (hw:w0.length≤281474976710656):d29 (m,s,d,n,rs.map rdT,w0) (m,s,d,n,rs.map rdT,w0)=some true:=by
  unfold d29 d91
  simp only [zah,decide_true,Bool.not_true,Bool.not_false,cond_true,zpd hw hw,Option.bind_some,cond_false]
  have e:∀ X:Option Bool,X=some true→(X.bind fun r=>some r)=some true:=fun X h=>by rw [h]; rfl
  refine e _ ?_
  refine zac (fun i=>((m,s,d,n,rs.map rdT,w0),(m,s,d,n,rs.map rdT,w0),(i:Int))) rs.length rfl (fun i hi=>?_) (b:=(Sum.inl ():Unit ⊕ Bool)) ?_ rfl
  · have hg:∀ d,(rs.map rdT).getD i d=rdT (rs.getD i ⟨[],[],0,0,0,[],[],[]⟩):=fun d=>by
      rw [List.getD_eq_getElem?_getD,List.getElem?_map,List.getElem?_eq_getElem hi,List.getD_eq_getElem?_getD,List.getElem?_eq_getElem hi]; rfl
    simp only [List.length_map,dlt hi,d0le,Bool.and_self,cond_true,tn,hg,d151_eq (h _ (zca hi)),Option.bind_some,Bool.not_true,cond_false,zaz (show i < 9223372036854775807 by omega)]
  · simp only [List.length_map,nlt (Nat.le_refl rs.length),cond_false]
end Go.Proofs.YtmipjomnjkmdbaaGreat
set_option linter.unusedSimpArgs false
set_option linter.unusedVariables false
namespace Go.Proofs.YtmipjomnjkmdbaaGreat
open Go Go.X
theorem while_prop {α β γ:Type} {f:α→Option (α ⊕ β)} {k:β→Option γ} {a0:α} {b:β} {X:Option γ→Prop} (st:Nat→α) (n:Nat) (h0:st 0=a0) (hs:∀ i,i < n→f (st i)=some (.inl (st (i+1)))) (he:f (st n)=some (.inr b)) (hk:X (k b)):X ((zae f a0).bind k):=by
  rw [zac st n h0 hs he rfl]; exact hk
abbrev TT:=Int × (Int × (Int × (Int × (List RD × List Int))))
abbrev BT:=(List (List Int × Int)) × (List Int) × CT × TT × Int × Int × TT × (List Int) × (List (List Bool) × (List Bool × List Int)) × (List Rt)
variable {P:GP} {s:GS}
def stB (P:GP) (c:CT) (s:GS) (rs:List Rd):BT :=
  (P.gs,P.lots,c,(0,0,0,0,[],[]),(P.n:Int),(P.q:Int),(3,(P.seats:Int),0,(P.n:Int),rs.map rdT,[]),lst (fun i=>(s.st i:Int)) P.n,pilB P s,lst (fun i=>rr (s.keep i)) P.n)
def StepZ (P:GP) (c:CT) (s:GS) (rs:List Rd) (z:Option (BT ⊕ (TT × Int))):Prop :=
  (s.fin P=true∧z=some (.inr ((3,(P.seats:Int),0,(P.n:Int),(rs++[s.done P]).map rdT,(rs++[s.done P]).flatMap Rd.el),0))) ∨
  (s.fin P=false∧s.most P=true∧z=some (.inl (stB P c (s.trans P (rs.map Rd.votes)) (rs++[{ s.rd0 P with ti:=s.tiedR P }])))) ∨
  (s.fin P=false∧s.most P=false∧z=some (.inl (stB P c (s.excl P (rs.map Rd.votes)) (rs++[{ s.rd0 P with ti:=s.tiedR P,ex:=[s.pick P (rs.map Rd.votes)] }]))))
def stI (P:GP) (s:GS) (i j:Nat):Nat:=if (s.el1 P j && decide (j < i))=true then 1 else s.st j
theorem stI_zero (j:Nat):stI P s 0 j=s.st j:=by unfold stI; simp
theorem stI_self (i:Nat):stI P s i i=s.st i:=by unfold stI; simp
theorem stI_next (i:Nat):stI P s (i+1) i=s.st1 P i:=by unfold stI GS.st1; simp
theorem stI_all {n j:Nat} (h:j < n):stI P s n j=s.st1 P j:=by unfold stI GS.st1; rw [decide_eq_true h,Bool.and_true]
theorem stI_put {i n:Nat} (h:s.el1 P i=true):lst (upd (fun j=>(stI P s i j:Int)) i 1) n=lst (fun j=>(stI P s (i+1) j:Int)) n:=zbe fun j _=>by
  unfold upd
  by_cases hji:j=i
  · subst hji
    rw [if_pos rfl,stI_next]
    unfold GS.st1
    rw [if_pos h]; rfl
  · rw [if_neg hji]
    show ((stI P s i j:Nat):Int)=_
    unfold stI
    rw [show decide (j < i+1)=decide (j < i) from decide_eq_decide.2 (by omega)]
theorem stI_stay {i n:Nat} (h:s.el1 P i=false):lst (fun j=>(stI P s i j:Int)) n=lst (fun j=>(stI P s (i+1) j:Int)) n:=zbe fun j _=>by
  unfold stI
  by_cases hji:j=i
  · subst hji; rw [h]; rfl
  · rw [show decide (j < i+1)=decide (j < i) from decide_eq_decide.2 (by omega)]
def elI (P:GP) (s:GS) (i:Nat):List Int:=selI (fun j=>s.el1 P j && decide (j < i)) P.n
theorem elI_zero:elI P s 0=[]:=by
  have:elI P s 0=selI (fun _=>false) P.n:=zbu fun j _=>by simp
  rw [this]
  refine List.length_eq_zero_iff.1 ?_
  rw [zbn]
  unfold cntN
  exact zcv _
theorem elI_all:elI P s P.n=selI (s.el1 P) P.n:=zbu fun j hj=>by rw [decide_eq_true hj,Bool.and_true]
theorem elI_put {i:Nat} (hn:P.n≤7) (hi:i < P.n) (h:s.el1 P i=true):d81 (elI P s i) (i:Int)=some (elI P s (i+1)):=by
  unfold elI
  rw [d81_sel _ hi (by omega)]
  congr 1
  refine zbu fun j hj=>?_
  by_cases hji:j=i
  · subst hji; simp [h]
  · rw [show decide (j < i+1)=decide (j < i) from decide_eq_decide.2 (by omega),decide_eq_false hji,Bool.or_false]
theorem elI_stay {i:Nat} (h:s.el1 P i=false):elI P s i=elI P s (i+1):=zbu fun j hj=>by
  by_cases hji:j=i
  · subst hji; rw [h]; rfl
  · rw [show decide (j < i+1)=decide (j < i) from decide_eq_decide.2 (by omega)]
def surN (P:GP) (s:GS) (i:Nat):Nat:=if s.st1 P i=1 then s.vt P i - s.bar P else 0
theorem sumN_mono {f:Nat→Nat} {m n:Nat} (h:m≤n):sumN f m≤sumN f n:=by
  induction n with
  | zero=>rw [show m=0 by omega]; exact Nat.le_refl _
  | succ n ih =>
    by_cases hm:m=n+1
    · rw [hm]; exact Nat.le_refl _
    · rw [sumN]; have:=ih (by omega); omega
theorem e1b {st:Nat→Nat} {x y n:Nat}:lst (upd (fun i=>(st i:Int)) x (y:Int)) n=lst (fun i=>((upd st x y i:Nat):Int)) n:=zbe fun i hi=>by
  unfold upd; split <;> rfl
theorem e2b {k:Nat→Rat} {x n:Nat} {q:Rat}:lst (upd (fun i=>rr (k i)) x (rr q)) n=lst (fun i=>rr (upd k x q i)) n:=zbe fun i hi=>by
  unfold upd; split <;> rfl
theorem fin_eq:s.fin P=(decide (s.e1 P+s.e2 P=P.seats) || decide (s.e1 P+s.e2 P+cntN (fun i=>decide (s.st1 P i=0)) P.n≤P.seats)):=rfl
theorem most_eq:s.most P=decide (0 < s.e1 P):=rfl
theorem zqv:s.done P={ s.rd0 P with el:=if s.e1 P+s.e2 P < P.seats then selI (fun i=>s.el1 P i || decide (s.st1 P i=0)) P.n else selI (s.el1 P) P.n }:=rfl
set_option maxHeartbeats 40000000 in
theorem d28_eq {c:CT} {gs:List Grp} {lots:List Int} (hg:GsOK gs) (hl:lots.length≤281474976710656):d28 c gs lots=some (if fitE 3 c gs lots=0 then (trT (gpOf c gs lots),0) else ((0,0,0,0,[],[]),fitE 3 c gs lots)):=by
  unfold d28
  rw [d23_eq 3 c hg hl,Option.bind_some]
  by_cases hfit:¬ fitE 3 c gs lots=0
  · rw [if_neg hfit,decide_eq_false hfit]; rfl
  have hfit:=Decidable.not_not.1 hfit
  rw [if_pos hfit,decide_eq_true hfit,Bool.not_true,cond_false]
  obtain ⟨hP,hG,hs,h67,h52,h30⟩:=gpOf_ok hfit
  have hpile:∃ N,PileOK c.2.1.length gs N∧c.2.1.length≤7:=by
    obtain ⟨_,_,_,n1,n7,s1,s5,_,_,_,t1,t3,hp,ll,hB⟩:=zng hfit
    exact ⟨_,hp,by omega⟩
  obtain ⟨N,hpl,hpn⟩:=hpile
  have h74:=hpl.d74 (by omega)
  have h83:=hpl.d83 (by omega)
  have h73:d73 (wsum zar gs) c.2.2.2.1=some ((gpOf c gs lots).q:Int):=h30
  have hg67:=hpl.d67 (by omega)
  rw [hg67] at h67
  rw [h67] at h83
  have hgs:(gpOf c gs lots).gs=gs:=rfl
  have hn:c.2.1.length=(gpOf c gs lots).n:=rfl
  have hlo:(gpOf c gs lots).lots=lots:=rfl
  have hti:c.2.2.2.2.2.2.1=(gpOf c gs lots).ties:=rfl
  have hGl:gs.length=(gpOf c gs lots).G:=rfl
  have hk:∀ g,g < (gpOf c gs lots).G→(gs.getD g ([],0)).2=((gpOf c gs lots).k g:Int):=fun i hi=>by
    have:=(hpl.ballots _ (zca (l:=gs) (d:=([],0)) (i:=i) hi)).2
    show _=(((gs.getD i ([],0)).2.toNat:Nat):Int)
    omega
  rw [h74,Option.bind_some,h73,Option.bind_some]
  generalize hPP:gpOf c gs lots=P at *
  subst hgs
  subst hlo
  have hn7:=hP.n7
  have hq5:=hP.q5
  have hs5:=hP.seats5
  have ht5:=hP.tot5
  have hz1:d75 1=some (binl 1):=zlh (n:=1) (by omega)
  have hz0:d75 0=some (binl 0):=zlh (n:=0) (by omega)
  have hr1:d39 1=some (rr 1):=d39_eq (a:=1) (by omega)
  have hr0:d39 0=some (rr 0):=d39_eq (a:=0) (by omega)
  rw [hn]
  simp only [decide_true,d0le,zbs (n:=P.n) (by omega),Bool.and_self,cond_true,tn,hs,hz1,Option.bind_some]
  refine zac (fun i=>(P.gs,P.lots,c,(0,0,0,0,[],[]),(P.n:Int),(P.q:Int),(3,(P.seats:Int),0,(P.n:Int),[],[]),List.replicate P.n 0,([],binl 1,[]),lst (fun _=>rr 1) i,(i:Int))) P.n rfl (fun i hi=>?_) (b:=(P.gs,P.lots,c,(0,0,0,0,[],[]),(P.n:Int),(P.q:Int),(3,(P.seats:Int),0,(P.n:Int),[],[]),List.replicate P.n 0,([],binl 1,[]),lst (fun _=>rr 1) P.n)) ?_ ?_
  · have hl:=zbj (l:=lst (fun _=>rr (1:Rat)) i) (d:=rr 1) (by rw [zak]; omega)
    simp only [dlt hi,cond_true,hr1,Option.bind_some,hl,zaz (show i < 9223372036854775807 by omega),← zdu]
  · simp only [nlt (Nat.le_refl P.n),cond_false]
  simp only
  refine zac (fun i=>(P.gs,P.lots,c,(0,0,0,0,[],[]),(P.n:Int),(P.q:Int),(3,(P.seats:Int),0,(P.n:Int),[],[]),List.replicate P.n 0,(lst (fun _=>binl 1) i,binl 1,lst (fun _=>0) i),lst (fun _=>rr 1) P.n,(i:Int))) P.G rfl (fun i hi=>?_) (b:=stB P c g0 []) ?_ ?_
  · have hl1:=zbj (l:=lst (fun _=>binl 1) i) (d:=binl 1) (by rw [zak]; omega)
    have hl2:=zbj (l:=lst (fun _=>(0:Int)) i) (d:=0) (by rw [zak]; omega)
    simp only [hGl,dlt hi,cond_true,hz1,Option.bind_some,hl1,hl2,zaz (show i < 9223372036854775807 by omega),← zdu]
  · simp only [hGl,nlt (Nat.le_refl P.G),cond_false]
    rw [lst_rep]
    rfl
  refine zda (Q:=fun r=>r=some (trT P,0)) (fun (M:Nat) (st:BT)=>∃ (s:GS) (rs:List Rd),st=stB P c s rs∧Run P s rs∧M=s.meas P) (g0.meas P) ⟨g0,[],rfl,Run.start hP,rfl⟩ ?_
  rintro M st ⟨s,rs,rfl,hRun,rfl⟩
  have hI:=hRun.inv
  have hR:=hRun.ok
  refine (fun (z:Option (BT ⊕ (TT × Int))) (h:StepZ P c s rs z)=>(?_:(∃ a' M',z=some (.inl a')∧M' < s.meas P∧∃ s' rs',a'=stB P c s' rs'∧Run P s' rs'∧M'=s'.meas P)∨∃ b,z=some (.inr b)∧(some (b.1,b.2):Option (TT × Int))=some (trT P,0))) _ ?_
  · rcases h with ⟨hf,he⟩ | ⟨hf,hm,he⟩ | ⟨hf,hm,he⟩
    · refine .inr ⟨_,he,?_⟩
      rw [hRun.fin hf]; rfl
    · exact .inl ⟨_,_,he,by have:=zhz hP hI hf hm (rs.map Rd.votes); omega,_,_,rfl,hRun.trans hP hf hm,rfl⟩
    · exact .inl ⟨_,_,he,by have:=zju hP hI hf hm (rs.map Rd.votes); omega,_,_,rfl,hRun.excl hP hf hm,rfl⟩
  have hDl:=zha (D_lt hP hI)
  have hql:=zha (x:=P.q) (Nat.lt_of_le_of_lt hq5 (Nat.lt_of_lt_of_le (show 100001 < 2 ^ 17 by decide) (Nat.pow_le_pow_right (by decide) (by decide))))
  have hkl:(lst (fun i=>rr (s.keep i)) P.n).length≤7:=by rw [zak]; omega
  simp only [stB]
  rw [show d76 (pilB P s) P.gs (lst (fun i=>(s.st i:Int)) P.n) (P.q:Int)=_ from d76_eq hP hI hG hk,Option.bind_some,zlh (by omega),Option.bind_some,show d77 (binl P.q) (pilB P s).2.1=some (binl (s.bar P)) from zeq _ _ (by omega) (by omega),Option.bind_some,d39_eq (a:=P.q) (by omega),Option.bind_some]
  have hvl:∀ i,i < P.n→(binl (s.vt P i)).length≤2208:=fun i hi=>zha (zbk hP hI (zix hP hI hi))
  have hbl:(binl (s.bar P)).length≤2208:=zha (bar_small hP hI)
  have hvsum:=zhy hP hI
  have hsur:sumN (surN P s) P.n≤P.tot * s.D:=sur_le hP hI
  erw [zit (l:=([]:List Rt)) (m:=lst (fun i=>rr (s.keep i)) P.n) (by simp [zak]; omega)]
  rw [cond_true,hz0,Option.bind_some,Option.bind_some]
  refine while_prop (X:=StepZ P c s rs) (fun i=>(P.gs,P.lots,c,(0,0,0,0,[],[]),(P.n:Int),(P.q:Int),(3,(P.seats:Int),0,(P.n:Int),rs.map rdT,[]),lst (fun j=>(stI P s i j:Int)) P.n,pilB P s,lst (fun i=>rr (s.keep i)) P.n,
      lst (fun c=>binl (s.vt P c)) P.n,binl (s.bar P),(lst (fun i=>rr (frac (s.vt P i) s.D)) i,lst (fun i=>rr (s.keep i)) P.n,rr (P.q:Rat),(false,[],[]),(false,[],[]),elI P s i,[],[]),binl (sumN (s.vt P) i),binl (sumN (surN P s) i),(i:Int))) P.n ?_ (fun i hi=>?_)
      (b:=(P.gs,P.lots,c,(0,0,0,0,[],[]),(P.n:Int),(P.q:Int),(3,(P.seats:Int),0,(P.n:Int),rs.map rdT,[]),lst (fun j=>(s.st1 P j:Int)) P.n,pilB P s,lst (fun i=>rr (s.keep i)) P.n,
      lst (fun c=>binl (s.vt P c)) P.n,binl (s.bar P),(lst (fun i=>rr (frac (s.vt P i) s.D)) P.n,lst (fun i=>rr (s.keep i)) P.n,rr (P.q:Rat),(false,[],[]),(false,[],[]),selI (s.el1 P) P.n,[],[]),binl (sumN (s.vt P) P.n),binl (sumN (surN P s) P.n))) ?_ ?_
  · simp only [stI_zero,elI_zero,sumN]; rfl
  · have hv:=hvl i hi
    have l1:decide ((((lst (fun i=>rr (frac (s.vt P i) s.D)) i).length:Nat):Int)+(([rr (frac (s.vt P i) s.D)]:List Rt).length:Int)≤LIM)=true:=zbj (by rw [zak]; omega)
    have h78:d78 (binl (s.vt P i)) (pilB P s).2.1=some (rr (frac (s.vt P i) s.D)):=d78_eq (zbk hP hI (zix hP hI hi)) (D_lt hP hI) hI.D0
    have hs1:(binl (sumN (s.vt P) i)).length≤2208:=zha (zbk hP hI (Nat.le_trans (sumN_mono (by omega)) hvsum))
    have hs2:(binl (sumN (surN P s) i)).length≤2208:=zha (zbk hP hI (Nat.le_trans (sumN_mono (by omega)) hsur))
    have h79:d79 (binl (sumN (s.vt P) i)) (binl (s.vt P i))=some (binl (sumN (s.vt P) (i+1))):=zqw _ _ (by omega) (by omega)
    have h80:d80 (binl (s.vt P i)) (binl (s.bar P))=some (cmpN (s.vt P i) (s.bar P)):=d80_bin _ _ (by omega) (by omega)
    have hsI:(lst (fun j=>(stI P s i j:Int)) P.n).getD i 0=(s.st i:Int):=by rw [zau _ hi,stI_self]
    have hsN:(lst (fun j=>(stI P s (i+1) j:Int)) P.n).getD i 0=(s.st1 P i:Int):=by rw [zau _ hi,stI_next]
    simp only [zah,zak,dlt hi,d0le,Bool.and_self,cond_true,tn,zau (fun c=>binl (s.vt P c)) hi,h78,h79,h80,Option.bind_some,hsI,zaz (show i < 9223372036854775807 by omega)]
    rw [zak] at l1
    simp only [l1,cond_true,← zdu]
    have sS:sumN (surN P s) (i+1)=sumN (surN P s) i+surN P s i:=rfl
    have h82:s.bar P≤s.vt P i→d82 (binl (s.vt P i)) (binl (s.bar P))=some (binl (s.vt P i - s.bar P)):=fun h=>znl _ _ (by omega) h
    have hsl:(binl (s.vt P i - s.bar P)).length≤2208:=zha (zbk hP hI (by have:=zix hP hI hi; omega))
    have h79s:d79 (binl (sumN (surN P s) i)) (binl (s.vt P i - s.bar P))=some (binl (sumN (surN P s) i+(s.vt P i - s.bar P))):=zqw _ _ (by omega) (by omega)
    rcases zbv (P:=P) (s:=s) i with ⟨h0,h1,h2,h3⟩ | ⟨h0,h2⟩
    · have hcm:decide (0≤cmpN (s.vt P i) (s.bar P))=true:=decide_eq_true (by unfold cmpN; split <;> (try split) <;> omega)
      have hsu:surN P s i=s.vt P i - s.bar P:=by unfold surN; rw [if_pos h2]
      rw [hsu] at sS
      simp only [decide_eq_true (show ((s.st i:Nat):Int)=0 by omega),cond_true,hcm,elI_put hn7 hi h0,Option.bind_some,zdv,stI_put h0,zak,dlt hi,hsN,decide_eq_true (show ((s.st1 P i:Nat):Int)=1 by omega),h82 h3,h79s,sS]
      rfl
    · rw [elI_stay h0,stI_stay h0] at *
      by_cases hz:s.st i=0
      · have hcm:decide (0≤cmpN (s.vt P i) (s.bar P))=false:=by
          unfold GS.el1 at h0
          rw [decide_eq_true hz,Bool.true_and,decide_eq_false_iff_not] at h0
          exact decide_eq_false (by unfold cmpN; split <;> (try split) <;> omega)
        have hsu:surN P s i=0:=by unfold surN; rw [if_neg (by omega)]
        rw [hsu,Nat.add_zero] at sS
        simp only [decide_eq_true (show ((s.st i:Nat):Int)=0 by omega),cond_true,hcm,cond_false,Option.bind_some,zak,dlt hi,hsN,decide_eq_false (show ¬ ((s.st i:Nat):Int)=1 by omega),sS]
        rfl
      · by_cases hy:s.st i=1
        · obtain ⟨_,_,k3⟩:=zir hI hi (show s.st1 P i=1 by omega)
          have hsu:surN P s i=s.vt P i - s.bar P:=by unfold surN; rw [if_pos (by omega)]
          rw [hsu] at sS
          simp only [decide_eq_false (show ¬ ((s.st i:Nat):Int)=0 by omega),cond_true,cond_false,Option.bind_some,zak,dlt hi,hsN,decide_eq_true (show ((s.st i:Nat):Int)=1 by omega),h82 k3,h79s,sS]
        · have hsu:surN P s i=0:=by unfold surN; rw [if_neg (by omega)]
          rw [hsu,Nat.add_zero] at sS
          simp only [decide_eq_false (show ¬ ((s.st i:Nat):Int)=0 by omega),cond_true,cond_false,Option.bind_some,zak,dlt hi,hsN,decide_eq_false (show ¬ ((s.st i:Nat):Int)=1 by omega),sS]
          rfl
  · simp only [nlt (Nat.le_refl P.n),cond_false]
    rw [elI_all,zbe (f:=fun j=>(stI P s P.n j:Int)) (g:=fun j=>(s.st1 P j:Int)) fun j hj=>by rw [stI_all hj]]
  simp only
  have hkt:d75 (P.tot:Int)=some (binl P.tot):=zlh (by omega)
  have htl:(binl P.tot).length≤2208:=zha (Nat.lt_of_le_of_lt ht5 (Nat.lt_of_lt_of_le (show 100000 < 2 ^ 17 by decide) (Nat.pow_le_pow_right (by decide) (by decide))))
  have hTl:(binl (P.tot * s.D)).length≤2208:=zha (zbk hP hI (Nat.le_refl _))
  rw [h83,Option.bind_some,hkt,Option.bind_some,show d77 (binl P.tot) (pilB P s).2.1=some (binl (P.tot * s.D)) from zeq _ _ (by omega) (by omega),Option.bind_some,
    znl _ _ (by omega) hvsum,Option.bind_some,show d78 (binl (P.tot * s.D - sumN (s.vt P) P.n)) (pilB P s).2.1=some (rr (frac (P.tot * s.D - sumN (s.vt P) P.n) s.D)) from d78_eq (zbk hP hI (by omega)) (D_lt hP hI) hI.D0,Option.bind_some,
    show d78 (binl (sumN (surN P s) P.n)) (pilB P s).2.1=some (rr (frac (sumN (surN P s) P.n) s.D)) from d78_eq (zbk hP hI hsur) (D_lt hP hI) hI.D0,Option.bind_some,
    show d84 (lst (fun j=>(s.st1 P j:Int)) P.n) 1=some ((s.e1 P:Nat):Int) from d84_eq (s.st1 P) (by omega) 1,Option.bind_some,show d84 (lst (fun j=>(s.st1 P j:Int)) P.n) 2=some ((s.e2 P:Nat):Int) from d84_eq (s.st1 P) (by omega) 2,Option.bind_some]
  have hE1:s.e1 P≤7:=by have:=zbm (fun i=>decide (s.st1 P i=1)) P.n; exact Nat.le_trans this hn7
  have hE2:s.e2 P≤7:=by have:=zbm (fun i=>decide (s.st1 P i=2)) P.n; exact Nat.le_trans this hn7
  have hE0:cntN (fun i=>decide (s.st1 P i=0)) P.n≤7:=by have:=zbm (fun i=>decide (s.st1 P i=0)) P.n; exact Nat.le_trans this hn7
  have hsum:w ((s.e1 P:Int)+(s.e2 P:Int))=((s.e1 P+s.e2 P:Nat):Int):=by rw [zbl (by omega) (by omega)]; omega
  have helec:=zih hP hI
  have hrl:=hR.len
  have hre:∀ x∈rs,x.el.length≤7:=fun x hx=>(hR.rnd x hx).2
  have hell:=zpa (s:=s) hP
  have hbody:((lst (fun i=>rr (frac (s.vt P i) s.D)) P.n,lst (fun i=>rr (s.keep i)) P.n,rr (P.q:Rat),rr (frac (P.tot * s.D - sumN (s.vt P) P.n) s.D),rr (frac (sumN (surN P s) P.n) s.D),selI (s.el1 P) P.n,[],[]):RD)=zco P s (selI (s.el1 P) P.n):=rfl
  have push:∀ (T:RD),decide ((((rs.map rdT).length:Nat):Int)+(([T]:List RD).length:Int)≤LIM)=true:=fun T=>zbj (by rw [List.length_map]; omega)
  simp only [zah,hsum,hs,zfu]
  have d84z:d84 (lst (fun j=>(s.st1 P j:Int)) P.n) 0=some ((cntN (fun i=>decide (s.st1 P i=0)) P.n:Nat):Int):=d84_eq (s.st1 P) (by omega) 0
  have d84o:d84 (lst (fun j=>(s.st1 P j:Int)) P.n) 1=some ((s.e1 P:Nat):Int):=d84_eq (s.st1 P) (by omega) 1
  have d86e:∀ r:Rd,r.el.length≤7→d86 (3,(P.seats:Int),0,(P.n:Int),rs.map rdT++[rdT r],[])=some ((rs++[r]).flatMap Rd.el):=fun r hr=>by
    have:=d86_eq (m:=3) (s:=(P.seats:Int)) (d:=0) (n:=(P.n:Int)) (w0:=[]) (rs:=rs++[r]) (fun x hx=>by
      rcases List.mem_append.1 hx with hx | hx
      · exact hre x hx
      · rw [List.mem_singleton] at hx; rw [hx]; exact hr) (by simp; omega)
    rw [List.map_append] at this
    exact this
  by_cases hq:s.e1 P+s.e2 P=P.seats
  · have hfin:s.fin P=true:=by rw [fin_eq,decide_eq_true hq,Bool.true_or]
    have hdone:rdT (s.done P)=zco P s (selI (s.el1 P) P.n):=by
      rw [zqv,if_neg (by omega),← zef]; rfl
    have hdl:(s.done P).el.length≤7:=by rw [zqv,if_neg (by omega)]; exact hell
    refine .inl ⟨hfin,?_⟩
    simp only [decide_eq_true hq,Bool.not_true,cond_false,cond_true,decide_eq_false (show ¬ ((s.e1 P+s.e2 P:Nat):Int) < (P.seats:Int) by omega),push]
    rw [show ((lst (fun i=>rr (frac (s.vt P i) s.D)) P.n,lst (fun i=>rr (s.keep i)) P.n,rr (P.q:Rat),rr (frac (P.tot * s.D - sumN (s.vt P) P.n) s.D),rr (frac (sumN (surN P s) P.n) s.D),selI (s.el1 P) P.n,[],[]):RD)=rdT (s.done P) from hdone.symm,d86e _ hdl]
    simp only [Option.bind_some,List.map_append,List.map_cons,List.map_nil]
  simp only [decide_eq_false hq,Bool.not_false,cond_true,d84z,Option.bind_some]
  have hsum2:w (((s.e1 P+s.e2 P:Nat):Int)+((cntN (fun i=>decide (s.st1 P i=0)) P.n:Nat):Int))=((s.e1 P+s.e2 P+cntN (fun i=>decide (s.st1 P i=0)) P.n:Nat):Int):=by rw [zbl (by omega) (by omega)]; omega
  rw [hsum2]
  by_cases hle:s.e1 P+s.e2 P+cntN (fun i=>decide (s.st1 P i=0)) P.n≤P.seats
  · have hfin:s.fin P=true:=by rw [fin_eq,decide_eq_true hle,Bool.or_true]
    obtain ⟨z,hz⟩:=d85_eq (s.el1 P) (s.st1 P) hn7
    have hdone:rdT (s.done P)=zco P s (selI (fun i=>s.el1 P i || decide (s.st1 P i=0)) P.n):=by
      rw [zqv,if_pos (by omega),← zef]; rfl
    have hdl:(s.done P).el.length≤7:=by
      rw [zqv,if_pos (by omega)]
      show (selI (fun i=>s.el1 P i || decide (s.st1 P i=0)) P.n).length≤7
      rw [zbn]; have:=zbm (fun i=>s.el1 P i || decide (s.st1 P i=0)) P.n; omega
    refine .inl ⟨hfin,?_⟩
    simp only [decide_eq_true (show ((s.e1 P+s.e2 P+cntN (fun i=>decide (s.st1 P i=0)) P.n:Nat):Int)≤(P.seats:Int) by omega),cond_true,decide_eq_true (show ((s.e1 P+s.e2 P:Nat):Int) < (P.seats:Int) by omega),hz,Option.bind_some,push]
    rw [show ((lst (fun i=>rr (frac (s.vt P i) s.D)) P.n,lst (fun i=>rr (s.keep i)) P.n,rr (P.q:Rat),rr (frac (P.tot * s.D - sumN (s.vt P) P.n) s.D),rr (frac (sumN (surN P s) P.n) s.D),selI (fun i=>s.el1 P i || decide (s.st1 P i=0)) P.n,[],[]):RD)=rdT (s.done P) from hdone.symm,d86e _ hdl]
    simp only [Option.bind_some,List.map_append,List.map_cons,List.map_nil]
  have hfin:s.fin P=false:=by rw [fin_eq,decide_eq_false hle,decide_eq_false hq]; rfl
  simp only [decide_eq_false (show ¬ ((s.e1 P+s.e2 P+cntN (fun i=>decide (s.st1 P i=0)) P.n:Nat):Int)≤(P.seats:Int) by omega),cond_false,d84o,Option.bind_some]
  by_cases hm:0 < s.e1 P
  · have hmost:s.most P=true:=by rw [most_eq]; exact decide_eq_true hm
    obtain ⟨x,x1,x2,x3⟩:=zea hP hI hfin (rs.map Rd.votes)
    rw [hmost] at x3
    have hxn:(s.pick P (rs.map Rd.votes)).toNat=x:=by rw [x1]; rfl
    have htne:=tied_ne hP hI hfin
    have htl0:=List.length_pos_iff.2 htne
    have htl7:(s.tied P).length≤7:=by
      unfold GS.tied
      rw [zbn]; exact Nat.le_trans (zbm _ _) hn7
    have h87:d87 (lst (fun c=>binl (s.vt P c)) P.n) (lst (fun j=>(s.st1 P j:Int)) P.n) 1 true=some (s.tied P):=by
      rw [show d87 (lst (fun c=>binl (s.vt P c)) P.n) (lst (fun j=>(s.st1 P j:Int)) P.n) 1 true=_ from d87_eq (x:=1) (by omega) hvl true]
      unfold GS.tied
      rw [hmost]
      rfl
    have hg0:(decide (0≤0) && decide (0 < ((s.tied P).length:Int)))=true:=by rw [decide_eq_true (show 0 < ((s.tied P).length:Int) by omega)]; rfl
    simp only [decide_eq_true (show (0:Int) < ((s.e1 P:Nat):Int) by omega),cond_true,cond_false,h87,Option.bind_some,hg0]
    rw [if_pos rfl] at x3
    obtain ⟨_,_,k3⟩:=zir hI x2 x3
    have hb0:=bar_pos hP hI
    have hvx:=zix hP hI x2
    have h82x:d82 (binl (s.vt P x)) (binl (s.bar P))=some (binl (s.vt P x - s.bar P)):=znl _ _ (by have:=hvl x x2; omega) k3
    have h78x:d78 (binl (s.vt P x - s.bar P)) (binl (s.vt P x))=some (rr (frac (s.vt P x - s.bar P) (s.vt P x))):=d78_eq (zbk hP hI (by omega)) (zbk hP hI hvx) (by omega)
    have e1c:lst (upd (fun i=>(s.st1 P i:Int)) x 2) P.n=lst (fun i=>((upd (s.st1 P) x 2 i:Nat):Int)) P.n:=e1b (y:=2)
    have h90:d90 (pilB P s) P.gs (lst (fun i=>((upd (s.st1 P) x 2 i:Nat):Int)) P.n) (x:Int) (binl (s.vt P x - s.bar P)) (binl (s.vt P x))=some (pilB P (s.move P (upd (s.st1 P) x 2) (upd s.keep x (frac (s.vt P x - s.bar P) (s.vt P x))) x (s.vt P x - s.bar P) (s.vt P x))):=d90_eq hP hI hG (fun _=>Iff.rfl) (zha (zbk hP hI (by omega))) (hvl x x2)
    refine .inr (.inl ⟨hfin,hmost,?_⟩)
    by_cases h1:(s.tied P).length=1
    · have hx0:(s.tied P).getD 0 0=(x:Int):=by
        rw [zdm,← x1]; unfold GS.pick; rw [if_pos h1]
      simp only [decide_eq_false (show ¬ (1:Int) < ((s.tied P).length:Int) by omega),cond_false,hx0]
      simp only [cond_true,d0le,zak,dlt x2,Bool.and_self,tn,zau (fun c=>binl (s.vt P c)) x2,h82x,h78x,Option.bind_some,zdv,e1c,e2b,h90,push]
      unfold stB GS.trans
      simp only [hxn,List.map_append,List.map_cons,List.map_nil]
      rw [show rdT { s.rd0 P with ti:=s.tiedR P }=(lst (fun i=>rr (frac (s.vt P i) s.D)) P.n,lst (fun i=>rr (s.keep i)) P.n,rr (P.q:Rat),rr (frac (P.tot * s.D - sumN (s.vt P) P.n) s.D),rr (frac (sumN (surN P s) P.n) s.D),selI (s.el1 P) P.n,[],[]) by rw [show s.tiedR P=[] from if_pos h1]; exact (zef P s (selI (s.el1 P) P.n) [] []).symm]
      rfl
    · have hx0:tieB P.ties (rs.map Rd.votes) (s.tied P) P.lots (!true)=(x:Int):=by
        rw [← x1]; unfold GS.pick; rw [if_neg h1,hmost]
      obtain ⟨b,h88⟩:=d88_eq (n:=P.n) (ties:=P.ties) (E:=rs.map Rd.votes) (tied:=s.tied P) (lots:=P.lots) (least:=!true) (by have:=hP.ties1; omega) hP.ties3 (lotsOK hP) (fun r hr=>by
        obtain ⟨r',h1,rfl⟩:=List.mem_map.1 hr
        exact (hR.rnd r' h1).1) (by rw [List.length_map]; omega) htne (zcw _ _) (fun y hy=>by
        obtain ⟨i,h1,h2,_⟩:=zce.1 hy
        exact ⟨i,h1,h2⟩) (by omega)
      rw [hx0] at h88
      simp only [decide_eq_true (show (1:Int) < ((s.tied P).length:Int) by omega),cond_true,d89_eq (rs:=rs) (by omega),Option.bind_some,hti,h88]
      simp only [cond_true,d0le,zak,dlt x2,Bool.and_self,tn,zau (fun c=>binl (s.vt P c)) x2,h82x,h78x,Option.bind_some,zdv,e1c,e2b,h90,push]
      unfold stB GS.trans
      simp only [hxn,List.map_append,List.map_cons,List.map_nil]
      rw [show rdT { s.rd0 P with ti:=s.tiedR P }=(lst (fun i=>rr (frac (s.vt P i) s.D)) P.n,lst (fun i=>rr (s.keep i)) P.n,rr (P.q:Rat),rr (frac (P.tot * s.D - sumN (s.vt P) P.n) s.D),rr (frac (sumN (surN P s) P.n) s.D),selI (s.el1 P) P.n,[],(s.tied P)) by rw [show s.tiedR P=(s.tied P) from if_neg h1]; exact (zef P s (selI (s.el1 P) P.n) [] (s.tied P)).symm]
      rfl
  · have hmost:s.most P=false:=by rw [most_eq]; exact decide_eq_false hm
    obtain ⟨x,x1,x2,x3⟩:=zea hP hI hfin (rs.map Rd.votes)
    rw [hmost] at x3
    have hxn:(s.pick P (rs.map Rd.votes)).toNat=x:=by rw [x1]; rfl
    have htne:=tied_ne hP hI hfin
    have htl0:=List.length_pos_iff.2 htne
    have htl7:(s.tied P).length≤7:=by
      unfold GS.tied
      rw [zbn]; exact Nat.le_trans (zbm _ _) hn7
    have h87:d87 (lst (fun c=>binl (s.vt P c)) P.n) (lst (fun j=>(s.st1 P j:Int)) P.n) 0 false=some (s.tied P):=by
      rw [show d87 (lst (fun c=>binl (s.vt P c)) P.n) (lst (fun j=>(s.st1 P j:Int)) P.n) 0 false=_ from d87_eq (x:=0) (by omega) hvl false]
      unfold GS.tied
      rw [hmost]
      rfl
    have hg0:(decide (0≤0) && decide (0 < ((s.tied P).length:Int)))=true:=by rw [decide_eq_true (show 0 < ((s.tied P).length:Int) by omega)]; rfl
    simp only [decide_eq_false (show ¬ (0:Int) < ((s.e1 P:Nat):Int) by omega),cond_true,cond_false,h87,Option.bind_some,hg0]
    have x3':s.st1 P x=0:=by simpa using x3
    have e1c:lst (upd (fun i=>(s.st1 P i:Int)) x 3) P.n=lst (fun i=>((upd (s.st1 P) x 3 i:Nat):Int)) P.n:=e1b (y:=3)
    have h1l:(binl 1).length≤2208:=zha (Nat.one_lt_two_pow (by decide))
    have h90:d90 (pilB P s) P.gs (lst (fun i=>((upd (s.st1 P) x 3 i:Nat):Int)) P.n) (x:Int) (binl 1) (binl 1)=some (pilB P (s.move P (upd (s.st1 P) x 3) (upd s.keep x 0) x 1 1)):=d90_eq hP hI hG (fun _=>Iff.rfl) h1l h1l
    refine .inr (.inr ⟨hfin,hmost,?_⟩)
    by_cases h1:(s.tied P).length=1
    · have hx0:(s.tied P).getD 0 0=(x:Int):=by
        rw [zdm,← x1]; unfold GS.pick; rw [if_pos h1]
      simp only [decide_eq_false (show ¬ (1:Int) < ((s.tied P).length:Int) by omega),cond_false,hx0]
      simp only [cond_false,cond_true,d0le,zak,dlt x2,Bool.and_self,tn,hr0,hz1,Option.bind_some,zdv,e1c,e2b,h90,push]
      unfold stB GS.excl
      simp only [hxn,x1,List.map_append,List.map_cons,List.map_nil]
      rw [show rdT { s.rd0 P with ti:=s.tiedR P,ex:=[(x:Int)] }=(lst (fun i=>rr (frac (s.vt P i) s.D)) P.n,lst (fun i=>rr (s.keep i)) P.n,rr (P.q:Rat),rr (frac (P.tot * s.D - sumN (s.vt P) P.n) s.D),rr (frac (sumN (surN P s) P.n) s.D),selI (s.el1 P) P.n,[(x:Int)],[]) by rw [show s.tiedR P=[] from if_pos h1]; exact (zef P s (selI (s.el1 P) P.n) [(x:Int)] []).symm]
      rfl
    · have hx0:tieB P.ties (rs.map Rd.votes) (s.tied P) P.lots true=(x:Int):=by
        rw [← x1]; unfold GS.pick; rw [if_neg h1,hmost]; rfl
      obtain ⟨b,h88⟩:=d88_eq (n:=P.n) (ties:=P.ties) (E:=rs.map Rd.votes) (tied:=s.tied P) (lots:=P.lots) (least:=true) (by have:=hP.ties1; omega) hP.ties3 (lotsOK hP) (fun r hr=>by
        obtain ⟨r',h1,rfl⟩:=List.mem_map.1 hr
        exact (hR.rnd r' h1).1) (by rw [List.length_map]; omega) htne (zcw _ _) (fun y hy=>by
        obtain ⟨i,h1,h2,_⟩:=zce.1 hy
        exact ⟨i,h1,h2⟩) (by omega)
      rw [hx0] at h88
      simp only [decide_eq_true (show (1:Int) < ((s.tied P).length:Int) by omega),cond_true,d89_eq (rs:=rs) (by omega),Option.bind_some,hti,h88]
      simp only [cond_false,cond_true,d0le,zak,dlt x2,Bool.and_self,tn,hr0,hz1,Option.bind_some,zdv,e1c,e2b,h90,push]
      unfold stB GS.excl
      simp only [hxn,x1,List.map_append,List.map_cons,List.map_nil]
      rw [show rdT { s.rd0 P with ti:=s.tiedR P,ex:=[(x:Int)] }=(lst (fun i=>rr (frac (s.vt P i) s.D)) P.n,lst (fun i=>rr (s.keep i)) P.n,rr (P.q:Rat),rr (frac (P.tot * s.D - sumN (s.vt P) P.n) s.D),rr (frac (sumN (surN P s) P.n) s.D),selI (s.el1 P) P.n,[(x:Int)],(s.tied P)) by rw [show s.tiedR P=(s.tied P) from if_neg h1]; exact (zef P s (selI (s.el1 P) P.n) [(x:Int)] (s.tied P)).symm]
      rfl
end Go.Proofs.YtmipjomnjkmdbaaGreat
set_option linter.unusedSimpArgs false
set_option linter.unusedVariables false
namespace Go.Proofs.YtmipjomnjkmdbaaGreat
open Go Go.X
inductive Tr (P:GP):GS→List Rd→List Rd→Prop
  | fin {s:GS} {rs:List Rd}:Run P s rs→s.fin P=true→Tr P s rs [s.done P]
  | trans {s:GS} {rs rest:List Rd}:Run P s rs→s.fin P=false→s.most P=true→Tr P (s.trans P (rs.map Rd.votes)) (rs++[{ s.rd0 P with ti:=s.tiedR P }]) rest→Tr P s rs ({ s.rd0 P with ti:=s.tiedR P }::rest)
  | excl {s:GS} {rs rest:List Rd}:Run P s rs→s.fin P=false→s.most P=false→Tr P (s.excl P (rs.map Rd.votes)) (rs++[{ s.rd0 P with ti:=s.tiedR P,ex:=[s.pick P (rs.map Rd.votes)] }]) rest→Tr P s rs ({ s.rd0 P with ti:=s.tiedR P,ex:=[s.pick P (rs.map Rd.votes)] }::rest)
theorem tr_ex {P:GP} (hP:P.OK):∀ (m:Nat) {s:GS} {rs:List Rd},s.meas P < m→Run P s rs→∃ rest,Tr P s rs rest∧rs++rest=zfh P
  | 0,_,_,h,_=>by omega
  | m+1,s,rs,h,hR=>by
    cases hf:s.fin P with
    | true=>exact ⟨_,.fin hR hf,hR.fin hf⟩
    | false =>
      cases hm:s.most P with
      | true =>
        have hme:=zhz hP hR.inv hf hm (rs.map Rd.votes)
        obtain ⟨rest,h1,h2⟩:=tr_ex hP m (by omega) (hR.trans hP hf hm)
        exact ⟨_,.trans hR hf hm h1,by rw [← h2,List.append_assoc]; rfl⟩
      | false =>
        have hme:=zju hP hR.inv hf hm (rs.map Rd.votes)
        obtain ⟨rest,h1,h2⟩:=tr_ex hP m (by omega) (hR.excl hP hf hm)
        exact ⟨_,.excl hR hf hm h1,by rw [← h2,List.append_assoc]; rfl⟩
theorem gcount_tr {P:GP} (hP:P.OK):Tr P g0 [] (zfh P):=by
  obtain ⟨rest,h1,h2⟩:=tr_ex hP (g0.meas P+1) (by omega) (Run.start hP)
  rw [List.nil_append] at h2
  rwa [h2] at h1
variable {P:GP} {s:GS}
def GS.act (P:GP) (s:GS):Nat:=cntN (fun i=>decide (s.st i ≠ 3)) P.n
theorem act_split (hI:GI P s):s.e1 P+s.e2 P+s.e0 P=s.act P:=by
  unfold GS.e1 GS.e2 GS.e0 GS.act cntN
  rw [← zdb,← zdb]
  refine zbh fun i hi=>?_
  have h3:=hI.st3 i
  rcases zbv (P:=P) (s:=s) i with ⟨h0,h1,h2,_⟩ | ⟨h0,h2⟩
  · simp [h1,h2]
  · have:s.st i=0∨s.st i=1∨s.st i=2∨s.st i=3:=by omega
    rcases this with h | h | h | h <;> simp [h,h2]
theorem el1_hop {i:Nat} (h:s.el1 P i=true):s.st i=0:=by
  unfold GS.el1 at h
  rw [Bool.and_eq_true,decide_eq_true_eq] at h
  exact h.1
theorem trans_st (hP:P.OK) (hI:GI P s) (hf:s.fin P=false) (hm:s.most P=true) (E:List (List Rat)):∃ x,x < P.n∧s.st1 P x=1∧s.pick P E=(x:Int)∧s.trans P E=s.move P (upd (s.st1 P) x 2) (upd s.keep x (frac (s.vt P x - s.bar P) (s.vt P x))) x (s.vt P x - s.bar P) (s.vt P x):=by
  obtain ⟨x,x1,x2,x3⟩:=zea hP hI hf E
  rw [hm,if_pos rfl] at x3
  exact ⟨x,x2,x3,x1,by unfold GS.trans; simp only [x1,Int.toNat_natCast]⟩
theorem excl_st (hP:P.OK) (hI:GI P s) (hf:s.fin P=false) (hm:s.most P=false) (E:List (List Rat)):∃ x,x < P.n∧s.st1 P x=0∧s.pick P E=(x:Int)∧s.excl P E=s.move P (upd (s.st1 P) x 3) (upd s.keep x 0) x 1 1:=by
  obtain ⟨x,x1,x2,x3⟩:=zea hP hI hf E
  rw [hm] at x3
  exact ⟨x,x2,by simpa using x3,x1,by unfold GS.excl; simp only [x1,Int.toNat_natCast]⟩
theorem next_hop {x y:Nat} (hy:y ≠ 0) {keep:Nat→Rat} {a b i:Nat} (h:(s.move P (upd (s.st1 P) x y) keep x a b).st i=0):s.st i=0∧s.el1 P i=false:=by
  have h':upd (s.st1 P) x y i=0:=h
  unfold upd at h'
  split at h'
  · omega
  · rcases zbv (P:=P) (s:=s) i with ⟨h0,h1,h2,_⟩ | ⟨h0,h2⟩
    · omega
    · exact ⟨by omega,h0⟩
structure WinOK (P:GP) (s:GS) (l:List Int):Prop where
  nodup:l.Nodup
  within:∀ c∈l,∃ i:Nat,c=(i:Int)∧i < P.n∧s.st i=0
  num:l.length+cntN (fun i=>decide (s.st i=1)) P.n+cntN (fun i=>decide (s.st i=2)) P.n=min P.seats P.n
theorem zkk (p:Nat→Bool) (n:Nat):(selI p n).Nodup:=(zcw p n).imp fun h=>by omega
theorem WinOK.cons (hI:GI P s) {x y:Nat} (hx:x < P.n) (hy:(s.st1 P x=1∧y=2)∨(s.st1 P x=0∧y=3)) {keep:Nat→Rat} {a b:Nat} {l:List Int} (h:WinOK P (s.move P (upd (s.st1 P) x y) keep x a b) l):WinOK P s (selI (s.el1 P) P.n++l):=by
  refine ⟨List.nodup_append.2 ⟨zkk _ _,h.nodup,fun c hc d hd hcd=>?_⟩,fun c hc=>?_,?_⟩
  · subst hcd
    obtain ⟨i,rfl,h1,h2⟩:=zce.1 hc
    obtain ⟨j,h3,h4,h5⟩:=h.within _ hd
    have:=(next_hop (by omega) h5).2
    rw [← Int.ofNat_inj.1 h3,h2] at this
    cases this
  · rcases List.mem_append.1 hc with hc | hc
    · obtain ⟨i,rfl,h1,h2⟩:=zce.1 hc
      exact ⟨i,rfl,h1,el1_hop h2⟩
    · obtain ⟨j,h3,h4,h5⟩:=h.within _ hc
      exact ⟨j,h3,h4,(next_hop (by omega) h5).1⟩
  · have h1:=h.num
    have h2:=fl_next (P:=P) (s:=s) hx hy (st:=(s.move P (upd (s.st1 P) x y) keep x a b).st) rfl
    have h3:=znr hI
    rw [List.length_append,zbn]
    omega
theorem act_move {x y:Nat} (hx:x < P.n) (hy:(s.st1 P x=1∧y=2)∨(s.st1 P x=0∧y=3)) {keep:Nat→Rat} {a b:Nat}:(s.move P (upd (s.st1 P) x y) keep x a b).act P+(if y=3 then 1 else 0)=s.act P:=by
  unfold GS.act
  show cntN (fun i=>decide (upd (s.st1 P) x y i ≠ 3)) P.n+_=_
  have e:∀ i,decide (s.st1 P i ≠ 3)=decide (s.st i ≠ 3):=fun i=>by
    refine decide_eq_decide.2 ?_
    rcases zbv (P:=P) (s:=s) i with ⟨h0,h1,h2,_⟩ | ⟨h0,h2⟩ <;> omega
  rcases hy with ⟨h1,rfl⟩ | ⟨h1,rfl⟩
  · rw [if_neg (by omega),Nat.add_zero]
    refine zkx fun i hi=>?_
    by_cases h:i=x
    · subst h
      rw [zcr,← e,h1]; rfl
    · rw [zfm _ _ h,e]
  · rw [if_pos rfl]
    refine (cnt_upd (p:=fun i=>decide (s.st i ≠ 3)) hx (fun i hi hne=>?_) ?_ ?_).symm
    · rw [zfm _ _ hne,e]
    · rw [zcr]; rfl
    · rw [← e,h1]; rfl
theorem fin_win (hP:P.OK) (hI:GI P s) (hf:s.fin P=true) (hact:min P.seats P.n≤s.act P):WinOK P s (s.done P).el:=by
  have hs:=act_split hI
  have hc:=znr hI
  have helec:=zih hP hI
  have hactn:s.act P≤P.n:=zbm _ _
  unfold GS.done
  show WinOK P s (if s.e1 P+s.e2 P < P.seats then selI (fun i=>s.el1 P i || decide (s.st1 P i=0)) P.n else selI (s.el1 P) P.n)
  by_cases h:s.e1 P+s.e2 P < P.seats
  · rw [if_pos h]
    have hq:s.e1 P+s.e2 P+s.e0 P≤P.seats:=by
      unfold GS.fin at hf
      rw [Bool.or_eq_true,decide_eq_true_eq,decide_eq_true_eq] at hf
      rcases hf with h1 | h1
      · have:s.e1 P+s.e2 P=P.seats:=h1
        omega
      · exact h1
    refine ⟨zkk _ _,fun c hc=>?_,?_⟩
    · obtain ⟨i,rfl,h1,h2⟩:=zce.1 hc
      refine ⟨i,rfl,h1,?_⟩
      rcases zbv (P:=P) (s:=s) i with ⟨h0,k1,k2,_⟩ | ⟨h0,k2⟩
      · exact k1
      · rw [h0,Bool.false_or,decide_eq_true_eq] at h2
        omega
    · rw [zbn]
      have e:cntN (fun i=>s.el1 P i || decide (s.st1 P i=0)) P.n=cntN (s.el1 P) P.n+s.e0 P:=by
        unfold GS.e0 cntN
        rw [← zdb]
        refine zbh fun i hi=>?_
        rcases zbv (P:=P) (s:=s) i with ⟨h0,k1,k2,_⟩ | ⟨h0,k2⟩
        · simp [h0,k2]
        · simp [h0]
      rw [e]
      omega
  · rw [if_neg h]
    refine ⟨zkk _ _,fun c hc=>?_,?_⟩
    · obtain ⟨i,rfl,h1,h2⟩:=zce.1 hc
      exact ⟨i,rfl,h1,el1_hop h2⟩
    · rw [zbn]
      have:s.e1 P+s.e2 P≤P.n:=by omega
      omega
theorem win_tr (hP:P.OK) {rs rest:List Rd} (h:Tr P s rs rest):min P.seats P.n≤s.act P→WinOK P s (rest.flatMap Rd.el):=by
  induction h with
  | fin hR hf =>
    intro hact
    rw [List.flatMap_cons,List.flatMap_nil,List.append_nil]
    exact fin_win hP hR.inv hf hact
  | @trans s rs rest hR hf hm h ih =>
    intro hact
    obtain ⟨x,x1,x2,x3,x4⟩:=trans_st hP hR.inv hf hm (rs.map Rd.votes)
    rw [x4] at ih
    have ha:=act_move (P:=P) (s:=s) (y:=2) x1 (.inl ⟨x2,rfl⟩) (keep:=upd s.keep x (frac (s.vt P x - s.bar P) (s.vt P x))) (a:=s.vt P x - s.bar P) (b:=s.vt P x)
    rw [if_neg (by omega),Nat.add_zero] at ha
    rw [List.flatMap_cons]
    exact WinOK.cons hR.inv x1 (.inl ⟨x2,rfl⟩) (ih (by rw [ha]; exact hact))
  | @excl s rs rest hR hf hm h ih =>
    intro hact
    obtain ⟨x,x1,x2,x3,x4⟩:=excl_st hP hR.inv hf hm (rs.map Rd.votes)
    rw [x4] at ih
    have ha:=act_move (P:=P) (s:=s) (y:=3) x1 (.inr ⟨x2,rfl⟩) (keep:=upd s.keep x 0) (a:=1) (b:=1)
    rw [if_pos rfl] at ha
    have hs:=act_split hR.inv
    have hff:=fin_false hP hR.inv hf
    rw [List.flatMap_cons]
    exact WinOK.cons hR.inv x1 (.inr ⟨x2,rfl⟩) (ih (by omega))
theorem win_ok (hP:P.OK):WinOK P g0 ((zfh P).flatMap Rd.el):=by
  refine win_tr hP (gcount_tr hP) ?_
  have:g0.act P=P.n:=by
    unfold GS.act cntN
    have key:∀ n,sumN (fun _=>1) n=n:=fun n=>by
      induction n with
      | zero=>rfl
      | succ n ih=>rw [sumN,ih]
    exact (zbh (g:=fun _=>1) fun i _=>rfl).trans (key _)
  rw [this]
  exact Nat.min_le_right _ _
theorem win_len (hP:P.OK):((zfh P).flatMap Rd.el).length=min P.seats P.n:=by
  have h:=(win_ok hP).num
  have e1:cntN (fun i=>decide (g0.st i=1)) P.n=0:=by unfold cntN; exact zcv _
  have e2:cntN (fun i=>decide (g0.st i=2)) P.n=0:=by unfold cntN; exact zcv _
  rw [e1,e2] at h
  exact h
end Go.Proofs.YtmipjomnjkmdbaaGreat
set_option linter.unusedSimpArgs false
set_option linter.unusedVariables false
namespace Go.Proofs.YtmipjomnjkmdbaaGreat
open Go Go.X
structure Cnt (n:Nat) (c:CT) (gs:List Grp) (lots:List Int) (N:Int):Prop where
  con:ConOK c n 3
  n1:1≤n
  n7:n≤7
  pile:PileOK (n:Int) gs N
  len:lots.length=n
  perm:isB (n:Int) lots
  fit:fitE 3 c gs lots=0
  ok:(gpOf c gs lots).OK
  cands:(gpOf c gs lots).n=n
  seats:c.2.2.2.1=((gpOf c gs lots).seats:Int)
  tot:((gpOf c gs lots).tot:Int)=N
theorem Cnt.mk' {n:Nat} {c:CT} {gs:List Grp} {lots:List Int} {N:Int} (hc:ConOK c n 3) (h1:1≤n) (h7:n≤7) (hp:PileOK (n:Int) gs N) (hl:lots.length=n) (hb:isB (n:Int) lots):Cnt n c gs lots N:=by
  have hf:=fitE_made hc (by omega) (by omega) h1 h7 hp hl hb
  obtain ⟨k1,k2,k3,k4,_,_⟩:=gpOf_ok hf
  refine ⟨hc,h1,h7,hp,hl,hb,hf,k1,hc.names,k3,?_⟩
  have h67:=hp.d67 (by omega)
  rw [h67] at k4
  have:=Option.some.inj k4
  rw [← this]; exact hp.total
theorem Cnt.d22 {n:Nat} {c:CT} {gs:List Grp} {lots:List Int} {N:Int} (h:Cnt n c gs lots N):d22 c gs lots=some (trT (gpOf c gs lots),0):=by
  have hl:=h.len
  have h7:=h.n7
  rw [d22_eq (h.pile.gs (by omega)) (by omega),if_pos h.fit]
theorem d31_eq {n:Nat} (h1:1≤n) (h7:n≤7) {seats ties code:Int} {l:List (List Int)} (hs:WT (.int .i64) seats) (ht:WT (.int .i64) ties) (hc:WT (.int .i64) code) (hl:l.length≤281474976710656) (hw:∀ x∈l,WT (.slice (.int .i64)) x) :
    ∃ c lots,d31 (n:Int) seats ties code l=some (c,zdh (bals (n:Int) l 16),trT (gpOf c (zdh (bals (n:Int) l 16)) lots),0)∧Cnt n c (zdh (bals (n:Int) l 16)) lots ((bals (n:Int) l 16).length:Int)∧d27 (n:Int) code=some lots∧c.2.2.2.1=1+seats % 5∧c.2.2.2.2.2.2.1=1+ties % 3∧d25 2 (n:Int) seats 0 ties=some c:=by
  have k:∀ x:Int,-9223372036854775808≤x→x≤9223372036854775807→WT (.int .i64) x:=fun x h0 h1=>zbl h0 h1
  obtain ⟨c,c1,c2,c3,c4⟩:=d25_eq (n:=n) (by omega) (k 2 (by omega) (by omega)) hs (k 0 (by omega) (by omega)) ht
  obtain ⟨lots,l1,l2,l3⟩:=d27_eq (n:=n) (by omega) hc
  have hpl:=zmw (n:=(n:Int)) (bals (n:Int) l 16) (bals_isB (n:=(n:Int)) (by omega) (l:=l) (most:=16)) (by have:=@bals_len (n:Int) l 16; omega)
  have hC:=Cnt.mk' (c:=c) c2 h1 h7 hpl.1 l2 l3
  refine ⟨c,lots,?_,hC,l1,by rw [c3]; rfl,c4,c1⟩
  unfold d31
  rw [c1,Option.bind_some,show d26 (n:Int) l 16=some (zdh (bals (n:Int) l 16)) from d26_eq (n:=(n:Int)) (by omega) (by omega) hl hw (most:=16) (by omega),Option.bind_some,l1,Option.bind_some,hC.d22]
  rfl
variable {P:GP} {s:GS}
def rd0:Rd:=⟨[],[],0,0,0,[],[],[]⟩
theorem gcount_len (hP:P.OK):(zfh P).length≤1000:=by
  have key:∀ (k:Nat) (rs:List Rd) (s:GS),(grun P k rs s).length≤rs.length+k:=by
    intro k
    induction k with
    | zero=>intro rs s; exact Nat.le_refl _
    | succ k ih =>
      intro rs s
      rw [grun]
      split
      · rename_i r _
        simp
      · rename_i r s' _
        have:=ih (rs++[r]) s'
        rw [List.length_append] at this
        simp at this
        omega
  have hk:=key (P.n+1) [] g0
  have hn7:=hP.n7
  have e:zfh P=grun P (P.n+1) [] g0:=rfl
  rw [e]
  simp only [List.length_nil] at hk
  omega
end Go.Proofs.YtmipjomnjkmdbaaGreat
set_option linter.unusedSimpArgs false
set_option linter.unusedVariables false
namespace Go.Proofs.YtmipjomnjkmdbaaGreat
open Go Go.X
variable {P:GP} {s:GS}
theorem tiedR_len (hP:P.OK):(s.tiedR P).length≤7:=by
  unfold GS.tiedR
  split
  · simp
  · unfold GS.tied
    rw [zbn]; exact Nat.le_trans (zbm _ _) hP.n7
theorem rd_sm (hP:P.OK) (hI:GI P s) (hk:∀ i,i < P.n→Bz eB (s.keep i)) {el ex ti:List Int} (h1:el.length≤7) (h2:ex.length≤7) (h3:ti.length≤7):Rd.Sm { s.rd0 P with el:=el,ex:=ex,ti:=ti }:=by
  have hn7:=hP.n7
  refine ⟨⟨by show (lst _ P.n).length≤_; rw [zak]; omega,fun q hq=>?_⟩,⟨by show (lst _ P.n).length≤_; rw [zak]; omega,fun q hq=>?_⟩,(zje hP).sz2,(zbc hP hI (Nat.sub_le _ _)).sz2,(zbc hP hI (sur_le hP hI)).sz2,⟨by show el.length≤_; omega,by show ex.length≤_; omega,by show ti.length≤_; omega⟩⟩
  · obtain ⟨i,hi,rfl⟩:=mem_lst.1 hq
    exact (zbc hP hI (zix hP hI hi)).sz2
  · obtain ⟨i,hi,rfl⟩:=mem_lst.1 hq
    exact (hk i hi).sz2
theorem Tr.sm (hP:P.OK) {rs rest:List Rd} (h:Tr P s rs rest):∀ r∈rest,r.Sm:=by
  induction h with
  | @fin s rs hR hf =>
    intro r hr
    rw [List.mem_singleton] at hr
    subst hr
    have:=rd_sm hP hR.inv hR.ok.keep (el:=(s.done P).el) (ex:=[]) (ti:=[]) (by
      show (if _ then _ else _:List Int).length≤7
      split
      · rw [zbn]; exact Nat.le_trans (zbm _ _) hP.n7
      · exact zpa hP) (by simp) (by simp)
    exact this
  | @trans s rs rest hR hf hm h ih =>
    intro r hr
    rcases List.mem_cons.1 hr with rfl | hr
    · exact rd_sm hP hR.inv hR.ok.keep (zpa hP) (by simp [GS.rd0]) (tiedR_len hP)
    · exact ih r hr
  | @excl s rs rest hR hf hm h ih =>
    intro r hr
    rcases List.mem_cons.1 hr with rfl | hr
    · exact rd_sm hP hR.inv hR.ok.keep (zpa hP) (by simp) (tiedR_len hP)
    · exact ih r hr
theorem gcount_sm (hP:P.OK):∀ r∈zfh P,r.Sm:=(gcount_tr hP).sm hP
theorem d19_ex {gs:List Grp} (h:GsOK gs):∃ b:Bool,d19 gs=some b:=by
  have hl:=h.1
  unfold d19
  by_cases hb:∀ i,i < gs.length→decide (12 < ((gs.getD i ([],0)).1.length:Int))=false
  · refine ⟨decide ((gs.length:Int)≤60),?_⟩
    refine zac (b:=.inl gs) (fun i=>(gs,(i:Int))) gs.length rfl (fun i hi=>?_) ?_ rfl
    · simp only [dlt hi,d0le,zaz (show i < 9223372036854775807 by omega),cond_true,Bool.and_self,tn,hb i hi,cond_false]
    · simp only [nlt (Nat.le_refl gs.length),cond_false]
  · refine ⟨false,?_⟩
    refine zfc (fun i=>(gs,(i:Int))) (fun i=>decide (12 < ((gs.getD i ([],0)).1.length:Int))) gs.length (fun _=>.inr false) (.inl gs) rfl (fun i hi=>?_) ?_ (fun i hi hp hj=>rfl) (fun hall=>absurd hall hb)
    · simp only [dlt hi,d0le,zaz (show i < 9223372036854775807 by omega),cond_true,Bool.and_self,tn]
      cases decide (12 < ((gs.getD i ([],0)).1.length:Int)) <;> rfl
    · simp only [nlt (Nat.le_refl gs.length),cond_false]
theorem d3_true {c:CT} {gs:List Grp} {lots:List Int} {raw:Bool} {size code:Int} {l:List (List Int)} (hg:GsOK gs) (hlo:lots.length≤281474976710656) (hs:WT (.int .i64) c.2.2.2.1) (ht:WT (.int .i64) c.2.2.2.2.2.2.1)
    (h4:WT (.int .i64) size) (h5:WT (.int .i64) code) (hl:l.length≤281474976710656) (hw:∀ x∈l,WT (.slice (.int .i64)) x):d3 c gs lots raw size code l=some true:=by
  obtain ⟨b1,hb1⟩:=d19_ex hg
  have k:∀ x:Int,-9223372036854775808≤x→x≤9223372036854775807→WT (.int .i64) x:=fun x h0 h1=>zbl h0 h1
  have b:=zkq size (n:=7) (by omega)
  obtain ⟨n,hn⟩:∃ n:Nat,1+size % 7=(n:Int):=⟨(1+size % 7).toNat,by omega⟩
  have hw1:w (1+size % 7)=(n:Int):=by rw [zbl (by omega) (by omega)]; exact hn
  obtain ⟨c',lots',_,hC,l1,_,_,c1⟩:=d31_eq (n:=n) (by omega) (by omega) hs ht h5 hl hw
  have hpl:d26 (n:Int) l 16=some (zdh (bals (n:Int) l 16)):=d26_eq (n:=(n:Int)) (by omega) (by omega) hl hw (most:=16) (by omega)
  have hsame:((d22 c' (zdh (bals (n:Int) l 16)) lots').bind fun r_10=>(d28 c' (zdh (bals (n:Int) l 16)) lots').bind fun r_11=>(d21).bind fun r_12 =>
      bif r_12 then bif (decide (r_10.2=r_11.2)) then (d29 r_10.1 r_11.1).bind fun r_13=>some r_13 else some false else some false)=some true:=by
    have hgs:=gs_of hC.n7 hC.pile
    have hll:lots'.length≤281474976710656:=by have:=hC.len; have:=hC.n7; omega
    have hP:=hC.ok
    have hlen:=gcount_len hP
    have hn7:=hP.n7
    have hwl:=win_len hP
    rw [d22_eq hgs hll,d28_eq hgs hll,Option.bind_some,Option.bind_some,d21_eq,Option.bind_some,hC.fit]
    simp only [if_true,cond_true,decide_true]
    rw [show d29 (trT (gpOf c' (zdh (bals (n:Int) l 16)) lots')) (trT (gpOf c' (zdh (bals (n:Int) l 16)) lots'))=some true from d29_eq (gcount_sm hP) (by omega) (by rw [hwl]; omega)]
    rfl
  have hraw:((d22 c gs lots).bind fun r_3=>(d21).bind fun r_4=>bif r_4 then (d23 3 c gs lots).bind fun r_5=>some (decide (r_3.2=r_5)) else some false)=some true:=by
    rw [d22_eq hg hlo,d21_eq,d23_eq 3 c hg hlo,Option.bind_some,Option.bind_some,cond_true,Option.bind_some]
    by_cases hf:fitE 3 c gs lots=0
    · rw [if_pos hf,hf]; rfl
    · rw [if_neg hf]; simp
  unfold d3
  simp only [zah]
  rw [hb1,d20_eq l hl,Option.bind_some,Option.bind_some]
  have main:(bif raw then (d22 c gs lots).bind fun r_3=>(d21).bind fun r_4=>bif r_4 then (d23 3 c gs lots).bind fun r_5=>some (decide (r_3.2=r_5)) else some false
      else (d24 size 7).bind fun r_6=>(d25 2 (w (1+r_6)) c.2.2.2.1 0 c.2.2.2.2.2.2.1).bind fun r_7=>(d26 (w (1+r_6)) l 16).bind fun r_8=>(d27 (w (1+r_6)) code).bind fun r_9=>(d22 r_7 r_8 r_9).bind fun r_10=>(d28 r_7 r_8 r_9).bind fun r_11=>(d21).bind fun r_12 =>
        bif r_12 then bif (decide (r_10.2=r_11.2)) then (d29 r_10.1 r_11.1).bind fun r_13=>some r_13 else some false else some false)=some true:=by
    cases raw
    · rw [cond_false,znn h4 (by omega) (by omega),Option.bind_some,hw1,c1,Option.bind_some,hpl,Option.bind_some,l1,Option.bind_some]
      exact hsame
    · exact hraw
  have fall:((d21).bind fun r_2=>some r_2)=some true:=by rw [d21_eq]; rfl
  cases b1
  · exact fall
  · cases hfew:(decide (∀ x∈l,x.length≤12) && decide (l.length≤16))
    · exact fall
    · simp only [Bool.not_true,Bool.not_false,cond_true]
      by_cases h12:(12:Int) < (lots.length:Int)
      · rw [decide_eq_true h12]; exact fall
      · rw [decide_eq_false h12]
        by_cases hn12:(12:Int) < (c.2.1.length:Int)
        · simp only [decide_eq_true hn12,Bool.not_false,cond_true]; exact fall
        · simp only [decide_eq_false hn12,Bool.not_false,cond_true,cond_false]; exact main
end Go.Proofs.YtmipjomnjkmdbaaGreat
