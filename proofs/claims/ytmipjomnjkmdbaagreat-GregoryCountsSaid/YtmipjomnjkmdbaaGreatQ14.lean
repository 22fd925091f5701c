/- Part 14 of what stands below the statement. -/
import Derived.Test.YtmipjomnjkmdbaaGreatQ13
set_option linter.unusedSimpArgs false
set_option linter.unusedVariables false
namespace Go.Proofs.YtmipjomnjkmdbaaGreat
open Go Go.X
theorem B_pow (i:Nat):4294967296 ^ i=2 ^ (32 * i):=by rw [Nat.pow_mul]
theorem and_one (z:Nat):z &&& 1=z % 2:=Nat.and_one_is_mod z
theorem bit_of {x k:Nat} (hx:x < 4294967296) (hk:k < 32):decide (wu32 (((BitVec.ofInt 32 (wu32 (Int.fdiv (x:Int) (2 ^ (min (Int.toNat (k:Int)) 32)))) &&& BitVec.ofInt 32 1).toNat:Nat):Int)=1)=decide (x / 2 ^ k % 2=1):=by
  have e1:Int.fdiv (x:Int) (2 ^ (min (Int.toNat (k:Int)) 32))=((x / 2 ^ k:Nat):Int):=by
    rw [tn,show min k 32=k by omega]
    have:((2:Int) ^ k)=((2 ^ k:Nat):Int):=by simp
    rw [this,Int.fdiv_eq_ediv_of_nonneg _ (Int.natCast_nonneg _)]
    rfl
  have hl:x / 2 ^ k < 4294967296:=Nat.lt_of_le_of_lt (Nat.div_le_self _ _) hx
  rw [e1]
  generalize x / 2 ^ k=z at *
  have hone:BitVec.ofInt 32 1=BitVec.ofNat 32 1:=rfl
  rw [show wu32 (z:Int)=(z:Int) by rw [zbz,Nat.mod_eq_of_lt hl],BitVec.toNat_and,zej 32 _ hl,hone,BitVec.toNat_ofNat,show 1 % 2 ^ 32=1 from rfl,and_one,zbz,Nat.mod_eq_of_lt (by omega)]
  by_cases h:z % 2=1
  · rw [h]; rfl
  · rw [decide_eq_false h,show z % 2=0 by omega]; rfl
theorem d95_eq {a:List Int} (ha:IsL a) (la:a.length≤67108864):d95 a=some (binl (nv a)):=by
  unfold d95
  refine zbo (Q:=fun r=>r=some (binl (nv a))) (fun (i:Nat) (st:(List Int) × (List Bool) × Int)=>∃ (b:List Bool),st=(a,b,(i:Int))∧b.length=32 * i∧bv b=nv (a.take i)) a.length ?_ ?_ ?_
  · exact ⟨[],rfl,rfl,by simp [bv,nv]⟩
  · rintro i st hi ⟨b,rfl,hlen,hv⟩
    obtain ⟨x,hx1,hx2,hx3⟩:=zdx ha i
    simp only [dlt hi,cond_true]
    refine zbo (Q:=fun (r:Option (((List Int) × (List Bool) × Int) ⊕ (List Bool)))=>∃ a',r=some (.inl a')∧∃ (b:List Bool),a'=(a,b,((i+1:Nat):Int))∧b.length=32 * (i+1)∧bv b=nv (a.take (i+1))) (fun (k:Nat) (st:(List Int) × (List Bool) × Int × Int)=>∃ (c:List Bool),st=(a,c,(i:Int),(k:Int))∧c.length=32 * i+k∧bv c=nv (a.take i)+4294967296 ^ i * (x % 2 ^ k)) 32 ?_ ?_ ?_
    · exact ⟨b,rfl,hlen,by rw [hv,Nat.pow_zero,Nat.mod_one,Nat.mul_zero,Nat.add_zero]⟩
    · rintro k st hk ⟨c,rfl,hcl,hcv⟩
      have q:decide ((k:Int) < 32)=true:=decide_eq_true (by omega)
      have q2:wu64 ((k:Int)+1)=((k+1:Nat):Int):=by rw [zbt (by omega) (by omega)]; omega
      simp only [q,d0le,dlt hi,cond_true,Bool.and_self,tn,hx1]
      have hbit:=bit_of hx2 hk
      rw [tn] at hbit
      simp only [hbit,zqi (show c.length+1≤4294967296 by omega),q2,cond_true]
      refine ⟨_,rfl,_,rfl,by simp [hcl]; omega,?_⟩
      rw [bv_snoc,toNat_dec,hcl,hcv,Nat.mod_pow_succ,Nat.mul_add,B_pow,Nat.pow_add]
      simp only [Nat.mul_assoc,Nat.add_assoc]
    · rintro st ⟨c,rfl,hcl,hcv⟩
      have q:decide (((32:Nat):Int) < 32)=false:=rfl
      refine ⟨(a,c,(i:Int)),by simp only [q,cond_false],?_⟩
      refine ⟨_,by rw [zaz (by omega)],c,rfl,by omega,?_⟩
      rw [hcv,hx3,Nat.mod_eq_of_lt (show x < 2 ^ 32 from hx2)]
  · rintro st ⟨b,rfl,hlen,hv⟩
    refine ⟨b,by simp only [nlt (Nat.le_refl a.length),cond_false],?_⟩
    rw [List.take_of_length_le (Nat.le_refl _)] at hv
    show (d142 b).bind _=_
    rw [zhr (by omega),hv]; rfl
theorem NF_of_ge {l:List Int} (hl:IsL l) {m:Nat} (hm:l.length=m+1) (h:4294967296 ^ m≤nv l):NF l:=by
  refine ⟨hl,fun e=>?_⟩
  rw [List.getLast?_eq_getElem?,hm,Nat.add_sub_cancel,List.getElem?_eq_getElem (by omega)] at e
  have g:=zep hl m
  rw [List.getD_eq_getElem?_getD,List.getElem?_eq_getElem (by omega)] at g
  have e2:l[m]=0:=by simpa using e
  have hlt:=zod hl
  rw [hm,Nat.pow_succ] at hlt
  have h1:nv l / 4294967296 ^ m < 4294967296:=Nat.div_lt_of_lt_mul hlt
  have h2:0 < nv l / 4294967296 ^ m:=Nat.div_pos h (znz m)
  rw [Nat.mod_eq_of_lt h1] at g
  have:(some l[m]).getD 0=0:=by rw [e2]; rfl
  omega
theorem or_bit {o r:Nat} (hr:r < 32) (ho:o < 2 ^ r):wu32 (((BitVec.ofInt 32 (o:Int) ||| BitVec.ofInt 32 (wu32 (1 * 2 ^ (min (Int.toNat (wu64 (w ((r:Nat):Int)))) 32)))).toNat:Nat):Int)=((o+2 ^ r:Nat):Int):=by
  have hp:2 ^ r < 4294967296:=Nat.pow_lt_pow_right (by decide) (show r < 32 by omega)
  have hs:o+2 ^ r < 4294967296:=by
    have:2 ^ (r+1)≤4294967296:=Nat.pow_le_pow_right (by decide) (show r+1≤32 by omega)
    rw [Nat.pow_succ] at this
    omega
  rw [zbl (by omega) (by omega),zaq (by omega),tn,show min r 32=r by omega]
  have e:(1:Int) * 2 ^ r=((2 ^ r:Nat):Int):=by simp
  rw [e,show wu32 ((2 ^ r:Nat):Int)=((2 ^ r:Nat):Int) by rw [zbz,Nat.mod_eq_of_lt hp],BitVec.toNat_or,zej 32 _ (by omega),zej 32 _ hp]
  have:=or_add (a:=o) (b:=1) ho
  rw [Nat.one_mul] at this
  rw [this,zbz,Nat.mod_eq_of_lt hs]
theorem tdivN (a b:Nat):Int.tdiv (a:Int) (b:Int)=((a / b:Nat):Int):=rfl
theorem tmodN (a b:Nat):Int.tmod (a:Int) (b:Int)=((a % b:Nat):Int):=rfl
theorem d181_eq (b:List Bool) (lb:b.length≤1073741824):d181 b=some (zap (bv b)):=by
  unfold d181
  rw [zhr (by omega)]
  have hbl:=binl_le b
  have hbv:=zbr (bv b)
  have hge:=zbi (bv b)
  generalize hr:binl (bv b)=r at *
  obtain ⟨n,hn⟩:∃ n,(r.length+31) / 32=n:=⟨_,rfl⟩
  have e1:w ((r.length:Int)+31)=((r.length+31:Nat):Int):=by rw [zbl (by omega) (by omega)]; omega
  have e2:w (Int.tdiv ((r.length+31:Nat):Int) 32)=(n:Int):=by
    rw [show (32:Int)=((32:Nat):Int) from rfl,tdivN,hn,zbl (by omega) (by omega)]
  simp only [Option.bind_some,e1,e2,decide_true,d0le,zbs (n:=n) (by omega),Bool.and_self,cond_true,tn]
  refine zbo (Q:=fun x=>x=some (zap (bv b))) (fun (i:Nat) (st:(List Bool) × (List Int) × Int)=>∃ (a:List Int),st=(r,a,(i:Int))∧IsL a∧a.length=n∧nv a=bv (r.take i)) r.length ?_ ?_ ?_
  · exact ⟨_,rfl,IsL.zeros _,by simp,by simp [zds,bv]⟩
  · rintro i st hi ⟨a,rfl,hL,hlen,hv⟩
    have tA:=zee r i
    simp only [dlt hi,cond_true,d0le,Bool.and_self,zah,tn]
    cases hb:r.getD i false with
    | false =>
      rw [hb] at tA
      refine ⟨_,by rw [cond_false,zaz (by omega)],a,rfl,hL,hlen,?_⟩
      rw [hv,tA]; simp
    | true =>
      rw [hb] at tA
      have f1:w (Int.tdiv (i:Int) 32)=((i / 32:Nat):Int):=by
        rw [show (32:Int)=((32:Nat):Int) from rfl,tdivN,zbl (by omega) (by omega)]
      have f2:Int.tmod (i:Int) 32=((i % 32:Nat):Int):=by
        rw [show (32:Int)=((32:Nat):Int) from rfl,tmodN]
      have f3:decide ((0:Int)≤wu64 (w ((i % 32:Nat):Int)))=true:=by
        rw [zbl (by omega) (by omega),zaq (by omega)]; exact d0le _
      have hm:i % 32 < 32:=Nat.mod_lt _ (by decide)
      have hvl:nv a < 2 ^ i:=by rw [hv]; exact bv_top r i
      have hB:4294967296 ^ (i / 32) * 2 ^ (i % 32)=2 ^ i:=by rw [B_pow,← Nat.pow_add]; congr 1; omega
      have hol:nv a / 4294967296 ^ (i / 32) < 2 ^ (i % 32):=Nat.div_lt_of_lt_mul (by rw [hB]; exact hvl)
      have hp:2 ^ (i % 32) < 4294967296:=Nat.pow_lt_pow_right (by decide) (show i % 32 < 32 by omega)
      have g:=zep hL (i / 32)
      rw [Nat.mod_eq_of_lt (by omega)] at g
      generalize nv a / 4294967296 ^ (i / 32)=o at *
      have ob:=or_bit hm hol
      simp only [f1,f2,d0le,dlt (show i / 32 < a.length by omega),f3,cond_true,Bool.and_self,tn,g,ob,zaz (show i < 9223372036854775807 by omega)]
      have hs:o+2 ^ (i % 32) < 4294967296:=by
        have:2 ^ (i % 32+1)≤4294967296:=Nat.pow_le_pow_right (by decide) (show i % 32+1≤32 by omega)
        rw [Nat.pow_succ] at this
        omega
      have s1:=zip a (i / 32) (((o+2 ^ (i % 32):Nat):Int)) (by omega)
      rw [g,Int.toNat_natCast,Int.toNat_natCast,Nat.mul_add,hB] at s1
      refine ⟨_,rfl,_,rfl,hL.set _ (Int.natCast_nonneg _) (by rw [show (4294967296:Int)=((4294967296:Nat):Int) from rfl]; exact Int.ofNat_lt.2 hs),by simpa using hlen,?_⟩
      rw [tA,Bool.toNat_true,Nat.mul_one]
      omega
  · rintro st ⟨a,rfl,hL,hlen,hv⟩
    refine ⟨a,by simp only [nlt (Nat.le_refl r.length),cond_false],?_⟩
    rw [List.take_of_length_le (Nat.le_refl _),hbv] at hv
    rw [← hv]
    congr 1
    refine (limbs_nv ?_).symm
    rcases Nat.eq_zero_or_pos r.length with h0 | h0
    · have:a=[]:=List.length_eq_zero_iff.1 (by omega)
      rw [this]; exact NF.nil
    · refine NF_of_ge hL (m:=(r.length - 1) / 32) (by omega) ?_
      rw [hv,B_pow]
      have h1:¬ bv b < 2 ^ (r.length - 1):=fun hc=>by
        have:=(hge (r.length - 1)).2 hc
        omega
      exact Nat.le_trans (Nat.pow_le_pow_right (by decide) (by omega)) (Nat.not_lt.1 h1)
theorem d94_eq {n:Nat} (h:n≤4294967295):d94 (n:Int)=some (binl n):=by
  unfold d94
  refine zda (Q:=fun r=>r=some (binl n)) (fun (M:Nat) (st:Int × (List Bool))=>∃ b:List Bool,st=((M:Int),b)∧M≤n∧b.length+M≤n∧b++binl M=binl n) n ⟨[],rfl,Nat.le_refl _,by simp,rfl⟩ ?_
  rintro M st ⟨b,rfl,hM,hl,hb⟩
  rcases Nat.eq_zero_or_pos M with h0 | h0
  · subst h0
    rw [binl_zero,List.append_nil] at hb
    exact .inr ⟨b,rfl,by rw [hb]⟩
  · have q:decide ((0:Int) < (M:Int))=true:=decide_eq_true (by omega)
    have f1:w (Int.tdiv (M:Int) 2)=((M / 2:Nat):Int):=by
      rw [show (2:Int)=((2:Nat):Int) from rfl,tdivN,zbl (by omega) (by omega)]
    have f2:w (Int.tmod (M:Int) 2)=((M % 2:Nat):Int):=by
      rw [show (2:Int)=((2:Nat):Int) from rfl,tmodN,zbl (by omega) (by omega)]
    have f3:decide (((M % 2:Nat):Int)=1)=decide (M % 2=1):=by
      by_cases h:M % 2=1
      · rw [h]; rfl
      · rw [decide_eq_false h,decide_eq_false (by omega)]
    simp only [q,f1,f2,f3,cond_true,zqi (show b.length+1≤4294967296 by omega)]
    refine .inl ⟨_,M / 2,rfl,by omega,_,rfl,by omega,by simp; omega,?_⟩
    rw [List.append_assoc,List.singleton_append,← zij (by omega),hb]
theorem d93_eq {n:Int} (h0:0≤n) (h1:n < 18446744073709551616):d93 n=some (binl n.toNat):=by
  unfold d93
  have e1:wu32 n=n % 4294967296:=zgg n
  have e2:wu32 (wu64 (Int.fdiv n (2 ^ (min (Int.toNat 32) 64))))=n / 4294967296:=by
    rw [sh32,zbt (by omega) (by omega),zgg]
    omega
  rw [e1,e2]
  have hL:IsL [n % 4294967296,n / 4294967296]:=IsL.cons (by omega) (by omega) (IsL.cons (by omega) (by omega) IsL.nil)
  rw [d95_eq hL (by simp)]
  have:nv [n % 4294967296,n / 4294967296]=n.toNat:=by simp only [nv]; omega
  rw [this]
  rfl
abbrev Rb:=Bool × (List Bool × List Bool)
def qb (q:Rat):Rb:=(decide (q.num < 0),binl q.num.natAbs,binl q.den)
theorem qb_zero:qb 0=(false,[],[true]):=by
  unfold qb
  simp only [Rat.zero_num,Rat.zero_den]
  rw [zij (n:=1) (by omega)]
  simp [binl_zero]
theorem qb_make (neg:Bool) {a b:Nat} (ha:a ≠ 0) (hb:b ≠ 0):qb (mkRat (sgnN neg a) b)=(neg,binl (a / Nat.gcd a b),binl (b / Nat.gcd a b)):=by
  have h:=zpx neg ha hb
  unfold rr at h
  simp only [Prod.mk.injEq] at h
  unfold qb
  rw [h.1,limbs_inj h.2.1,limbs_inj h.2.2]
theorem one_bit:binl 1=[true]:=by rw [zij (by omega)]; simp [binl_zero]
theorem d92_eq (neg:Bool) (a b:Nat) (la:(binl a).length≤1073741824) (lb:(binl b).length≤1073741824):d92 neg (binl a) (binl b)=some (qb (mkRat (sgnN neg a) b)):=by
  unfold d92
  rw [zah]
  have hz:d94 1=some [true]:=by have:=d94_eq (n:=1) (by omega); rw [one_bit] at this; exact this
  by_cases ha:a=0
  · subst ha
    rw [binl_zero,zml,Rat.zero_mkRat,qb_zero]
    simp only [List.length_nil,show decide (((0:Nat):Int)=0)=true from rfl,Bool.not_true,cond_false,cond_true,hz,Option.bind_some]
  · have hpa:=zhw.2 (Nat.pos_of_ne_zero ha)
    simp only [show decide (((binl a).length:Int)=0)=false from decide_eq_false (by omega),Bool.not_false,cond_true]
    by_cases hb:b=0
    · subst hb
      rw [binl_zero,Rat.mkRat_zero,qb_zero]
      simp only [List.length_nil,show decide (((0:Nat):Int)=0)=true from rfl,cond_true,hz,Option.bind_some]
    · have hpb:=zhw.2 (Nat.pos_of_ne_zero hb)
      have hg:Nat.gcd a b ≠ 0:=fun e=>ha (Nat.eq_zero_of_gcd_eq_zero_left e)
      have hgl:(binl (Nat.gcd a b)).length≤1073741824:=by
        have:=zhv (Nat.le_of_dvd (Nat.pos_of_ne_zero ha) (Nat.gcd_dvd_left a b))
        omega
      have e1:=d153_eq (binl a) (binl (Nat.gcd a b)) la hgl (by rw [zbr]; exact hg)
      have e2:=d153_eq (binl b) (binl (Nat.gcd a b)) lb hgl (by rw [zbr]; exact hg)
      rw [zbr,zbr] at e1 e2
      simp only [show decide (((binl b).length:Int)=0)=false from decide_eq_false (by omega),cond_false,d152_eq a b la lb,e1,e2,Option.bind_some,qb_make neg ha hb]
def Bz (k:Nat) (q:Rat):Prop:=q.num.natAbs < 2 ^ k∧q.den < 2 ^ k
theorem Bz.len {k:Nat} {q:Rat} (h:Bz k q):(binl q.num.natAbs).length≤k∧(binl q.den).length≤k:=⟨(zbi _ _).2 h.1,(zbi _ _).2 h.2⟩
theorem Bz.mono {k l:Nat} {q:Rat} (h:Bz k q) (hl:k≤l):Bz l q:=⟨Nat.lt_of_lt_of_le h.1 (Nat.pow_le_pow_right (by decide) hl),Nat.lt_of_lt_of_le h.2 (Nat.pow_le_pow_right (by decide) hl)⟩
theorem Bz.sz {k:Nat} {q:Rat} (h:Bz (32 * k) q):Sz k (rr q):=by
  refine ⟨(zaw _ _).2 ?_,(zaw _ _).2 ?_⟩
  · rw [B_pow]; exact h.1
  · rw [B_pow]; exact h.2
theorem d34_rr {q:Rat} (h:Bz 1073741824 q):d34 (rr q)=some (qb q):=by
  unfold d34
  have hs:Sz 33554432 (rr q):=Bz.sz (k:=33554432) h
  have hb:=h.len
  have e1:=d95_eq (a:=(rr q).2.1) (zoc q).1 (by have:=hs.1; omega)
  have e2:=d95_eq (a:=(rr q).2.2) (zoc q).2 (by have:=hs.2; omega)
  rw [e1,e2]
  simp only [Option.bind_some,rr,zat]
  rw [d92_eq _ _ _ hb.1 hb.2,zkj,Rat.mkRat_self]
  rfl
theorem d143_qb {q:Rat} (h:Bz 1073741824 q):d143 (qb q)=some (rr q):=by
  unfold d143 qb rr
  have hb:=h.len
  simp only [d181_eq _ hb.1,d181_eq _ hb.2,zbr,Option.bind_some]
theorem zen (a b:Nat):(binl (a * b)).length≤(binl a).length+(binl b).length:=by
  rw [zbi,Nat.pow_add]
  exact Nat.mul_lt_mul'' ((zbi a _).1 (Nat.le_refl _)) ((zbi b _).1 (Nat.le_refl _))
theorem binl_add_len (a b:Nat):(binl (a+b)).length≤max (binl a).length (binl b).length+1:=by
  rw [zbi,Nat.pow_succ]
  have h1:=(zbi a (max (binl a).length (binl b).length)).1 (Nat.le_max_left _ _)
  have h2:=(zbi b (max (binl a).length (binl b).length)).1 (Nat.le_max_right _ _)
  omega
theorem d41_qb {q:Rat} (h:Bz 1073741824 q):d41 (qb q)=some (qb (-q)):=by
  unfold d41 qb
  have hb:=h.len
  simp only [d92_eq _ _ _ hb.1 hb.2,sgnN_not,zkj,← Rat.neg_mkRat,Rat.mkRat_self,Option.bind_some]
  rfl
theorem Bz.neg {k:Nat} {q:Rat} (h:Bz k q):Bz k (-q):=by
  unfold Bz at *
  rw [Rat.neg_num,Rat.neg_den,Int.natAbs_neg]; exact h
theorem zeq (x y:Nat) (lx:(binl x).length≤536870912) (ly:(binl y).length≤536870912):d77 (binl x) (binl y)=some (binl (x * y)):=by
  rw [d77_eq _ _ lx ly,zbr,zbr]
theorem zqw (x y:Nat) (lx:(binl x).length≤2147483646) (ly:(binl y).length≤2147483646):d79 (binl x) (binl y)=some (binl (x+y)):=by
  rw [d79_eq _ _ lx ly,zbr,zbr]
theorem znl (x y:Nat) (lx:(binl x).length≤2147483646) (h:y≤x):d82 (binl x) (binl y)=some (binl (x - y)):=by
  rw [d82_eq _ _ lx (by rw [zbr,zbr]; exact h),zbr,zbr]
theorem d80_bin (x y:Nat) (lx:(binl x).length≤4294967296) (ly:(binl y).length≤4294967296):d80 (binl x) (binl y)=some (cmpN x y):=by
  rw [d80_eq _ _ lx ly,zbr,zbr]
theorem d35_qb {x y:Rat} (hx:Bz 268435456 x) (hy:Bz 268435456 y):d35 (qb x) (qb y)=some (qb (x+y)):=by
  unfold d35
  obtain ⟨a1,a2⟩:=hx.len
  obtain ⟨b1,b2⟩:=hy.len
  simp only [qb]
  have m1:=zen x.num.natAbs y.den
  have m2:=zen y.num.natAbs x.den
  have m3:=zen x.den y.den
  have m4:=binl_add_len (x.num.natAbs * y.den) (y.num.natAbs * x.den)
  rw [zeq _ _ (by omega) (by omega),zeq _ _ (by omega) (by omega),zeq _ _ (by omega) (by omega)]
  simp only [Option.bind_some]
  have key:∀ (u:Bool) (c:Nat),(binl c).length≤1073741824→sgnN u c=sgnN (decide (x.num < 0)) (x.num.natAbs * y.den)+sgnN (decide (y.num < 0)) (y.num.natAbs * x.den)→d92 u (binl c) (binl (x.den * y.den))=some (qb (x+y)):=by
    intro u c hc he
    rw [d92_eq _ _ _ hc (by omega),he,zfx,zfx,add_mk]
  generalize decide (x.num < 0)=s at *
  generalize decide (y.num < 0)=t at *
  generalize x.num.natAbs * y.den=p at *
  generalize y.num.natAbs * x.den=r at *
  by_cases hst:s=t
  · subst hst
    simp only [BEq.rfl,cond_true]
    rw [zqw _ _ (by omega) (by omega),Option.bind_some,key s (p+r) (by omega) (by unfold sgnN; split <;> omega)]
    rfl
  · simp only [beq_eq_false_iff_ne.2 hst,cond_false]
    rw [d80_bin _ _ (by omega) (by omega),Option.bind_some,cmpN_ge]
    by_cases hge:r≤p
    · have m5:=zhv (Nat.sub_le p r)
      rw [decide_eq_true hge,cond_true,znl _ _ (by omega) hge,Option.bind_some,key s (p - r) (by omega) (by unfold sgnN; cases s <;> cases t <;> simp at hst ⊢ <;> omega)]
      rfl
    · have m5:=zhv (Nat.sub_le r p)
      rw [decide_eq_false hge,cond_false,znl _ _ (by omega) (by omega),Option.bind_some,key t (r - p) (by omega) (by unfold sgnN; cases s <;> cases t <;> simp at hst ⊢ <;> omega)]
      rfl
theorem zop (q:Rat):(qb q).2.1=[]↔q=0:=by
  unfold qb
  rw [binl_nil,Int.natAbs_eq_zero,Rat.num_eq_zero]
theorem qb_neg (q:Rat):(qb q).1=decide (q < 0):=rr_neg q
theorem d36_qb {x y:Rat} (hx:Bz 268435456 x) (hy:Bz 268435456 y):d36 (qb x) (qb y)=some (cmpQ x y):=by
  unfold d36
  rw [d41_qb (hy.mono (by omega))]
  simp only [Option.bind_some]
  rw [d35_qb hx hy.neg,← Rat.sub_eq_add_neg]
  simp only [Option.bind_some]
  rw [qb_neg]
  unfold cmpQ
  by_cases h2:x=y
  · rw [if_neg (by rw [h2]; exact Rat.lt_irrefl),if_pos h2,(zop (x - y)).2 (zfo.2 h2)]; rfl
  · have:(qb (x - y)).2.1 ≠ []:=fun hc=>h2 (zfo.1 ((zop _).1 hc))
    have:=List.length_pos_iff.2 this
    rw [decide_eq_false (show ¬ ((qb (x - y)).2.1.length:Int)=0 by omega),cond_false]
    by_cases h:x < y
    · rw [decide_eq_true (zgl.2 h),if_pos h]; rfl
    · rw [decide_eq_false (fun hc=>h (zgl.1 hc)),if_neg h,if_neg h2]; rfl
theorem d144_qb {x y:Rat} (hx:Bz 268435456 x) (hy:Bz 268435456 y) (hp:0 < y):d144 (qb x) (qb y)=some (qb (x / y)):=by
  unfold d144
  obtain ⟨a1,a2⟩:=hx.len
  obtain ⟨b1,b2⟩:=hy.len
  have hn:0 < y.num:=zqf hp
  simp only [qb]
  have m1:=zen x.num.natAbs y.den
  have m3:=zen x.den y.num.natAbs
  rw [zeq _ _ (by omega) (by omega),zeq _ _ (by omega) (by omega)]
  simp only [Option.bind_some]
  have hs:(!(decide (x.num < 0) == decide (y.num < 0)))=decide (x.num < 0):=by
    rw [decide_eq_false (show ¬ y.num < 0 by omega)]
    cases decide (x.num < 0) <;> rfl
  rw [d92_eq _ _ _ (by omega) (by omega),hs,zfx,div_mk hp]
  rfl
theorem d96_eq (a b:List Int) (la:a.length≤4294967296):d96 a b=some (decide (a=b)):=by
  unfold d96
  by_cases hl:a.length=b.length
  · have e:decide ((a.length:Int)=(b.length:Int))=true:=decide_eq_true (by omega)
    simp only [e,Bool.not_true,cond_false]
    refine zda (Q:=fun r=>r=some (decide (a=b))) (fun (M:Nat) (st:(List Int) × (List Int) × Int)=>∃ i:Nat,st=(a,b,(i:Int))∧i+M=a.length∧a.take i=b.take i) a.length ⟨0,rfl,by omega,rfl⟩ ?_
    rintro M st ⟨i,rfl,hM,ht⟩
    rcases Nat.eq_zero_or_pos M with h0 | h0
    · refine .inr ⟨.inl (),by simp only [nlt (show a.length≤i by omega),cond_false],?_⟩
      rw [List.take_of_length_le (by omega),List.take_of_length_le (by omega)] at ht
      rw [decide_eq_true ht]
    · simp only [dlt (show i < a.length by omega),dlt (show i < b.length by omega),d0le,Bool.and_self,cond_true,tn]
      by_cases hg:a.getD i 0=b.getD i 0
      · rw [decide_eq_true hg,Bool.not_true,cond_false]
        refine .inl ⟨_,M - 1,rfl,by omega,i+1,by rw [zaz (by omega)],by omega,?_⟩
        rw [zja a (by omega),zja b (by omega),ht,hg]
      · rw [decide_eq_false hg,Bool.not_false,cond_true]
        refine .inr ⟨.inr false,rfl,?_⟩
        rw [decide_eq_false fun hc=>hg (by rw [hc])]
  · have e:decide ((a.length:Int)=(b.length:Int))=false:=decide_eq_false (by omega)
    simp only [e,Bool.not_false,cond_true]
    rw [decide_eq_false fun hc=>hl (by rw [hc])]
theorem zpe {x y:Rat} (hx:Sz 268435456 (rr x)):d37 (rr x) (rr y)=some (decide (x=y)):=by
  unfold d37
  rw [d96_eq _ _ (by have:=hx.1; omega),d96_eq _ _ (by have:=hx.2; omega)]
  simp only [Option.bind_some]
  by_cases h:x=y
  · subst h; simp
  · rw [decide_eq_false h]
    by_cases h1:(rr x).1=(rr y).1
    · rw [h1,BEq.rfl,cond_true]
      by_cases h2:(rr x).2.1=(rr y).2.1
      · rw [decide_eq_true h2,cond_true,decide_eq_false fun h3=>h (rr_inj (Prod.ext h1 (Prod.ext h2 h3)))]
      · rw [decide_eq_false h2,cond_false]
    · rw [beq_eq_false_iff_ne.2 h1,cond_false]
end Go.Proofs.YtmipjomnjkmdbaaGreat
set_option linter.unusedSimpArgs false
set_option linter.unusedVariables false
namespace Go.Proofs.YtmipjomnjkmdbaaGreat
open Go Go.X
def lst {α:Type} (f:Nat→α) (n:Nat):List α:=(List.range n).map f
theorem zak {α:Type} (f:Nat→α) (n:Nat):(lst f n).length=n:=by simp [lst]
theorem zau {α:Type} (f:Nat→α) {n i:Nat} (h:i < n) (d:α):(lst f n).getD i d=f i:=by
  simp [lst,List.getD_eq_getElem?_getD,List.getElem?_map,List.getElem?_range h]
theorem lst_get? {α:Type} (f:Nat→α) {n i:Nat} (h:i < n):(lst f n)[i]? = some (f i):=by
  simp [lst,List.getElem?_map,List.getElem?_range h]
theorem zdu {α:Type} (f:Nat→α) (n:Nat):lst f (n+1)=lst f n++[f n]:=by simp [lst,List.range_succ]
theorem zbe {α:Type} {f g:Nat→α} {n:Nat} (h:∀ i,i < n→f i=g i):lst f n=lst g n:=by
  unfold lst
  exact List.map_congr_left fun i hi=>h i (List.mem_range.1 hi)
def upd {α:Type} (f:Nat→α) (i:Nat) (x:α):Nat→α:=fun j=>if j=i then x else f j
theorem zcr {α:Type} (f:Nat→α) (i:Nat) (x:α):upd f i x i=x:=if_pos rfl
theorem zfm {α:Type} (f:Nat→α) {i j:Nat} (x:α) (h:j ≠ i):upd f i x j=f j:=if_neg h
theorem zdv {α:Type} (f:Nat→α) (n i:Nat) (x:α):(lst f n).set i x=lst (upd f i x) n:=by
  refine List.ext_getElem? fun j=>?_
  by_cases hj:j < n
  · rw [lst_get? _ hj]
    by_cases h:i=j
    · subst h
      rw [List.getElem?_set_self (by rw [zak]; exact hj),zcr]
    · rw [List.getElem?_set_ne h,lst_get? _ hj,zfm _ _ (fun e=>h e.symm)]
  · rw [List.getElem?_eq_none (by rw [List.length_set,zak]; omega),List.getElem?_eq_none (by rw [zak]; omega)]
theorem lst_map {α β:Type} (f:Nat→α) (g:α→β) (n:Nat):(lst f n).map g=lst (fun i=>g (f i)) n:=by simp [lst]
theorem lst_rep {α:Type} (x:α) (n:Nat):List.replicate n x=lst (fun _=>x) n:=by
  induction n with
  | zero=>rfl
  | succ n ih=>rw [zdu,List.replicate_succ',ih]
theorem mem_lst {α:Type} {f:Nat→α} {n:Nat} {x:α}:x∈lst f n↔∃ i,i < n∧f i=x:=by simp [lst]
def sumN (f:Nat→Nat):Nat→Nat
  | 0=>0
  | n+1=>sumN f n+f n
theorem zbh {f g:Nat→Nat}:∀ {n:Nat},(∀ i,i < n→f i=g i)→sumN f n=sumN g n
  | 0,_=>rfl
  | n+1,h=>by rw [sumN,sumN,zbh fun i hi=>h i (by omega),h n (by omega)]
theorem zkf {f g:Nat→Nat}:∀ {n:Nat},(∀ i,i < n→f i≤g i)→sumN f n≤sumN g n
  | 0,_=>Nat.le_refl _
  | n+1,h=>Nat.add_le_add (zkf fun i hi=>h i (by omega)) (h n (by omega))
theorem zdb (f g:Nat→Nat):∀ n:Nat,sumN (fun i=>f i+g i) n=sumN f n+sumN g n
  | 0=>rfl
  | n+1=>by rw [sumN,sumN,sumN,zdb f g n]; omega
theorem zlp (f:Nat→Nat) (c:Nat):∀ n:Nat,sumN (fun i=>f i * c) n=sumN f n * c
  | 0=>by rw [sumN,sumN,Nat.zero_mul]
  | n+1=>by rw [sumN,sumN,zlp f c n,Nat.add_mul]
theorem zcv:∀ n:Nat,sumN (fun _=>0) n=0
  | 0=>rfl
  | n+1=>by rw [sumN,zcv n]
theorem sumN_swap (f:Nat→Nat→Nat) (n:Nat):∀ m:Nat,sumN (fun i=>sumN (f i) n) m=sumN (fun j=>sumN (fun i=>f i j) m) n
  | 0=>by simp only [sumN,zcv]
  | m+1=>by
    simp only [sumN]
    rw [sumN_swap f n m,← zdb]
theorem sumN_one (c v:Nat):∀ n:Nat,sumN (fun i=>if i=c then v else 0) n=if c < n then v else 0
  | 0=>rfl
  | n+1=>by
    rw [sumN,sumN_one c v n]
    by_cases h:c < n
    · rw [if_pos h,if_neg (show n ≠ c by omega),if_pos (show c < n+1 by omega)]; rfl
    · rw [if_neg h]
      by_cases h2:n=c
      · rw [if_pos h2,if_pos (by omega)]; omega
      · rw [if_neg h2,if_neg (by omega)]
theorem sumN_ge {f:Nat→Nat} {n i:Nat} (h:i < n):f i≤sumN f n:=by
  induction n with
  | zero=>omega
  | succ n ih =>
    rw [sumN]
    by_cases h2:i=n
    · subst h2; omega
    · have:=ih (by omega); omega
theorem sumN_upd {f g:Nat→Nat} {n c:Nat} (hc:c < n) (h:∀ i,i < n→i ≠ c→f i=g i):sumN f n+g c=sumN g n+f c:=by
  induction n with
  | zero=>omega
  | succ n ih =>
    rw [sumN,sumN]
    by_cases h2:c=n
    · subst h2
      rw [zbh fun i hi=>h i (by omega) (by omega)]; omega
    · have:=ih (by omega) fun i hi hn=>h i (by omega) hn
      have:=h n (by omega) (by omega)
      omega
def selN (p:Nat→Bool) (n:Nat):List Nat:=(List.range n).filter p
def selI (p:Nat→Bool) (n:Nat):List Int:=(selN p n).map Int.ofNat
def cntN (p:Nat→Bool) (n:Nat):Nat:=sumN (fun i=>if p i then 1 else 0) n
theorem zmn (p:Nat→Bool) (n:Nat):selN p (n+1)=selN p n++(if p n then [n] else []):=by
  unfold selN
  rw [List.range_succ,List.filter_append]
  congr 1
  cases h:p n <;> simp [List.filter_cons,h]
theorem zdp (p:Nat→Bool) (n:Nat):selI p (n+1)=selI p n++(if p n then [(n:Int)] else []):=by
  unfold selI
  rw [zmn,List.map_append]
  congr 1
  cases h:p n <;> rfl
theorem zgn (p:Nat→Bool):∀ n:Nat,(selN p n).length=cntN p n
  | 0=>rfl
  | n+1=>by
    rw [zmn,List.length_append,zgn p n]
    show _=cntN p n+(if p n then 1 else 0)
    cases h:p n <;> rfl
theorem zbn (p:Nat→Bool) (n:Nat):(selI p n).length=cntN p n:=by rw [selI,List.length_map,zgn]
theorem zdt {p:Nat→Bool} {n i:Nat}:i∈selN p n↔i < n∧p i=true:=by
  unfold selN; rw [List.mem_filter,List.mem_range]
theorem zce {p:Nat→Bool} {n:Nat} {x:Int}:x∈selI p n↔∃ i:Nat,x=(i:Int)∧i < n∧p i=true:=by
  unfold selI
  rw [List.mem_map]
  constructor
  · rintro ⟨i,h,rfl⟩; exact ⟨i,rfl,zdt.1 h⟩
  · rintro ⟨i,rfl,h⟩; exact ⟨i,zdt.2 h,rfl⟩
theorem selN_congr {p q:Nat→Bool} {n:Nat} (h:∀ i,i < n→p i=q i):selN p n=selN q n:=by
  unfold selN
  exact List.filter_congr fun i hi=>h i (List.mem_range.1 hi)
theorem zbu {p q:Nat→Bool} {n:Nat} (h:∀ i,i < n→p i=q i):selI p n=selI q n:=by
  unfold selI; rw [selN_congr h]
theorem zkx {p q:Nat→Bool} {n:Nat} (h:∀ i,i < n→p i=q i):cntN p n=cntN q n:=zbh fun i hi=>by rw [h i hi]
theorem zbm (p:Nat→Bool) (n:Nat):cntN p n≤n:=by
  rw [← zgn]
  unfold selN
  exact Nat.le_trans (List.length_filter_le _ _) (by simp)
theorem selN_filter (p q:Nat→Bool) (n:Nat):(selN p n).filter q=selN (fun i=>p i && q i) n:=by
  unfold selN
  rw [List.filter_filter]
  exact List.filter_congr fun i _=>by rw [Bool.and_comm]
def extr (least:Bool) (r:Int→Rat) (l:List Int):List Int:=l.filter fun i=>l.all fun k=>if least then decide (r i≤r k) else decide (r k≤r i)
def zag (round:List Rat) (c:Int):Rat:=round.getD c.toNat 0
def zcj (lots:List Int) (c:Int):Nat:=lots.idxOf c
def zil (lots:List Int) (least:Bool) (l:List Int):Int:=l.tail.foldl (fun m c=>if least then (if zcj lots m < zcj lots c then c else m) else (if zcj lots c < zcj lots m then c else m)) (l.headD 0)
def zai (ties:Int) (earlier:List (List Rat)):List (List Rat):=if ties=3 then [] else if ties=1 then earlier.reverse else earlier
def tieL (least:Bool) (rounds:List (List Rat)) (tied:List Int):List Int:=rounds.foldl (fun l r=>if 1 < l.length then extr least (zag r) l else l) tied
def tieB (ties:Int) (earlier:List (List Rat)) (tied lots:List Int) (least:Bool):Int :=
  let l:=tieL least (zai ties earlier) tied
  if l.length=1 then l.headD 0 else zil lots least l
abbrev Gp:=List Int × Int
structure GP where
  gs:List Gp
  n:Nat
  seats:Nat
  q:Nat
  tot:Nat
  ties:Int
  lots:List Int
def GP.p (P:GP) (g:Nat):List Int:=(P.gs.getD g ([],0)).1
def GP.k (P:GP) (g:Nat):Nat:=(P.gs.getD g ([],0)).2.toNat
def GP.G (P:GP):Nat:=P.gs.length
structure GS where
  D:Nat
  num:Nat→Nat
  at_:Nat→Nat
  st:Nat→Nat
  keep:Nat→Rat
def GS.on (P:GP) (s:GS) (g c:Nat):Bool:=decide (s.at_ g < (P.p g).length) && decide ((P.p g).getD (s.at_ g) 0=(c:Int))
def GS.lie (P:GP) (s:GS) (c:Nat):Nat:=sumN (fun g=>if s.on P g c then P.k g * s.num g else 0) P.G
def GS.bar (P:GP) (s:GS):Nat:=P.q * s.D
def GS.vt (P:GP) (s:GS) (c:Nat):Nat:=if s.st c=2 then s.bar P else if s.st c=3 then 0 else s.lie P c
def GS.el1 (P:GP) (s:GS) (i:Nat):Bool:=decide (s.st i=0) && decide (s.bar P≤s.vt P i)
def GS.st1 (P:GP) (s:GS) (i:Nat):Nat:=if s.el1 P i then 1 else s.st i
def frac (a b:Nat):Rat:=(a:Rat) / (b:Rat)
structure Rd where
  votes:List Rat
  keep:List Rat
  quota:Rat
  exh:Rat
  sur:Rat
  el:List Int
  ex:List Int
  ti:List Int
def nxt (p:List Int) (st:Nat→Nat) (k:Nat):Nat:=k+((p.drop k).takeWhile fun c=>decide (st c.toNat ≠ 0)).length
def GS.move (P:GP) (s:GS) (st:Nat→Nat) (keep:Nat→Rat) (x a b:Nat):GS :=
  { D:=s.D * b,num:=fun g=>if s.on P g x then s.num g * a else s.num g * b,at_:=fun g=>if s.on P g x then nxt (P.p g) st (s.at_ g+1) else s.at_ g,st:=st,keep:=keep }
def topsP (P:GP) (v:Nat→Nat) (st:Nat→Nat) (c:Nat) (most:Bool) (i:Nat):Bool:=decide (st i=c) && (List.range P.n).all fun k=>!decide (st k=c) || (if most then decide (v k≤v i) else decide (v i≤v k))
def GS.fin (P:GP) (s:GS):Bool:=decide (cntN (fun i=>decide (s.st1 P i=1)) P.n+cntN (fun i=>decide (s.st1 P i=2)) P.n=P.seats) || decide (cntN (fun i=>decide (s.st1 P i=1)) P.n+cntN (fun i=>decide (s.st1 P i=2)) P.n+cntN (fun i=>decide (s.st1 P i=0)) P.n≤P.seats)
def GS.most (P:GP) (s:GS):Bool:=decide (0 < cntN (fun i=>decide (s.st1 P i=1)) P.n)
def GS.tied (P:GP) (s:GS):List Int:=selI (topsP P (s.vt P) (s.st1 P) (if s.most P then 1 else 0) (s.most P)) P.n
def GS.pick (P:GP) (earlier:List (List Rat)) (s:GS):Int:=if (s.tied P).length=1 then (s.tied P).headD 0 else tieB P.ties earlier (s.tied P) P.lots (!s.most P)
def GS.rd0 (P:GP) (s:GS):Rd :=
  { votes:=lst (fun i=>frac (s.vt P i) s.D) P.n
    keep:=lst s.keep P.n
    quota:=(P.q:Rat)
    exh:=frac (P.tot * s.D - sumN (s.vt P) P.n) s.D
    sur:=frac (sumN (fun i=>if s.st1 P i=1 then s.vt P i - s.bar P else 0) P.n) s.D
    el:=selI (s.el1 P) P.n
    ex:=[]
    ti:=[] }
def GS.done (P:GP) (s:GS):Rd:={ s.rd0 P with el:=if cntN (fun i=>decide (s.st1 P i=1)) P.n+cntN (fun i=>decide (s.st1 P i=2)) P.n < P.seats then selI (fun i=>s.el1 P i || decide (s.st1 P i=0)) P.n else selI (s.el1 P) P.n }
def GS.tiedR (P:GP) (s:GS):List Int:=if (s.tied P).length=1 then [] else s.tied P
def GS.trans (P:GP) (earlier:List (List Rat)) (s:GS):GS :=
  let x:=(s.pick P earlier).toNat
  s.move P (upd (s.st1 P) x 2) (upd s.keep x (frac (s.vt P x - s.bar P) (s.vt P x))) x (s.vt P x - s.bar P) (s.vt P x)
def GS.excl (P:GP) (earlier:List (List Rat)) (s:GS):GS :=
  let x:=(s.pick P earlier).toNat
  s.move P (upd (s.st1 P) x 3) (upd s.keep x 0) x 1 1
def gstep (P:GP) (earlier:List (List Rat)) (s:GS):Rd × Option GS :=
  if s.fin P then (s.done P,none)
  else if s.most P then ({ s.rd0 P with ti:=s.tiedR P },some (s.trans P earlier))
  else ({ s.rd0 P with ti:=s.tiedR P,ex:=[s.pick P earlier] },some (s.excl P earlier))
def grun (P:GP):Nat→List Rd→GS→List Rd
  | 0,rs,_=>rs
  | k+1,rs,s=>match gstep P (rs.map Rd.votes) s with
    | (r,none)=>rs++[r]
    | (r,some s')=>grun P k (rs++[r]) s'
def g0:GS:={ D:=1,num:=fun _=>1,at_:=fun _=>0,st:=fun _=>0,keep:=fun _=>1 }
def zfh (P:GP):List Rd:=grun P (P.n+1) [] g0
end Go.Proofs.YtmipjomnjkmdbaaGreat
set_option linter.unusedSimpArgs false
set_option linter.unusedVariables false
namespace Go.Proofs.YtmipjomnjkmdbaaGreat
open Go Go.X
theorem zfs {α:Type} (f:α→Rat):∀ {l:List α},l ≠ []→∃ i∈l,∀ k∈l,f i≤f k
  | [],h=>absurd rfl h
  | [x],_=>⟨x,by simp,fun k hk=>by simp at hk; subst hk; exact Rat.le_refl⟩
  | x::y::l,_=>by
    obtain ⟨i,h1,h2⟩:=zfs f (l:=y::l) (by simp)
    rcases Rat.le_total (a:=f x) (b:=f i) with h | h
    · refine ⟨x,by simp,fun k hk=>?_⟩
      rcases List.mem_cons.1 hk with rfl | hk
      · exact Rat.le_refl
      · exact Rat.le_trans h (h2 k hk)
    · refine ⟨i,List.mem_cons_of_mem _ h1,fun k hk=>?_⟩
      rcases List.mem_cons.1 hk with rfl | hk
      · exact h
      · exact h2 k hk
theorem zqr {α:Type} (f:α→Nat) {l:List α} (h:l ≠ []):∃ i∈l,∀ k∈l,f i≤f k:=by
  induction l with
  | nil=>exact absurd rfl h
  | cons x l ih =>
    by_cases hl:l=[]
    · subst hl; exact ⟨x,by simp,fun k hk=>by simp at hk; subst hk; exact Nat.le_refl _⟩
    · obtain ⟨i,h1,h2⟩:=ih hl
      by_cases hx:f x≤f i
      · refine ⟨x,by simp,fun k hk=>?_⟩
        rcases List.mem_cons.1 hk with rfl | hk
        · exact Nat.le_refl _
        · exact Nat.le_trans hx (h2 k hk)
      · refine ⟨i,List.mem_cons_of_mem _ h1,fun k hk=>?_⟩
        rcases List.mem_cons.1 hk with rfl | hk
        · omega
        · exact h2 k hk
theorem exists_mostN {α:Type} (f:α→Nat) {l:List α} (h:l ≠ []):∃ i∈l,∀ k∈l,f k≤f i:=by
  induction l with
  | nil=>exact absurd rfl h
  | cons x l ih =>
    by_cases hl:l=[]
    · subst hl; exact ⟨x,by simp,fun k hk=>by simp at hk; subst hk; exact Nat.le_refl _⟩
    · obtain ⟨i,h1,h2⟩:=ih hl
      by_cases hx:f i≤f x
      · refine ⟨x,by simp,fun k hk=>?_⟩
        rcases List.mem_cons.1 hk with rfl | hk
        · exact Nat.le_refl _
        · exact Nat.le_trans (h2 k hk) hx
      · refine ⟨i,List.mem_cons_of_mem _ h1,fun k hk=>?_⟩
        rcases List.mem_cons.1 hk with rfl | hk
        · omega
        · exact h2 k hk
theorem extr_ne {least:Bool} {r:Int→Rat} {l:List Int} (h:l ≠ []):extr least r l ≠ []:=by
  cases least
  · obtain ⟨i,h1,h2⟩:=zfs (fun i=>- r i) h
    have:i∈extr false r l:=List.mem_filter.2 ⟨h1,List.all_eq_true.2 fun k hk=>by
      have:=h2 k hk
      simp only [Bool.false_eq_true,if_false,decide_eq_true_eq]
      grind⟩
    exact List.ne_nil_of_mem this
  · obtain ⟨i,h1,h2⟩:=zfs r h
    have:i∈extr true r l:=List.mem_filter.2 ⟨h1,List.all_eq_true.2 fun k hk=>by
      simp only [if_true,decide_eq_true_eq]
      exact h2 k hk⟩
    exact List.ne_nil_of_mem this
theorem extr_sub {least:Bool} {r:Int→Rat} {l:List Int} {x:Int} (h:x∈extr least r l):x∈l:=(List.mem_filter.1 h).1
theorem zgk:∀ {least:Bool} {rounds:List (List Rat)} {l:List Int} {x:Int},x∈tieL least rounds l→x∈l
  | _,[],_,_,h=>h
  | least,r::rounds,l,x,h=>by
    have h':x∈tieL least rounds (if 1 < l.length then extr least (zag r) l else l):=h
    have:=zgk h'
    split at this
    · exact extr_sub this
    · exact this
theorem zpp:∀ {least:Bool} {rounds:List (List Rat)} {l:List Int},l ≠ []→tieL least rounds l ≠ []
  | _,[],_,h=>h
  | least,r::rounds,l,h=>by
    show tieL least rounds (if 1 < l.length then extr least (zag r) l else l) ≠ []
    refine zpp ?_
    split
    · exact extr_ne h
    · exact h
theorem zjs {α:Type} (f:α→α→α) (hf:∀ a b,f a b=a∨f a b=b):∀ (l:List α) (x:α),l.foldl f x=x∨l.foldl f x∈l
  | [],x=>.inl rfl
  | y::l,x=>by
    rw [List.foldl_cons]
    rcases zjs f hf l (f x y) with h | h
    · rw [h]
      rcases hf x y with h1 | h1
      · exact .inl h1
      · exact .inr (by rw [h1]; simp)
    · exact .inr (List.mem_cons_of_mem _ h)
theorem byLot_mem {lots:List Int} {least:Bool} {l:List Int} (h:l ≠ []):zil lots least l∈l:=by
  cases l with
  | nil=>exact absurd rfl h
  | cons x l =>
    unfold zil
    simp only [List.tail_cons,List.headD_cons]
    rcases zjs (fun m c=>if least then (if zcj lots m < zcj lots c then c else m) else (if zcj lots c < zcj lots m then c else m)) (fun a b=>by cases least <;> simp only [if_true,Bool.false_eq_true,if_false] <;> split <;> simp) l x with h | h
    · rw [h]; simp
    · exact List.mem_cons_of_mem _ h
theorem zhm {l:List Int} (h:l ≠ []):l.headD 0∈l:=by
  cases l with
  | nil=>exact absurd rfl h
  | cons x l=>simp
theorem tieB_mem {ties:Int} {earlier:List (List Rat)} {tied lots:List Int} {least:Bool} (h:tied ≠ []):tieB ties earlier tied lots least∈tied:=by
  unfold tieB
  have hn:=zpp (least:=least) (rounds:=zai ties earlier) h
  simp only
  split
  · exact zgk (zhm hn)
  · exact zgk (byLot_mem hn)
theorem zla {α:Type} (p:α→Bool):∀ l:List α,(l.takeWhile p).length≤l.length
  | []=>Nat.le_refl _
  | x::l=>by
    rw [List.takeWhile_cons]
    split
    · simp only [List.length_cons]; have:=zla p l; omega
    · simp
theorem zlb {α:Type} (p:α→Bool) (d:α):∀ l:List α,(l.takeWhile p).length < l.length→p (l.getD (l.takeWhile p).length d)=false
  | [],h=>by simp at h
  | x::l,h=>by
    rw [List.takeWhile_cons] at h ⊢
    split at h
    · rename_i hx
      rw [if_pos hx]
      simp only [List.length_cons,List.getD_cons_succ]
      exact zlb p d l (by simpa using h)
    · rename_i hx
      rw [if_neg hx]
      simpa using hx
theorem zhc {α:Type} (p:α→Bool) (d:α):∀ (l:List α) (i:Nat),i < (l.takeWhile p).length→p (l.getD i d)=true
  | [],i,h=>by simp at h
  | x::l,i,h=>by
    rw [List.takeWhile_cons] at h
    split at h
    · rename_i hx
      cases i with
      | zero=>simpa using hx
      | succ i=>exact zhc p d l i (by simpa using h)
    · simp at h
theorem nxt_ge (p:List Int) (st:Nat→Nat) (k:Nat):k≤nxt p st k:=Nat.le_add_right _ _
theorem nxt_le {p:List Int} (st:Nat→Nat) {k:Nat} (h:k≤p.length):nxt p st k≤p.length:=by
  unfold nxt
  have:=zla (fun c=>decide (st (Int.toNat c) ≠ 0)) (p.drop k)
  rw [List.length_drop] at this
  omega
theorem zjo {α:Type} (l:List α) (k i:Nat) (d:α):(l.drop k).getD i d=l.getD (k+i) d:=by
  simp [List.getD_eq_getElem?_getD,List.getElem?_drop]
theorem nxt_at {p:List Int} {st:Nat→Nat} {k:Nat} (h:nxt p st k < p.length):st (p.getD (nxt p st k) 0).toNat=0:=by
  unfold nxt at h ⊢
  have:=zlb (fun c=>decide (st (Int.toNat c) ≠ 0)) 0 (p.drop k) (by rw [List.length_drop]; omega)
  rw [zjo] at this
  simpa using this
theorem zos {p:List Int} {st:Nat→Nat} {k i:Nat} (h1:k≤i) (h2:i < nxt p st k):st (p.getD i 0).toNat ≠ 0:=by
  unfold nxt at h2
  have:=zhc (fun c=>decide (st (Int.toNat c) ≠ 0)) 0 (p.drop k) (i - k) (by omega)
  rw [zjo,show k+(i - k)=i by omega] at this
  simpa using this
theorem nxt_end {p:List Int} {st:Nat→Nat} {k:Nat} (h:p.length≤k):nxt p st k=k:=by
  unfold nxt
  rw [List.drop_of_length_le h]; rfl
def GP.mkd (P:GP):Nat:=sumN (fun g=>if P.p g=[] then 0 else P.k g) P.G
structure GP.OK (P:GP):Prop where
  n1:1≤P.n
  n7:P.n≤7
  seats1:1≤P.seats
  seats5:P.seats≤5
  prefs:∀ g,g < P.G→∀ c∈P.p g,∃ i:Nat,c=(i:Int)∧i < P.n
  plen:∀ g,g < P.G→(P.p g).length≤7
  total:sumN P.k P.G=P.tot
  tot5:P.tot≤100000
  q1:1≤P.q
  q5:P.q≤100001
  quota:P.mkd < P.q * (P.seats+1)
  ties1:1≤P.ties
  ties3:P.ties≤3
  lotn:P.lots.length=P.n
  lots:∀ c∈P.lots,∃ i:Nat,c=(i:Int)∧i < P.n
  lotd:P.lots.Nodup
def GS.c2 (P:GP) (s:GS):Nat:=cntN (fun i=>decide (s.st i=2)) P.n
structure GI (P:GP) (s:GS):Prop where
  D0:0 < s.D
  Db:s.D≤2 ^ (17 * (2 ^ s.c2 P - 1))
  num:∀ g,g < P.G→s.num g≤s.D
  at_:∀ g,g < P.G→s.at_ g≤(P.p g).length
  lies:∀ g c,g < P.G→s.on P g c=true→s.st c=0∨s.st c=1
  st3:∀ c,s.st c≤3
  blank:∀ g,g < P.G→P.p g=[]→s.num g=s.D
  cons:sumN (fun g=>if P.p g=[] then 0 else P.k g * s.num g) P.G+s.bar P * s.c2 P=P.mkd * s.D
  pend:∀ c,c < P.n→s.st c=1→s.bar P≤s.lie P c
variable {P:GP} {s:GS}
theorem GS.on_lt {g c:Nat} (h:s.on P g c=true):s.at_ g < (P.p g).length:=by
  unfold GS.on at h
  rw [Bool.and_eq_true,decide_eq_true_eq] at h
  exact h.1
theorem GS.on_at {g c:Nat} (h:s.on P g c=true):(P.p g).getD (s.at_ g) 0=(c:Int):=by
  unfold GS.on at h
  rw [Bool.and_eq_true,decide_eq_true_eq,decide_eq_true_eq] at h
  exact h.2
theorem GS.on_uniq {g c d:Nat} (h:s.on P g c=true) (h':s.on P g d=true):c=d:=by
  have h1:=GS.on_at h
  have h2:=GS.on_at h'
  omega
theorem GS.on_ne {g c:Nat} (h:s.on P g c=true):P.p g ≠ []:=fun e=>by
  have:=GS.on_lt h
  rw [e] at this
  simp at this
theorem zcn {l:List Int} {i:Nat} (h:i < l.length):l.getD i 0∈l:=by
  rw [List.getD_eq_getElem?_getD,List.getElem?_eq_getElem h]
  exact List.getElem_mem h
theorem GS.on_ex (hP:P.OK) {g:Nat} (hg:g < P.G) (h:s.at_ g < (P.p g).length):∃ c,c < P.n∧s.on P g c=true:=by
  obtain ⟨i,h1,h2⟩:=hP.prefs g hg _ (zcn h)
  refine ⟨i,h2,?_⟩
  unfold GS.on
  rw [Bool.and_eq_true,decide_eq_true_eq,decide_eq_true_eq]
  exact ⟨h,h1⟩
theorem lie_sum (hP:P.OK):sumN (s.lie P) P.n=sumN (fun g=>if s.at_ g < (P.p g).length then P.k g * s.num g else 0) P.G:=by
  unfold GS.lie
  rw [sumN_swap (fun c g=>if s.on P g c then P.k g * s.num g else 0)]
  refine zbh fun g hg=>?_
  by_cases h:s.at_ g < (P.p g).length
  · obtain ⟨c,h1,h2⟩:=GS.on_ex hP hg h
    rw [if_pos h]
    have:sumN (fun i=>if s.on P g i then P.k g * s.num g else 0) P.n=sumN (fun i=>if i=c then P.k g * s.num g else 0) P.n:=zbh fun i hi=>by
      by_cases hic:i=c
      · subst hic; rw [if_pos h2,if_pos rfl]
      · rw [if_neg hic,if_neg fun h3=>hic (GS.on_uniq h3 h2)]
    rw [this,sumN_one,if_pos h1]
  · rw [if_neg h]
    refine (zbh fun i hi=>if_neg fun h3=>h (GS.on_lt h3)).trans (zcv _)
theorem zot (hP:P.OK):sumN (s.lie P) P.n≤sumN (fun g=>if P.p g=[] then 0 else P.k g * s.num g) P.G:=by
  rw [lie_sum hP]
  refine zkf fun g hg=>?_
  by_cases h:P.p g=[]
  · rw [if_neg (by rw [h]; simp),if_pos h]; exact Nat.le_refl _
  · rw [if_neg h]
    split
    · exact Nat.le_refl _
    · exact Nat.zero_le _
theorem zqj (hI:GI P s) {c:Nat} (h:s.st c=2∨s.st c=3):s.lie P c=0:=by
  unfold GS.lie
  refine (zbh fun g hg=>if_neg fun h3=>?_).trans (zcv _)
  have:=hI.lies g c hg h3
  omega
theorem vt_lie (hI:GI P s) {c:Nat} (h:s.st c=0∨s.st c=1):s.vt P c=s.lie P c:=by
  unfold GS.vt; rw [if_neg (by omega),if_neg (by omega)]
theorem vt_eq (hI:GI P s) (c:Nat):s.vt P c=s.lie P c+if decide (s.st c=2) then s.bar P else 0:=by
  have h3:=hI.st3 c
  by_cases h2:s.st c=2
  · unfold GS.vt; rw [if_pos h2,zqj hI (.inl h2),decide_eq_true h2]; simp
  · rw [decide_eq_false h2]
    by_cases h4:s.st c=3
    · unfold GS.vt; rw [if_neg h2,if_pos h4,zqj hI (.inr h4)]; rfl
    · rw [vt_lie hI (by omega)]; rfl
theorem zqz (p:Nat→Bool) (v:Nat):∀ n:Nat,sumN (fun i=>if p i then v else 0) n=v * cntN p n
  | 0=>by simp [sumN,cntN]
  | n+1=>by
    show sumN _ n+(if p n then v else 0)=v * (cntN p n+(if p n then 1 else 0))
    rw [zqz p v n,Nat.mul_add]
    cases p n <;> simp
theorem vt_sum (hP:P.OK) (hI:GI P s):sumN (s.vt P) P.n=sumN (s.lie P) P.n+s.bar P * s.c2 P:=by
  rw [zbh fun i _=>vt_eq hI i,zdb,zqz]; rfl
theorem vt_sum_le (hP:P.OK) (hI:GI P s):sumN (s.vt P) P.n≤P.mkd * s.D:=by
  rw [vt_sum hP hI]
  have:=zot (s:=s) hP
  have:=hI.cons
  omega
theorem mk_le (hP:P.OK):P.mkd≤P.tot:=by
  rw [← hP.total]
  exact zkf fun g _=>by split <;> omega
theorem zhy (hP:P.OK) (hI:GI P s):sumN (s.vt P) P.n≤P.tot * s.D:=Nat.le_trans (vt_sum_le hP hI) (Nat.mul_le_mul_right _ (mk_le hP))
theorem zix (hP:P.OK) (hI:GI P s) {c:Nat} (h:c < P.n):s.vt P c≤P.tot * s.D:=Nat.le_trans (sumN_ge h) (zhy hP hI)
theorem bar_pos (hP:P.OK) (hI:GI P s):0 < s.bar P:=Nat.mul_pos hP.q1 hI.D0
theorem zbv (c:Nat):(s.el1 P c=true∧s.st c=0∧s.st1 P c=1∧s.bar P≤s.vt P c)∨(s.el1 P c=false∧s.st1 P c=s.st c):=by
  unfold GS.st1
  cases h:s.el1 P c
  · exact .inr ⟨rfl,rfl⟩
  · unfold GS.el1 at h
    rw [Bool.and_eq_true,decide_eq_true_eq,decide_eq_true_eq] at h
    exact .inl ⟨rfl,h.1,rfl,h.2⟩
theorem zir (hI:GI P s) {c:Nat} (hc:c < P.n) (h:s.st1 P c=1):(s.st c=0∨s.st c=1)∧s.vt P c=s.lie P c∧s.bar P≤s.vt P c:=by
  rcases zbv (P:=P) (s:=s) c with ⟨_,h1,h2,h3⟩ | ⟨_,h2⟩
  · exact ⟨.inl h1,vt_lie hI (.inl h1),h3⟩
  · have h1:s.st c=1:=by omega
    have:=hI.pend c hc h1
    rw [vt_lie hI (.inr h1)]
    exact ⟨.inr h1,rfl,this⟩
theorem zpt (c:Nat):s.st1 P c=2↔s.st c=2:=by
  rcases zbv (P:=P) (s:=s) c with ⟨_,h1,h2,h3⟩ | ⟨_,h2⟩ <;> omega
def GS.e1 (P:GP) (s:GS):Nat:=cntN (fun i=>decide (s.st1 P i=1)) P.n
def GS.e2 (P:GP) (s:GS):Nat:=cntN (fun i=>decide (s.st1 P i=2)) P.n
def GS.e0 (P:GP) (s:GS):Nat:=cntN (fun i=>decide (s.st1 P i=0)) P.n
theorem zih (hP:P.OK) (hI:GI P s):s.e1 P+s.e2 P≤P.seats:=by
  have h1:s.bar P * (s.e1 P+s.e2 P)≤sumN (s.vt P) P.n:=by
    unfold GS.e1 GS.e2
    rw [Nat.mul_add,← zqz,← zqz,← zdb]
    refine zkf fun i hi=>?_
    by_cases h:s.st1 P i=1
    · rw [decide_eq_true h,decide_eq_false (by omega)]
      have:=(zir hI hi h).2.2
      simpa using this
    · rw [decide_eq_false h]
      by_cases h2:s.st1 P i=2
      · rw [decide_eq_true h2]
        have h3:=(zpt i).1 h2
        have:s.vt P i=s.bar P:=by unfold GS.vt; rw [if_pos h3]
        rw [this]; simp
      · rw [decide_eq_false h2]; simp
  have h2:=vt_sum_le hP hI
  have h3:s.bar P * (s.e1 P+s.e2 P) < s.bar P * (P.seats+1):=by
    refine Nat.lt_of_le_of_lt (Nat.le_trans h1 h2) ?_
    have:P.mkd * s.D < P.q * (P.seats+1) * s.D:=Nat.mul_lt_mul_of_pos_right hP.quota hI.D0
    have e:s.bar P * (P.seats+1)=P.q * (P.seats+1) * s.D:=by unfold GS.bar; rw [Nat.mul_right_comm]
    omega
  have:=Nat.lt_of_mul_lt_mul_left h3
  omega
theorem fin_false (hP:P.OK) (hI:GI P s) (h:s.fin P=false):s.e1 P+s.e2 P < P.seats∧P.seats < s.e1 P+s.e2 P+s.e0 P:=by
  unfold GS.fin at h
  rw [Bool.or_eq_false_iff,decide_eq_false_iff_not,decide_eq_false_iff_not] at h
  have h1:¬ s.e1 P+s.e2 P=P.seats:=h.1
  have h2:¬ s.e1 P+s.e2 P+s.e0 P≤P.seats:=h.2
  have:=zih hP hI
  omega
theorem tied_ne (hP:P.OK) (hI:GI P s) (h:s.fin P=false):s.tied P ≠ []:=by
  obtain ⟨h1,h2⟩:=fin_false hP hI h
  have hne:selN (fun i=>decide (s.st1 P i=if s.most P then 1 else 0)) P.n ≠ []:=by
    have:0 < cntN (fun i=>decide (s.st1 P i=if s.most P then 1 else 0)) P.n:=by
      cases hm:s.most P
      · show 0 < s.e0 P; omega
      · unfold GS.most at hm
        exact of_decide_eq_true hm
    rw [← zgn] at this
    exact List.length_pos_iff.1 this
  unfold GS.tied
  generalize (if s.most P then 1 else 0)=c at hne ⊢
  have key:∃ i,i < P.n∧topsP P (s.vt P) (s.st1 P) c (s.most P) i=true:=by
    cases s.most P
    · obtain ⟨i,k1,k2⟩:=zqr (s.vt P) hne
      obtain ⟨k3,k4⟩:=zdt.1 k1
      refine ⟨i,k3,?_⟩
      unfold topsP
      rw [k4,Bool.true_and,List.all_eq_true]
      intro k hk
      by_cases h5:s.st1 P k=c
      · have:=k2 k (zdt.2 ⟨List.mem_range.1 hk,decide_eq_true h5⟩)
        simp [this]
      · simp [h5]
    · obtain ⟨i,k1,k2⟩:=exists_mostN (s.vt P) hne
      obtain ⟨k3,k4⟩:=zdt.1 k1
      refine ⟨i,k3,?_⟩
      unfold topsP
      rw [k4,Bool.true_and,List.all_eq_true]
      intro k hk
      by_cases h5:s.st1 P k=c
      · have:=k2 k (zdt.2 ⟨List.mem_range.1 hk,decide_eq_true h5⟩)
        simp [this]
      · simp [h5]
  obtain ⟨i,k1,k2⟩:=key
  exact List.ne_nil_of_mem (zce.2 ⟨i,rfl,k1,k2⟩)
theorem pick_mem {earlier:List (List Rat)} (h:s.tied P ≠ []):s.pick P earlier∈s.tied P:=by
  unfold GS.pick
  split
  · exact zhm h
  · exact tieB_mem h
theorem zea (hP:P.OK) (hI:GI P s) (h:s.fin P=false) (earlier:List (List Rat)):∃ x:Nat,s.pick P earlier=(x:Int)∧x < P.n∧s.st1 P x=if s.most P then 1 else 0:=by
  have h1:=pick_mem (earlier:=earlier) (tied_ne hP hI h)
  obtain ⟨i,h2,h3,h4⟩:=zce.1 h1
  refine ⟨i,h2,h3,?_⟩
  unfold topsP at h4
  rw [Bool.and_eq_true,decide_eq_true_eq] at h4
  exact h4.1
theorem move_on {st:Nat→Nat} {keep:Nat→Rat} {x a b g c:Nat} (hx:s.on P g x=false):(s.move P st keep x a b).on P g c=s.on P g c:=by
  unfold GS.on GS.move
  simp only [hx,Bool.false_eq_true,if_false]
theorem move_lie {st:Nat→Nat} {keep:Nat→Rat} {x a b c:Nat} (hc:c ≠ x):s.lie P c * b≤(s.move P st keep x a b).lie P c:=by
  unfold GS.lie
  rw [← zlp]
  refine zkf fun g hg=>?_
  by_cases h:s.on P g c=true
  · have hx:s.on P g x=false:=by
      cases hx:s.on P g x
      · rfl
      · exact absurd (GS.on_uniq h hx) hc
    rw [if_pos h,if_pos (by rw [move_on hx]; exact h)]
    show _≤P.k g * (if s.on P g x then s.num g * a else s.num g * b)
    rw [hx,Nat.mul_assoc]; exact Nat.le_refl _
  · rw [if_neg h,Nat.zero_mul]; exact Nat.zero_le _
theorem move_cons {st:Nat→Nat} {keep:Nat→Rat} {x a b:Nat} (hab:a≤b):sumN (fun g=>if P.p g=[] then 0 else P.k g * (s.move P st keep x a b).num g) P.G+(b - a) * s.lie P x=sumN (fun g=>if P.p g=[] then 0 else P.k g * s.num g) P.G * b:=by
  unfold GS.lie
  rw [← zlp,Nat.mul_comm (b - a),← zlp,← zdb]
  refine zbh fun g hg=>?_
  show (if P.p g=[] then 0 else P.k g * (if s.on P g x then s.num g * a else s.num g * b))+_=_
  cases h:s.on P g x
  · simp only [Bool.false_eq_true,if_false]
    split
    · simp
    · rw [Nat.zero_mul,Nat.add_zero,Nat.mul_assoc]
  · have:=GS.on_ne h
    simp only [if_neg this,if_true]
    rw [← Nat.mul_assoc,← Nat.mul_add]
    congr 1
    omega
theorem cnt_upd {p q:Nat→Bool} {n x:Nat} (hx:x < n) (h:∀ i,i < n→i ≠ x→p i=q i) (h0:q x=false) (h1:p x=true):cntN p n=cntN q n+1:=by
  have:=sumN_upd (f:=fun i=>if p i then 1 else 0) (g:=fun i=>if q i then 1 else 0) hx fun i hi hne=>by rw [h i hi hne]
  simp only [h0,h1,if_true,Bool.false_eq_true,if_false] at this
  unfold cntN
  omega
theorem move_inv (hP:P.OK) (hI:GI P s) {x a b y:Nat} {keep:Nat→Rat} (hx:x < P.n) (hy:y=2∨y=3) (hst:s.st1 P x=if y=2 then 1 else 0) (hab:a≤b) (hb0:0 < b)
    (hd:y=2→(b - a) * s.lie P x=s.bar P * b) (hd3:y=3→a=b) (hb:s.D * b≤2 ^ (17 * (2 ^ (s.c2 P+if y=2 then 1 else 0) - 1))) :
    GI P (s.move P (upd (s.st1 P) x y) keep x a b):=by
  have hx2:s.st x ≠ 2:=by
    have:=zpt (P:=P) (s:=s) x
    split at hst <;> omega
  have hc2:(s.move P (upd (s.st1 P) x y) keep x a b).c2 P=s.c2 P+if y=2 then 1 else 0:=by
    unfold GS.c2
    show cntN (fun i=>decide (upd (s.st1 P) x y i=2)) P.n=_
    by_cases h2:y=2
    · subst h2
      rw [if_pos rfl]
      refine cnt_upd hx (fun i hi hne=>?_) (decide_eq_false hx2) (by rw [zcr]; rfl)
      rw [zfm _ _ hne]
      exact decide_eq_decide.2 (zpt i)
    · rw [if_neg h2,Nat.add_zero]
      refine zkx fun i hi=>?_
      by_cases hi:i=x
      · subst hi; rw [zcr]; exact decide_eq_decide.2 ⟨fun h=>absurd h h2,fun h=>absurd h hx2⟩
      · rw [zfm _ _ hi]; exact decide_eq_decide.2 (zpt i)
  refine ⟨Nat.mul_pos hI.D0 hb0,by rw [hc2]; exact hb,fun g hg=>?_,fun g hg=>?_,fun g c hg hon=>?_,fun c=>?_,fun g hg hp=>?_,?_,fun c hc hc1=>?_⟩
  · show (if s.on P g x then s.num g * a else s.num g * b)≤s.D * b
    have:=hI.num g hg
    split
    · exact Nat.mul_le_mul this hab
    · exact Nat.mul_le_mul_right _ this
  · show (if s.on P g x then nxt (P.p g) _ (s.at_ g+1) else s.at_ g)≤_
    cases h:s.on P g x
    · exact hI.at_ g hg
    · exact nxt_le _ (GS.on_lt h)
  · show upd (s.st1 P) x y c=0∨upd (s.st1 P) x y c=1
    cases h:s.on P g x
    · rw [move_on h] at hon
      have hcx:c ≠ x:=fun e=>by rw [e] at hon; rw [h] at hon; cases hon
      rw [zfm _ _ hcx]
      have:=hI.lies g c hg hon
      rcases zbv (P:=P) (s:=s) c with ⟨_,h1,h2,_⟩ | ⟨_,h2⟩ <;> omega
    · have h1:=GS.on_lt hon
      have h2:=GS.on_at hon
      have e:(s.move P (upd (s.st1 P) x y) keep x a b).at_ g=nxt (P.p g) (upd (s.st1 P) x y) (s.at_ g+1):=by
        show (if s.on P g x then nxt (P.p g) _ (s.at_ g+1) else s.at_ g)=_
        rw [h]; rfl
      rw [e] at h1 h2
      have h3:=nxt_at h1
      rw [h2,Int.toNat_natCast] at h3
      exact .inl h3
  · show upd (s.st1 P) x y c≤3
    by_cases hi:c=x
    · subst hi; rw [zcr]; omega
    · rw [zfm _ _ hi]
      have:=hI.st3 c
      rcases zbv (P:=P) (s:=s) c with ⟨_,h1,h2,_⟩ | ⟨_,h2⟩ <;> omega
  · show (if s.on P g x then s.num g * a else s.num g * b)=s.D * b
    rw [if_neg fun h=>GS.on_ne h hp,hI.blank g hg hp]
  · have h1:=move_cons (P:=P) (s:=s) (st:=upd (s.st1 P) x y) (keep:=keep) (x:=x) hab
    have h2:=hI.cons
    rw [hc2]
    have e1:(s.move P (upd (s.st1 P) x y) keep x a b).bar P=s.bar P * b:=by
      show P.q * (s.D * b)=P.q * s.D * b
      rw [Nat.mul_assoc]
    have e2:P.mkd * (s.move P (upd (s.st1 P) x y) keep x a b).D=P.mkd * s.D * b:=by
      show P.mkd * (s.D * b)=_
      rw [Nat.mul_assoc]
    rw [e1,e2,← h2,Nat.add_mul,← h1]
    rcases hy with h3 | h3
    · rw [hd h3,if_pos h3,Nat.mul_add,Nat.mul_one,Nat.mul_right_comm (s.bar P) b]
      omega
    · rw [hd3 h3,Nat.sub_self,Nat.zero_mul,if_neg (by omega),Nat.add_zero,Nat.add_zero,Nat.mul_right_comm]
  · have hc1':upd (s.st1 P) x y c=1:=hc1
    have hcx:c ≠ x:=fun e=>by rw [e,zcr] at hc1'; omega
    rw [zfm _ _ hcx] at hc1'
    obtain ⟨_,k2,k3⟩:=zir hI hc hc1'
    have e1:(s.move P (upd (s.st1 P) x y) keep x a b).bar P=s.bar P * b:=by
      show P.q * (s.D * b)=P.q * s.D * b
      rw [Nat.mul_assoc]
    rw [e1]
    refine Nat.le_trans (Nat.mul_le_mul_right b ?_) (move_lie hcx)
    omega
theorem pow_next {D v t c:Nat} (hD:D≤2 ^ (17 * (2 ^ c - 1))) (hv:v≤t * D) (ht:t≤100000):D * v≤2 ^ (17 * (2 ^ (c+1) - 1)):=by
  have h1:D * v≤D * (100000 * D):=Nat.mul_le_mul_left _ (Nat.le_trans hv (Nat.mul_le_mul_right _ ht))
  have h2:D * (100000 * D)≤2 ^ (17 * (2 ^ c - 1)) * (2 ^ 17 * 2 ^ (17 * (2 ^ c - 1))):=Nat.mul_le_mul hD (Nat.mul_le_mul (by decide) hD)
  have h3:17 * (2 ^ (c+1) - 1)=17 * (2 ^ c - 1)+(17+17 * (2 ^ c - 1)):=by
    have:0 < 2 ^ c:=P2_pos c
    rw [Nat.pow_succ]; omega
  rw [h3,Nat.pow_add,Nat.pow_add]
  omega
theorem trans_inv (hP:P.OK) (hI:GI P s) (h:s.fin P=false) (hm:s.most P=true) (earlier:List (List Rat)):GI P (s.trans P earlier):=by
  obtain ⟨x,h1,h2,h3⟩:=zea hP hI h earlier
  rw [hm,if_pos rfl] at h3
  obtain ⟨_,k2,k3⟩:=zir hI h2 h3
  have hb:=bar_pos hP hI
  unfold GS.trans
  simp only [h1,Int.toNat_natCast]
  refine move_inv hP hI h2 (.inl rfl) (by rw [h3]; rfl) (Nat.sub_le _ _) (by omega) (fun _=>?_) (fun h=>by omega) ?_
  · rw [← k2]
    congr 1
    omega
  · rw [if_pos rfl]
    exact pow_next hI.Db (zix hP hI h2) hP.tot5
theorem excl_inv (hP:P.OK) (hI:GI P s) (h:s.fin P=false) (hm:s.most P=false) (earlier:List (List Rat)):GI P (s.excl P earlier):=by
  obtain ⟨x,h1,h2,h3⟩:=zea hP hI h earlier
  rw [hm] at h3
  unfold GS.excl
  simp only [h1,Int.toNat_natCast]
  refine move_inv hP hI h2 (.inr rfl) (by rw [h3]; rfl) (Nat.le_refl _) (by omega) (fun h=>by omega) (fun _=>rfl) ?_
  rw [Nat.mul_one]
  exact hI.Db
theorem g0_inv (hP:P.OK):GI P g0:=by
  have hc:g0.c2 P=0:=(zkx (q:=fun _=>false) fun i _=>rfl).trans (by unfold cntN; exact zcv _)
  refine ⟨by decide,by rw [hc]; exact Nat.le_refl 1,fun g hg=>Nat.le_refl 1,fun g hg=>Nat.zero_le _,fun g c hg _=>.inl rfl,fun c=>Nat.zero_le 3,fun g hg hp=>rfl,?_,fun c hc h=>by cases h⟩
  rw [hc,Nat.mul_zero,Nat.add_zero]
  show _=P.mkd * 1
  rw [Nat.mul_one]
  unfold GP.mkd
  refine zbh fun g hg=>?_
  show (if P.p g=[] then 0 else P.k g * 1)=_
  rw [Nat.mul_one]
def GS.meas (P:GP) (s:GS):Nat:=cntN (fun i=>decide (s.st i=0∨s.st i=1)) P.n
theorem meas_move {x a b y:Nat} {keep:Nat→Rat} (hx:x < P.n) (hy:y=2∨y=3) (hst:s.st1 P x=0∨s.st1 P x=1):(s.move P (upd (s.st1 P) x y) keep x a b).meas P+1=s.meas P:=by
  unfold GS.meas
  refine (cnt_upd (q:=fun i=>decide (upd (s.st1 P) x y i=0∨upd (s.st1 P) x y i=1)) hx (fun i hi hne=>?_) ?_ ?_).symm
  · rw [zfm _ _ hne]
    refine decide_eq_decide.2 ?_
    rcases zbv (P:=P) (s:=s) i with ⟨_,h1,h2,_⟩ | ⟨_,h2⟩ <;> omega
  · rw [zcr]; exact decide_eq_false (by omega)
  · refine decide_eq_true ?_
    rcases zbv (P:=P) (s:=s) x with ⟨_,h1,h2,_⟩ | ⟨_,h2⟩ <;> omega
theorem zhz (hP:P.OK) (hI:GI P s) (h:s.fin P=false) (hm:s.most P=true) (earlier:List (List Rat)):(s.trans P earlier).meas P+1=s.meas P:=by
  obtain ⟨x,h1,h2,h3⟩:=zea hP hI h earlier
  rw [hm,if_pos rfl] at h3
  unfold GS.trans
  simp only [h1,Int.toNat_natCast]
  exact meas_move h2 (.inl rfl) (.inr h3)
theorem zju (hP:P.OK) (hI:GI P s) (h:s.fin P=false) (hm:s.most P=false) (earlier:List (List Rat)):(s.excl P earlier).meas P+1=s.meas P:=by
  obtain ⟨x,h1,h2,h3⟩:=zea hP hI h earlier
  rw [hm] at h3
  unfold GS.excl
  simp only [h1,Int.toNat_natCast]
  exact meas_move h2 (.inr rfl) (.inl (by simpa using h3))
theorem meas_le (s:GS):s.meas P≤P.n:=zbm _ _
theorem c2_le (s:GS):s.c2 P≤P.n:=zbm _ _
def eD:Nat:=2159
def eB:Nat:=2208
theorem D_small (hP:P.OK) (hI:GI P s):s.D≤2 ^ eD:=by
  refine Nat.le_trans hI.Db (Nat.pow_le_pow_right (by decide) ?_)
  have h1:=c2_le (P:=P) s
  have h2:=hP.n7
  have:2 ^ s.c2 P≤2 ^ 7:=Nat.pow_le_pow_right (by decide) (by omega)
  show _≤2159
  omega
end Go.Proofs.YtmipjomnjkmdbaaGreat
set_option linter.unusedSimpArgs false
set_option linter.unusedVariables false
namespace Go.Proofs.YtmipjomnjkmdbaaGreat
open Go Go.X
abbrev CT:=List Int × (List (List Int) × (Int × (Int × (Int × (Int × (Int × (Int × Int)))))))
abbrev RD:=List Rt × (List Rt × (Rt × (Rt × (Rt × (List Int × (List Int × List Int))))))
abbrev KT:=CT × (List Int × (Int × (Int × (List (List Int × (Int × (Int × Rt))) × (List Int × (List Rt × (Int × (List (List Rt) × (Int × (Int × (Int × (Int × (List RD × List Int)))))))))))))
theorem zbj {α:Type} {l:List α} {d:α} (h:l.length+1≤4294967296):decide ((l.length:Int)+(([d]:List α).length:Int)≤LIM)=true:=by
  have:(l.length:Int)+(([d]:List α).length:Int)=((l.length+1:Nat):Int):=by simp
  rw [this]; exact zbs h
theorem zfu (a b:Nat):decide ((a:Int)=(b:Int))=decide (a=b):=decide_eq_decide.2 Int.ofNat_inj
theorem frac_nd (a b:Nat):(frac a b).num.natAbs≤a∧(frac a b).den≤max 1 b:=by
  have e:frac a b=mkRat a b:=by
    unfold frac
    rw [Rat.mkRat_eq_div]
    rfl
  rw [e]
  by_cases hb:b=0
  · subst hb; rw [Rat.mkRat_zero]; exact ⟨Nat.zero_le _,Nat.le_max_left _ _⟩
  · rw [Rat.num_mkRat,Rat.den_mkRat,if_neg hb,if_neg hb]
    refine ⟨?_,Nat.le_trans (Nat.div_le_self _ _) (Nat.le_max_right _ _)⟩
    rw [Int.natAbs_natCast]
    have:((a:Int) / ((b.gcd a:Nat):Int))=((a / b.gcd a:Nat):Int):=rfl
    rw [this,Int.natAbs_natCast]
    exact Nat.div_le_self _ _
theorem zho {a b e:Nat} (ha:a < 2 ^ e) (hb:b < 2 ^ e) (he:1≤e):Bz e (frac a b):=by
  obtain ⟨h1,h2⟩:=frac_nd a b
  have:1 < 2 ^ e:=Nat.one_lt_two_pow (by omega)
  exact ⟨by omega,by omega⟩
theorem zjq (a:Nat):frac a 1=(a:Rat):=by unfold frac; grind
theorem zqo {a b D:Nat} (hD:0 < D):frac a D+frac b D=frac (a+b) D:=by
  unfold frac
  rw [Rat.div_def,Rat.div_def,Rat.div_def,← Rat.add_mul]
  simp only [Rat.natCast_add]
theorem zlw {a b D:Nat} (hD:0 < D) (h:b≤a):frac a D - frac b D=frac (a - b) D:=by
  have:=zqo (a:=a - b) (b:=b) hD
  rw [Nat.sub_add_cancel h] at this
  rw [← this]; grind
theorem frac_mul_nat (a D k:Nat):frac a D * (k:Rat)=frac (k * a) D:=by
  unfold frac
  simp only [Rat.natCast_mul]
  rw [Rat.div_def,Rat.div_def]
  grind
theorem zjp {q D:Nat} (hD:0 < D):frac (q * D) D=(q:Rat):=by
  unfold frac
  have:(D:Rat) ≠ 0:=by simp; omega
  rw [Rat.natCast_mul,Rat.mul_div_cancel this]
theorem znd {a b D:Nat} (hD:0 < D):frac a D≤frac b D↔a≤b:=by
  unfold frac
  have:(0:Rat) < (D:Rat):=by exact_mod_cast hD
  rw [Rat.div_def,Rat.div_def]
  have hi:(0:Rat) < (D:Rat)⁻¹:=Rat.inv_pos.2 this
  constructor
  · intro h
    have:=Rat.le_of_mul_le_mul_right h hi
    exact_mod_cast this
  · intro h
    exact Rat.mul_le_mul_of_nonneg_right (by exact_mod_cast h) (Rat.le_of_lt hi)
theorem frac_lt {a b D:Nat} (hD:0 < D):frac a D < frac b D↔a < b:=by
  rw [← Rat.not_le,znd hD]; omega
theorem Bz.sz2 {q:Rat} (h:Bz eB q):Sz 268435456 (rr q):=by
  have h':Bz (32 * 69) q:=h
  have:=Bz.sz (k:=69) h'
  exact ⟨by have:=this.1; omega,by have:=this.2; omega⟩
theorem bz_nat {n:Nat} (h:n < 2 ^ 64):Bz eB (n:Rat):=by
  rw [← zjq]
  exact zho (Nat.lt_trans h (Nat.pow_lt_pow_right (by decide) (by decide))) (Nat.one_lt_two_pow (by decide)) (by decide)
theorem znm {n:Nat} (h:n≤9223372036854775807):d68 (n:Int)=some (rr (n:Rat)):=by
  rw [zpc (by omega) (by omega)]; rfl
theorem zhg {p:Nat→Bool} {n j:Nat} (h:j < (selN p n).length):(selN p n).getD j 0 < n∧p ((selN p n).getD j 0)=true:=by
  rw [List.getD_eq_getElem?_getD,List.getElem?_eq_getElem h]
  exact zdt.1 (List.getElem_mem h)
theorem zmo {p:Nat→Bool} {n j:Nat} (h:j < (selN p n).length):(selI p n).getD j 0=(((selN p n).getD j 0:Nat):Int):=by
  unfold selI
  rw [List.getD_eq_getElem?_getD,List.getElem?_map,List.getElem?_eq_getElem h,List.getD_eq_getElem?_getD,List.getElem?_eq_getElem h]; rfl
theorem zbb {α:Type} (l:List α) (d:α) {n:Nat} (h:n < l.length):l.take (n+1)=l.take n++[l.getD n d]:=by
  rw [List.take_add_one,List.getD_eq_getElem?_getD,List.getElem?_eq_getElem h]; rfl
def zfn {α:Type} (f:Nat→α) (L:List Nat) (x:α):Nat→α:=fun c=>if c∈L then x else f c
theorem zme {α:Type} (f:Nat→α) (L:List Nat) (c:Nat) (x:α):upd (zfn f L x) c x=zfn f (L++[c]) x:=by
  funext d
  unfold upd zfn
  by_cases h:d=c
  · subst h; simp
  · simp [h]
theorem zoh {α:Type} (f:Nat→α) (x:α):zfn f [] x=f:=by funext d; simp [zfn]
theorem zkv {k:KT} {st:Nat→Nat} {n:Nat} (hk:k.2.2.2.2.2.1=lst (fun i=>(st i:Int)) n) (hn:n≤1000) (x:Nat):d135 k (x:Int)=some (selI (fun i=>decide (st i=x)) n):=by
  unfold d135
  rw [hk,zak]
  refine zac (fun i=>((x:Int),selI (fun i=>decide (st i=x)) i,lst (fun i=>(st i:Int)) n,(n:Int),(i:Int))) n rfl (fun i hi=>?_) ?_ rfl
  · have hl:(selI (fun i=>decide (st i=x)) i).length+1≤4294967296:=by
      rw [zbn]; have:=zbm (fun i=>decide (st i=x)) i; omega
    rw [zdp]
    simp only [dlt hi,d0le,zak,Bool.and_self,cond_true,tn,zau _ hi,zah,zfu,zaz (show i < 9223372036854775807 by omega)]
    by_cases h:st i=x
    · rw [decide_eq_true h,cond_true,zbj hl,cond_true]; rfl
    · rw [decide_eq_false h,cond_false]; simp
  · simp only [nlt (Nat.le_refl n),cond_false]
theorem d131_eq {f:Nat→Rat} {n:Nat} (hn:n≤1000) (hf:∀ i,i < n→Bz eB (f i)):d131 (lst (fun i=>rr (f i)) n)=some (lst (fun i=>rr (f i)) n):=by
  unfold d131
  rw [zak]
  refine zac (fun i=>(lst (fun i=>rr (f i)) i,lst (fun i=>rr (f i)) n,(n:Int),(i:Int))) n rfl (fun i hi=>?_) ?_ rfl
  · have hs:=(hf i hi).sz2
    simp only [dlt hi,d0le,zak,Bool.and_self,cond_true,tn,zau _ hi,zaz (show i < 9223372036854775807 by omega),zqx (show (rr (f i)).2.1.length≤4294967296 by have:=hs.1; omega),zqx (show (rr (f i)).2.2.length≤4294967296 by have:=hs.2; omega),Option.bind_some]
    have hl:=zbj (l:=lst (fun i=>rr (f i)) i) (d:=((rr (f i)).1,(rr (f i)).2.1,(rr (f i)).2.2)) (by rw [zak]; omega)
    rw [zak] at hl
    rw [hl,cond_true,zdu]
  · simp only [nlt (Nat.le_refl n),cond_false]
def GS.lieU (P:GP) (s:GS) (m c:Nat):Nat:=sumN (fun g=>if s.on P g c then P.k g * s.num g else 0) m
def parc (P:GP) (s:GS) (g:Nat):List Int × (Int × (Int × Rt)):=(P.p g,(P.k g:Int),(s.at_ g:Int),rr (frac (s.num g) s.D))
variable {P:GP} {s:GS}
theorem lieU_le (m c:Nat) (h:m≤P.G):s.lieU P m c≤s.lie P c:=by
  have key:∀ (f:Nat→Nat) (m n:Nat),m≤n→sumN f m≤sumN f n:=by
    intro f m n
    induction n with
    | zero=>intro h; rw [show m=0 by omega]; exact Nat.le_refl _
    | succ n ih =>
      intro h
      by_cases hm:m=n+1
      · rw [hm]; exact Nat.le_refl _
      · rw [sumN]; have:=ih (by omega); omega
  exact key _ _ _ h
theorem zbk {a:Nat} (hP:P.OK) (hI:GI P s) (h:a≤P.tot * s.D):a < 2 ^ eB:=by
  have h1:=D_small hP hI
  have h2:P.tot * s.D≤100000 * 2 ^ eD:=Nat.mul_le_mul hP.tot5 h1
  have h3:100000 * 2 ^ eD≤2 ^ 17 * 2 ^ eD:=Nat.mul_le_mul_right _ (by decide)
  have h4:2 ^ 17 * 2 ^ eD < 2 ^ eB:=by rw [← Nat.pow_add]; exact Nat.pow_lt_pow_right (by decide) (by decide)
  omega
theorem D_lt (hP:P.OK) (hI:GI P s):s.D < 2 ^ eB:=Nat.lt_of_le_of_lt (D_small hP hI) (Nat.pow_lt_pow_right (by decide) (by decide))
theorem zbc (hP:P.OK) (hI:GI P s) {a:Nat} (h:a≤P.tot * s.D):Bz eB (frac a s.D):=zho (zbk hP hI h) (D_lt hP hI) (by decide)
theorem k_le (hP:P.OK) {g:Nat} (h:g < P.G):P.k g≤P.tot:=by rw [← hP.total]; exact sumN_ge h
theorem knum_le (hP:P.OK) (hI:GI P s) {g:Nat} (h:g < P.G):P.k g * s.num g≤P.tot * s.D:=Nat.mul_le_mul (k_le hP h) (hI.num g h)
theorem lie_le (hP:P.OK) (hI:GI P s) {c:Nat} (h:c < P.n):s.lie P c≤P.tot * s.D:=by
  have h1:=sumN_ge (f:=s.lie P) h
  have h2:=zot (s:=s) hP
  have h3:=hI.cons
  have h4:=Nat.mul_le_mul_right s.D (mk_le hP)
  omega
theorem num_small (hP:P.OK) (hI:GI P s) {g:Nat} (h:g < P.G):Bz eB (frac (s.num g) s.D):=zho (Nat.lt_of_le_of_lt (hI.num g h) (D_lt hP hI)) (D_lt hP hI) (by decide)
theorem zje (hP:P.OK):Bz eB (P.q:Rat):=bz_nat (by have:=hP.q5; omega)
theorem d130_eq (hP:P.OK) (hI:GI P s) (hG:P.G≤1000000) {k:KT} (h1:k.2.2.2.2.1=lst (parc P s) P.G) (h2:k.2.2.2.2.2.1=lst (fun i=>(s.st i:Int)) P.n) (h3:k.2.2.2.1=(P.q:Int)) :
    d130 k=some (lst (fun i=>rr (frac (s.vt P i) s.D)) P.n):=by
  have hn:=hP.n7
  unfold d130
  rw [h2,zak]
  refine zac (fun i=>(k,lst (fun _=>rr 0) i,(P.n:Int),(i:Int))) P.n rfl (fun i hi=>?_) (b:=(k,lst (fun _=>rr 0) P.n)) ?_ ?_
  · have hl:=zbj (l:=lst (fun _=>rr 0) i) (d:=rr 0) (by rw [zak]; omega)
    simp only [dlt hi,cond_true,show d68 0=some (rr 0) from zpc (n:=0) (by omega) (by omega),Option.bind_some,hl,zaz (show i < 9223372036854775807 by omega),← zdu]
  · simp only [nlt (Nat.le_refl P.n),cond_false]
  simp only [h1,zak]
  refine zac (fun m=>(k,lst (fun c=>rr (frac (s.lieU P m c) s.D)) P.n,lst (parc P s) P.G,(P.G:Int),(m:Int))) P.G ?_ (fun g hg=>?_) (b:=(k,lst (fun c=>rr (frac (s.lie P c) s.D)) P.n)) ?_ ?_
  · simp only [GS.lieU,sumN,show frac 0 s.D=0 by unfold frac; rw [Rat.div_def]; simp]; rfl
  · simp only [dlt hg,d0le,zak,Bool.and_self,cond_true,tn,zau (parc P s) hg,parc,zah,zaz (show g < 9223372036854775807 by omega)]
    by_cases ha:s.at_ g < (P.p g).length
    · obtain ⟨c,c1,c2⟩:=GS.on_ex hP hg ha
      have c3:=GS.on_at c2
      have hU:=lieU_le (P:=P) (s:=s) g c (by omega)
      have hL:=lie_le hP hI c1
      have hk:=k_le hP hg
      have ht:=hP.tot5
      have hk2:=knum_le hP hI hg
      rw [dlt ha]
      simp only [cond_true,d0le,Bool.and_self,tn,c3,dlt c1,zau (fun c=>rr (frac (s.lieU P g c) s.D)) c1,zak]
      rw [znm (by omega),Option.bind_some,d172_rr (num_small hP hI hg).sz2 (bz_nat (by omega)).sz2,Option.bind_some,frac_mul_nat,d138_rr (zbc hP hI (by omega)).sz2 (zbc hP hI hk2).sz2,Option.bind_some,zqo hI.D0,zdv]
      have e:lst (upd (fun c=>rr (frac (s.lieU P g c) s.D)) c (rr (frac (s.lieU P g c+P.k g * s.num g) s.D))) P.n=lst (fun c=>rr (frac (s.lieU P (g+1) c) s.D)) P.n:=zbe fun i hi=>by
        unfold upd GS.lieU
        by_cases h:i=c
        · subst h; rw [if_pos rfl,sumN,if_pos c2]
        · rw [if_neg h,sumN,if_neg fun h4=>h (GS.on_uniq h4 c2),Nat.add_zero]
      rw [e]
    · rw [nlt (by omega),cond_false]
      have e:lst (fun c=>rr (frac (s.lieU P g c) s.D)) P.n=lst (fun c=>rr (frac (s.lieU P (g+1) c) s.D)) P.n:=zbe fun i hi=>by
        unfold GS.lieU
        rw [sumN,if_neg fun h4=>ha (GS.on_lt h4),Nat.add_zero]
      rw [e]
  · simp only [nlt (Nat.le_refl P.G),cond_false]; rfl
  have e2:=zkv (k:=k) h2 (by omega) 2
  simp only [show d135 k 2=some (selI (fun i=>decide (s.st i=2)) P.n) from e2,Option.bind_some]
  obtain ⟨L,hL⟩:∃ L,selN (fun i=>decide (s.st i=2)) P.n=L:=⟨_,rfl⟩
  have hLi:(selI (fun i=>decide (s.st i=2)) P.n).length=L.length:=by rw [← hL,selI,List.length_map]
  have hLl:L.length≤7:=by rw [← hL,zgn]; have:=zbm (fun i=>decide (s.st i=2)) P.n; omega
  rw [hLi]
  refine zac (fun j=>(k,lst (zfn (fun c=>rr (frac (s.lie P c) s.D)) (L.take j) (rr (P.q:Rat))) P.n,selI (fun i=>decide (s.st i=2)) P.n,(L.length:Int),(j:Int))) L.length ?_ (fun j hj=>?_) (b:=lst (zfn (fun c=>rr (frac (s.lie P c) s.D)) L (rr (P.q:Rat))) P.n) ?_ ?_
  · rw [List.take_zero,zoh]; rfl
  · have hj':j < (selN (fun i=>decide (s.st i=2)) P.n).length:=by rw [hL]; exact hj
    have hg:=zhg hj'
    rw [hL] at hg
    have hq:=hP.q5
    simp only [dlt hj,d0le,hLi,Bool.and_self,cond_true,tn,zmo hj',h3,znm (show P.q≤9223372036854775807 by omega),Option.bind_some,zak,dlt hg.1,zaz (show j < 9223372036854775807 by omega),zdv,zme,hL]
    rw [zbb L 0 hj]
  · simp only [nlt (Nat.le_refl L.length),cond_false,List.take_length]
  · congr 1
    refine zbe fun i hi=>?_
    unfold zfn
    rw [vt_eq hI]
    by_cases h:s.st i=2
    · rw [if_pos (by rw [← hL]; exact zdt.2 ⟨hi,decide_eq_true h⟩),decide_eq_true h,zqj hI (.inl h),if_pos rfl,Nat.zero_add]
      unfold GS.bar
      rw [zjp hI.D0]
    · rw [if_neg (by rw [← hL]; intro hm; exact h (of_decide_eq_true (zdt.1 hm).2)),decide_eq_false h]
      simp
end Go.Proofs.YtmipjomnjkmdbaaGreat
set_option linter.unusedSimpArgs false
set_option linter.unusedVariables false
namespace Go.Proofs.YtmipjomnjkmdbaaGreat
open Go Go.X
theorem zpq {α:Type} (l:List α) (x:α) {i:Nat} (h:i < l.length):(l.set i x).take (i+1)=l.take i++[x]:=by
  refine List.ext_getElem? fun j=>?_
  by_cases hj:j < i+1
  · rw [List.getElem?_take_of_lt hj]
    by_cases h2:i=j
    · subst h2
      rw [List.getElem?_set_self h,List.getElem?_append_right (by rw [List.length_take]; omega),List.length_take,Nat.min_eq_left (by omega),Nat.sub_self]; rfl
    · rw [List.getElem?_set_ne h2,List.getElem?_append_left (by rw [List.length_take]; omega),List.getElem?_take_of_lt (by omega)]
  · rw [List.getElem?_eq_none (by rw [List.length_take,List.length_set]; omega),List.getElem?_eq_none (by rw [List.length_append,List.length_take]; simp; omega)]
theorem zby (g:Int→Bool) (s:List Int) {j:Nat} (h:j < s.length):(s.take (j+1)).filter g=(s.take j).filter g++(if g (s.getD j 0) then [s.getD j 0] else []):=by
  rw [zbb s 0 h,List.filter_append]
  congr 1
  rw [List.filter_cons]
  cases hg:g (s.getD j 0) <;> rfl
theorem getD_of_drop {s t:List Int} {j:Nat} (h:s.drop j=t.drop j):s.getD j 0=t.getD j 0:=by
  have h1:=zjo s j 0 0
  have h2:=zjo t j 0 0
  rw [Nat.add_zero] at h1 h2
  rw [← h1,← h2,h]
theorem zlg {s t:List Int} {j:Nat} (h:s.drop j=t.drop j):s.drop (j+1)=t.drop (j+1):=by
  rw [← List.drop_drop,← List.drop_drop,h]
theorem d134_eq {s:List Int} {f:Int→Option Bool} {g:Int→Bool} (hf:∀ c∈s,f c=some (g c)) (hs:s.length≤1000000):d134 s f=some (s.filter fun c=>!g c):=by
  unfold d134
  rw [d101_on hf (by omega)]
  have hle:=zey g s
  by_cases h:zas g s < s.length
  · rw [if_pos h,Option.bind_some,decide_eq_false (show ¬ ((zas g s:Nat):Int)=-1 by omega),cond_false]
    obtain ⟨i0,hi0⟩:∃ i0,zas g s=i0:=⟨_,rfl⟩
    have hat:=zez g s h
    have hlt:=zcq g s
    rw [hi0] at h hat hlt
    rw [hi0,zaz (by omega)]
    refine zbo (Q:=fun r=>r=some (s.filter fun c=>!g c)) (fun (m:Nat) (st:(List Int) × (Int→Option Bool) × Int × Int)=>∃ (s':List Int) (i:Nat),st=(s',f,(i:Int),((i0+1+m:Nat):Int))∧s'.length=s.length∧i≤i0+m∧i0+1+m≤s.length∧s'.take i=(s.take (i0+1+m)).filter (fun c=>!g c)∧s'.drop (i0+1+m)=s.drop (i0+1+m)) (s.length - (i0+1)) ?_ ?_ ?_
    · refine ⟨s,i0,rfl,rfl,by omega,by omega,?_,rfl⟩
      rw [zby _ s h,hat,show (!true)=false from rfl]
      simp only [Bool.false_eq_true,if_false,List.append_nil]
      refine (List.filter_eq_self.2 fun x hx=>?_).symm
      obtain ⟨k,hk,hkx⟩:=List.getElem_of_mem hx
      rw [List.length_take] at hk
      have:=hlt k (by omega)
      rw [List.getD_eq_getElem?_getD,List.getElem?_eq_getElem (by omega)] at this
      rw [List.getElem_take] at hkx
      rw [← hkx]
      simpa using this
    · rintro m st hm ⟨s',i,rfl,hl,hi,hmle,ht,hd⟩
      have hj:i0+1+m < s.length:=by omega
      have hgd:=getD_of_drop hd
      have hmem:s.getD (i0+1+m) 0∈s:=zcn hj
      simp only [hl,dlt hj,d0le,Bool.and_self,cond_true,tn,zah,hgd,hf _ hmem,Option.bind_some]
      rw [show i0+1+(m+1)=i0+1+m+1 by omega]
      cases hg:g (s.getD (i0+1+m) 0) with
      | true =>
        refine ⟨_,by rw [Bool.not_true,cond_false,zaz (by omega)],s',i,rfl,hl,by omega,by omega,?_,zlg hd⟩
        rw [zby _ s hj,hg,ht]; simp
      | false =>
        refine ⟨_,by simp only [Bool.not_false,cond_true,dlt (show i < s.length by omega),zaz (show i < 9223372036854775807 by omega),zaz (show i0+1+m < 9223372036854775807 by omega),Bool.and_self],s'.set i (s.getD (i0+1+m) 0),i+1,rfl,by simpa using hl,by omega,by omega,?_,?_⟩
        · rw [zpq _ _ (by omega),zby _ s hj,hg,ht]; simp
        · rw [List.drop_set_of_lt (by omega)]; exact zlg hd
    · rintro st ⟨s',i,rfl,hl,hi,hmle,ht,hd⟩
      have e:i0+1+(s.length - (i0+1))=s.length:=by omega
      rw [e] at ht hd ⊢
      rw [List.take_length] at ht
      refine ⟨(s',(i:Int)),by simp only [hl,nlt (Nat.le_refl s.length),cond_false],?_⟩
      have hil:i≤s'.length:=by omega
      have hlen:(List.take i s'++List.replicate (s'.length - i) 0).length=s'.length:=by simp; omega
      have c1:zdg (i:Int) (s'.length:Int) s'.length=true:=by
        unfold zdg
        simp only [Bool.and_eq_true,decide_eq_true_eq]
        omega
      have c2:zdg 0 (i:Int) s'.length=true:=by
        unfold zdg
        simp only [Bool.and_eq_true,decide_eq_true_eq]
        omega
      simp only [c1,cond_true,tn,hlen,c2]
      rw [List.take_append_of_le_length (by rw [List.length_take]; omega),List.take_take,Nat.min_self,ht]
  · rw [if_neg h,Option.bind_some]
    have hall:∀ x∈s,g x=false:=fun x hx=>by
      cases hg:g x
      · rfl
      · exact absurd ((ziu g s).2 ⟨x,hx,hg⟩) h
    rw [List.filter_eq_self.2 fun x hx=>by rw [hall x hx]; rfl]
    rfl
theorem d133_eq {c:CT} {lots:List Int} {tot q:Int} {pc:List (List Int × (Int × (Int × Rt)))} {st:Nat→Nat} {n:Nat} {kp:List Rt} {filled:Nat} {rest:List (List Rt) × (Int × (Int × (Int × (Int × (List RD × List Int)))))}
    {v kk:List Rt} {qu ex su:Rt} {el ex2 ti:List Int} {p:Nat→Bool} (hn:n≤7) (hf:filled≤1000) (hel:el.length≤1000) :
    d133 (c,lots,tot,q,pc,lst (fun i=>(st i:Int)) n,kp,(filled:Int),rest) (v,kk,qu,ex,su,el,ex2,ti) (selI p n)
      = some ((c,lots,tot,q,pc,lst (fun i=>((if p i then 1 else st i:Nat):Int)) n,kp,((filled+cntN p n:Nat):Int),rest),(v,kk,qu,ex,su,zeo (el++selI p n),ex2,ti)):=by
  unfold d133
  obtain ⟨L,hL⟩:∃ L,selN p n=L:=⟨_,rfl⟩
  have hLi:(selI p n).length=L.length:=by rw [← hL,selI,List.length_map]
  have hLc:cntN p n=L.length:=by rw [← hL,zgn]
  have hLl:L.length≤7:=by rw [← hLc]; have:=zbm p n; omega
  rw [hLi]
  refine zac (fun j=>((c,lots,tot,q,pc,lst (fun i=>((zfn st (L.take j) 1 i:Nat):Int)) n,kp,((filled+j:Nat):Int),rest),(v,kk,qu,ex,su,el++(selI p n).take j,ex2,ti),selI p n,(L.length:Int),(j:Int))) L.length ?_ (fun j hj=>?_) (b:=((c,lots,tot,q,pc,lst (fun i=>((zfn st L 1 i:Nat):Int)) n,kp,((filled+L.length:Nat):Int),rest),(v,kk,qu,ex,su,el++selI p n,ex2,ti))) ?_ ?_
  · rw [List.take_zero,zoh,List.take_zero,List.append_nil]; rfl
  · have hj':j < (selN p n).length:=by rw [hL]; exact hj
    have hg:=zhg hj'
    have hsg:=zmo hj'
    rw [hL] at hg hsg
    have hll:(el++(selI p n).take j).length+1≤4294967296:=by rw [List.length_append,List.length_take]; omega
    simp only [dlt hj,d0le,hLi,Bool.and_self,cond_true,tn,hsg,zak,dlt hg.1,zbj hll,zaz (show j < 9223372036854775807 by omega),zaz (show filled+j < 9223372036854775807 by omega),zdv]
    have e:lst (upd (fun i=>((zfn st (L.take j) 1 i:Nat):Int)) (L.getD j 0) 1) n=lst (fun i=>((zfn st (L.take (j+1)) 1 i:Nat):Int)) n:=zbe fun i hi=>by
      rw [zbb L 0 hj,← zme]
      unfold upd
      split <;> rfl
    rw [e,zbb (selI p n) 0 (by rw [hLi]; exact hj),hsg,List.append_assoc]
    rfl
  · simp only [nlt (Nat.le_refl L.length),cond_false,List.take_length]
    rw [← hLi,List.take_length]
  · have hd:d174 (el++selI p n)=some (zeo (el++selI p n)):=by
      unfold d174
      rw [zbs (by rw [List.length_append]; omega)]; rfl
    simp only [hd,Option.bind_some,hLc]
    have e:lst (fun i=>((zfn st L 1 i:Nat):Int)) n=lst (fun i=>((if p i then 1 else st i:Nat):Int)) n:=zbe fun i hi=>by
     unfold zfn
     congr 1
     by_cases h:p i=true
     · rw [if_pos (by rw [← hL]; exact zdt.2 ⟨hi,h⟩),if_pos h]
     · rw [if_neg (by rw [← hL]; exact fun hm=>h (zdt.1 hm).2),if_neg h]
    rw [e]
theorem zcw (p:Nat→Bool):∀ n:Nat,(selI p n).Pairwise (· < ·)
  | 0=>List.Pairwise.nil
  | n+1=>by
    rw [zdp,List.pairwise_append]
    refine ⟨zcw p n,by split <;> simp,fun x hx y hy=>?_⟩
    obtain ⟨i,rfl,h1,_⟩:=zce.1 hx
    split at hy
    · simp at hy; subst hy; omega
    · simp at hy
theorem sortI_of {l m:List Int} (hp:l.Perm m) (hs:m.Pairwise (·≤·)):zeo l=m:=by
  unfold zeo
  have h1:=List.mergeSort_perm l fun x y=>decide (x≤y)
  have h2:(l.mergeSort fun x y=>decide (x≤y)).Pairwise (·≤·):=by
    have:=List.pairwise_mergeSort (le:=fun x y:Int=>decide (x≤y)) (fun a b c h1 h2=>decide_eq_true (Int.le_trans (of_decide_eq_true h1) (of_decide_eq_true h2))) (fun a b=>by simp only [Bool.or_eq_true,decide_eq_true_eq]; omega) l
    exact this.imp fun h=>of_decide_eq_true h
  exact (h1.trans hp).eq_of_pairwise (fun a b _ _ h3 h4=>Int.le_antisymm h3 h4) h2 hs
theorem sortI_selI (p:Nat→Bool) (n:Nat):zeo (selI p n)=selI p n:=sortI_of (List.Perm.refl _) ((zcw p n).imp fun h=>Int.le_of_lt h)
theorem sel_perm {p q:Nat→Bool} (h:∀ i,p i=true→q i=false):∀ n:Nat,(selI p n++selI q n).Perm (selI (fun i=>p i || q i) n)
  | 0=>List.Perm.refl _
  | n+1=>by
    have ih:=sel_perm h n
    rw [zdp,zdp,zdp]
    cases hp:p n
    · simp only [Bool.false_eq_true,if_false,List.append_nil,Bool.false_or]
      cases hq:q n
      · simp only [Bool.false_eq_true,if_false,List.append_nil]; exact ih
      · simp only [if_true]
        rw [← List.append_assoc]
        exact ih.append_right _
    · rw [h n hp]
      simp only [Bool.false_eq_true,if_false,List.append_nil,Bool.or_false,if_true]
      refine List.Perm.trans ?_ (ih.append_right [(n:Int)])
      rw [List.append_assoc,List.append_assoc]
      exact List.Perm.append_left _ List.perm_append_comm
theorem sortI_two {p q:Nat→Bool} (h:∀ i,p i=true→q i=false) (n:Nat):zeo (selI p n++selI q n)=selI (fun i=>p i || q i) n :=
  sortI_of (sel_perm h n) ((zcw _ n).imp fun h=>Int.le_of_lt h)
def ext0 (ρ:Int→Rat) (l:List Int):List Int:=l.filter fun i=>l.all fun k=>decide (ρ i≤ρ k)
def sgR (least:Bool) (r:Int→Rat) (c:Int):Rat:=if least then r c else - r c
theorem extr_ext0 (least:Bool) (r:Int→Rat) (l:List Int):extr least r l=ext0 (sgR least r) l:=by
  unfold extr ext0 sgR
  refine List.filter_congr fun i _=>?_
  congr 1
  funext k
  cases least
  · simp only [Bool.false_eq_true,if_false]
    exact decide_eq_decide.2 ⟨fun h=>by grind,fun h=>by grind⟩
  · rfl
theorem zlx {ρ:Int→Rat} {l:List Int} {x:Int}:x∈ext0 ρ l↔x∈l∧∀ k∈l,ρ x≤ρ k:=by
  unfold ext0
  rw [List.mem_filter,List.all_eq_true]
  simp only [decide_eq_true_eq]
theorem ext0_ne {ρ:Int→Rat} {l:List Int} (h:l ≠ []):ext0 ρ l ≠ []:=by
  obtain ⟨i,h1,h2⟩:=zfs ρ h
  exact List.ne_nil_of_mem (zlx.2 ⟨h1,h2⟩)
theorem ext0_nil (ρ:Int→Rat):ext0 ρ []=[]:=rfl
theorem ext0_snoc (ρ:Int→Rat) {l:List Int} (x:Int) (hl:l ≠ []):ext0 ρ (l++[x])=if ρ x < ρ ((ext0 ρ l).headD 0) then [x] else if ρ x=ρ ((ext0 ρ l).headD 0) then ext0 ρ l++[x] else ext0 ρ l:=by
  have hy:=zhm (ext0_ne (ρ:=ρ) hl)
  generalize (ext0 ρ l).headD 0=y at hy ⊢
  obtain ⟨h1,h2⟩:=zlx.1 hy
  have e:ext0 ρ (l++[x])=l.filter (fun i=>(l.all fun k=>decide (ρ i≤ρ k)) && decide (ρ i≤ρ x))++if (l.all fun k=>decide (ρ x≤ρ k)) then [x] else []:=by
    unfold ext0
    rw [List.filter_append]
    congr 1
    · refine List.filter_congr fun i _=>?_
      rw [List.all_append]; simp
    · rw [List.filter_cons,List.all_append]
      have:ρ x≤ρ x:=Rat.le_refl
      simp [this]
  rw [e]
  by_cases c1:ρ x < ρ y
  · rw [if_pos c1]
    have a1:l.filter (fun i=>(l.all fun k=>decide (ρ i≤ρ k)) && decide (ρ i≤ρ x))=[]:=by
      refine List.filter_eq_nil_iff.2 fun i hi hc=>?_
      simp only [Bool.and_eq_true,decide_eq_true_eq] at hc
      have:=h2 i hi
      grind
    have a2:(l.all fun k=>decide (ρ x≤ρ k))=true:=List.all_eq_true.2 fun k hk=>decide_eq_true (by have:=h2 k hk; grind)
    rw [a1,a2]; rfl
  · rw [if_neg c1]
    have a1:l.filter (fun i=>(l.all fun k=>decide (ρ i≤ρ k)) && decide (ρ i≤ρ x))=ext0 ρ l:=by
      unfold ext0
      refine List.filter_congr fun i hi=>?_
      cases hall:(l.all fun k=>decide (ρ i≤ρ k))
      · rfl
      · have:=of_decide_eq_true (List.all_eq_true.1 hall y h1)
        rw [Bool.true_and]
        exact decide_eq_true (by grind)
    rw [a1]
    by_cases c2:ρ x=ρ y
    · rw [if_pos c2]
      have a2:(l.all fun k=>decide (ρ x≤ρ k))=true:=List.all_eq_true.2 fun k hk=>decide_eq_true (by have:=h2 k hk; grind)
      rw [a2]; rfl
    · rw [if_neg c2]
      have a2:(l.all fun k=>decide (ρ x≤ρ k))=false:=by
        rw [List.all_eq_false]
        exact ⟨y,h1,by simp only [decide_eq_true_eq]; grind⟩
      rw [a2]; simp
def ordQ (least:Bool) (a b:Rat):Int:=if least then cmpQ a b else 0 - cmpQ a b
theorem ordQ_lt (least:Bool) (r:Int→Rat) (x y:Int):decide (ordQ least (r x) (r y) < 0)=decide (sgR least r x < sgR least r y):=by
  refine decide_eq_decide.2 ?_
  unfold ordQ sgR cmpQ
  cases least <;> simp only [Bool.false_eq_true,if_false,if_true]
  · by_cases h1:r x < r y
    · rw [if_pos h1]; constructor
      · intro h; omega
      · intro h; grind
    · rw [if_neg h1]
      by_cases h2:r x=r y
      · rw [if_pos h2]; constructor
        · intro h; omega
        · intro h; grind
      · rw [if_neg h2]; constructor
        · intro _; grind
        · intro _; omega
  · by_cases h1:r x < r y
    · rw [if_pos h1]; constructor
      · intro h; exact h1
      · intro h; omega
    · rw [if_neg h1]; constructor
      · intro h; split at h <;> omega
      · intro h; exact absurd h h1
theorem ordQ_eq (least:Bool) (r:Int→Rat) (x y:Int):decide (ordQ least (r x) (r y)=0)=decide (sgR least r x=sgR least r y):=by
  refine decide_eq_decide.2 ?_
  unfold ordQ sgR cmpQ
  cases least <;> simp only [Bool.false_eq_true,if_false,if_true]
  · by_cases h1:r x < r y
    · rw [if_pos h1]; constructor
      · intro h; omega
      · intro h; grind
    · rw [if_neg h1]
      by_cases h2:r x=r y
      · rw [if_pos h2]; constructor
        · intro h; grind
        · intro h; omega
      · rw [if_neg h2]; constructor
        · intro _; omega
        · intro _; grind
  · by_cases h1:r x < r y
    · rw [if_pos h1]; constructor
      · intro h; omega
      · intro h; grind
    · rw [if_neg h1]; constructor
      · intro h; split at h
        · assumption
        · omega
      · intro h; rw [if_pos h]
theorem zns (a b:Rat):-1≤cmpQ a b∧cmpQ a b≤1:=by
  unfold cmpQ; (repeat' split) <;> omega
end Go.Proofs.YtmipjomnjkmdbaaGreat
set_option linter.unusedSimpArgs false
set_option linter.unusedVariables false
namespace Go.Proofs.YtmipjomnjkmdbaaGreat
open Go Go.X
theorem zgt (v:Int):∀ l:List Int,zas (fun x=>decide (v=x)) l=l.idxOf v
  | []=>rfl
  | x::l=>by
    unfold zas
    rw [List.idxOf_cons,zgt v l]
    by_cases h:v=x
    · subst h; simp
    · have:(x == v)=false:=by simp; exact fun e=>h e.symm
      rw [this]; simp [h]
theorem d188_eq {lots:List Int} (hl:lots.length≤1000) {a b:Int} (ha:a∈lots) (hb:b∈lots):d188 a b lots=some ((zcj lots a:Int) - (zcj lots b:Int)):=by
  unfold d188
  have h1:=List.idxOf_lt_length_iff.2 ha
  have h2:=List.idxOf_lt_length_iff.2 hb
  rw [d189_eq a (by omega),d189_eq b (by omega),zgt,zgt,if_pos h1,if_pos h2]
  simp only [Option.bind_some]
  unfold zcj
  rw [zbl (by omega) (by omega)]
theorem d190_eq {x:List Int} {cmp:Int→Int→Option Int} {g:Int→Int→Int} (hx:x ≠ []) (hl:x.length≤1000) (hc:∀ a∈x,∀ b∈x,cmp a b=some (g a b)):d190 x cmp=some (x.tail.foldl (fun m c=>if 0 < g c m then c else m) (x.headD 0)):=by
  have hp:=List.length_pos_iff.2 hx
  unfold d190
  rw [decide_eq_false (show ¬ ((x.length:Int) < 1) by omega),cond_false,show (decide (0≤0) && decide ((0:Int) < (x.length:Int)))=true by rw [decide_eq_true (show (0:Int) < (x.length:Int) by omega)]; rfl,cond_true]
  have hmem:∀ i,(x.tail.take i).foldl (fun m c=>if 0 < g c m then c else m) (x.headD 0)∈x:=fun i=>by
    cases x with
    | nil=>exact absurd rfl hx
    | cons y x =>
      simp only [List.tail_cons,List.headD_cons]
      rcases zjs (fun m c=>if 0 < g c m then c else m) (fun a b=>by split <;> simp) (x.take i) y with h | h
      · rw [h]; simp
      · exact List.mem_cons_of_mem _ (List.mem_of_mem_take h)
  refine zac (fun i=>(x,cmp,(x.tail.take i).foldl (fun m c=>if 0 < g c m then c else m) (x.headD 0),((i+1:Nat):Int))) (x.length - 1) ?_ (fun i hi=>?_) (b:=x.tail.foldl (fun m c=>if 0 < g c m then c else m) (x.headD 0)) ?_ rfl
  · rw [List.take_zero,List.foldl_nil]
    cases x with
    | nil=>exact absurd rfl hx
    | cons y x=>rfl
  · have hlt:i+1 < x.length:=by omega
    have hxm:x.getD (i+1) 0∈x:=zcn hlt
    have ht:x.tail.getD i 0=x.getD (i+1) 0:=by
      cases x with
      | nil=>exact absurd rfl hx
      | cons y x=>rfl
    have hs:x.tail.take (i+1)=x.tail.take i++[x.getD (i+1) 0]:=by rw [zbb x.tail 0 (by rw [List.length_tail]; omega),ht]
    simp only [dlt hlt,d0le,Bool.and_self,cond_true,tn,zah,hc _ hxm _ (hmem i),Option.bind_some,zaz (show i+1 < 9223372036854775807 by omega),hs,List.foldl_append,List.foldl_cons,List.foldl_nil]
    generalize (x.tail.take i).foldl (fun m c=>if 0 < g c m then c else m) (x.headD 0)=m
    by_cases h:0 < g (x.getD (i+1) 0) m
    · rw [decide_eq_true h,cond_true,if_pos h]
    · rw [decide_eq_false h,cond_false,if_neg h]
  · have e:x.length - 1+1=x.length:=by omega
    rw [e]
    simp only [nlt (Nat.le_refl x.length),cond_false]
    rw [List.take_of_length_le (by rw [List.length_tail]; omega)]
theorem d191_eq {x:List Int} {cmp:Int→Int→Option Int} {g:Int→Int→Int} (hx:x ≠ []) (hl:x.length≤1000) (hc:∀ a∈x,∀ b∈x,cmp a b=some (g a b)):d191 x cmp=some (x.tail.foldl (fun m c=>if g c m < 0 then c else m) (x.headD 0)):=by
  have hp:=List.length_pos_iff.2 hx
  unfold d191
  rw [decide_eq_false (show ¬ ((x.length:Int) < 1) by omega),cond_false,show (decide (0≤0) && decide ((0:Int) < (x.length:Int)))=true by rw [decide_eq_true (show (0:Int) < (x.length:Int) by omega)]; rfl,cond_true]
  have hmem:∀ i,(x.tail.take i).foldl (fun m c=>if g c m < 0 then c else m) (x.headD 0)∈x:=fun i=>by
    cases x with
    | nil=>exact absurd rfl hx
    | cons y x =>
      simp only [List.tail_cons,List.headD_cons]
      rcases zjs (fun m c=>if g c m < 0 then c else m) (fun a b=>by split <;> simp) (x.take i) y with h | h
      · rw [h]; simp
      · exact List.mem_cons_of_mem _ (List.mem_of_mem_take h)
  refine zac (fun i=>(x,cmp,(x.tail.take i).foldl (fun m c=>if g c m < 0 then c else m) (x.headD 0),((i+1:Nat):Int))) (x.length - 1) ?_ (fun i hi=>?_) (b:=x.tail.foldl (fun m c=>if g c m < 0 then c else m) (x.headD 0)) ?_ rfl
  · rw [List.take_zero,List.foldl_nil]
    cases x with
    | nil=>exact absurd rfl hx
    | cons y x=>rfl
  · have hlt:i+1 < x.length:=by omega
    have hxm:x.getD (i+1) 0∈x:=zcn hlt
    have ht:x.tail.getD i 0=x.getD (i+1) 0:=by
      cases x with
      | nil=>exact absurd rfl hx
      | cons y x=>rfl
    have hs:x.tail.take (i+1)=x.tail.take i++[x.getD (i+1) 0]:=by rw [zbb x.tail 0 (by rw [List.length_tail]; omega),ht]
    simp only [dlt hlt,d0le,Bool.and_self,cond_true,tn,zah,hc _ hxm _ (hmem i),Option.bind_some,zaz (show i+1 < 9223372036854775807 by omega),hs,List.foldl_append,List.foldl_cons,List.foldl_nil]
    generalize (x.tail.take i).foldl (fun m c=>if g c m < 0 then c else m) (x.headD 0)=m
    by_cases h:g (x.getD (i+1) 0) m < 0
    · rw [decide_eq_true h,cond_true,if_pos h]
    · rw [decide_eq_false h,cond_false,if_neg h]
  · have e:x.length - 1+1=x.length:=by omega
    rw [e]
    simp only [nlt (Nat.le_refl x.length),cond_false]
    rw [List.take_of_length_le (by rw [List.length_tail]; omega)]
structure LotsOK (n:Nat) (lots:List Int):Prop where
  n1:1≤n
  n7:n≤7
  len:lots.length=n
  within:∀ c∈lots,∃ i:Nat,c=(i:Int)∧i < n
  nodup:lots.Nodup
theorem LotsOK.mem {n:Nat} {lots:List Int} (h:LotsOK n lots) {i:Nat} (hi:i < n):(i:Int)∈lots:=by
  refine Decidable.byContradiction fun hni=>?_
  have:=zji (n:=n) ((i:Int)::lots) (List.nodup_cons.2 ⟨hni,h.nodup⟩) (fun x hx=>by
    rcases List.mem_cons.1 hx with rfl | hx
    · omega
    · obtain ⟨j,rfl,hj⟩:=h.within x hx; omega)
  rw [List.length_cons,h.len] at this
  omega
theorem d185_eq {n:Nat} {ties:Int} {tied lots:List Int} (h1:1≤ties) (h3:ties≤3) (hl:LotsOK n lots) (ht:tied ≠ []) (hts:tied.Pairwise (· < ·)) (htb:∀ c∈tied,∃ i:Nat,c=(i:Int)∧i < n) (htl:tied.length≤1000):d185 ties tied lots=some true:=by
  have hn1:=hl.n1
  have hn7:=hl.n7
  have hp:=List.length_pos_iff.2 ht
  unfold d185
  rw [zah]
  simp only [hl.len,decide_eq_false (show ¬ ties < 1 by omega),decide_eq_false (show ¬ 3 < ties by omega),decide_eq_false (show ¬ (n:Int) < 1 by omega),decide_eq_false (show ¬ 7 < (n:Int) by omega),decide_eq_false (show ¬ (tied.length:Int)=0 by omega),Bool.not_false,cond_true,cond_false]
  refine zac (fun i=>(tied,(n:Int),lst (fun v=>decide ((v:Int)∈lots.take i)) 7,lots,(n:Int),(i:Int))) n ?_ (fun i hi=>?_) (b:=.inl (tied,(n:Int))) ?_ ?_
  · simp only [List.take_zero,List.not_mem_nil,decide_false]; rfl
  · have hil:i < lots.length:=by rw [hl.len]; exact hi
    obtain ⟨c,hc,hcn⟩:=hl.within _ (zcn hil)
    have hnot:decide ((c:Int)∈lots.take i)=false:=decide_eq_false fun hm=>by
      have:=hl.nodup.sublist (List.take_sublist (i+1) lots)
      rw [zbb lots 0 hil,hc,List.nodup_append] at this
      exact this.2.2 _ hm _ (by simp) rfl
    simp only [dlt hi,hl.len,d0le,Bool.and_self,cond_true,tn,zah,hc,decide_eq_false (show ¬ (c:Int) < 0 by omega),decide_eq_false (show ¬ (n:Int)≤(c:Int) by omega),Bool.not_false,show decide ((c:Int) < 7)=true from decide_eq_true (by omega),zau (fun v=>decide ((v:Int)∈lots.take i)) (show c < 7 by omega),hnot,cond_false,zdv,zaz (show i < 9223372036854775807 by omega)]
    have e:lst (upd (fun v=>decide ((v:Int)∈lots.take i)) c true) 7=lst (fun v=>decide ((v:Int)∈lots.take (i+1))) 7:=zbe fun v hv=>by
      rw [zbb lots 0 hil,hc]
      unfold upd
      by_cases hvc:v=c
      · subst hvc; simp
      · rw [if_neg hvc]
        refine decide_eq_decide.2 ?_
        rw [List.mem_append,List.mem_singleton]
        exact ⟨.inl,fun hm=>hm.resolve_right fun e=>hvc (Int.ofNat_inj.1 e)⟩
    rw [e]
  · simp only [nlt (Nat.le_refl n),cond_false]
  · simp only
    refine zac (fun i=>(tied,(n:Int),tied,(tied.length:Int),(i:Int))) tied.length rfl (fun i hi=>?_) (b:=.inl ()) ?_ rfl
    · obtain ⟨c,hc,hcn⟩:=htb _ (zcn hi)
      simp only [dlt hi,d0le,Bool.and_self,cond_true,tn,zah,hc,decide_eq_false (show ¬ (c:Int) < 0 by omega),decide_eq_false (show ¬ (n:Int)≤(c:Int) by omega),Bool.not_false,zaz (show i < 9223372036854775807 by omega)]
      cases i with
      | zero=>rfl
      | succ i =>
        have hlt:tied.getD i 0 < tied.getD (i+1) 0:=by
          rw [List.getD_eq_getElem?_getD,List.getElem?_eq_getElem (by omega),List.getD_eq_getElem?_getD,List.getElem?_eq_getElem hi]
          exact List.pairwise_iff_getElem.1 hts i (i+1) (by omega) hi (by omega)
        rw [hc] at hlt
        simp only [show decide ((0:Int) < ((i+1:Nat):Int))=true from decide_eq_true (by omega),cond_true,wpred (show i < 9223372036854775807 by omega),d0le,dlt (show i < tied.length by omega),Bool.and_self,tn,decide_eq_false (show ¬ (c:Int)≤tied.getD i 0 by omega),cond_false]
    · simp only [nlt (Nat.le_refl tied.length),cond_false]
def RndOK (n:Nat) (r:List Rat):Prop:=r.length=n∧∀ q∈r,Bz eB q
theorem zmz {r:List Rat} {c:Nat} (h:c < r.length):(r.map rr).getD c (false,[],[])=rr (r.getD c 0):=by
  rw [List.getD_eq_getElem?_getD,List.getElem?_map,List.getElem?_eq_getElem h,List.getD_eq_getElem?_getD,List.getElem?_eq_getElem h]; rfl
theorem zca {α:Type} {l:List α} {d:α} {i:Nat} (h:i < l.length):l.getD i d∈l:=by
  rw [List.getD_eq_getElem?_getD,List.getElem?_eq_getElem h]
  exact List.getElem_mem h
theorem RndOK.bz {n:Nat} {r:List Rat} (h:RndOK n r) {c:Nat} (hc:c < n):Bz eB (zag r (c:Int)):=h.2 _ (zca (by rw [h.1]; exact hc))
theorem d213_eq {n:Nat} {r:List Rat} (h:RndOK n r) {c:Nat} (hc:c < n):d213 (r.map rr) (c:Int)=some (rr (zag r (c:Int))):=by
  have hc':c < r.length:=by rw [h.1]; exact hc
  unfold d213
  rw [List.length_map,dlt hc']
  simp only [cond_true,d0le,Bool.and_self,tn,zmz hc']
  rfl
theorem w_ord (least:Bool) (a b:Rat):(bif !least then w (0 - cmpQ a b) else cmpQ a b)=ordQ least a b:=by
  have:=zns a b
  unfold ordQ
  cases least
  · rw [Bool.not_false,cond_true,zbl (by omega) (by omega)]; rfl
  · rfl
theorem zdm (l:List Int):l.getD 0 0=l.headD 0:=by cases l <;> rfl
theorem ext0_len (ρ:Int→Rat) (l:List Int):(ext0 ρ l).length≤l.length:=List.length_filter_le _ _
theorem d187_eq {n:Nat} {r:List Rat} (h:RndOK n r) {l:List Int} (hl:∀ c∈l,∃ i:Nat,c=(i:Int)∧i < n) (hll:l.length≤1000) (least:Bool):d187 l (r.map rr) least=some (extr least (zag r) l):=by
  rw [extr_ext0]
  unfold d187
  refine zac (fun i=>(r.map rr,least,ext0 (sgR least (zag r)) (l.take i),l,(l.length:Int),(i:Int))) l.length rfl (fun i hi=>?_) (b:=ext0 (sgR least (zag r)) l) ?_ rfl
  · obtain ⟨c,hc,hcn⟩:=hl _ (zcn hi)
    have hol:=ext0_len (sgR least (zag r)) (l.take i)
    rw [List.length_take] at hol
    simp only [dlt hi,d0le,Bool.and_self,cond_true,tn,zah,hc,zaz (show i < 9223372036854775807 by omega)]
    rw [zbb l 0 hi,hc]
    by_cases hi0:l.take i=[]
    · rw [hi0,ext0_nil]
      have e:ext0 (sgR least (zag r)) ([]++[(c:Int)])=[(c:Int)]:=by
        have:sgR least (zag r) (c:Int)≤sgR least (zag r) (c:Int):=Rat.le_refl
        simp [ext0,List.filter_cons,this]
      rw [e]
      simp only [show decide ((0:Int) < (([]:List Int).length:Int))=false from rfl,cond_false,show decide ((-1:Int)≤0)=true from rfl,cond_true,zbj (l:=([]:List Int)) (d:=(c:Int)) (by simp)]
      rfl
    · have hne:=ext0_ne (ρ:=sgR least (zag r)) hi0
      have hpos:=List.length_pos_iff.2 hne
      obtain ⟨y,hy⟩:∃ y,(ext0 (sgR least (zag r)) (l.take i)).headD 0=y:=⟨_,rfl⟩
      have hym:y∈l:=by
        have:=zhm hne
        rw [hy] at this
        exact List.mem_of_mem_take (zlx.1 this).1
      obtain ⟨d,rfl,hdn⟩:=hl _ hym
      rw [ext0_snoc _ _ hi0,hy]
      generalize ext0 (sgR least (zag r)) (l.take i)=out at *
      have hlt1:=ordQ_lt least (zag r) (c:Int) (d:Int)
      have heq1:=ordQ_eq least (zag r) (c:Int) (d:Int)
      have hg0:(decide (0≤0) && decide ((0:Int) < (out.length:Int)))=true:=by
        rw [decide_eq_true (show (0:Int) < (out.length:Int) by omega)]; rfl
      have hg1:decide ((0:Int) < (out.length:Int))=true:=decide_eq_true (by omega)
      have hcut:zdg 0 0 out.length=true:=by
        unfold zdg
        simp only [Bool.and_eq_true,decide_eq_true_eq]
        omega
      have hb:=w_ord least (zag r (c:Int)) (zag r (d:Int))
      rw [hg0]
      simp only [hg1,cond_true,zdm,hy,d213_eq h hcn,d213_eq h hdn,Option.bind_some,d137_rr (h.bz hcn).sz2 (h.bz hdn).sz2,hcut,List.take_zero]
      have hcl:decide ((([]:List Int).length:Int)+(([(c:Int)]:List Int).length:Int)≤LIM)=true:=zbj (l:=([]:List Int)) (d:=(c:Int)) (by simp)
      have hol2:=zbj (l:=out) (d:=(c:Int)) (by omega)
      have key:∀ o:Int,o=ordQ least (zag r (c:Int)) (zag r (d:Int))→(bif decide (o < 0) then
          bif decide (o≤0) then
            bif decide ((([]:List Int).length:Int)+(([(c:Int)]:List Int).length:Int)≤LIM) then (some (Sum.inl (r.map rr,least,([]:List Int)++[(c:Int)],l,(l.length:Int),((i+1:Nat):Int))):Option ((List Rt × Bool × List Int × List Int × Int × Int) ⊕ List Int)) else none
          else some (Sum.inl (r.map rr,least,([]:List Int),l,(l.length:Int),((i+1:Nat):Int)))
        else
          bif decide (o≤0) then
            bif decide ((out.length:Int)+(([(c:Int)]:List Int).length:Int)≤LIM) then some (Sum.inl (r.map rr,least,out++[(c:Int)],l,(l.length:Int),((i+1:Nat):Int))) else none
          else some (Sum.inl (r.map rr,least,out,l,(l.length:Int),((i+1:Nat):Int))))=some (.inl (r.map rr,least,if sgR least (zag r) (c:Int) < sgR least (zag r) (d:Int) then [(c:Int)] else if sgR least (zag r) (c:Int)=sgR least (zag r) (d:Int) then out++[(c:Int)] else out,l,(l.length:Int),((i+1:Nat):Int))):=by
        intro o ho
        rw [← ho] at hlt1 heq1
        rw [hcl,hol2]
        by_cases c1:o < 0
        · rw [decide_eq_true c1] at hlt1
          rw [if_pos (of_decide_eq_true hlt1.symm),decide_eq_true c1,decide_eq_true (show o≤0 by omega)]; rfl
        · rw [decide_eq_false c1] at hlt1
          rw [if_neg (of_decide_eq_false hlt1.symm),decide_eq_false c1]
          by_cases c2:o=0
          · rw [decide_eq_true c2] at heq1
            rw [if_pos (of_decide_eq_true heq1.symm),decide_eq_true (show o≤0 by omega)]; rfl
          · rw [decide_eq_false c2] at heq1
            rw [if_neg (of_decide_eq_false heq1.symm),decide_eq_false (show ¬ o≤0 by omega)]; rfl
      cases least
      · rw [Bool.not_false,cond_true] at hb ⊢
        exact key _ hb
      · rw [Bool.not_true,cond_false] at hb ⊢
        exact key _ hb
  · simp only [nlt (Nat.le_refl l.length),cond_false,List.take_length]
theorem zoj:∀ {least:Bool} {rs:List (List Rat)} {l:List Int},l.length≤1→tieL least rs l=l
  | _,[],_,_=>rfl
  | least,r::rs,l,h=>by
    show tieL least rs (if 1 < l.length then extr least (zag r) l else l)=l
    rw [if_neg (by omega)]
    exact zoj h
theorem tieL_snoc (least:Bool) (rs:List (List Rat)) (r:List Rat) (l:List Int):tieL least (rs++[r]) l=if 1 < (tieL least rs l).length then extr least (zag r) (tieL least rs l) else tieL least rs l:=by
  unfold tieL
  rw [List.foldl_append]; rfl
theorem tieL_append (least:Bool) (rs rs':List (List Rat)) (l:List Int):tieL least (rs++rs') l=tieL least rs' (tieL least rs l):=by
  unfold tieL
  rw [List.foldl_append]
theorem extr_len (least:Bool) (r:Int→Rat) (l:List Int):(extr least r l).length≤l.length:=List.length_filter_le _ _
theorem ziz:∀ (least:Bool) (rs:List (List Rat)) (l:List Int),(tieL least rs l).length≤l.length
  | _,[],_=>Nat.le_refl _
  | least,r::rs,l=>by
    show (tieL least rs (if 1 < l.length then extr least (zag r) l else l)).length≤_
    refine Nat.le_trans (ziz least rs _) ?_
    split
    · exact extr_len _ _ _
    · exact Nat.le_refl _
theorem d155_eq {n:Nat} {ties:Int} {E:List (List Rat)} {tied lots:List Int} {least:Bool} (h1:1≤ties) (h3:ties≤3) (hl:LotsOK n lots) (hE:∀ r∈E,RndOK n r) (hEl:E.length≤1000000) (ht:tied ≠ []) (hts:tied.Pairwise (· < ·)) (htb:∀ c∈tied,∃ i:Nat,c=(i:Int)∧i < n) (htl:tied.length≤1000) :
    ∃ b,d155 ties (E.map (List.map rr)) tied lots least=some (tieB ties E tied lots least,b,E.map (List.map rr)):=by
  have hcl:d186 tied=some tied:=by unfold d186; rw [zbs (by omega)]; rfl
  unfold d155
  rw [d185_eq h1 h3 hl ht hts htb htl]
  simp only [Option.bind_some,Bool.not_true,cond_false,hcl]
  have hfin:∀ left:List Int,left=tieL least (zai ties E) tied→∃ b,(bif (decide ((left.length:Int)=1)) then
      bif (decide (0≤0) && decide (0 < (left.length:Int))) then
        some ((List.getD left 0 0),false,E.map (List.map rr))
      else none
    else
      bif least then
        (d190 left (fun a a_1=>d188 a a_1 lots)).bind fun r_3 =>
        some (r_3,true,E.map (List.map rr))
      else
        (d191 left (fun a_2 a_3=>d188 a_2 a_3 lots)).bind fun r_4 =>
        some (r_4,true,E.map (List.map rr)))=some (tieB ties E tied lots least,b,E.map (List.map rr)):=by
    intro left hleft
    have hne:left ≠ []:=by rw [hleft]; exact zpp ht
    have hlen:left.length≤tied.length:=by rw [hleft]; exact ziz _ _ _
    have hlot:∀ a∈left,a∈lots:=fun a ha=>by
      rw [hleft] at ha
      obtain ⟨i,rfl,hi⟩:=htb _ (zgk ha)
      exact hl.mem hi
    have hll:=hl.len
    have hn7:=hl.n7
    unfold tieB
    simp only [← hleft]
    by_cases hone:left.length=1
    · refine ⟨false,?_⟩
      rw [if_pos hone,hone,zdm]; rfl
    · refine ⟨true,?_⟩
      rw [if_neg hone,decide_eq_false (show ¬ (left.length:Int)=1 by omega),cond_false]
      have hc:∀ a∈left,∀ b∈left,d188 a b lots=some ((zcj lots a:Int) - (zcj lots b:Int)):=fun a ha b hb=>d188_eq (by omega) (hlot a ha) (hlot b hb)
      cases least
      · rw [cond_false,d191_eq hne (by omega) hc,Option.bind_some]
        unfold zil
        simp only [Bool.false_eq_true,if_false]
        congr 3
        funext m c
        by_cases h:zcj lots c < zcj lots m
        · rw [if_pos h,if_pos (by omega)]
        · rw [if_neg h,if_neg (by omega)]
      · rw [cond_true,d190_eq hne (by omega) hc,Option.bind_some]
        unfold zil
        simp only [if_true]
        congr 3
        funext m c
        by_cases h:zcj lots m < zcj lots c
        · rw [if_pos h,if_pos (by omega)]
        · rw [if_neg h,if_neg (by omega)]
  refine zda (Q:=fun r=>∃ b,r=some (tieB ties E tied lots least,b,E.map (List.map rr))) (fun (M:Nat) (st:Int × (List (List Rt)) × Bool × (List Int) × (List Int) × Int)=>∃ i:Nat,st=(ties,E.map (List.map rr),least,lots,tieL least ((zai ties E).take i) tied,(i:Int))∧i+M=E.length) E.length ⟨0,by rw [List.take_zero]; rfl,by omega⟩ ?_
  rintro M st ⟨i,rfl,hM⟩
  have hsub:∀ c∈tieL least ((zai ties E).take i) tied,∃ j:Nat,c=(j:Int)∧j < n:=fun c hc=>htb c (zgk hc)
  have hlen:=ziz least ((zai ties E).take i) tied
  obtain ⟨left,hleft⟩:∃ left,tieL least ((zai ties E).take i) tied=left:=⟨_,rfl⟩
  rw [hleft] at hsub hlen
  have hEm:(E.map (List.map rr)).length=E.length:=List.length_map ..
  simp only [hleft,hEm,zah]
  by_cases c3:ties=3
  · have hr:zai ties E=[]:=by unfold zai; rw [if_pos c3]
    have hq:left=tieL least (zai ties E) tied:=by rw [← hleft,hr,List.take_nil]
    have hd3:(!decide (ties=3))=false:=by rw [decide_eq_true c3]; rfl
    refine .inr ⟨(E.map (List.map rr),least,lots,left),?_,hfin left hq⟩
    rw [hd3]
    simp only [cond_false]
    cases decide ((i:Int) < (E.length:Int)) <;> cases decide (1 < (left.length:Int)) <;> rfl
  · have hd3:(!decide (ties=3))=true:=by rw [decide_eq_false c3]; rfl
    have hrl:(zai ties E).length=E.length:=by
      unfold zai
      rw [if_neg c3]
      split
      · exact List.length_reverse
      · rfl
    rw [hd3]
    rcases Nat.eq_zero_or_pos M with h0 | h0
    · have hq:left=tieL least (zai ties E) tied:=by rw [← hleft,List.take_of_length_le (by omega)]
      refine .inr ⟨(E.map (List.map rr),least,lots,left),?_,hfin left hq⟩
      simp only [nlt (show E.length≤i by omega),cond_false]
    · have hiE:i < E.length:=by omega
      by_cases hl1:1 < left.length
      · have hg:decide ((1:Int) < (left.length:Int))=true:=decide_eq_true (by omega)
        have key:∀ (r:List Rat) (z:List Rt),r∈E→(zai ties E).getD i []=r→z=r.map rr→d187 left z least=some (tieL least ((zai ties E).take (i+1)) tied):=by
          rintro r z hr hri rfl
          rw [d187_eq (hE r hr) hsub (by omega),zbb (zai ties E) [] (by omega),tieL_snoc,hleft,hri,if_pos hl1]
        refine .inl ⟨(ties,E.map (List.map rr),least,lots,tieL least ((zai ties E).take (i+1)) tied,((i+1:Nat):Int)),M - 1,?_,by omega,i+1,rfl,by omega⟩
        simp only [dlt hiE,hg,cond_true,d0le,Bool.and_self,tn,zaz (show i < 9223372036854775807 by omega)]
        by_cases c1:ties=1
        · have i1:w (w ((E.length:Int) - 1) - (i:Int))=((E.length - 1 - i:Nat):Int):=by
            rw [zbl (n:=(E.length:Int) - 1) (by omega) (by omega),zbl (by omega) (by omega)]; omega
          have hgr:(zai ties E).getD i []=E.getD (E.length - 1 - i) []:=by
            unfold zai
            rw [if_neg c3,if_pos c1]
            rw [List.getD_eq_getElem?_getD,List.getElem?_reverse hiE,List.getD_eq_getElem?_getD]
          have hz:(E.map (List.map rr)).getD (E.length - 1 - i) []=(E.getD (E.length - 1 - i) []).map rr:=by
            rw [List.getD_eq_getElem?_getD,List.getElem?_map,List.getElem?_eq_getElem (by omega),List.getD_eq_getElem?_getD,List.getElem?_eq_getElem (by omega)]; rfl
          simp only [decide_eq_true c1,cond_true,i1,d0le,dlt (show E.length - 1 - i < E.length by omega),Bool.and_self,tn]
          rw [key _ _ (zca (by omega)) hgr hz]; rfl
        · have hgr:(zai ties E).getD i []=E.getD i []:=by
            unfold zai
            rw [if_neg c3,if_neg c1]
          have hz:(E.map (List.map rr)).getD i []=(E.getD i []).map rr:=by
            rw [List.getD_eq_getElem?_getD,List.getElem?_map,List.getElem?_eq_getElem hiE,List.getD_eq_getElem?_getD,List.getElem?_eq_getElem hiE]; rfl
          simp only [decide_eq_false c1,cond_false]
          rw [key _ _ (zca (by omega)) hgr hz]; rfl
      · have hg:decide ((1:Int) < (left.length:Int))=false:=decide_eq_false (by omega)
        have hq:left=tieL least (zai ties E) tied:=by
          have e:=tieL_append least ((zai ties E).take i) ((zai ties E).drop i) tied
          rw [List.take_append_drop,hleft,zoj (l:=left) (by omega)] at e
          exact e.symm
        refine .inr ⟨(E.map (List.map rr),least,lots,left),?_,hfin left hq⟩
        simp only [dlt hiE,hg,cond_true,cond_false]
end Go.Proofs.YtmipjomnjkmdbaaGreat
set_option linter.unusedSimpArgs false
set_option linter.unusedVariables false
namespace Go.Proofs.YtmipjomnjkmdbaaGreat
open Go Go.X
set_option maxHeartbeats 1000000 in
theorem d178_eq {c:CT} {lots:List Int} {tot q:Int} {pc:List (List Int × (Int × (Int × Rt)))} {stl:List Int} {kp:List Rt} {filled:Int} {E:List (List Rat)} {rest:Int × (Int × (Int × (Int × (List RD × List Int))))}
    {n:Nat} {v:Nat→Rat} {kk:List Rt} {qu ex su:Rt} {el ex2 ti cls:List Int} {ties:Int} {least:Bool} (hties:c.2.2.2.2.2.2.1=ties) (h1:1≤ties) (h3:ties≤3) (hl:LotsOK n lots) (hE:∀ r∈E,RndOK n r) (hEl:E.length≤1000000)
    (hv:∀ i,i < n→Bz eB (v i)) (hcn:cls ≠ []) (hcs:cls.Pairwise (· < ·)) (hcb:∀ x∈cls,∃ i:Nat,x=(i:Int)∧i < n) (hcl:cls.length≤1000) :
    d178 (c,lots,tot,q,pc,stl,kp,filled,E.map (List.map rr),rest) (lst (fun i=>rr (v i)) n,kk,qu,ex,su,el,ex2,ti) cls least
      = some (if (extr least (fun x=>v x.toNat) cls).length=1 then (extr least (fun x=>v x.toNat) cls).headD 0 else tieB ties E (extr least (fun x=>v x.toNat) cls) lots least,(c,lots,tot,q,pc,stl,kp,filled,E.map (List.map rr),rest),(lst (fun i=>rr (v i)) n,kk,qu,ex,su,el,ex2,if (extr least (fun x=>v x.toNat) cls).length=1 then ti else extr least (fun x=>v x.toNat) cls)):=by
  unfold d178
  obtain ⟨K,hK⟩:∃ K:KT,(c,lots,tot,q,pc,stl,kp,filled,E.map (List.map rr),rest)=K:=⟨_,rfl⟩
  obtain ⟨R,hR⟩:∃ R:RD,(lst (fun i=>rr (v i)) n,kk,qu,ex,su,el,ex2,ti)=R:=⟨_,rfl⟩
  have hR1:R.1=lst (fun i=>rr (v i)) n:=by rw [← hR]
  rw [hK,hR]
  refine zac (fun i=>(K,R,least,ext0 (sgR least (fun x=>v x.toNat)) (cls.take i),cls,(cls.length:Int),(i:Int))) cls.length rfl (fun i hi=>?_) (b:=(K,R,least,ext0 (sgR least (fun x=>v x.toNat)) cls)) ?_ ?_
  · obtain ⟨c,hc,hcn⟩:=hcb _ (zcn hi)
    have hol:=ext0_len (sgR least (fun x=>v x.toNat)) (cls.take i)
    rw [List.length_take] at hol
    simp only [dlt hi,d0le,Bool.and_self,cond_true,tn,zah,hc,zaz (show i < 9223372036854775807 by omega)]
    rw [zbb cls 0 hi,hc]
    by_cases hi0:cls.take i=[]
    · rw [hi0,ext0_nil]
      have e:ext0 (sgR least (fun x=>v x.toNat)) ([]++[(c:Int)])=[(c:Int)]:=by
        have:sgR least (fun x=>v x.toNat) (c:Int)≤sgR least (fun x=>v x.toNat) (c:Int):=Rat.le_refl
        simp [ext0,List.filter_cons,this]
      rw [e]
      rfl
    · have hne:=ext0_ne (ρ:=sgR least (fun x=>v x.toNat)) hi0
      have hpos:=List.length_pos_iff.2 hne
      obtain ⟨y,hy⟩:∃ y,(ext0 (sgR least (fun x=>v x.toNat)) (cls.take i)).headD 0=y:=⟨_,rfl⟩
      have hym:y∈cls:=by
        have:=zhm hne
        rw [hy] at this
        exact List.mem_of_mem_take (zlx.1 this).1
      obtain ⟨d,rfl,hdn⟩:=hcb _ hym
      rw [ext0_snoc _ _ hi0,hy]
      generalize ext0 (sgR least (fun x=>v x.toNat)) (cls.take i)=out at *
      have hlt1:ordQ least (v c) (v d) < 0↔sgR least (fun x=>v x.toNat) (c:Int) < sgR least (fun x=>v x.toNat) (d:Int):=decide_eq_decide.1 (ordQ_lt least (fun x=>v x.toNat) (c:Int) (d:Int))
      have heq1:ordQ least (v c) (v d)=0↔sgR least (fun x=>v x.toNat) (c:Int)=sgR least (fun x=>v x.toNat) (d:Int):=decide_eq_decide.1 (ordQ_eq least (fun x=>v x.toNat) (c:Int) (d:Int))
      have hg0:(decide (0≤0) && decide ((0:Int) < (out.length:Int)))=true:=by
        rw [decide_eq_true (show (0:Int) < (out.length:Int) by omega)]; rfl
      have hg1:decide ((0:Int) < (out.length:Int))=true:=decide_eq_true (by omega)
      have hb:=w_ord least (v c) (v d)
      rw [hg0]
      have hol2:=zbj (l:=out) (d:=(c:Int)) (by omega)
      simp only [hg1,cond_true,zdm,hy,d0le,tn,hR1,zak,dlt hcn,dlt hdn,Bool.and_self,zau (fun i=>rr (v i)) hcn,zau (fun i=>rr (v i)) hdn,d137_rr (hv c hcn).sz2 (hv d hdn).sz2,Option.bind_some,hol2]
      have key:∀ o:Int,o=ordQ least (v c) (v d)→(bif decide (o < 0) then
          (some (Sum.inl (K,R,least,[(c:Int)],cls,(cls.length:Int),((i+1:Nat):Int))):Option ((KT × RD × Bool × List Int × List Int × Int × Int) ⊕ (KT × RD × Bool × List Int)))
        else
          bif decide (o=0) then some (Sum.inl (K,R,least,out++[(c:Int)],cls,(cls.length:Int),((i+1:Nat):Int)))
          else some (Sum.inl (K,R,least,out,cls,(cls.length:Int),((i+1:Nat):Int))))=some (.inl (K,R,least,if sgR least (fun x=>v x.toNat) (c:Int) < sgR least (fun x=>v x.toNat) (d:Int) then [(c:Int)] else if sgR least (fun x=>v x.toNat) (c:Int)=sgR least (fun x=>v x.toNat) (d:Int) then out++[(c:Int)] else out,cls,(cls.length:Int),((i+1:Nat):Int))):=by
        intro o ho
        rw [← ho] at hlt1 heq1
        by_cases c1:o < 0
        · rw [if_pos (hlt1.1 c1),decide_eq_true c1]; rfl
        · rw [if_neg fun h=>c1 (hlt1.2 h),decide_eq_false c1]
          by_cases c2:o=0
          · rw [if_pos (heq1.1 c2),decide_eq_true c2]; rfl
          · rw [if_neg fun h=>c2 (heq1.2 h),decide_eq_false c2]; rfl
      cases least
      · rw [Bool.not_false,cond_true] at hb ⊢
        exact key _ hb
      · rw [Bool.not_true,cond_false] at hb ⊢
        exact key _ hb
  · simp only [nlt (Nat.le_refl cls.length),cond_false,List.take_length]
  · rw [← extr_ext0]
    have htne:extr least (fun x=>v x.toNat) cls ≠ []:=extr_ne hcn
    have htl:=extr_len least (fun x=>v x.toNat) cls
    have hts:(extr least (fun x=>v x.toNat) cls).Pairwise (· < ·):=hcs.sublist List.filter_sublist
    have htb:∀ x∈extr least (fun x=>v x.toNat) cls,∃ i:Nat,x=(i:Int)∧i < n:=fun x hx=>hcb x (extr_sub hx)
    generalize extr least (fun x=>v x.toNat) cls=tied at *
    by_cases hone:tied.length=1
    · simp only [if_pos hone]
      rw [hone,zdm,← hR]; rfl
    · simp only [if_neg hone]
      rw [decide_eq_false (show ¬ (tied.length:Int)=1 by omega),cond_false]
      obtain ⟨b,hb⟩:=d155_eq (least:=least) h1 h3 hl hE hEl htne hts htb (by omega)
      simp only [← hK,← hR,hties,hb,Option.bind_some]
theorem zjr {a b c d:Nat} (hb:0 < b) (hd:0 < d):frac a b * frac c d=frac (a * c) (b * d):=by
  unfold frac
  have h1:(b:Rat) ≠ 0:=by
    have:(0:Rat) < (b:Rat):=by exact_mod_cast hb
    intro e
    rw [e] at this
    exact absurd this (by decide)
  have h2:(d:Rat) ≠ 0:=by
    have:(0:Rat) < (d:Rat):=by exact_mod_cast hd
    intro e
    rw [e] at this
    exact absurd this (by decide)
  rw [Rat.natCast_mul,Rat.natCast_mul]
  grind
theorem frac_cancel {a b c:Nat} (hb:0 < b) (hc:0 < c):frac (a * c) (b * c)=frac a b:=by
  rw [← zjr hb hc]
  have:frac c c=1:=by
    have:=zjp (q:=1) hc
    rw [Nat.one_mul] at this
    exact this
  rw [this,Rat.mul_one]
theorem nxt_congr {p:List Int} {st st':Nat→Nat} (h:∀ i,st i=0↔st' i=0) (k:Nat):nxt p st k=nxt p st' k:=by
  unfold nxt
  congr 3
  funext c
  exact decide_eq_decide.2 (not_congr (h _))
theorem upd_upd {α:Type} (f:Nat→α) (i:Nat) (x y:α):upd (upd f i x) i y=upd f i y:=by
  funext j; unfold upd; split <;> rfl
variable {P:GP} {s:GS}
set_option maxHeartbeats 1000000 in
theorem d180_eq (hP:P.OK) (hI:GI P s) (hG:P.G≤1000000) {c:CT} {lots:List Int} {tot q:Int} {kp:List Rt} {filled:Int} {rest:List (List Rt) × (Int × (Int × (Int × (Int × (List RD × List Int)))))}
    {st st':Nat→Nat} {keep:Nat→Rat} {x a b:Nat} (hst:∀ i,st i=0↔st' i=0) (hb:0 < b) (hab:Bz eB (frac a b)) :
    d180 (c,lots,tot,q,lst (parc P s) P.G,lst (fun i=>(st i:Int)) P.n,kp,filled,rest) (x:Int) (rr (frac a b))
      = some (c,lots,tot,q,lst (parc P (s.move P st' keep x a b)) P.G,lst (fun i=>(st i:Int)) P.n,kp,filled,rest):=by
  unfold d180
  simp only [zak]
  refine zac (fun g=>((c,lots,tot,q,lst (fun j=>if j < g then parc P (s.move P st' keep x a b) j else parc P s j) P.G,lst (fun i=>(st i:Int)) P.n,kp,filled,rest),(x:Int),rr (frac a b),(P.G:Int),(g:Int))) P.G ?_ (fun g hg=>?_) (b:=(c,lots,tot,q,lst (parc P (s.move P st' keep x a b)) P.G,lst (fun i=>(st i:Int)) P.n,kp,filled,rest)) ?_ rfl
  · rfl
  · have hgF:(fun j=>if j < g then parc P (s.move P st' keep x a b) j else parc P s j) g=parc P s g:=by simp
    have hnext:upd (fun j=>if j < g then parc P (s.move P st' keep x a b) j else parc P s j) g (parc P (s.move P st' keep x a b) g)=fun j=>if j < g+1 then parc P (s.move P st' keep x a b) j else parc P s j:=by
      funext j
      unfold upd
      by_cases h:j=g
      · subst h; rw [if_pos rfl,if_pos (by omega)]
      · rw [if_neg h]
        show (if j < g then parc P (s.move P st' keep x a b) j else parc P s j)=_
        by_cases h2:j < g
        · rw [if_pos h2,if_pos (by omega)]
        · rw [if_neg h2,if_neg (by omega)]
    have hplen:=hP.plen g hg
    generalize (fun j=>if j < g then parc P (s.move P st' keep x a b) j else parc P s j)=F at hgF hnext ⊢
    have hw:w ((g:Int)+1)=((g+1:Nat):Int):=by rw [zbl (by omega) (by omega)]; omega
    have stay:s.on P g x=false→lst F P.G=lst (fun j=>if j < g+1 then parc P (s.move P st' keep x a b) j else parc P s j) P.G:=fun h=>by
      rw [← hnext]
      refine zbe fun i hi=>?_
      unfold upd
      by_cases hig:i=g
      · subst hig
        rw [if_pos rfl,hgF]
        unfold parc
        have e1:(s.move P st' keep x a b).at_ i=s.at_ i:=by
          show (if s.on P i x then _ else s.at_ i)=_
          rw [h]; rfl
        have e2:(s.move P st' keep x a b).num i=s.num i * b:=by
          show (if s.on P i x then _ else s.num i * b)=_
          rw [h]; rfl
        have e3:(s.move P st' keep x a b).D=s.D * b:=rfl
        rw [e1,e2,e3,frac_cancel hI.D0 hb]
      · rw [if_neg hig]
    simp only [dlt hg,d0le,zak,Bool.and_self,cond_true,tn,zah,zau F hg,hgF,parc,Int.toNat_natCast,hw]
    by_cases ha:s.at_ g < (P.p g).length
    · obtain ⟨d,d1,d2⟩:=GS.on_ex hP hg ha
      have d3:=GS.on_at d2
      rw [show decide (((P.p g).length:Int)≤(s.at_ g:Int))=false from decide_eq_false (by omega)]
      simp only [Bool.not_false,cond_true,dlt ha,d0le,Bool.and_self,d3,zfu,tn]
      by_cases hdx:d=x
      · subst hdx
        simp only [decide_true,Bool.not_true,cond_false]
        rw [d172_rr (num_small hP hI hg).sz2 hab.sz2,Option.bind_some,zjr hI.D0 hb]
        simp only [zdv,zau (upd F g _) hg,zcr,upd_upd,zaz (show s.at_ g < 9223372036854775807 by omega)]
        have hn1:=nxt_ge (P.p g) st (s.at_ g+1)
        have hn2:=nxt_le st (show s.at_ g+1≤(P.p g).length by omega)
        refine zac (fun m=>((c,lots,tot,q,lst (upd F g (P.p g,(P.k g:Int),((s.at_ g+1+m:Nat):Int),rr (frac (s.num g * a) (s.D * b)))) P.G,lst (fun i=>(st i:Int)) P.n,kp,filled,rest),(d:Int),rr (frac a b),(g:Int),(P.G:Int),(g:Int))) (nxt (P.p g) st (s.at_ g+1) - (s.at_ g+1)) ?_ (fun m hm=>?_) (b:=((c,lots,tot,q,lst (upd F g (P.p g,(P.k g:Int),((nxt (P.p g) st (s.at_ g+1):Nat):Int),rr (frac (s.num g * a) (s.D * b)))) P.G,lst (fun i=>(st i:Int)) P.n,kp,filled,rest),(d:Int),rr (frac a b),(P.G:Int),(g:Int))) ?_ ?_
        · rfl
        · have hlt:s.at_ g+1+m < (P.p g).length:=by omega
          obtain ⟨e,e1,e2⟩:=hP.prefs g hg _ (zcn hlt)
          have hbf:=zos (p:=P.p g) (st:=st) (k:=s.at_ g+1) (i:=s.at_ g+1+m) (by omega) (by omega)
          rw [e1,Int.toNat_natCast] at hbf
          have hd0:decide ((st e:Int)=0)=false:=decide_eq_false (by omega)
          simp only [zau (upd F g _) hg,zcr,dlt hlt,d0le,Bool.and_self,cond_true,tn,e1,zak,dlt e2,zau (fun i=>(st i:Int)) e2,hd0,Bool.not_false,zdv,upd_upd,zaz (show s.at_ g+1+m < 9223372036854775807 by omega)]
          rfl
        · obtain ⟨N,hN⟩:∃ N,nxt (P.p g) st (s.at_ g+1)=N:=⟨_,rfl⟩
          rw [hN] at hn1 hn2 ⊢
          rw [show s.at_ g+1+(N - (s.at_ g+1))=N by omega]
          by_cases hlt:N < (P.p g).length
          · obtain ⟨e,e1,e2⟩:=hP.prefs g hg _ (zcn hlt)
            have hat:=nxt_at (p:=P.p g) (st:=st) (k:=s.at_ g+1) (by rw [hN]; exact hlt)
            rw [hN,e1,Int.toNat_natCast] at hat
            have hd0:decide ((st e:Int)=0)=true:=decide_eq_true (by omega)
            simp only [zau (upd F g _) hg,zcr,dlt hlt,d0le,Bool.and_self,cond_true,cond_false,tn,e1,zak,dlt e2,zau (fun i=>(st i:Int)) e2,hd0,Bool.not_true]
          · simp only [zau (upd F g _) hg,zcr,tn,nlt (show (P.p g).length≤N by omega),cond_false]
        · have e:(P.p g,(P.k g:Int),((nxt (P.p g) st (s.at_ g+1):Nat):Int),rr (frac (s.num g * a) (s.D * b)))=parc P (s.move P st' keep d a b) g:=by
            unfold parc
            have e1:(s.move P st' keep d a b).at_ g=nxt (P.p g) st (s.at_ g+1):=by
              show (if s.on P g d then _ else s.at_ g)=_
              rw [d2,nxt_congr hst]; rfl
            have e2:(s.move P st' keep d a b).num g=s.num g * a:=by
              show (if s.on P g d then s.num g * a else _)=_
              rw [d2]; rfl
            have e3:(s.move P st' keep d a b).D=s.D * b:=rfl
            rw [e1,e2,e3]
          rw [e,hnext]
          simp only [hw]
          rfl
      · have hoff:s.on P g x=false:=by
          cases h:s.on P g x
          · rfl
          · exact absurd (GS.on_uniq d2 h) hdx
        simp only [decide_eq_false hdx,Bool.not_false,cond_true]
        rw [stay hoff]
        rfl
    · have hoff:s.on P g x=false:=by
        cases h:s.on P g x
        · rfl
        · exact absurd (GS.on_lt h) ha
      rw [show decide (((P.p g).length:Int)≤(s.at_ g:Int))=true from decide_eq_true (by omega)]
      simp only [Bool.not_true,cond_false,cond_true]
      rw [stay hoff]
      rfl
  · have e:lst (fun j=>if j < P.G then parc P (s.move P st' keep x a b) j else parc P s j) P.G=lst (parc P (s.move P st' keep x a b)) P.G:=zbe fun i hi=>if_pos hi
    simp only [nlt (Nat.le_refl P.G),cond_false,e]
end Go.Proofs.YtmipjomnjkmdbaaGreat
set_option linter.unusedSimpArgs false
set_option linter.unusedVariables false
namespace Go.Proofs.YtmipjomnjkmdbaaGreat
open Go Go.X
def rdT (r:Rd):RD:=(r.votes.map rr,r.keep.map rr,rr r.quota,rr r.exh,rr r.sur,r.el,r.ex,r.ti)
def KTof (P:GP) (c:CT) (s:GS) (st:Nat→Nat) (fl:Nat) (rs:List Rd):KT :=
  (c,P.lots,(P.tot:Int),(P.q:Int),lst (parc P s) P.G,lst (fun i=>(st i:Int)) P.n,lst (fun i=>rr (s.keep i)) P.n,(fl:Int),(rs.map Rd.votes).map (List.map rr),3,(P.seats:Int),0,(P.n:Int),rs.map rdT,rs.flatMap Rd.el)
variable {P:GP} {s:GS}
theorem zgo (p:Nat→Bool) (g:Int→Bool) (n:Nat):(selI p n).filter g=selI (fun i=>p i && g (i:Int)) n:=by
  unfold selI
  rw [List.filter_map,← selN_filter]
  rfl
theorem sum_sel (p:Nat→Bool) (f:Nat→Nat):∀ n:Nat,((selN p n).map f).sum=sumN (fun i=>if p i then f i else 0) n
  | 0=>rfl
  | n+1=>by
    rw [zmn,List.map_append,List.sum_append,sum_sel p f n,sumN]
    congr 1
    cases p n <;> simp
theorem sum_take_le (l:List Nat) (j:Nat):(l.take j).sum≤l.sum:=by
  conv=>rhs; rw [← List.take_append_drop j l]
  rw [List.sum_append]
  omega
theorem znr (hI:GI P s):cntN (fun i=>decide (s.st i=1)) P.n+cntN (fun i=>decide (s.st i=2)) P.n+cntN (s.el1 P) P.n=s.e1 P+s.e2 P:=by
  unfold cntN GS.e1 GS.e2 cntN
  rw [← zdb,← zdb,← zdb]
  refine zbh fun i hi=>?_
  rcases zbv (P:=P) (s:=s) i with ⟨h0,h1,h2,_⟩ | ⟨h0,h2⟩
  · simp [h0,h1,h2]
  · simp [h2,h0]
theorem tied_eq (hI:GI P s) (st:Nat→Nat) (c:Nat) (most:Bool):extr (!most) (fun x=>frac (s.vt P x.toNat) s.D) (selI (fun i=>decide (st i=c)) P.n)=selI (topsP P (s.vt P) st c most) P.n:=by
  unfold extr
  rw [zgo]
  refine zbu fun i hi=>?_
  unfold topsP
  congr 1
  rw [Bool.eq_iff_iff,List.all_eq_true,List.all_eq_true]
  constructor
  · intro h k hk
    by_cases hc:st k=c
    · have:=h (k:Int) (zce.2 ⟨k,rfl,List.mem_range.1 hk,decide_eq_true hc⟩)
      cases most
      · simpa [hc,znd hI.D0] using this
      · simpa [hc,znd hI.D0] using this
    · simp [hc]
  · intro h x hx
    obtain ⟨k,rfl,hk,hc⟩:=zce.1 hx
    have:=h k (List.mem_range.2 hk)
    rw [hc] at this
    cases most
    · simpa [znd hI.D0] using this
    · simpa [znd hI.D0] using this
theorem frac_div (hD:0 < s.D) {a b:Nat} (hb:0 < b):frac a s.D / frac b s.D=frac a b:=by
  unfold frac
  have h1:(s.D:Rat) ≠ 0:=by
    have:(0:Rat) < (s.D:Rat):=by exact_mod_cast hD
    intro e
    rw [e] at this
    exact absurd this (by decide)
  have h2:(b:Rat) ≠ 0:=by
    have:(0:Rat) < (b:Rat):=by exact_mod_cast hb
    intro e
    rw [e] at this
    exact absurd this (by decide)
  grind
theorem frac_pos {a b:Nat} (ha:0 < a) (hb:0 < b):0 < frac a b:=by
  have:=(frac_lt (a:=0) (b:=a) hb).2 ha
  have e:frac 0 b=0:=by unfold frac; rw [Rat.div_def]; simp
  rwa [e] at this
structure RsOK (P:GP) (s:GS) (rs:List Rd):Prop where
  rnd:∀ r∈rs,RndOK P.n r.votes∧r.el.length≤7
  len:rs.length≤7
  keep:∀ i,i < P.n→Bz eB (s.keep i)
theorem lotsOK (hP:P.OK):LotsOK P.n P.lots:=⟨hP.n1,hP.n7,hP.lotn,hP.lots,hP.lotd⟩
theorem zqp:∀ {rs:List Rd},(∀ r∈rs,r.el.length≤7)→(rs.flatMap Rd.el).length≤7 * rs.length
  | [],_=>by simp
  | r::rs,h=>by
    rw [List.flatMap_cons,List.length_append,List.length_cons]
    have:=zqp (rs:=rs) fun x hx=>h x (List.mem_cons_of_mem _ hx)
    have:=h r (by simp)
    omega
theorem votes_rnd (hP:P.OK) (hI:GI P s):RndOK P.n (lst (fun i=>frac (s.vt P i) s.D) P.n):=⟨zak _ _,fun q hq=>by
  obtain ⟨i,hi,rfl⟩:=mem_lst.1 hq
  exact zbc hP hI (zix hP hI hi)⟩
theorem bz_zero:Bz eB (0:Rat):=by
  have:=bz_nat (n:=0) (by decide)
  exact this
def zco (P:GP) (s:GS) (el:List Int):RD:=(lst (fun i=>rr (frac (s.vt P i) s.D)) P.n,lst (fun i=>rr (s.keep i)) P.n,rr (P.q:Rat),rr (frac (P.tot * s.D - sumN (s.vt P) P.n) s.D),rr (frac (sumN (fun i=>if s.st1 P i=1 then s.vt P i - s.bar P else 0) P.n) s.D),el,[],[])
theorem sur_le (hP:P.OK) (hI:GI P s):sumN (fun i=>if s.st1 P i=1 then s.vt P i - s.bar P else 0) P.n≤P.tot * s.D :=
  Nat.le_trans (zkf fun i _=>by split <;> omega) (zhy hP hI)
theorem q_frac (hI:GI P s):(P.q:Rat)=frac (s.bar P) s.D:=(zjp hI.D0).symm
theorem bar_le (hP:P.OK) (hI:GI P s):Bz eB (frac (s.bar P) s.D):=by rw [← q_frac hI]; exact zje hP
theorem d136_eq (hP:P.OK) (hI:GI P s) {c:Nat} (hc:c < P.n) {r:RD} (h1:r.1=lst (fun i=>rr (frac (s.vt P i) s.D)) P.n) (h2:r.2.2.1=rr (P.q:Rat)):d136 (c:Int) r=some (decide (s.vt P c < s.bar P)):=by
  unfold d136
  simp only [h1,h2,zak,d0le,dlt hc,Bool.and_self,cond_true,tn,zau (fun i=>rr (frac (s.vt P i) s.D)) hc]
  rw [d137_rr (zbc hP hI (zix hP hI hc)).sz2 (zje hP).sz2,Option.bind_some,q_frac hI]
  congr 1
  refine decide_eq_decide.2 ?_
  rw [← frac_lt hI.D0]
  unfold cmpQ
  by_cases h:frac (s.vt P c) s.D < frac (s.bar P) s.D
  · rw [if_pos h]; exact ⟨fun _=>h,fun _=>by omega⟩
  · rw [if_neg h]; exact ⟨fun hc=>by split at hc <;> omega,fun hc=>absurd hc h⟩
set_option maxHeartbeats 1000000 in
theorem d139_eq (hP:P.OK) (hI:GI P s) (hG:P.G≤1000000) {rs:List Rd} (hR:RsOK P s rs) {c:CT} (hc:c.2.2.2.2.2.2.1=P.ties) (fl:Nat) (hf:s.fin P=false) (hm:s.most P=true) (el:List Int) :
    d139 (KTof P c s (s.st1 P) fl rs) (zco P s el)=some (KTof P c (s.trans P (rs.map Rd.votes)) (s.trans P (rs.map Rd.votes)).st fl rs,(zco P s el).1,(zco P s el).2.1,(zco P s el).2.2.1,(zco P s el).2.2.2.1,(zco P s el).2.2.2.2.1,el,[],s.tiedR P):=by
  have hn7:=hP.n7
  have hq5:=hP.q5
  obtain ⟨x,x1,x2,x3⟩:=zea hP hI hf (rs.map Rd.votes)
  rw [hm,if_pos rfl] at x3
  obtain ⟨_,k2,k3⟩:=zir hI x2 x3
  have hb:=bar_pos hP hI
  have hvx:=zix hP hI x2
  have htie:extr false (fun x=>frac (s.vt P x.toNat) s.D) (selI (fun i=>decide (s.st1 P i=1)) P.n)=s.tied P:=by
    have:=tied_eq hI (s.st1 P) 1 true
    unfold GS.tied
    rw [hm]
    exact this
  have hcls:selI (fun i=>decide (s.st1 P i=1)) P.n ≠ []:=List.ne_nil_of_mem (zce.2 ⟨x,rfl,x2,decide_eq_true x3⟩)
  have hcl:(selI (fun i=>decide (s.st1 P i=1)) P.n).length≤1000:=by rw [zbn]; have:=zbm (fun i=>decide (s.st1 P i=1)) P.n; omega
  unfold d139
  rw [show d135 (KTof P c s (s.st1 P) fl rs) 1=some (selI (fun i=>decide (s.st1 P i=1)) P.n) from zkv (k:=KTof P c s (s.st1 P) fl rs) rfl (by omega) 1]
  have hd:=d178_eq (c:=c) (lots:=P.lots) (tot:=(P.tot:Int)) (q:=(P.q:Int)) (pc:=lst (parc P s) P.G) (stl:=lst (fun i=>(s.st1 P i:Int)) P.n) (kp:=lst (fun i=>rr (s.keep i)) P.n) (filled:=(fl:Int)) (E:=rs.map Rd.votes) (rest:=(3,(P.seats:Int),0,(P.n:Int),rs.map rdT,rs.flatMap Rd.el)) (v:=fun i=>frac (s.vt P i) s.D) (kk:=(zco P s el).2.1) (qu:=(zco P s el).2.2.1) (ex:=(zco P s el).2.2.2.1) (su:=(zco P s el).2.2.2.2.1) (el:=el) (ex2:=[]) (ti:=[]) (least:=false) hc (by have:=hP.ties1; omega) hP.ties3 (lotsOK hP) (fun r hr=>by
      obtain ⟨r',h1,rfl⟩:=List.mem_map.1 hr
      exact (hR.rnd r' h1).1) (by rw [List.length_map]; have:=hR.len; omega) (fun i hi=>zbc hP hI (zix hP hI hi)) hcls (zcw _ _) (fun y hy=>by
      obtain ⟨i,h1,h2,_⟩:=zce.1 hy
      exact ⟨i,h1,h2⟩) hcl
  rw [htie] at hd
  have hpick:(if (s.tied P).length=1 then (s.tied P).headD 0 else tieB P.ties (rs.map Rd.votes) (s.tied P) P.lots false)=(x:Int):=by
    rw [← x1]; unfold GS.pick; rw [hm]; rfl
  rw [hpick] at hd
  rw [Option.bind_some,show d178 (KTof P c s (s.st1 P) fl rs) (zco P s el) (selI (fun i=>decide (s.st1 P i=1)) P.n) false=_ from hd,Option.bind_some]
  have hbz:Bz eB (frac (s.vt P x - s.bar P) (s.vt P x)):=zho (zbk hP hI (by omega)) (zbk hP hI hvx) (by decide)
  have h180:=d180_eq (keep:=upd s.keep x (frac (s.vt P x - s.bar P) (s.vt P x))) hP hI hG (c:=c) (lots:=P.lots) (tot:=(P.tot:Int)) (q:=(P.q:Int)) (kp:=lst (fun i=>rr (s.keep i)) P.n) (filled:=(fl:Int)) (rest:=((rs.map Rd.votes).map (List.map rr),3,(P.seats:Int),0,(P.n:Int),rs.map rdT,rs.flatMap Rd.el)) (st:=s.st1 P) (st':=upd (s.st1 P) x 2) (x:=x) (a:=s.vt P x - s.bar P) (b:=s.vt P x) (fun i=>by
    unfold upd
    by_cases h:i=x
    · subst h; rw [if_pos rfl,x3]; omega
    · rw [if_neg h]) (by omega) hbz
  simp only [d0le,zak,dlt x2,Bool.and_self,cond_true,tn,zau (fun i=>rr (frac (s.vt P i) s.D)) x2,znm (show P.q≤9223372036854775807 by omega),Option.bind_some,zno (zbc hP hI hvx).sz2 (zje hP).sz2,q_frac hI,zlw hI.D0 k3]
  have hdiv:d179 (rr (frac (s.vt P x - s.bar P) s.D)) (rr (frac (s.vt P x) s.D))=some (rr (frac (s.vt P x - s.bar P) (s.vt P x)),true):=by
    rw [d179_rr (zbc hP hI (by omega)).sz2 (zbc hP hI hvx).sz2 (frac_pos (by omega) hI.D0),frac_div hI.D0 (by omega)]
  have hd132:d132 (rr (frac (s.vt P x) s.D)) (rr (frac (s.bar P) s.D))=some (rr (frac (s.vt P x - s.bar P) s.D)):=by
    rw [zno (zbc hP hI hvx).sz2 (bar_le hP hI).sz2,zlw hI.D0 k3]
  rw [hd132,Option.bind_some,hdiv,Option.bind_some]
  simp only [h180,Option.bind_some,zak,dlt x2,cond_true,zdv]
  have hxn:(s.pick P (rs.map Rd.votes)).toNat=x:=by rw [x1]; rfl
  congr 1
  unfold KTof GS.trans GS.tiedR zco
  simp only [hxn]
  have e1:lst (upd (fun i=>(s.st1 P i:Int)) x 2) P.n=lst (fun i=>((s.move P (upd (s.st1 P) x 2) (upd s.keep x (frac (s.vt P x - s.bar P) (s.vt P x))) x (s.vt P x - s.bar P) (s.vt P x)).st i:Int)) P.n:=zbe fun i hi=>by
    show upd (fun i=>(s.st1 P i:Int)) x 2 i=((upd (s.st1 P) x 2 i:Nat):Int)
    unfold upd; split <;> rfl
  have e2:lst (upd (fun i=>rr (s.keep i)) x (rr (frac (s.vt P x - s.bar P) (s.vt P x)))) P.n=lst (fun i=>rr ((s.move P (upd (s.st1 P) x 2) (upd s.keep x (frac (s.vt P x - s.bar P) (s.vt P x))) x (s.vt P x - s.bar P) (s.vt P x)).keep i)) P.n:=zbe fun i hi=>by
    show upd (fun i=>rr (s.keep i)) x _ i=rr (upd s.keep x _ i)
    unfold upd; split <;> rfl
  rw [e1,e2,q_frac hI]
  rfl
set_option maxHeartbeats 1000000 in
theorem d140_eq (hP:P.OK) (hI:GI P s) (hG:P.G≤1000000) {rs:List Rd} (hR:RsOK P s rs) {c:CT} (hc:c.2.2.2.2.2.2.1=P.ties) (fl:Nat) (hf:s.fin P=false) (hm:s.most P=false) (el:List Int) :
    d140 (KTof P c s (s.st1 P) fl rs) (zco P s el)=some (KTof P c (s.excl P (rs.map Rd.votes)) (s.excl P (rs.map Rd.votes)).st fl rs,(zco P s el).1,(zco P s el).2.1,(zco P s el).2.2.1,(zco P s el).2.2.2.1,(zco P s el).2.2.2.2.1,el,[s.pick P (rs.map Rd.votes)],s.tiedR P):=by
  have hn7:=hP.n7
  obtain ⟨x,x1,x2,x3⟩:=zea hP hI hf (rs.map Rd.votes)
  rw [hm] at x3
  have x3':s.st1 P x=0:=by simpa using x3
  have htie:extr true (fun x=>frac (s.vt P x.toNat) s.D) (selI (fun i=>decide (s.st1 P i=0)) P.n)=s.tied P:=by
    have:=tied_eq hI (s.st1 P) 0 false
    unfold GS.tied
    rw [hm]
    exact this
  have hcls:selI (fun i=>decide (s.st1 P i=0)) P.n ≠ []:=List.ne_nil_of_mem (zce.2 ⟨x,rfl,x2,decide_eq_true x3'⟩)
  have hcl:(selI (fun i=>decide (s.st1 P i=0)) P.n).length≤1000:=by rw [zbn]; have:=zbm (fun i=>decide (s.st1 P i=0)) P.n; omega
  unfold d140
  rw [show d135 (KTof P c s (s.st1 P) fl rs) 0=some (selI (fun i=>decide (s.st1 P i=0)) P.n) from zkv (k:=KTof P c s (s.st1 P) fl rs) rfl (by omega) 0]
  have hd:=d178_eq (c:=c) (lots:=P.lots) (tot:=(P.tot:Int)) (q:=(P.q:Int)) (pc:=lst (parc P s) P.G) (stl:=lst (fun i=>(s.st1 P i:Int)) P.n) (kp:=lst (fun i=>rr (s.keep i)) P.n) (filled:=(fl:Int)) (E:=rs.map Rd.votes) (rest:=(3,(P.seats:Int),0,(P.n:Int),rs.map rdT,rs.flatMap Rd.el)) (v:=fun i=>frac (s.vt P i) s.D) (kk:=(zco P s el).2.1) (qu:=(zco P s el).2.2.1) (ex:=(zco P s el).2.2.2.1) (su:=(zco P s el).2.2.2.2.1) (el:=el) (ex2:=[]) (ti:=[]) (least:=true) hc (by have:=hP.ties1; omega) hP.ties3 (lotsOK hP) (fun r hr=>by
      obtain ⟨r',h1,rfl⟩:=List.mem_map.1 hr
      exact (hR.rnd r' h1).1) (by rw [List.length_map]; have:=hR.len; omega) (fun i hi=>zbc hP hI (zix hP hI hi)) hcls (zcw _ _) (fun y hy=>by
      obtain ⟨i,h1,h2,_⟩:=zce.1 hy
      exact ⟨i,h1,h2⟩) hcl
  rw [htie] at hd
  have hpick:(if (s.tied P).length=1 then (s.tied P).headD 0 else tieB P.ties (rs.map Rd.votes) (s.tied P) P.lots true)=(x:Int):=by
    rw [← x1]; unfold GS.pick; rw [hm]; rfl
  rw [hpick] at hd
  rw [Option.bind_some,show d178 (KTof P c s (s.st1 P) fl rs) (zco P s el) (selI (fun i=>decide (s.st1 P i=0)) P.n) true=_ from hd,Option.bind_some]
  have h180:=d180_eq (keep:=upd s.keep x 0) hP hI hG (c:=c) (lots:=P.lots) (tot:=(P.tot:Int)) (q:=(P.q:Int)) (kp:=lst (fun i=>rr (upd s.keep x 0 i)) P.n) (filled:=(fl:Int)) (rest:=((rs.map Rd.votes).map (List.map rr),3,(P.seats:Int),0,(P.n:Int),rs.map rdT,rs.flatMap Rd.el)) (st:=upd (s.st1 P) x 3) (st':=upd (s.st1 P) x 3) (x:=x) (a:=1) (b:=1) (fun i=>Iff.rfl) (by omega) (zho (Nat.one_lt_two_pow (by decide)) (Nat.one_lt_two_pow (by decide)) (by decide))
  have hone:rr (frac 1 1)=rr (1:Rat):=by rw [zjq]; rfl
  have e1:lst (upd (fun i=>(s.st1 P i:Int)) x 3) P.n=lst (fun i=>((upd (s.st1 P) x 3 i:Nat):Int)) P.n:=zbe fun i hi=>by
    unfold upd; split <;> rfl
  have e2:lst (upd (fun i=>rr (s.keep i)) x (rr 0)) P.n=lst (fun i=>rr (upd s.keep x 0 i)) P.n:=zbe fun i hi=>by
    unfold upd; split <;> rfl
  have hz0:d68 0=some (rr 0):=zpc (n:=0) (by omega) (by omega)
  have hz1:d68 1=some (rr 1):=zpc (n:=1) (by omega) (by omega)
  rw [hone] at h180
  simp only [d0le,zak,dlt x2,Bool.and_self,cond_true,tn,hz0,hz1,Option.bind_some,zdv,e1,e2,h180]
  have hxn:(s.pick P (rs.map Rd.votes)).toNat=x:=by rw [x1]; rfl
  unfold KTof GS.excl GS.tiedR zco
  simp only [hxn,x1]
  rfl
end Go.Proofs.YtmipjomnjkmdbaaGreat
set_option linter.unusedSimpArgs false
set_option linter.unusedVariables false
namespace Go.Proofs.YtmipjomnjkmdbaaGreat
open Go Go.X
variable {P:GP} {s:GS}
theorem zit {α:Type} {l m:List α} (h:l.length+m.length≤4294967296):decide ((l.length:Int)+(m.length:Int)≤LIM)=true:=by
  rw [show (l.length:Int)+(m.length:Int)=((l.length+m.length:Nat):Int) by omega]; exact zbs h
theorem zqc {c:CT} {s:GS} {st:Nat→Nat} {fl:Nat} {rs:List Rd} {r:Rd} {T:RD} {b:Bool} (hT:T=rdT r) (hr:∀ x∈rs,x.el.length≤7) (hl:rs.length≤7) (he:r.el.length≤7) :
    (bif (decide (((KTof P c s st fl rs).2.2.2.2.2.2.2.2.1.length:Int)+(([T.1]:List (List Rt)).length:Int)≤LIM)) then
        bif (decide (((KTof P c s st fl rs).2.2.2.2.2.2.2.2.2.2.2.2.2.1.length:Int)+(([T]:List RD).length:Int)≤LIM)) then
          bif (decide (((KTof P c s st fl rs).2.2.2.2.2.2.2.2.2.2.2.2.2.2.length:Int)+(T.2.2.2.2.2.1.length:Int)≤LIM)) then
            some (!b,((KTof P c s st fl rs).1,(KTof P c s st fl rs).2.1,(KTof P c s st fl rs).2.2.1,(KTof P c s st fl rs).2.2.2.1,(KTof P c s st fl rs).2.2.2.2.1,(KTof P c s st fl rs).2.2.2.2.2.1,(KTof P c s st fl rs).2.2.2.2.2.2.1,(KTof P c s st fl rs).2.2.2.2.2.2.2.1,((KTof P c s st fl rs).2.2.2.2.2.2.2.2.1++[T.1]),(KTof P c s st fl rs).2.2.2.2.2.2.2.2.2.1,(KTof P c s st fl rs).2.2.2.2.2.2.2.2.2.2.1,(KTof P c s st fl rs).2.2.2.2.2.2.2.2.2.2.2.1,(KTof P c s st fl rs).2.2.2.2.2.2.2.2.2.2.2.2.1,((KTof P c s st fl rs).2.2.2.2.2.2.2.2.2.2.2.2.2.1++[T]),((KTof P c s st fl rs).2.2.2.2.2.2.2.2.2.2.2.2.2.2++T.2.2.2.2.2.1)))
          else none
        else none
      else none:Option (Bool × KT))=some (!b,KTof P c s st fl (rs++[r])):=by
  subst hT
  have h1:=zqp hr
  have e1:(KTof P c s st fl rs).2.2.2.2.2.2.2.2.1.length=rs.length:=by simp [KTof]
  have e2:(KTof P c s st fl rs).2.2.2.2.2.2.2.2.2.2.2.2.2.1.length=rs.length:=by simp [KTof]
  have e3:(KTof P c s st fl rs).2.2.2.2.2.2.2.2.2.2.2.2.2.2.length=(rs.flatMap Rd.el).length:=rfl
  rw [zit (by rw [e1]; simp; omega),zit (by rw [e2]; simp; omega),zit (by rw [e3]; show (rs.flatMap Rd.el).length+r.el.length≤_; omega)]
  simp only [cond_true,KTof,List.map_append,List.flatMap_append,List.map_cons,List.map_nil,List.flatMap_cons,List.flatMap_nil,List.append_nil]
  rfl
theorem zef (P:GP) (s:GS) (el ex ti:List Int):((zco P s el).1,(zco P s el).2.1,(zco P s el).2.2.1,(zco P s el).2.2.2.1,(zco P s el).2.2.2.2.1,el,ex,ti)=rdT { s.rd0 P with el:=el,ex:=ex,ti:=ti }:=by
  unfold zco rdT GS.rd0
  simp only [lst_map]
set_option maxHeartbeats 2000000 in
theorem d69_eq (hP:P.OK) (hI:GI P s) (hG:P.G≤1000000) {rs:List Rd} (hR:RsOK P s rs) {c:CT} (hc:c.2.2.2.2.2.2.1=P.ties) (hcs:c.2.2.2.1=(P.seats:Int)) {fl:Nat} (hfl:fl=cntN (fun i=>decide (s.st i=1)) P.n+cntN (fun i=>decide (s.st i=2)) P.n) :
    (s.fin P=true∧∃ st' fl',d69 (KTof P c s s.st fl rs)=some (false,KTof P c s st' fl' (rs++[s.done P]))) ∨
    (s.fin P=false∧s.most P=true∧d69 (KTof P c s s.st fl rs)=some (true,KTof P c (s.trans P (rs.map Rd.votes)) (s.trans P (rs.map Rd.votes)).st (s.e1 P+s.e2 P) (rs++[{ s.rd0 P with ti:=s.tiedR P }]))) ∨
    (s.fin P=false∧s.most P=false∧d69 (KTof P c s s.st fl rs)=some (true,KTof P c (s.excl P (rs.map Rd.votes)) (s.excl P (rs.map Rd.votes)).st (s.e1 P+s.e2 P) (rs++[{ s.rd0 P with ti:=s.tiedR P,ex:=[s.pick P (rs.map Rd.votes)] }]))):=by
  have hn7:=hP.n7
  have hq5:=hP.q5
  have ht5:=hP.tot5
  have hs5:=hP.seats5
  have hsum:=zhy hP hI
  have hz0:d68 0=some (rr 0):=zpc (n:=0) (by omega) (by omega)
  unfold d69
  rw [d130_eq hP hI hG (k:=KTof P c s s.st fl rs) rfl rfl rfl,Option.bind_some,show d131 (KTof P c s s.st fl rs).2.2.2.2.2.2.1=some (lst (fun i=>rr (s.keep i)) P.n) from d131_eq (by omega) hR.keep,Option.bind_some,
    show d68 (KTof P c s s.st fl rs).2.2.2.1=some (rr (P.q:Rat)) from znm (by omega),Option.bind_some,show d68 (KTof P c s s.st fl rs).2.2.1=some (rr (P.tot:Rat)) from znm (by omega),Option.bind_some,zak]
  obtain ⟨K,hK⟩:∃ K:KT,KTof P c s s.st fl rs=K:=⟨_,rfl⟩
  rw [hK]
  have partial_le:∀ i,i≤P.n→sumN (s.vt P) i≤sumN (s.vt P) P.n:=fun i hi=>by
    have key:∀ (f:Nat→Nat) (m n:Nat),m≤n→sumN f m≤sumN f n:=by
      intro f m n
      induction n with
      | zero=>intro h; rw [show m=0 by omega]; exact Nat.le_refl _
      | succ n ih =>
        intro h
        by_cases hm:m=n+1
        · rw [hm]; exact Nat.le_refl _
        · rw [sumN]; have:=ih (by omega); omega
    exact key _ _ _ hi
  have sumS:∀ i,sumN (s.vt P) (i+1)=sumN (s.vt P) i+s.vt P i:=fun i=>rfl
  obtain ⟨R0,hR0⟩:∃ R0:Nat→RD,(fun i=>((lst (fun i=>rr (frac (s.vt P i) s.D)) P.n,lst (fun i=>rr (s.keep i)) P.n,rr (P.q:Rat),rr (frac (P.tot * s.D - sumN (s.vt P) i) s.D),(false,[],[]),[],[],[]):RD))=R0:=⟨_,rfl⟩
  have goalA:∀ X:Option (Bool × KT)→Prop,∀ Kf:KT × RD→Option (Bool × KT),X (Kf (K,R0 P.n))→X ((zae (β:=(KT × RD)) (fun ((t0,t3,t29,t30,t31):KT × RD × (List Rt) × Int × Int) =>
      bif (decide (t31 < t30)) then
        bif (decide (0≤t31) && decide (t31 < (t29.length:Int))) then
          (d132 t3.2.2.2.1 (List.getD t29 (Int.toNat t31) (false,[],[]))).bind fun r_4 =>
          some (Sum.inl (t0,(t3.1,t3.2.1,t3.2.2.1,r_4,t3.2.2.2.2),t29,t30,(w (t31+1))))
        else none
      else
        some (Sum.inr (t0,t3))) (K,(lst (fun i=>rr (frac (s.vt P i) s.D)) P.n,lst (fun i=>rr (s.keep i)) P.n,rr (P.q:Rat),rr (P.tot:Rat),(false,[],[]),[],[],[]),lst (fun i=>rr (frac (s.vt P i) s.D)) P.n,(P.n:Int),0)).bind Kf):=by
    intro X Kf hX
    refine Eq.mpr (congrArg X ?_) hX
    refine zac (fun i=>(K,R0 i,lst (fun i=>rr (frac (s.vt P i) s.D)) P.n,(P.n:Int),(i:Int))) P.n (b:=(K,R0 P.n)) ?_ (fun i hi=>?_) ?_ rfl
    · rw [← hR0]
      simp only [sumN,Nat.sub_zero,zjp hI.D0]; rfl
    · have h1:=partial_le i (by omega)
      have h2:=partial_le (i+1) (by omega)
      rw [sumS] at h2
      have hv:=zix hP hI hi
      have hd:d132 (rr (frac (P.tot * s.D - sumN (s.vt P) i) s.D)) (rr (frac (s.vt P i) s.D))=some (rr (frac (P.tot * s.D - sumN (s.vt P) (i+1)) s.D)):=by
        rw [zno (zbc hP hI (by omega)).sz2 (zbc hP hI hv).sz2,zlw hI.D0 (by omega),sumS,Nat.sub_sub]
      rw [← hR0]
      simp only [dlt hi,d0le,zak,Bool.and_self,cond_true,tn,zau (fun i=>rr (frac (s.vt P i) s.D)) hi,hd,Option.bind_some,zaz (show i < 9223372036854775807 by omega)]
    · simp only [nlt (Nat.le_refl P.n),cond_false]
  refine goalA (fun z=>(s.fin P=true∧∃ st' fl',z=some (false,KTof P c s st' fl' (rs++[s.done P]))) ∨
    (s.fin P=false∧s.most P=true∧z=some (true,KTof P c (s.trans P (rs.map Rd.votes)) (s.trans P (rs.map Rd.votes)).st (s.e1 P+s.e2 P) (rs++[{ s.rd0 P with ti:=s.tiedR P }]))) ∨
    (s.fin P=false∧s.most P=false∧z=some (true,KTof P c (s.excl P (rs.map Rd.votes)) (s.excl P (rs.map Rd.votes)).st (s.e1 P+s.e2 P) (rs++[{ s.rd0 P with ti:=s.tiedR P,ex:=[s.pick P (rs.map Rd.votes)] }])))) _ ?_
  clear goalA
  simp only
  have h5:d135 K 0=some (selI (fun i=>decide (s.st i=0)) P.n):=zkv (k:=K) (by rw [← hK]; rfl) (by omega) 0
  rw [h5,Option.bind_some]
  have h6:d134 (selI (fun i=>decide (s.st i=0)) P.n) (fun a=>d136 a (R0 P.n))=some (selI (s.el1 P) P.n):=by
    have hl:(selI (fun i=>decide (s.st i=0)) P.n).length≤1000000:=by rw [zbn]; have:=zbm (fun i=>decide (s.st i=0)) P.n; omega
    rw [d134_eq (g:=fun c=>decide (s.vt P c.toNat < s.bar P)) (fun x hx=>by
      obtain ⟨i,rfl,hi,_⟩:=zce.1 hx
      exact d136_eq hP hI hi (by rw [← hR0]) (by rw [← hR0])) hl,zgo]
    congr 1
    refine zbu fun i hi=>?_
    unfold GS.el1
    simp only [Int.toNat_natCast]
    congr 1
    by_cases h:s.vt P i < s.bar P
    · rw [decide_eq_true h,decide_eq_false (by omega)]; rfl
    · rw [decide_eq_false h,decide_eq_true (by omega)]; rfl
  rw [h6,Option.bind_some]
  have hKfl:fl≤1000:=by
    have h1:=zbm (fun i=>decide (s.st i=1)) P.n
    have h2:=zbm (fun i=>decide (s.st i=2)) P.n
    omega
  have hcs2:=znr hI
  have h7:d133 K (R0 P.n) (selI (s.el1 P) P.n)=some (KTof P c s (s.st1 P) (s.e1 P+s.e2 P) rs,lst (fun i=>rr (frac (s.vt P i) s.D)) P.n,lst (fun i=>rr (s.keep i)) P.n,rr (P.q:Rat),rr (frac (P.tot * s.D - sumN (s.vt P) P.n) s.D),(false,[],[]),selI (s.el1 P) P.n,[],[]):=by
    rw [← hK,← hR0]
    unfold KTof
    simp only
    rw [d133_eq hn7 hKfl (by simp),List.nil_append,sortI_selI,hfl,hcs2]
    rfl
  rw [h7,Option.bind_some,hz0,Option.bind_some]
  simp only
  have h9:d135 (KTof P c s (s.st1 P) (s.e1 P+s.e2 P) rs) 1=some (selI (fun i=>decide (s.st1 P i=1)) P.n):=zkv (k:=KTof P c s (s.st1 P) (s.e1 P+s.e2 P) rs) rfl (by omega) 1
  have h10:d135 (KTof P c s (s.st1 P) (s.e1 P+s.e2 P) rs) 0=some (selI (fun i=>decide (s.st1 P i=0)) P.n):=zkv (k:=KTof P c s (s.st1 P) (s.e1 P+s.e2 P) rs) rfl (by omega) 0
  rw [h9,Option.bind_some]
  obtain ⟨L,hL⟩:∃ L,selN (fun i=>decide (s.st1 P i=1)) P.n=L:=⟨_,rfl⟩
  have hLi:(selI (fun i=>decide (s.st1 P i=1)) P.n).length=L.length:=by rw [← hL,selI,List.length_map]
  have hLl:L.length≤7:=by rw [← hL,zgn]; have:=zbm (fun i=>decide (s.st1 P i=1)) P.n; omega
  have hLs:(L.map fun i=>s.vt P i - s.bar P).sum=sumN (fun i=>if s.st1 P i=1 then s.vt P i - s.bar P else 0) P.n:=by
    rw [← hL,sum_sel]
    refine zbh fun i hi=>?_
    by_cases h:s.st1 P i=1
    · simp [h]
    · simp [h]
  have hLt:(L.map fun i=>s.vt P i - s.bar P).sum≤P.tot * s.D:=by rw [hLs]; exact sur_le hP hI
  rw [hLi]
  obtain ⟨K1,hK1⟩:∃ K1:KT,KTof P c s (s.st1 P) (s.e1 P+s.e2 P) rs=K1:=⟨_,rfl⟩
  rw [hK1]
  obtain ⟨T,hT⟩:∃ T:Nat→RD,(fun j=>((lst (fun i=>rr (frac (s.vt P i) s.D)) P.n,lst (fun i=>rr (s.keep i)) P.n,rr (P.q:Rat),rr (frac (P.tot * s.D - sumN (s.vt P) P.n) s.D),rr (frac ((L.take j).map fun i=>s.vt P i - s.bar P).sum s.D),selI (s.el1 P) P.n,[],[]):RD))=T:=⟨_,rfl⟩
  have hTb:T L.length=zco P s (selI (s.el1 P) P.n):=by
    rw [← hT]
    simp only [List.take_length,hLs]
    rfl
  have goalB:∀ X:Option (Bool × KT)→Prop,∀ Kf:KT × RD→Option (Bool × KT),X (Kf (K1,zco P s (selI (s.el1 P) P.n)))→X ((zae (β:=(KT × RD)) (fun ((t0_2,t3_2,t50,t51,t52):KT × RD × (List Int) × Int × Int) =>
      bif (decide (t52 < t51)) then
        bif (decide (0≤t52) && decide (t52 < (t50.length:Int))) then
          bif (decide (0≤(List.getD t50 (Int.toNat t52) 0)) && decide ((List.getD t50 (Int.toNat t52) 0) < (t3_2.1.length:Int))) then
            (d132 (List.getD t3_2.1 (Int.toNat (List.getD t50 (Int.toNat t52) 0)) (false,[],[])) t3_2.2.2.1).bind fun r_10 =>
            (d138 t3_2.2.2.2.2.1 r_10).bind fun r_11 =>
            some (Sum.inl (t0_2,(t3_2.1,t3_2.2.1,t3_2.2.2.1,t3_2.2.2.2.1,r_11,t3_2.2.2.2.2.2),t50,t51,(w (t52+1))))
          else none
        else none
      else
        some (Sum.inr (t0_2,t3_2))) (K1,(lst (fun i=>rr (frac (s.vt P i) s.D)) P.n,lst (fun i=>rr (s.keep i)) P.n,rr (P.q:Rat),rr (frac (P.tot * s.D - sumN (s.vt P) P.n) s.D),rr 0,selI (s.el1 P) P.n,[],[]),selI (fun i=>decide (s.st1 P i=1)) P.n,(L.length:Int),0)).bind Kf):=by
    intro X Kf hX
    refine Eq.mpr (congrArg X ?_) hX
    refine zac (fun j=>(K1,T j,selI (fun i=>decide (s.st1 P i=1)) P.n,(L.length:Int),(j:Int))) L.length (b:=(K1,zco P s (selI (s.el1 P) P.n))) ?_ (fun j hj=>?_) ?_ rfl
    · rw [← hT]
      simp only [List.take_zero,List.map_nil,List.sum_nil]
      have:frac 0 s.D=0:=by unfold frac; rw [Rat.div_def]; simp
      rw [this]; rfl
    · have hj':j < (selN (fun i=>decide (s.st1 P i=1)) P.n).length:=by rw [hL]; exact hj
      have hg:=zhg hj'
      have hsg:=zmo hj'
      rw [hL] at hg hsg
      obtain ⟨x,hx⟩:∃ x,L.getD j 0=x:=⟨_,rfl⟩
      rw [hx] at hg hsg
      obtain ⟨_,_,k3⟩:=zir hI hg.1 (of_decide_eq_true hg.2)
      have hv:=zix hP hI hg.1
      have hd1:d132 (rr (frac (s.vt P x) s.D)) (rr (P.q:Rat))=some (rr (frac (s.vt P x - s.bar P) s.D)):=by
        rw [q_frac hI,zno (zbc hP hI hv).sz2 (bar_le hP hI).sz2,zlw hI.D0 k3]
      have hst:((L.take (j+1)).map fun i=>s.vt P i - s.bar P).sum=((L.take j).map fun i=>s.vt P i - s.bar P).sum+(s.vt P x - s.bar P):=by
        rw [zbb L 0 hj,hx,List.map_append,List.sum_append]; simp
      have hle1:((L.take j).map fun i=>s.vt P i - s.bar P).sum≤P.tot * s.D:=by
        rw [List.map_take]; exact Nat.le_trans (sum_take_le _ _) hLt
      have hd2:d138 (rr (frac ((L.take j).map fun i=>s.vt P i - s.bar P).sum s.D)) (rr (frac (s.vt P x - s.bar P) s.D))=some (rr (frac ((L.take (j+1)).map fun i=>s.vt P i - s.bar P).sum s.D)):=by
        rw [d138_rr (zbc hP hI hle1).sz2 (zbc hP hI (by omega)).sz2,zqo hI.D0,hst]
      rw [← hT]
      simp only [dlt hj,d0le,hLi,Bool.and_self,cond_true,tn,hsg,zak,dlt hg.1,zau (fun i=>rr (frac (s.vt P i) s.D)) hg.1,hd1,hd2,Option.bind_some,zaz (show j < 9223372036854775807 by omega)]
    · simp only [nlt (Nat.le_refl L.length),cond_false,hTb]
  refine goalB (fun z=>(s.fin P=true∧∃ st' fl',z=some (false,KTof P c s st' fl' (rs++[s.done P]))) ∨
    (s.fin P=false∧s.most P=true∧z=some (true,KTof P c (s.trans P (rs.map Rd.votes)) (s.trans P (rs.map Rd.votes)).st (s.e1 P+s.e2 P) (rs++[{ s.rd0 P with ti:=s.tiedR P }]))) ∨
    (s.fin P=false∧s.most P=false∧z=some (true,KTof P c (s.excl P (rs.map Rd.votes)) (s.excl P (rs.map Rd.votes)).st (s.e1 P+s.e2 P) (rs++[{ s.rd0 P with ti:=s.tiedR P,ex:=[s.pick P (rs.map Rd.votes)] }])))) _ ?_
  clear goalB hT hTb
  subst hK1
  clear hK h5 h6 h7
  have hel:(selI (s.el1 P) P.n).length≤7:=by rw [zbn]; have:=zbm (s.el1 P) P.n; omega
  have hrl:=hR.len
  have hre:∀ x∈rs,x.el.length≤7:=fun x hx=>(hR.rnd x hx).2
  simp only [zah]
  have hfs:(KTof P c s (s.st1 P) (s.e1 P+s.e2 P) rs).2.2.2.2.2.2.2.1=((s.e1 P+s.e2 P:Nat):Int):=rfl
  have hss:(KTof P c s (s.st1 P) (s.e1 P+s.e2 P) rs).1.2.2.2.1=(P.seats:Int):=hcs
  have helec:=zih hP hI
  simp only [hfs,hss,zfu]
  by_cases hq:s.e1 P+s.e2 P=P.seats
  · have hfin:s.fin P=true:=by
      unfold GS.fin
      rw [Bool.or_eq_true]
      exact .inl (decide_eq_true hq)
    refine .inl ⟨hfin,s.st1 P,s.e1 P+s.e2 P,?_⟩
    simp only [decide_eq_true hq,cond_true]
    have hdone:s.done P={ s.rd0 P with el:=selI (s.el1 P) P.n,ex:=[],ti:=[] }:=by
      unfold GS.done
      have h':¬ (cntN (fun i=>decide (s.st1 P i=1)) P.n+cntN (fun i=>decide (s.st1 P i=2)) P.n < P.seats):=by
        show ¬ (s.e1 P+s.e2 P < P.seats); omega
      simp only [if_neg h']
      rfl
    rw [hdone]
    exact zqc (b:=true) (zef P s (selI (s.el1 P) P.n) [] []) hre (by omega) hel
  · simp only [decide_eq_false hq,cond_false,h10,Option.bind_some]
    have hlen0:(selI (fun i=>decide (s.st1 P i=0)) P.n).length=s.e0 P:=zbn _ _
    have he0:s.e0 P≤7:=by unfold GS.e0; have:=zbm (fun i=>decide (s.st1 P i=0)) P.n; omega
    rw [hlen0,wadd (by omega)]
    by_cases hq2:s.e1 P+s.e2 P+s.e0 P≤P.seats
    · have hfin:s.fin P=true:=by
        unfold GS.fin
        rw [Bool.or_eq_true]
        exact .inr (decide_eq_true hq2)
      rw [show decide (((s.e1 P+s.e2 P+s.e0 P:Nat):Int)≤(P.seats:Int))=true from decide_eq_true (by omega),cond_true]
      have h14:d133 (KTof P c s (s.st1 P) (s.e1 P+s.e2 P) rs) (zco P s (selI (s.el1 P) P.n)) (selI (fun i=>decide (s.st1 P i=0)) P.n)=some (KTof P c s (fun i=>if decide (s.st1 P i=0) then 1 else s.st1 P i) (s.e1 P+s.e2 P+s.e0 P) rs,zco P s (selI (fun i=>s.el1 P i || decide (s.st1 P i=0)) P.n)):=by
        unfold KTof zco
        rw [d133_eq (st:=s.st1 P) hn7 (by omega) (by omega),sortI_two fun i hi=>?_]
        · rfl
        · rcases zbv (P:=P) (s:=s) i with ⟨_,_,h2,_⟩ | ⟨h0,_⟩
          · rw [h2]; rfl
          · rw [h0] at hi; cases hi
      rw [h14,Option.bind_some]
      refine .inl ⟨hfin,fun i=>if decide (s.st1 P i=0) then 1 else s.st1 P i,s.e1 P+s.e2 P+s.e0 P,?_⟩
      have hdone:s.done P={ s.rd0 P with el:=selI (fun i=>s.el1 P i || decide (s.st1 P i=0)) P.n,ex:=[],ti:=[] }:=by
        unfold GS.done
        have h':cntN (fun i=>decide (s.st1 P i=1)) P.n+cntN (fun i=>decide (s.st1 P i=2)) P.n < P.seats:=by
          show s.e1 P+s.e2 P < P.seats; omega
        simp only [if_pos h']
        rfl
      rw [hdone]
      exact zqc (b:=true) (zef P s (selI (fun i=>s.el1 P i || decide (s.st1 P i=0)) P.n) [] []) hre (by omega) (by
        show (selI _ _).length≤7
        rw [zbn]; have:=zbm (fun i=>s.el1 P i || decide (s.st1 P i=0)) P.n; omega)
    · have hfin:s.fin P=false:=by
        unfold GS.fin
        rw [Bool.or_eq_false_iff]
        exact ⟨decide_eq_false hq,decide_eq_false hq2⟩
      rw [show decide (((s.e1 P+s.e2 P+s.e0 P:Nat):Int)≤(P.seats:Int))=false from decide_eq_false (by omega),cond_false,h9,Option.bind_some]
      have hlen1:(selI (fun i=>decide (s.st1 P i=1)) P.n).length=s.e1 P:=zbn _ _
      rw [hlen1]
      refine .inr ?_
      cases hm:s.most P with
      | true =>
        refine .inl ⟨hfin,rfl,?_⟩
        have h0:0 < s.e1 P:=of_decide_eq_true hm
        rw [show decide ((0:Int) < (s.e1 P:Int))=true from decide_eq_true (by omega),cond_true,d139_eq hP hI hG hR hc _ hfin hm,Option.bind_some]
        exact zqc (b:=false) (zef P s (selI (s.el1 P) P.n) [] (s.tiedR P)) hre (by omega) hel
      | false =>
        refine .inr ⟨hfin,rfl,?_⟩
        have h0:¬ 0 < s.e1 P:=of_decide_eq_false hm
        rw [show decide ((0:Int) < (s.e1 P:Int))=false from decide_eq_false (by omega),cond_false,d140_eq hP hI hG hR hc _ hfin hm,Option.bind_some]
        exact zqc (b:=false) (zef P s (selI (s.el1 P) P.n) [s.pick P (rs.map Rd.votes)] (s.tiedR P)) hre (by omega) hel
end Go.Proofs.YtmipjomnjkmdbaaGreat
set_option linter.unusedSimpArgs false
set_option linter.unusedVariables false
namespace Go.Proofs.YtmipjomnjkmdbaaGreat
open Go Go.X
def zmx (n:Int) (lots:List Int):Bool:=decide ((lots.length:Int)=n) && decide (isB n lots)
def fitE (m:Int) (c:CT) (gs:List Grp) (lots:List Int):Int :=
  bif decide (m < 1) || (decide (3 < m) || !decide (c.2.2.1=m)) then 5
  else bif decide ((c.2.1.length:Int) < 1) || (decide (7 < (c.2.1.length:Int)) || (decide (c.2.2.2.1 < 1) || (decide (5 < c.2.2.2.1) || ((decide (m=1) && !decide (c.2.2.2.1=1)) || (!(bif decide (m=2) then decide (1≤c.2.2.2.2.2.1) && decide (c.2.2.2.2.2.1≤6) else decide (c.2.2.2.2.2.1=0)) || (decide (c.2.2.2.2.2.2.1 < 1) || decide (3 < c.2.2.2.2.2.2.1))))))) then 4
  else bif !pileB (c.2.1.length:Int) gs then 8
  else bif !zmx (c.2.1.length:Int) lots then 13
  else 0
set_option maxHeartbeats 2000000 in
theorem d66_eq (m:Int) (c:CT) {gs:List Grp} {lots:List Int} (hg:GsOK gs) (hl:lots.length≤281474976710656):d66 m c gs lots=some (fitE m c gs lots):=by
  have hp:decide ((c.2.1.length:Int) < 1)=false→decide (7 < (c.2.1.length:Int))=false→d124 (c.2.1.length:Int) gs=some (pileB (c.2.1.length:Int) gs):=fun h1 h2=>by
    have h1:=of_decide_eq_false h1
    have h2:=of_decide_eq_false h2
    rw [d124_eq (by omega) hg.1 hg.2]
    unfold pileB goodP
    rw [decide_eq_true (show 1≤(c.2.1.length:Int)∧(c.2.1.length:Int)≤7 by omega)]; rfl
  have hq:decide (7 < (c.2.1.length:Int))=false→d125 lots (c.2.1.length:Int)=some (zmx (c.2.1.length:Int) lots):=fun h2=>by
    have h2:=of_decide_eq_false h2
    unfold d125 zmx
    by_cases h:(lots.length:Int)=(c.2.1.length:Int)
    · rw [decide_eq_true h,cond_true,d165_eq (by omega) hl]; rfl
    · rw [decide_eq_false h]; rfl
  unfold d66 fitE
  cases he2:decide (m=2) <;> cases hg1:decide (1≤c.2.2.2.2.2.1) <;> simp only [he2,hg1,Bool.not_true,Bool.not_false,cond_true,cond_false,Bool.true_or,Bool.false_or,Bool.or_true,Bool.or_false,Bool.true_and,Bool.false_and,Option.bind_some]
  all_goals
    rw [zah]
    cases ha1:decide (m < 1)
    case true=>simp only [ha1,zah,Bool.not_true,Bool.not_false,cond_true,cond_false,Bool.true_or,Bool.false_or,Bool.or_true,Bool.or_false,Bool.true_and,Bool.false_and,Option.bind_some]
    try simp only [ha1,Bool.not_true,Bool.not_false,cond_true,cond_false,Bool.true_or,Bool.false_or,Bool.or_true,Bool.or_false,Bool.true_and,Bool.false_and,Option.bind_some]
    cases ha2:decide (3 < m)
    case true=>simp only [ha2,zah,Bool.not_true,Bool.not_false,cond_true,cond_false,Bool.true_or,Bool.false_or,Bool.or_true,Bool.or_false,Bool.true_and,Bool.false_and,Option.bind_some]
    try simp only [ha2,Bool.not_true,Bool.not_false,cond_true,cond_false,Bool.true_or,Bool.false_or,Bool.or_true,Bool.or_false,Bool.true_and,Bool.false_and,Option.bind_some]
    cases ha3:decide (c.2.2.1=m)
    case false=>simp only [ha3,zah,Bool.not_true,Bool.not_false,cond_true,cond_false,Bool.true_or,Bool.false_or,Bool.or_true,Bool.or_false,Bool.true_and,Bool.false_and,Option.bind_some]
    try simp only [ha3,Bool.not_true,Bool.not_false,cond_true,cond_false,Bool.true_or,Bool.false_or,Bool.or_true,Bool.or_false,Bool.true_and,Bool.false_and,Option.bind_some]
    rw [zah]
    try simp only [Bool.not_true,Bool.not_false,cond_true,cond_false,Bool.true_or,Bool.false_or,Bool.or_true,Bool.or_false,Bool.true_and,Bool.false_and,Option.bind_some]
    cases hn1:decide ((c.2.1.length:Int) < 1)
    case true=>simp only [hn1,zah,Bool.not_true,Bool.not_false,cond_true,cond_false,Bool.true_or,Bool.false_or,Bool.or_true,Bool.or_false,Bool.true_and,Bool.false_and,Option.bind_some]
    try simp only [hn1,Bool.not_true,Bool.not_false,cond_true,cond_false,Bool.true_or,Bool.false_or,Bool.or_true,Bool.or_false,Bool.true_and,Bool.false_and,Option.bind_some]
    cases hn2:decide (7 < (c.2.1.length:Int))
    case true=>simp only [hn2,zah,Bool.not_true,Bool.not_false,cond_true,cond_false,Bool.true_or,Bool.false_or,Bool.or_true,Bool.or_false,Bool.true_and,Bool.false_and,Option.bind_some]
    try simp only [hn2,Bool.not_true,Bool.not_false,cond_true,cond_false,Bool.true_or,Bool.false_or,Bool.or_true,Bool.or_false,Bool.true_and,Bool.false_and,Option.bind_some]
    simp only [zah,hp hn1 hn2,hq hn2,Bool.not_true,Bool.not_false,cond_true,cond_false,Bool.true_or,Bool.false_or,Bool.or_true,Bool.or_false,Bool.true_and,Bool.false_and,Option.bind_some]
    cases hs1:decide (c.2.2.2.1 < 1)
    case true=>simp only [hs1,zah,Bool.not_true,Bool.not_false,cond_true,cond_false,Bool.true_or,Bool.false_or,Bool.or_true,Bool.or_false,Bool.true_and,Bool.false_and,Option.bind_some]
    try simp only [hs1,Bool.not_true,Bool.not_false,cond_true,cond_false,Bool.true_or,Bool.false_or,Bool.or_true,Bool.or_false,Bool.true_and,Bool.false_and,Option.bind_some]
    cases hs2:decide (5 < c.2.2.2.1)
    case true=>simp only [hs2,zah,Bool.not_true,Bool.not_false,cond_true,cond_false,Bool.true_or,Bool.false_or,Bool.or_true,Bool.or_false,Bool.true_and,Bool.false_and,Option.bind_some]
    try simp only [hs2,Bool.not_true,Bool.not_false,cond_true,cond_false,Bool.true_or,Bool.false_or,Bool.or_true,Bool.or_false,Bool.true_and,Bool.false_and,Option.bind_some]
    cases hm1:decide (m=1) <;> cases hso:decide (c.2.2.2.1=1) <;> simp only [hm1,hso,Bool.not_true,Bool.not_false,cond_true,cond_false,Bool.true_or,Bool.false_or,Bool.or_true,Bool.or_false,Bool.true_and,Bool.false_and,Option.bind_some]
    all_goals (try (cases hg2:decide (c.2.2.2.2.2.1≤6) <;> simp only [hg2,Bool.not_true,Bool.not_false,cond_true,cond_false,Bool.true_or,Bool.false_or,Bool.or_true,Bool.or_false,Bool.true_and,Bool.false_and,Option.bind_some]))
    all_goals (try (cases hg0:decide (c.2.2.2.2.2.1=0) <;> simp only [hg0,Bool.not_true,Bool.not_false,cond_true,cond_false,Bool.true_or,Bool.false_or,Bool.or_true,Bool.or_false,Bool.true_and,Bool.false_and,Option.bind_some]))
    all_goals (try (cases ht1:decide (c.2.2.2.2.2.2.1 < 1) <;> simp only [ht1,Bool.not_true,Bool.not_false,cond_true,cond_false,Bool.true_or,Bool.false_or,Bool.or_true,Bool.or_false,Bool.true_and,Bool.false_and,Option.bind_some]))
    all_goals (try (cases ht2:decide (3 < c.2.2.2.2.2.2.1) <;> simp only [ht2,Bool.not_true,Bool.not_false,cond_true,cond_false,Bool.true_or,Bool.false_or,Bool.or_true,Bool.or_false,Bool.true_and,Bool.false_and,Option.bind_some]))
    all_goals (try (cases pileB (c.2.1.length:Int) gs <;> simp only [Bool.not_true,Bool.not_false,cond_true,cond_false,Bool.true_or,Bool.false_or,Bool.or_true,Bool.or_false,Bool.true_and,Bool.false_and,Option.bind_some]))
    all_goals (try (cases zmx (c.2.1.length:Int) lots <;> simp only [Bool.not_true,Bool.not_false,cond_true,cond_false,Bool.true_or,Bool.false_or,Bool.or_true,Bool.or_false,Bool.true_and,Bool.false_and,Option.bind_some]))
set_option maxHeartbeats 2000000 in
theorem d23_eq (m:Int) (c:CT) {gs:List Grp} {lots:List Int} (hg:GsOK gs) (hl:lots.length≤281474976710656):d23 m c gs lots=some (fitE m c gs lots):=by
  have hp:d70 (c.2.1.length:Int) gs=some (pileB (c.2.1.length:Int) gs):=d70_eq hg
  have hq:d71 (c.2.1.length:Int) lots=some (zmx (c.2.1.length:Int) lots):=by
    unfold d71 zmx
    by_cases h:(lots.length:Int)=(c.2.1.length:Int)
    · rw [decide_eq_true h,cond_true,d32_eq _ hl]; rfl
    · rw [decide_eq_false h]; rfl
  unfold d23 fitE
  rw [zah]
  cases ha1:decide (m < 1)
  case true=>simp only [ha1,zah,Bool.not_true,Bool.not_false,cond_true,cond_false,Bool.true_or,Bool.false_or,Bool.or_true,Bool.or_false,Bool.true_and,Bool.false_and,Option.bind_some]
  try simp only [ha1,Bool.not_true,Bool.not_false,cond_true,cond_false,Bool.true_or,Bool.false_or,Bool.or_true,Bool.or_false,Bool.true_and,Bool.false_and,Option.bind_some]
  cases ha2:decide (3 < m)
  case true=>simp only [ha2,zah,Bool.not_true,Bool.not_false,cond_true,cond_false,Bool.true_or,Bool.false_or,Bool.or_true,Bool.or_false,Bool.true_and,Bool.false_and,Option.bind_some]
  try simp only [ha2,Bool.not_true,Bool.not_false,cond_true,cond_false,Bool.true_or,Bool.false_or,Bool.or_true,Bool.or_false,Bool.true_and,Bool.false_and,Option.bind_some]
  cases ha3:decide (c.2.2.1=m)
  case false=>simp only [ha3,zah,Bool.not_true,Bool.not_false,cond_true,cond_false,Bool.true_or,Bool.false_or,Bool.or_true,Bool.or_false,Bool.true_and,Bool.false_and,Option.bind_some]
  try simp only [ha3,Bool.not_true,Bool.not_false,cond_true,cond_false,Bool.true_or,Bool.false_or,Bool.or_true,Bool.or_false,Bool.true_and,Bool.false_and,Option.bind_some]
  rw [zah]
  cases he2:decide (m=2) <;> cases hg1:decide (1≤c.2.2.2.2.2.1) <;> simp only [he2,hg1,hp,hq,zah,Bool.not_true,Bool.not_false,cond_true,cond_false,Bool.true_or,Bool.false_or,Bool.or_true,Bool.or_false,Bool.true_and,Bool.false_and,Option.bind_some]
  all_goals
    cases hn1:decide ((c.2.1.length:Int) < 1)
    case true=>simp only [hn1,zah,Bool.not_true,Bool.not_false,cond_true,cond_false,Bool.true_or,Bool.false_or,Bool.or_true,Bool.or_false,Bool.true_and,Bool.false_and,Option.bind_some]
    try simp only [hn1,Bool.not_true,Bool.not_false,cond_true,cond_false,Bool.true_or,Bool.false_or,Bool.or_true,Bool.or_false,Bool.true_and,Bool.false_and,Option.bind_some]
    cases hn2:decide (7 < (c.2.1.length:Int))
    case true=>simp only [hn2,zah,Bool.not_true,Bool.not_false,cond_true,cond_false,Bool.true_or,Bool.false_or,Bool.or_true,Bool.or_false,Bool.true_and,Bool.false_and,Option.bind_some]
    try simp only [hn2,Bool.not_true,Bool.not_false,cond_true,cond_false,Bool.true_or,Bool.false_or,Bool.or_true,Bool.or_false,Bool.true_and,Bool.false_and,Option.bind_some]
    cases hs1:decide (c.2.2.2.1 < 1)
    case true=>simp only [hs1,zah,Bool.not_true,Bool.not_false,cond_true,cond_false,Bool.true_or,Bool.false_or,Bool.or_true,Bool.or_false,Bool.true_and,Bool.false_and,Option.bind_some]
    try simp only [hs1,Bool.not_true,Bool.not_false,cond_true,cond_false,Bool.true_or,Bool.false_or,Bool.or_true,Bool.or_false,Bool.true_and,Bool.false_and,Option.bind_some]
    cases hs2:decide (5 < c.2.2.2.1)
    case true=>simp only [hs2,zah,Bool.not_true,Bool.not_false,cond_true,cond_false,Bool.true_or,Bool.false_or,Bool.or_true,Bool.or_false,Bool.true_and,Bool.false_and,Option.bind_some]
    try simp only [hs2,Bool.not_true,Bool.not_false,cond_true,cond_false,Bool.true_or,Bool.false_or,Bool.or_true,Bool.or_false,Bool.true_and,Bool.false_and,Option.bind_some]
    cases hm1:decide (m=1) <;> cases hso:decide (c.2.2.2.1=1) <;> simp only [hm1,hso,Bool.not_true,Bool.not_false,cond_true,cond_false,Bool.true_or,Bool.false_or,Bool.or_true,Bool.or_false,Bool.true_and,Bool.false_and,Option.bind_some]
    all_goals (try (cases hg2:decide (c.2.2.2.2.2.1≤6) <;> simp only [hg2,Bool.not_true,Bool.not_false,cond_true,cond_false,Bool.true_or,Bool.false_or,Bool.or_true,Bool.or_false,Bool.true_and,Bool.false_and,Option.bind_some]))
    all_goals (try (cases hg0:decide (c.2.2.2.2.2.1=0) <;> simp only [hg0,Bool.not_true,Bool.not_false,cond_true,cond_false,Bool.true_or,Bool.false_or,Bool.or_true,Bool.or_false,Bool.true_and,Bool.false_and,Option.bind_some]))
    all_goals (try (cases ht1:decide (c.2.2.2.2.2.2.1 < 1) <;> simp only [ht1,Bool.not_true,Bool.not_false,cond_true,cond_false,Bool.true_or,Bool.false_or,Bool.or_true,Bool.or_false,Bool.true_and,Bool.false_and,Option.bind_some]))
    all_goals (try (cases ht2:decide (3 < c.2.2.2.2.2.2.1) <;> simp only [ht2,Bool.not_true,Bool.not_false,cond_true,cond_false,Bool.true_or,Bool.false_or,Bool.or_true,Bool.or_false,Bool.true_and,Bool.false_and,Option.bind_some]))
    all_goals (try (cases pileB (c.2.1.length:Int) gs <;> simp only [Bool.not_true,Bool.not_false,cond_true,cond_false,Bool.true_or,Bool.false_or,Bool.or_true,Bool.or_false,Bool.true_and,Bool.false_and,Option.bind_some]))
    all_goals (try (cases zmx (c.2.1.length:Int) lots <;> simp only [Bool.not_true,Bool.not_false,cond_true,cond_false,Bool.true_or,Bool.false_or,Bool.or_true,Bool.or_false,Bool.true_and,Bool.false_and,Option.bind_some]))
theorem zng {m:Int} {c:CT} {gs:List Grp} {lots:List Int} (h:fitE m c gs lots=0):1≤m∧m≤3∧c.2.2.1=m∧1≤c.2.1.length∧c.2.1.length≤7∧1≤c.2.2.2.1∧c.2.2.2.1≤5∧(m=1→c.2.2.2.1=1)∧(m=2→1≤c.2.2.2.2.2.1∧c.2.2.2.2.2.1≤6)∧(m ≠ 2→c.2.2.2.2.2.1=0)∧1≤c.2.2.2.2.2.2.1∧c.2.2.2.2.2.2.1≤3∧PileOK (c.2.1.length:Int) gs (wsum (fun _=>1) gs)∧lots.length=c.2.1.length∧isB (c.2.1.length:Int) lots:=by
  unfold fitE at h
  by_cases h1:(decide (m < 1) || (decide (3 < m) || !decide (c.2.2.1=m)))=true
  · rw [h1] at h; exact absurd h (by show ¬ (5:Int)=0; omega)
  have h1:(decide (m < 1) || (decide (3 < m) || !decide (c.2.2.1=m)))=false:=by simpa using h1
  rw [h1,cond_false] at h
  cases h2:(decide ((c.2.1.length:Int) < 1) || (decide (7 < (c.2.1.length:Int)) || (decide (c.2.2.2.1 < 1) || (decide (5 < c.2.2.2.1) || ((decide (m=1) && !decide (c.2.2.2.1=1)) || (!(bif decide (m=2) then decide (1≤c.2.2.2.2.2.1) && decide (c.2.2.2.2.2.1≤6) else decide (c.2.2.2.2.2.1=0)) || (decide (c.2.2.2.2.2.2.1 < 1) || decide (3 < c.2.2.2.2.2.2.1))))))))
  case true=>rw [h2] at h; exact absurd h (by show ¬ (4:Int)=0; omega)
  rw [h2,cond_false] at h
  cases h3:pileB (c.2.1.length:Int) gs
  case false=>rw [h3] at h; exact absurd h (by show ¬ (8:Int)=0; omega)
  rw [h3,Bool.not_true,cond_false] at h
  cases h4:zmx (c.2.1.length:Int) lots
  case false=>rw [h4] at h; exact absurd h (by show ¬ (13:Int)=0; omega)
  simp only [Bool.or_eq_false_iff,decide_eq_false_iff_not,Bool.not_eq_false',decide_eq_true_eq] at h1 h2
  obtain ⟨a1,a2,a3⟩:=h1
  obtain ⟨b1,b2,b3,b4,b5,b6,b7,b8⟩:=h2
  unfold zmx at h4
  simp only [Bool.and_eq_true,decide_eq_true_eq] at h4
  refine ⟨by omega,by omega,a3,by omega,by omega,by omega,by omega,fun hm=>?_,fun hm=>?_,fun hm=>?_,by omega,by omega,(pileB_ok h3).2.2,by omega,h4.2⟩
  · rw [decide_eq_true hm,Bool.true_and,Bool.not_eq_false',decide_eq_true_eq] at b5
    exact b5
  · rw [decide_eq_true hm,cond_true,Bool.and_eq_true,decide_eq_true_eq,decide_eq_true_eq] at b6
    exact b6
  · rw [decide_eq_false hm,cond_false,decide_eq_true_eq] at b6
    exact b6
theorem d30_eq {b s:Int} (h0:0≤b) (h1:b≤100000) (h2:1≤s) (h3:s≤5):d30 b s=some (b / (s+1)+1):=by
  have e:w (s+1)=s+1:=zbl (by omega) (by omega)
  have hd:Int.tdiv b (s+1)=b / (s+1):=Int.tdiv_eq_ediv_of_nonneg h0
  have hle:b / (s+1)≤b:=Int.ediv_le_self _ h0
  have hge:0≤b / (s+1):=Int.ediv_nonneg h0 (by omega)
  unfold d30
  rw [zah]
  simp only [decide_eq_false (show ¬ b < 0 by omega),decide_eq_false (show ¬ 100000 < b by omega),decide_eq_false (show ¬ s < 1 by omega),decide_eq_false (show ¬ 5 < s by omega),Bool.not_false,cond_true,cond_false,e,decide_eq_false (show ¬ s+1=0 by omega),hd]
  rw [zbl (n:=b / (s+1)) (by omega) (by omega),zbl (by omega) (by omega)]
theorem PileOK.d67 {n:Int} {gs:List Grp} {N:Int} (h:PileOK n gs N) (hn:n≤7):d67 gs=some (wsum (fun _=>1) gs):=by
  obtain ⟨hl,hg⟩:=h.sizes hn
  have hf:∀ p:List Int,0≤(1:Int)∧(1:Int)≤1:=fun p=>by omega
  unfold Go.Proofs.YtmipjomnjkmdbaaGreat.d67
  rw [h.d100 hn]
  simp only [Option.bind_some,Bool.not_true,cond_false]
  have:d104 gs (fun a=>d126 a)=some (wsum (fun _=>1) gs):=by
    unfold d104
    refine zac (b:=wsum (fun _=>1) gs) (fun i=>((fun a=>d126 a),wsum (fun _=>1) (gs.take i),gs,(gs.length:Int),(i:Int))) gs.length rfl (fun i hi=>?_) ?_ rfl
    · have h1:=h.part hf (i+1)
      rw [zdn _ gs hi] at h1
      simp only [dlt hi,d0le,Bool.and_self,cond_true,tn,d126,Option.bind_some,zaz (show i < 9223372036854775807 by omega)]
      rw [zbl (by omega) (by omega),zdn _ gs hi,Int.mul_one]
    · simp only [nlt (Nat.le_refl gs.length),cond_false,List.take_length]
  rw [this]; rfl
def gpOf (c:CT) (gs:List Grp) (lots:List Int):GP :=
  { gs:=gs,n:=c.2.1.length,seats:=c.2.2.2.1.toNat,q:=(wsum zar gs / (c.2.2.2.1+1)+1).toNat,tot:=(wsum (fun _=>1) gs).toNat,ties:=c.2.2.2.2.2.2.1,lots:=lots }
theorem zma {n:Int} {gs:List Grp} {N:Int} (h:PileOK n gs N) (b:List Int→Bool) (c:CT) (lots:List Int):∀ m,m≤gs.length→wsum (fun p=>if b p then 1 else 0) (gs.take m)=((sumN (fun g=>if b ((gpOf c gs lots).p g) then (gpOf c gs lots).k g else 0) m:Nat):Int)
  | 0,_=>rfl
  | m+1,hm=>by
    have hb:=(h.ballots _ (zca (l:=gs) (d:=([],0)) (i:=m) (by omega))).2
    rw [zdn _ gs (by omega),zma h b c lots m (by omega),sumN,Int.natCast_add]
    congr 1
    show _ * (if b (gs.getD m ([],0)).1 then 1 else 0)=((if b (gs.getD m ([],0)).1 then (gs.getD m ([],0)).2.toNat else 0:Nat):Int)
    split
    · rw [Int.mul_one]; omega
    · rw [Int.mul_zero]; rfl
theorem quo_lt {m s:Nat} (h1:1≤s) (h5:s≤5):m < (m / (s+1)+1) * (s+1):=by
  have:s=1∨s=2∨s=3∨s=4∨s=5:=by omega
  rcases this with rfl | rfl | rfl | rfl | rfl <;> omega
theorem gpOf_ok {c:CT} {gs:List Grp} {lots:List Int} (h:fitE 3 c gs lots=0):(gpOf c gs lots).OK∧(gpOf c gs lots).G≤1000000∧c.2.2.2.1=((gpOf c gs lots).seats:Int)∧d67 gs=some ((gpOf c gs lots).tot:Int)∧d52 gs=some (wsum zar gs)∧d30 (wsum zar gs) c.2.2.2.1=some ((gpOf c gs lots).q:Int):=by
  obtain ⟨_,_,_,n1,n7,s1,s5,_,_,_,t1,t3,hp,ll,hB⟩:=zng h
  obtain ⟨hl,hg⟩:=hp.sizes (by omega)
  have hmk:=hp.part (f:=zar) (fun p=>by unfold zar; split <;> omega) gs.length
  have hto:=hp.part (f:=fun _=>1) (fun p=>by omega) gs.length
  rw [List.take_length] at hmk hto
  have hS:c.2.2.2.1=(c.2.2.2.1.toNat:Int):=by omega
  have e1:wsum (fun _=>1) gs=((sumN (gpOf c gs lots).k gs.length:Nat):Int):=by
    have:=zma hp (fun _=>true) c lots gs.length (Nat.le_refl _)
    rw [List.take_length] at this
    simpa using this
  have e2:wsum zar gs=(((gpOf c gs lots).mkd:Nat):Int):=by
    have:=zma hp (fun p=>decide (p ≠ [])) c lots gs.length (Nat.le_refl _)
    rw [List.take_length] at this
    have hf:(fun p:List Int=>if decide (p ≠ [])=true then (1:Int) else 0)=zar:=by
      funext p; unfold zar; by_cases hp:p=[] <;> simp [hp]
    rw [hf] at this
    rw [this]
    congr 1
    unfold GP.mkd
    refine zbh fun g hg=>?_
    by_cases hp:(gpOf c gs lots).p g=[] <;> simp [hp]
  obtain ⟨S,hSS⟩:∃ S,c.2.2.2.1.toNat=S:=⟨_,rfl⟩
  have hq:(gpOf c gs lots).q=(gpOf c gs lots).mkd / (S+1)+1:=by
    show (wsum zar gs / (c.2.2.2.1+1)+1).toNat=_
    rw [e2,hS,hSS]
    rfl
  have hm5:(gpOf c gs lots).mkd≤100000:=by omega
  have hdiv:=Nat.div_le_self (gpOf c gs lots).mkd (S+1)
  have hq1:1≤(gpOf c gs lots).q∧(gpOf c gs lots).q≤100001:=by
    rw [hq]
    generalize (gpOf c gs lots).mkd / (S+1)=Q at hdiv ⊢
    omega
  refine ⟨⟨n1,n7,by show 1≤c.2.2.2.1.toNat; omega,by show c.2.2.2.1.toNat≤5; omega,fun g hgl x hx=>?_,fun g hgl=>?_,?_,by show (wsum (fun _=>1) gs).toNat≤_; omega,hq1.1,hq1.2,?_,t1,t3,ll,fun x hx=>?_,hB.1⟩,by show gs.length≤_; omega,?_,?_,hp.d52 (by omega),?_⟩
  · have:=(hp.ballots _ (zca (l:=gs) (d:=([],0)) (i:=g) hgl)).1.2 x hx
    exact ⟨x.toNat,by omega,by show x.toNat < c.2.1.length; omega⟩
  · exact (hg _ (zca (l:=gs) (d:=([],0)) (i:=g) hgl)).1
  · show sumN (gpOf c gs lots).k gs.length=(wsum (fun _=>1) gs).toNat
    omega
  · rw [hq]
    show _ < _ * (c.2.2.2.1.toNat+1)
    rw [hSS]
    exact quo_lt (by omega) (by omega)
  · have:=hB.2 x hx
    exact ⟨x.toNat,by omega,by show x.toNat < c.2.1.length; omega⟩
  · exact hS
  · rw [hp.d67 (by omega)]
    congr 1
    show _=((wsum (fun _=>1) gs).toNat:Int)
    omega
  · rw [d30_eq hmk.1 hmk.2 s1 s5]
    congr 1
    show _=((wsum zar gs / (c.2.2.2.1+1)+1).toNat:Int)
    have:0≤wsum zar gs / (c.2.2.2.1+1):=Int.ediv_nonneg hmk.1 (by omega)
    omega
variable {P:GP} {s:GS}
theorem RsOK.next (hP:P.OK) (hI:GI P s) {rs:List Rd} (hR:RsOK P s rs) (hl:rs.length+1≤7) {s':GS} (hk:∀ i,i < P.n→Bz eB (s'.keep i)) {r:Rd} (hv:r.votes=(s.rd0 P).votes) (he:r.el.length≤7):RsOK P s' (rs++[r]):=by
  refine ⟨fun x hx=>?_,by simp; omega,hk⟩
  rcases List.mem_append.1 hx with hx | hx
  · exact hR.rnd x hx
  · rw [List.mem_singleton] at hx
    subst hx
    rw [hv]
    exact ⟨votes_rnd hP hI,he⟩
theorem zpa (hP:P.OK):(selI (s.el1 P) P.n).length≤7:=by rw [zbn]; have:=zbm (s.el1 P) P.n; have:=hP.n7; omega
theorem fl_next {x y:Nat} (hx:x < P.n) (hy:(s.st1 P x=1∧y=2)∨(s.st1 P x=0∧y=3)) {st:Nat→Nat} (hst:st=upd (s.st1 P) x y):s.e1 P+s.e2 P=cntN (fun i=>decide (st i=1)) P.n+cntN (fun i=>decide (st i=2)) P.n:=by
  subst hst
  unfold GS.e1 GS.e2 cntN
  rw [← zdb,← zdb]
  refine zbh fun i hi=>?_
  by_cases h:i=x
  · subst h
    rcases hy with ⟨h1,rfl⟩ | ⟨h1,rfl⟩ <;> simp [h1,zcr]
  · simp [upd,h]
theorem trans_keep (hP:P.OK) (hI:GI P s) (hf:s.fin P=false) (hm:s.most P=true) (earlier:List (List Rat)) (hk:∀ i,i < P.n→Bz eB (s.keep i)):∀ i,i < P.n→Bz eB ((s.trans P earlier).keep i):=by
  intro i hi
  obtain ⟨x,x1,x2,x3⟩:=zea hP hI hf earlier
  have hv:=zix hP hI x2
  unfold GS.trans
  simp only [x1,Int.toNat_natCast]
  show Bz eB (upd s.keep x _ i)
  unfold upd
  split
  · exact zho (zbk hP hI (by omega)) (zbk hP hI hv) (by decide)
  · exact hk i hi
theorem excl_keep (earlier:List (List Rat)) (hk:∀ i,i < P.n→Bz eB (s.keep i)):∀ i,i < P.n→Bz eB ((s.excl P earlier).keep i):=by
  intro i hi
  unfold GS.excl
  show Bz eB (upd s.keep _ 0 i)
  unfold upd
  split
  · exact bz_zero
  · exact hk i hi
theorem grun_fin {k:Nat} {rs:List Rd} (hf:s.fin P=true):grun P (k+1) rs s=rs++[s.done P]:=by
  unfold grun gstep; rw [if_pos hf]
theorem grun_trans {k:Nat} {rs:List Rd} (hf:s.fin P=false) (hm:s.most P=true):grun P (k+1) rs s=grun P k (rs++[{ s.rd0 P with ti:=s.tiedR P }]) (s.trans P (rs.map Rd.votes)):=by
  rw [grun]; unfold gstep; rw [if_neg (by rw [hf]; simp),if_pos hm]
theorem grun_excl {k:Nat} {rs:List Rd} (hf:s.fin P=false) (hm:s.most P=false):grun P (k+1) rs s=grun P k (rs++[{ s.rd0 P with ti:=s.tiedR P,ex:=[s.pick P (rs.map Rd.votes)] }]) (s.excl P (rs.map Rd.votes)):=by
  rw [grun]; unfold gstep; rw [if_neg (by rw [hf]; simp),if_neg (by rw [hm]; simp)]
structure Run (P:GP) (s:GS) (rs:List Rd):Prop where
  inv:GI P s
  ok:RsOK P s rs
  len:rs.length+s.meas P≤P.n
  run:grun P (P.n+1 - rs.length) rs s=zfh P
  one:∀ i,i < P.n→s.st i=0∨s.st i=1→s.keep i=1
theorem keep_one {x y:Nat} (hy:y=2∨y=3) {k:Rat} {a b:Nat} (h:∀ i,i < P.n→s.st i=0∨s.st i=1→s.keep i=1):∀ i,i < P.n→(s.move P (upd (s.st1 P) x y) (upd s.keep x k) x a b).st i=0∨(s.move P (upd (s.st1 P) x y) (upd s.keep x k) x a b).st i=1→(s.move P (upd (s.st1 P) x y) (upd s.keep x k) x a b).keep i=1:=by
  intro i hi hs
  have hs':upd (s.st1 P) x y i=0∨upd (s.st1 P) x y i=1:=hs
  show upd s.keep x k i=1
  by_cases hix:i=x
  · subst hix
    rw [zcr] at hs'
    omega
  · rw [zfm _ _ hix] at hs' ⊢
    refine h i hi ?_
    rcases zbv (P:=P) (s:=s) i with ⟨h0,h1,h2,_⟩ | ⟨h0,h2⟩ <;> omega
theorem Run.start (hP:P.OK):Run P g0 []:=⟨g0_inv hP,⟨fun r hr=>by simp at hr,by simp,fun i _=>by
  have:=bz_nat (n:=1) (by decide)
  exact this⟩,by simp; exact meas_le _,rfl,fun i _ _=>rfl⟩
theorem Run.trans (hP:P.OK) {rs:List Rd} (h:Run P s rs) (hf:s.fin P=false) (hm:s.most P=true):Run P (s.trans P (rs.map Rd.votes)) (rs++[{ s.rd0 P with ti:=s.tiedR P }]):=by
  have hme:=zhz hP h.inv hf hm (rs.map Rd.votes)
  have hl:=h.len
  have hn:=hP.n7
  refine ⟨trans_inv hP h.inv hf hm _,h.ok.next hP h.inv (by omega) (trans_keep hP h.inv hf hm _ h.ok.keep) rfl (zpa hP),by simp; omega,?_,keep_one (.inl rfl) h.one⟩
  have hr:=h.run
  rw [show P.n+1 - rs.length=P.n - rs.length+1 by omega,grun_trans hf hm] at hr
  rw [← hr]
  congr 1
  simp
theorem Run.excl (hP:P.OK) {rs:List Rd} (h:Run P s rs) (hf:s.fin P=false) (hm:s.most P=false):Run P (s.excl P (rs.map Rd.votes)) (rs++[{ s.rd0 P with ti:=s.tiedR P,ex:=[s.pick P (rs.map Rd.votes)] }]):=by
  have hme:=zju hP h.inv hf hm (rs.map Rd.votes)
  have hl:=h.len
  have hn:=hP.n7
  refine ⟨excl_inv hP h.inv hf hm _,h.ok.next hP h.inv (by omega) (excl_keep _ h.ok.keep) rfl (zpa hP),by simp; omega,?_,keep_one (.inr rfl) h.one⟩
  have hr:=h.run
  rw [show P.n+1 - rs.length=P.n - rs.length+1 by omega,grun_excl hf hm] at hr
  rw [← hr]
  congr 1
  simp
theorem Run.fin {rs:List Rd} (h:Run P s rs) (hf:s.fin P=true):rs++[s.done P]=zfh P:=by
  have hl:=h.len
  have hr:=h.run
  rw [show P.n+1 - rs.length=P.n - rs.length+1 by omega,grun_fin hf] at hr
  exact hr
def trT (P:GP):Int × (Int × (Int × (Int × (List RD × List Int)))):=(3,(P.seats:Int),0,(P.n:Int),(zfh P).map rdT,(zfh P).flatMap Rd.el)
set_option maxHeartbeats 1000000 in
theorem d22_eq {c:CT} {gs:List Grp} {lots:List Int} (hg:GsOK gs) (hl:lots.length≤281474976710656):d22 c gs lots=some (if fitE 3 c gs lots=0 then (trT (gpOf c gs lots),0) else ((0,0,0,0,[],[]),fitE 3 c gs lots)):=by
  unfold d22
  rw [d66_eq 3 c hg hl,Option.bind_some]
  by_cases hfit:¬ fitE 3 c gs lots=0
  · rw [if_neg hfit,decide_eq_false hfit]; rfl
  have hfit:=Decidable.not_not.1 hfit
  rw [if_pos hfit,decide_eq_true hfit,Bool.not_true,cond_false]
  obtain ⟨hP,hG,hs,h67,h52,h30⟩:=gpOf_ok hfit
  have hgs:(gpOf c gs lots).gs=gs:=rfl
  have hn:c.2.1.length=(gpOf c gs lots).n:=rfl
  have hlo:(gpOf c gs lots).lots=lots:=rfl
  have hti:c.2.2.2.2.2.2.1=(gpOf c gs lots).ties:=rfl
  have hGl:gs.length=(gpOf c gs lots).G:=rfl
  have hpar:∀ i,parc (gpOf c gs lots) g0 i=((gs.getD i ([],0)).1,((gs.getD i ([],0)).2.toNat:Int),0,rr (frac 1 1)):=fun i=>rfl
  have hpos:∀ i,i < gs.length→((gs.getD i ([],0)).2.toNat:Int)=(gs.getD i ([],0)).2:=fun i hi=>by
    obtain ⟨_,_,_,_,_,_,_,_,_,_,_,_,hp,_,_⟩:=zng hfit
    have:=(hp.ballots _ (zca (l:=gs) (d:=([],0)) (i:=i) hi)).2
    omega
  rw [h67,h52,Option.bind_some,Option.bind_some,h30,Option.bind_some]
  generalize hPP:gpOf c gs lots=P at *
  have hn7:=hP.n7
  have hz1:d68 1=some (rr 1):=zpc (n:=1) (by omega) (by omega)
  have hone:rr (frac 1 1)=rr (1:Rat):=by rw [zjq]; rfl
  rw [hn]
  simp only [decide_true,d0le,zbs (n:=P.n) (by omega),Bool.and_self,cond_true,tn,hs]
  refine zac (fun i=>(gs,(0,0,0,0,[],[]),(c,lots,(P.tot:Int),(P.q:Int),[],List.replicate P.n 0,lst (fun _=>rr 1) i,0,[],3,(P.seats:Int),0,(P.n:Int),[],[]),(P.n:Int),(i:Int))) P.n rfl (fun i hi=>?_) (b:=(gs,(0,0,0,0,[],[]),(c,lots,(P.tot:Int),(P.q:Int),[],List.replicate P.n 0,lst (fun _=>rr 1) P.n,0,[],3,(P.seats:Int),0,(P.n:Int),[],[]))) ?_ ?_
  · have hl:=zbj (l:=lst (fun _=>rr (1:Rat)) i) (d:=rr 1) (by rw [zak]; omega)
    simp only [dlt hi,cond_true,hz1,Option.bind_some,hl,zaz (show i < 9223372036854775807 by omega),← zdu]
  · simp only [nlt (Nat.le_refl P.n),cond_false]
  simp only
  refine zac (fun i=>((0,0,0,0,[],[]),(c,lots,(P.tot:Int),(P.q:Int),lst (parc P g0) i,List.replicate P.n 0,lst (fun _=>rr 1) P.n,0,[],3,(P.seats:Int),0,(P.n:Int),[],[]),gs,(gs.length:Int),(i:Int))) gs.length rfl (fun i hi=>?_) (b:=((0,0,0,0,[],[]),(c,lots,(P.tot:Int),(P.q:Int),lst (parc P g0) gs.length,List.replicate P.n 0,lst (fun _=>rr 1) P.n,0,[],3,(P.seats:Int),0,(P.n:Int),[],[]))) ?_ ?_
  · have hl:=zbj (l:=lst (parc P g0) i) (d:=((gs.getD i ([],0)).1,(gs.getD i ([],0)).2,0,rr 1)) (by rw [zak]; omega)
    simp only [dlt hi,d0le,Bool.and_self,cond_true,tn,hz1,Option.bind_some,hl,zaz (show i < 9223372036854775807 by omega),zdu,hpar,hpos i hi,hone]
  · simp only [nlt (Nat.le_refl gs.length),cond_false]
  simp only
  have hK0:(c,lots,(P.tot:Int),(P.q:Int),lst (parc P g0) gs.length,List.replicate P.n 0,lst (fun _=>rr 1) P.n,0,[],3,(P.seats:Int),0,(P.n:Int),[],[])=KTof P c g0 g0.st 0 []:=by
    unfold KTof
    rw [hlo,hGl,lst_rep]
    rfl
  rw [hK0]
  refine zda (Q:=fun r=>r=some (trT P,0)) (fun (M:Nat) (st:(Int × (Int × (Int × (Int × (List RD × List Int))))) × KT)=>∃ (s:GS) (rs:List Rd) (fl:Nat),st=((0,0,0,0,[],[]),KTof P c s s.st fl rs)∧Run P s rs∧fl=cntN (fun i=>decide (s.st i=1)) P.n+cntN (fun i=>decide (s.st i=2)) P.n∧M=s.meas P) (g0.meas P) ⟨g0,[],0,rfl,Run.start hP,?_,rfl⟩ ?_
  · have e1:cntN (fun i=>decide (g0.st i=1)) P.n=0:=by unfold cntN; exact zcv _
    have e2:cntN (fun i=>decide (g0.st i=2)) P.n=0:=by unfold cntN; exact zcv _
    rw [e1,e2]
  · rintro M st ⟨s,rs,fl,rfl,hR,hfl,rfl⟩
    rcases d69_eq hP hR.inv hG hR.ok hti hs hfl with ⟨hf,st',fl',he⟩ | ⟨hf,hm,he⟩ | ⟨hf,hm,he⟩
    · refine .inr ⟨((0,0,0,0,[],[]),KTof P c s st' fl' (rs++[s.done P])),by simp only [he,Option.bind_some,cond_false],?_⟩
      show some ((3,(P.seats:Int),0,(P.n:Int),(rs++[s.done P]).map rdT,(rs++[s.done P]).flatMap Rd.el),0)=some (trT P,0)
      rw [hR.fin hf]; rfl
    · have hme:=zhz hP hR.inv hf hm (rs.map Rd.votes)
      obtain ⟨x,x1,x2,x3⟩:=zea hP hR.inv hf (rs.map Rd.votes)
      rw [hm,if_pos rfl] at x3
      exact .inl ⟨_,(s.trans P (rs.map Rd.votes)).meas P,by simp only [he,Option.bind_some,cond_true],by omega,_,_,_,rfl,hR.trans hP hf hm,fl_next x2 (.inl ⟨x3,rfl⟩) (by unfold GS.trans; simp only [x1,Int.toNat_natCast]; rfl),rfl⟩
    · have hme:=zju hP hR.inv hf hm (rs.map Rd.votes)
      obtain ⟨x,x1,x2,x3⟩:=zea hP hR.inv hf (rs.map Rd.votes)
      rw [hm] at x3
      have x3':s.st1 P x=0:=by simpa using x3
      exact .inl ⟨_,(s.excl P (rs.map Rd.votes)).meas P,by simp only [he,Option.bind_some,cond_true],by omega,_,_,_,rfl,hR.excl hP hf hm,fl_next x2 (.inr ⟨x3',rfl⟩) (by unfold GS.excl; simp only [x1,Int.toNat_natCast]; rfl),rfl⟩
end Go.Proofs.YtmipjomnjkmdbaaGreat
