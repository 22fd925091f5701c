/- Part 13 of what stands below the statement. -/
import Derived.Test.YtmipjomnjkmdbaaGreatQ12
set_option linter.unusedSimpArgs false
set_option linter.unusedVariables false
namespace Go.Proofs.YtmipjomnjkmdbaaGreat
open Go Go.X
def nv:List Int→Nat
  | []=>0
  | x::l=>x.toNat+4294967296 * nv l
def IsL (l:List Int):Prop:=∀ x∈l,0≤x∧x < 4294967296
def NF (l:List Int):Prop:=IsL l∧l.getLast? ≠ some 0
theorem IsL.nil:IsL []:=fun _ h=>absurd h (by simp)
theorem IsL.cons {x:Int} {l:List Int} (h0:0≤x) (h1:x < 4294967296) (h:IsL l):IsL (x::l):=fun y hy=>by
  rcases List.mem_cons.1 hy with rfl | hy
  · exact ⟨h0,h1⟩
  · exact h y hy
theorem IsL.tail {x:Int} {l:List Int} (h:IsL (x::l)):IsL l:=fun y hy=>h y (List.mem_cons_of_mem _ hy)
theorem IsL.head {x:Int} {l:List Int} (h:IsL (x::l)):0≤x∧x < 4294967296:=h x List.mem_cons_self
theorem IsL.take {l:List Int} (h:IsL l) (k:Nat):IsL (l.take k):=fun y hy=>h y (List.mem_of_mem_take hy)
theorem IsL.getD {l:List Int} (h:IsL l) (i:Nat):0≤l.getD i 0∧l.getD i 0 < 4294967296:=by
  rw [List.getD_eq_getElem?_getD]
  cases hi:l[i]? with
  | none=>simp
  | some x =>
    obtain ⟨h1,h2⟩:=List.getElem?_eq_some_iff.1 hi
    exact h x (h2 ▸ List.getElem_mem h1)
theorem IsL.set {l:List Int} (h:IsL l) (i:Nat) {x:Int} (h0:0≤x) (h1:x < 4294967296):IsL (l.set i x):=fun y hy=>by
  rcases List.mem_or_eq_of_mem_set hy with hy | rfl
  · exact h y hy
  · exact ⟨h0,h1⟩
theorem IsL.zeros (n:Nat):IsL (List.replicate n 0):=fun y hy=>by rw [List.eq_of_mem_replicate hy]; omega
theorem zik:∀ (a b:List Int),nv (a++b)=nv a+4294967296 ^ a.length * nv b
  | [],b=>by simp [nv]
  | x::a,b=>by
    simp only [List.cons_append,nv,zik a b,List.length_cons,Nat.pow_succ]
    generalize 4294967296 ^ a.length=P
    rw [Nat.mul_add,Nat.add_assoc,← Nat.mul_assoc,Nat.mul_comm P 4294967296]
theorem zdk:∀ n:Nat,nv (List.replicate n 0)=0
  | 0=>rfl
  | n+1=>by simp [List.replicate_succ,nv,zdk n]
theorem zpg:∀ {l:List Int},IsL l→nv l < 4294967296 ^ l.length
  | [],_=>by simp [nv]
  | x::l,h=>by
    have ih:=zpg h.tail
    have hx:=h.head
    simp only [nv,List.length_cons,Nat.pow_succ]
    generalize 4294967296 ^ l.length=P at *
    have:x.toNat < 4294967296:=by omega
    omega
theorem NF.tail {x:Int} {l:List Int} (h:NF (x::l)):NF l:=⟨h.1.tail,fun he=>h.2 (by
  cases l with
  | nil=>simp at he
  | cons y l=>rw [List.getLast?_cons_cons]; exact he)⟩
theorem NF.nil:NF []:=⟨IsL.nil,by simp⟩
theorem NF.pos:∀ {l:List Int},NF l→l ≠ []→0 < nv l
  | [],_,h=>absurd rfl h
  | [x],h,_=>by
    have hx:=h.1.head
    have:x ≠ 0:=fun e=>h.2 (by simp [e])
    simp only [nv]; omega
  | x::y::l,h,_=>by
    have:=NF.pos h.tail (by simp)
    simp only [nv] at this ⊢; omega
theorem nv_inj:∀ {a b:List Int},NF a→NF b→nv a=nv b→a=b
  | [],[],_,_,_=>rfl
  | [],y::b,_,hb,h=>absurd (NF.pos hb (by simp)) (by rw [← h]; simp [nv])
  | x::a,[],ha,_,h=>absurd (NF.pos ha (by simp)) (by rw [h]; simp [nv])
  | x::a,y::b,ha,hb,h=>by
    have hx:=ha.1.head
    have hy:=hb.1.head
    simp only [nv] at h
    have h1:nv a=nv b:=by omega
    have h2:x=y:=by omega
    rw [h2,nv_inj ha.tail hb.tail h1]
def zam (n:Nat):List Int:=if h:n=0 then [] else ((n % 4294967296:Nat):Int)::zam (n / 4294967296)
  termination_by n
  decreasing_by exact Nat.div_lt_self (Nat.pos_of_ne_zero h) (by omega)
theorem zcq:zam 0=[]:=by rw [zam]; simp
theorem zeo {n:Nat} (h:n ≠ 0):zam n=((n % 4294967296:Nat):Int)::zam (n / 4294967296):=by rw [zam]; simp [h]
theorem zpi (n:Nat):NF (zam n)∧nv (zam n)=n:=by
  induction n using Nat.strongRecOn with
  | _ n ih =>
    by_cases h:n=0
    · subst h; rw [zcq]; exact ⟨NF.nil,rfl⟩
    · have ⟨h1,h2⟩:=ih (n / 4294967296) (Nat.div_lt_self (by omega) (by omega))
      rw [zeo h]
      refine ⟨⟨h1.1.cons (by omega) (by omega),?_⟩,?_⟩
      · cases hl:zam (n / 4294967296) with
        | nil =>
          rw [hl] at h2
          simp only [nv] at h2
          simp only [List.getLast?_singleton,ne_eq,Option.some.injEq]
          omega
        | cons y l =>
          rw [List.getLast?_cons_cons,← hl]
          exact h1.2
      · simp only [nv,h2]; omega
theorem zjd (n:Nat):NF (zam n):=(zpi n).1
theorem zar (n:Nat):IsL (zam n):=(zpi n).1.1
theorem zax (n:Nat):nv (zam n)=n:=(zpi n).2
theorem limbs_nv {l:List Int} (h:NF l):zam (nv l)=l:=nv_inj (zjd _) h (zax _)
theorem limbs_nil {n:Nat}:zam n=[]↔n=0:=⟨fun h=>by rw [← zax n,h]; rfl,fun h=>by rw [h,zcq]⟩
theorem zdz {n:Nat}:0 < (zam n).length↔0 < n:=by
  rw [List.length_pos_iff,ne_eq,limbs_nil]; omega
theorem zap (n:Nat):∀ k:Nat,(zam n).length≤k↔n < 4294967296 ^ k:=by
  induction n using Nat.strongRecOn with
  | _ n ih =>
    intro k
    by_cases h:n=0
    · subst h; rw [zcq]; simp; exact Nat.pow_pos (by omega)
    · rw [zeo h,List.length_cons]
      cases k with
      | zero=>simp; omega
      | succ k =>
        have:=ih (n / 4294967296) (Nat.div_lt_self (by omega) (by omega)) k
        rw [Nat.succ_le_succ_iff,this,Nat.pow_succ]
        exact Nat.div_lt_iff_lt_mul (by omega)
theorem take_snoc (l:List Int) {n:Nat} (h:n < l.length):l.take (n+1)=l.take n++[l.getD n 0]:=by
  rw [List.take_add_one,List.getD_eq_getElem?_getD,List.getElem?_eq_getElem h]; rfl
theorem take_tlen {l:List Int} (h:IsL l):∀ n,n≤l.length→l.take (tlen l n)=zam (nv (l.take n))
  | 0,_=>by simp [tlen,nv,zcq]
  | n+1,hn=>by
    have ih:=take_tlen h n (by omega)
    have hs:=take_snoc l (n:=n) (by omega)
    unfold tlen
    split
    · rename_i h0
      rw [ih,hs,zik,h0]; simp [nv]
    · rename_i h0
      refine (limbs_nv ⟨h.take _,?_⟩).symm
      rw [hs,List.getLast?_append]; simp; exact h0
theorem take_tl {l:List Int} (h:IsL l):l.take (tlen l l.length)=zam (nv l):=by
  have:=take_tlen h l.length (Nat.le_refl _)
  rwa [List.take_length] at this
theorem tlen_eq {l:List Int} (h:IsL l):tlen l l.length=(zam (nv l)).length:=by
  have:=congrArg List.length (take_tl h)
  rw [List.length_take,Nat.min_eq_left (tlen_le _ _)] at this
  exact this
theorem limbs_le {l:List Int} (h:IsL l):(zam (nv l)).length≤l.length:=by rw [← tlen_eq h]; exact tlen_le _ _
theorem digit_low {U V W top s t u0 z q r h:Nat} (hV:V=(h * 4294967296+s) * W+t) (hU:U=(top * 4294967296+u0) * W+z) (hz:z < W) (hq:q * h+r=top) (hc:r * 4294967296+u0 < q * s):U < q * V:=by
  have h1:(top * 4294967296+u0)+1≤q * (h * 4294967296+s):=by
    rw [← hq,Nat.mul_add,Nat.add_mul,← Nat.mul_assoc]; omega
  have h2:=Nat.mul_le_mul_right W h1
  rw [Nat.add_mul,Nat.one_mul] at h2
  rw [hV,Nat.mul_add,← Nat.mul_assoc,hU]
  omega
theorem zoc {U V W top s t u0 z q r h:Nat} (hV:V=(h * 4294967296+s) * W+t) (hU:U=(top * 4294967296+u0) * W+z) (ht:t < W) (hh:1≤h) (hq:q * h+r=top) (hq2:q < 4294967296) (hc:q * s≤r * 4294967296+u0):q * V < U+V:=by
  have h1:q * (h * 4294967296+s)≤top * 4294967296+u0:=by
    rw [← hq,Nat.mul_add,Nat.add_mul,← Nat.mul_assoc]; omega
  have h2:=Nat.mul_le_mul_right W h1
  have h3:q * t≤4294967296 * W:=Nat.mul_le_mul (by omega) (by omega)
  have h4:q * t < 4294967296 * W:=by
    rcases Nat.eq_zero_or_pos q with h0 | h0
    · subst h0; rw [Nat.zero_mul]; omega
    · exact Nat.lt_of_lt_of_le (Nat.mul_lt_mul_of_pos_left ht h0) (Nat.mul_le_mul_right _ (by omega))
  have h5:4294967296 * W≤V:=by
    rw [hV]
    have:4294967296 * W≤(h * 4294967296+s) * W:=Nat.mul_le_mul_right _ (by omega)
    omega
  have h6:q * V=q * (h * 4294967296+s) * W+q * t:=by rw [hV,Nat.mul_add,← Nat.mul_assoc]
  omega
end Go.Proofs.YtmipjomnjkmdbaaGreat
set_option linter.unusedSimpArgs false
set_option linter.unusedVariables false
namespace Go.Proofs.YtmipjomnjkmdbaaGreat
open Go Go.X
theorem zoo (i:Nat):0 < 4294967296 ^ i:=Nat.pow_pos (by decide)
theorem nv_split (l:List Int) (i:Nat) (h:i≤l.length):nv l=nv (l.take i)+4294967296 ^ i * nv (l.drop i):=by
  have:=zik (l.take i) (l.drop i)
  rw [List.take_append_drop,List.length_take,Nat.min_eq_left h] at this
  exact this
theorem nv_drop {l:List Int} (hl:IsL l) {i:Nat} (h:i≤l.length):nv (l.drop i)=nv l / 4294967296 ^ i:=by
  have h1:=zpg (hl.take i)
  rw [List.length_take,Nat.min_eq_left h] at h1
  rw [nv_split l i h,Nat.add_mul_div_left _ _ (zoo i),Nat.div_eq_of_lt h1,Nat.zero_add]
theorem zmt (l:List Int) {i:Nat} (h:i < l.length):l.drop i=l.getD i 0::l.drop (i+1):=by
  rw [List.getD_eq_getElem?_getD,List.getElem?_eq_getElem h]
  exact List.drop_eq_getElem_cons h
theorem zfe {l:List Int} (hl:IsL l) (i:Nat):l.getD i 0=((nv l / 4294967296 ^ i % 4294967296:Nat):Int):=by
  by_cases h:i < l.length
  · have h1:=nv_drop hl (Nat.le_of_lt h)
    rw [zmt l h] at h1
    simp only [nv] at h1
    have h2:=hl.getD i
    rw [← h1]
    omega
  · have h1:=zpg hl
    rw [List.getD_eq_getElem?_getD,List.getElem?_eq_none (by omega)]
    have h2:nv l < 4294967296 ^ i:=Nat.lt_of_lt_of_le h1 (Nat.pow_le_pow_right (by decide) (by omega))
    rw [Nat.div_eq_of_lt h2]
    rfl
theorem zij:∀ (l:List Int) (i:Nat) (x:Int),i < l.length→nv (l.set i x)+4294967296 ^ i * (l.getD i 0).toNat=nv l+4294967296 ^ i * x.toNat
  | [],i,x,h=>by simp at h
  | y::l,0,x,h=>by simp [nv]; omega
  | y::l,i+1,x,h=>by
    have ih:=zij l i x (by simpa using h)
    simp only [List.set_cons_succ,nv,List.getD_cons_succ,Nat.pow_succ]
    generalize hP:4294967296 ^ i=P at ih ⊢
    generalize (l.getD i 0).toNat=c at ih ⊢
    generalize x.toNat=e at ih ⊢
    have e1:P * 4294967296 * c=4294967296 * (P * c):=by rw [Nat.mul_comm P 4294967296,Nat.mul_assoc]
    have e2:P * 4294967296 * e=4294967296 * (P * e):=by rw [Nat.mul_comm P 4294967296,Nat.mul_assoc]
    rw [e1,e2]
    omega
theorem zjo {l:List Int} (hl:IsL l) {i:Nat} (x:Int) (h:i < l.length) (h0:nv l < 4294967296 ^ i):nv (l.set i x)=nv l+4294967296 ^ i * x.toNat:=by
  have h1:=zij l i x h
  rw [zfe hl,Nat.div_eq_of_lt h0] at h1
  simpa using h1
theorem zby {n:Nat} (h:n≤4294967296):decide ((n:Int)≤LIM)=true:=by
  rw [zev]; exact decide_eq_true (by omega)
theorem zbw {l:List Int} (h:IsL l):l.take (zaq l)=zam (nv l):=take_tl h
theorem zbi {l:List Int} (h:IsL l):(zam (nv l)).length≤l.length:=limbs_le h
theorem zbn {n:Int} (h0:0≤n) (h1:n < 18446744073709551616):wu64 n=n:=by
  show IntKind.u64.wrap n=n
  simp [IntKind.wrap,IntKind.bits,IntKind.signed]; omega
theorem zhx (n:Int):wu32 n=n % 4294967296:=by
  show IntKind.u32.wrap n=_
  simp [IntKind.wrap,IntKind.bits,IntKind.signed]
theorem wu64_mod (n:Int):wu64 n=n % 18446744073709551616:=by
  show IntKind.u64.wrap n=_
  simp [IntKind.wrap,IntKind.bits,IntKind.signed]
theorem zbf {n:Int} (h0:-9223372036854775808≤n) (h1:n≤9223372036854775807):w n=n:=IntWalk.i64_in n ⟨h0,h1⟩
theorem sh32 (n:Int):Int.fdiv n (2 ^ (min (Int.toNat 32) 64))=n / 4294967296:=by
  show Int.fdiv n 4294967296=_
  exact Int.fdiv_eq_ediv_of_nonneg n (by decide)
theorem zak {α β R:Type} (f:α→β) (g:(α→β)→Option R):letJ f g=g f:=by
  cases h:letJ f g
  · exact h.symm
  · exact h.symm
theorem zbv {α β γ:Type} {f:α→Option (α ⊕ β)} {k:β→Option γ} {a0:α} {Q:Option γ→Prop} (R:Nat→α→Prop) (n:Nat) (h0:R 0 a0) (hs:∀ i a,i < n→R i a→∃ a',f a=some (.inl a')∧R (i+1) a') (he:∀ a,R n a→∃ b,f a=some (.inr b)∧Q (k b)):Q ((zaa f a0).bind k):=by
  have key:∀ m i a,i+m=n→R i a→∃ b,zaa f a=some b∧Q (k b):=by
    intro m
    induction m with
    | zero =>
      intro i a hi hr
      obtain rfl:i=n:=by omega
      obtain ⟨b,h1,h2⟩:=he a hr
      exact ⟨b,zec h1,h2⟩
    | succ m ih =>
      intro i a hi hr
      obtain ⟨a',h1,h2⟩:=hs i a (by omega) hr
      obtain ⟨b,h3,h4⟩:=ih (i+1) a' (by omega) h2
      exact ⟨b,zhd h1 h3,h4⟩
  obtain ⟨b,h1,h2⟩:=key n 0 a0 (by omega) h0
  rw [h1]
  exact h2
end Go.Proofs.YtmipjomnjkmdbaaGreat
set_option linter.unusedSimpArgs false
set_option linter.unusedVariables false
namespace Go.Proofs.YtmipjomnjkmdbaaGreat
open Go Go.X
theorem d173_eq {xs:List Int} (h:xs.length≤4294967296):d173 xs=some xs:=by
  unfold d173; rw [zby h]; rfl
theorem zgg {a:List Int} (ha:IsL a) (h:a.length≤4294967296):d171 a=some (zam (nv a)):=by
  unfold d171
  have:=zbi ha
  rw [zby h,cond_true,Option.bind_some,zbw ha,d173_eq (by omega)]
  rfl
theorem zpx {n:Int} (h0:0≤n) (h1:n < 18446744073709551616):d129 n=some (zam n.toNat):=by
  unfold d129
  have e1:wu32 n=n % 4294967296:=zhx n
  have e2:wu32 (wu64 (Int.fdiv n (2 ^ (min (Int.toNat 32) 64))))=n / 4294967296:=by
    rw [sh32,zbn (by omega) (by omega),zhx]
    omega
  rw [e1,e2]
  have hL:IsL [n % 4294967296,n / 4294967296]:=IsL.cons (by omega) (by omega) (IsL.cons (by omega) (by omega) IsL.nil)
  rw [zgg hL (by simp)]
  have:nv [n % 4294967296,n / 4294967296]=n.toNat:=by simp only [nv]; omega
  rw [this]
  rfl
theorem d217_eq {a:List Int} (ha:IsL a) {i:Int} (h0:0≤i):d217 a i=some (a.getD i.toNat 0):=by
  unfold d217
  have hg:=ha.getD i.toNat
  by_cases h:i < (a.length:Int)
  · simp only [h,h0,decide_true,cond_true,Bool.and_self]
    rw [zbn hg.1 (by omega)]
  · simp only [h,decide_false,cond_false]
    rw [List.getD_eq_getElem?_getD,List.getElem?_eq_none (by omega)]
    rfl
theorem zgf {a:List Int} (ha:IsL a) (i:Nat):d217 a (i:Int)=some (a.getD i 0):=by
  rw [d217_eq ha (by omega)]; rfl
def cmpN (x y:Nat):Int:=if x < y then -1 else if y < x then 1 else 0
theorem zgs {l:List Int} {k:Nat} (h:k < l.length):nv (l.take (k+1))=nv (l.take k)+4294967296 ^ k * (l.getD k 0).toNat:=by
  rw [take_snoc l h,zik,List.length_take,Nat.min_eq_left (by omega)]
  simp [nv]
theorem top_lt {l:List Int} (hl:IsL l) (k:Nat):nv (l.take k) < 4294967296 ^ k:=by
  have h1:=zpg (hl.take k)
  exact Nat.lt_of_lt_of_le h1 (Nat.pow_le_pow_right (by decide) (by rw [List.length_take]; omega))
theorem digit_cmp {P p q x y:Nat} (hp:p < P) (hq:q < P) (h:x < y):p+P * x < q+P * y:=by
  have:P * (x+1)≤P * y:=Nat.mul_le_mul_left _ h
  rw [Nat.mul_add,Nat.mul_one] at this
  omega
theorem d201_eq {a b:List Int} (ha:IsL a) (hb:IsL b) (la:a.length≤4294967296) (lb:b.length≤4294967296):d201 a b=some (cmpN (nv a) (nv b)):=by
  unfold d201
  rw [zby la,zby lb]
  simp only [cond_true,Option.bind_some,zbw ha,zbw hb]
  have hla:=zbi ha
  have hlb:=zbi hb
  have hA:=zar (nv a)
  have hB:=zar (nv b)
  have eA:=zax (nv a)
  have eB:=zax (nv b)
  have cA:=zap (nv a)
  have cB:=zap (nv b)
  generalize hxA:zam (nv a)=A at *
  generalize hxB:zam (nv b)=B at *
  by_cases hne:A.length=B.length
  · have e1:decide ((A.length:Int)=(B.length:Int))=true:=decide_eq_true (by omega)
    simp only [e1,Bool.not_true,cond_false]
    have key:∀ k,k≤A.length→nv (A.drop k)=nv (B.drop k)→(zaa (β:=Unit ⊕ Int) (fun ((a_1,b_1,i):(List Int) × (List Int) × Int) =>
        bif (decide (0≤i)) then
          bif (decide (0≤i) && decide (i < (a_1.length:Int))) then
            bif (decide (0≤i) && decide (i < (b_1.length:Int))) then
              bif (decide ((List.getD a_1 (Int.toNat i) 0) < (List.getD b_1 (Int.toNat i) 0))) then
                some (Sum.inr (Sum.inr (-1)))
              else
                bif (decide (0≤i) && decide (i < (a_1.length:Int))) then
                  bif (decide (0≤i) && decide (i < (b_1.length:Int))) then
                    bif (decide ((List.getD b_1 (Int.toNat i) 0) < (List.getD a_1 (Int.toNat i) 0))) then
                      some (Sum.inr (Sum.inr 1))
                    else
                      some (Sum.inl (a_1,b_1,(w (i - 1))))
                  else none
                else none
            else none
          else none
        else
          some (Sum.inr (Sum.inl ()))) (A,B,(k:Int) - 1)).bind (fun
    | Sum.inl _ =>
      some 0
    | Sum.inr t4 =>
      some t4)=some (cmpN (nv (A.take k)) (nv (B.take k))):=by
      intro k
      induction k with
      | zero =>
        intro _ _
        rw [zec (b:=Sum.inl ()) (by rfl)]
        rfl
      | succ k ih =>
        intro hk hd
        have hkA:k < A.length:=by omega
        have hkB:k < B.length:=by omega
        have i1:((k+1:Nat):Int) - 1=(k:Int):=by omega
        rw [i1]
        have d0:decide ((0:Int)≤(k:Int))=true:=decide_eq_true (by omega)
        have dA:decide ((k:Int) < (A.length:Int))=true:=decide_eq_true (by omega)
        have dB:decide ((k:Int) < (B.length:Int))=true:=decide_eq_true (by omega)
        have tA:=zgs hkA
        have tB:=zgs hkB
        have lA:=top_lt hA k
        have lB:=top_lt hB k
        have gA:=hA.getD k
        have gB:=hB.getD k
        rw [tA,tB]
        have hkn:Int.toNat (k:Int)=k:=rfl
        rcases Int.lt_trichotomy (A.getD k 0) (B.getD k 0) with h | h | h
        · rw [zec (b:=Sum.inr (-1)) (by simp only [d0,dA,dB,hkn,decide_eq_true h,cond_true,Bool.and_self])]
          have:=digit_cmp lA lB (show (A.getD k 0).toNat < (B.getD k 0).toNat by omega)
          simp only [Option.bind_some]
          unfold cmpN
          rw [if_pos this]
        · have hd':nv (A.drop k)=nv (B.drop k):=by
            rw [zmt A hkA,zmt B hkB]
            simp only [nv,hd,h]
          have:=ih (by omega) hd'
          have hw:w ((k:Int) - 1)=(k:Int) - 1:=zbf (by omega) (by omega)
          obtain ⟨z,hz⟩:∃ z,cmpN (nv (A.take k)+4294967296 ^ k * (A.getD k 0).toNat) (nv (B.take k)+4294967296 ^ k * (B.getD k 0).toNat)=z:=⟨_,rfl⟩
          have hzz:cmpN (nv (A.take k)) (nv (B.take k))=z:=by
            rw [← hz,h]; unfold cmpN
            generalize 4294967296 ^ k * (B.getD k 0).toNat=q
            (repeat' split) <;> omega
          rw [hz]
          rw [hzz] at this
          simp only [Option.bind_eq_some_iff] at this ⊢
          obtain ⟨b,hb1,hb2⟩:=this
          refine ⟨b,zhd ?_ hb1,hb2⟩
          have n1:decide (A.getD k 0 < B.getD k 0)=false:=decide_eq_false (by omega)
          have n2:decide (B.getD k 0 < A.getD k 0)=false:=decide_eq_false (by omega)
          simp only [d0,dA,dB,hkn,n1,n2,cond_true,cond_false,Bool.and_self,hw]
        · have n1:decide (A.getD k 0 < B.getD k 0)=false:=decide_eq_false (by omega)
          rw [zec (b:=Sum.inr 1) (by simp only [d0,dA,dB,hkn,n1,decide_eq_true h,cond_true,cond_false,Bool.and_self])]
          have:=digit_cmp lB lA (show (B.getD k 0).toNat < (A.getD k 0).toNat by omega)
          simp only [Option.bind_some]
          unfold cmpN
          rw [if_neg (by omega),if_pos this]
    have:=key A.length (Nat.le_refl _) (by rw [List.drop_length,hne,List.drop_length])
    rw [List.take_length,hne,List.take_length,eA,eB] at this
    rw [zbf (by omega) (by omega),hne]
    exact this
  · have e1:decide ((A.length:Int)=(B.length:Int))=false:=decide_eq_false (by omega)
    simp only [e1,Bool.not_false,cond_true]
    rcases Nat.lt_or_ge A.length B.length with h | h
    · have e2:decide ((A.length:Int) < (B.length:Int))=true:=decide_eq_true (by omega)
      have h1:=(cA A.length).1 (Nat.le_refl _)
      have h2:¬ nv b < 4294967296 ^ A.length:=fun hh=>by have:=(cB A.length).2 hh; omega
      simp only [e2,cond_true]
      unfold cmpN
      rw [if_pos (by omega)]
    · have e2:decide ((A.length:Int) < (B.length:Int))=false:=decide_eq_false (by omega)
      have h1:=(cB B.length).1 (Nat.le_refl _)
      have h2:¬ nv a < 4294967296 ^ B.length:=fun hh=>by have:=(cA B.length).2 hh; omega
      simp only [e2,cond_false]
      unfold cmpN
      rw [if_neg (by omega),if_pos (by omega)]
end Go.Proofs.YtmipjomnjkmdbaaGreat
set_option linter.unusedSimpArgs false
set_option linter.unusedVariables false
namespace Go.Proofs.YtmipjomnjkmdbaaGreat
open Go Go.X
theorem nv_takeS {l:List Int} (k:Nat):nv (l.take (k+1))=nv (l.take k)+4294967296 ^ k * (l.getD k 0).toNat:=by
  by_cases h:k < l.length
  · exact zgs h
  · rw [List.take_of_length_le (by omega),List.take_of_length_le (by omega),List.getD_eq_getElem?_getD,List.getElem?_eq_none (by omega)]
    simp
theorem zdn {l:List Int} (hl:IsL l) (k:Nat):∃ x:Nat,l.getD k 0=(x:Int)∧x < 4294967296∧nv (l.take (k+1))=nv (l.take k)+4294967296 ^ k * x:=by
  have:=hl.getD k
  refine ⟨(l.getD k 0).toNat,by omega,by omega,nv_takeS k⟩
theorem pow_digit {P v x:Nat} (hv:v < P) (hx:x < 4294967296):v+P * x < P * 4294967296:=by
  have:P * (x+1)≤P * 4294967296:=Nat.mul_le_mul_left _ hx
  rw [Nat.mul_add,Nat.mul_one] at this
  omega
theorem lenmax (x y:Nat):(bif decide ((x:Int) < (y:Int)) then (y:Int) else (x:Int))=((max x y:Nat):Int):=by
  by_cases h:(x:Int) < (y:Int)
  · rw [decide_eq_true h,cond_true]; omega
  · rw [decide_eq_false h,cond_false]; omega
theorem carry_step {P v s lo hi c x y a b:Nat} (hs:s=x+y+c) (hlo:lo=s % 4294967296) (hhi:hi=s / 4294967296) (h:v+P * c=a+b):v+P * lo+P * 4294967296 * hi=a+P * x+(b+P * y):=by
  have e:s=lo+4294967296 * hi:=by omega
  have:P * s=P * lo+P * 4294967296 * hi:=by rw [e,Nat.mul_add,Nat.mul_assoc]
  have e2:P * s=P * x+P * y+P * c:=by rw [hs,Nat.mul_add,Nat.mul_add]
  omega
theorem d209_eq {a b:List Int} (ha:IsL a) (hb:IsL b) (la:a.length≤1073741824) (lb:b.length≤1073741824):d209 a b=some (zam (nv a+nv b)):=by
  unfold d209
  rw [zby (by omega),zby (by omega)]
  simp only [cond_true,Option.bind_some,zbw ha,zbw hb]
  have hla:=zbi ha
  have hlb:=zbi hb
  have hA:=zar (nv a)
  have hB:=zar (nv b)
  have eA:=zax (nv a)
  have eB:=zax (nv b)
  generalize hxA:zam (nv a)=A at *
  generalize hxB:zam (nv b)=B at *
  clear hxA hxB
  simp only [lenmax]
  obtain ⟨n,hn⟩:∃ n,max A.length B.length=n:=⟨_,rfl⟩
  have hnA:A.length≤n:=by omega
  have hnB:B.length≤n:=by omega
  have hn1:n≤1073741824:=by omega
  rw [hn]
  have w1:w ((n:Int)+1)=((n+1:Nat):Int):=by rw [zbf (by omega) (by omega)]; omega
  have g1:decide ((0:Int)≤((n+1:Nat):Int))=true:=decide_eq_true (by omega)
  simp only [w1,decide_true,g1,zby (n:=n+1) (by omega),Bool.and_self,cond_true]
  refine zbv (Q:=fun r=>r=some (zam (nv a+nv b))) (fun (i:Nat) (st:(List Int) × (List Int) × Int × (List Int) × Int × Int × Int)=>∃ (out:List Int) (c:Nat),st=(A,B,(n:Int),out,(c:Int),(n:Int),(i:Int))∧IsL out∧out.length=n+1∧c≤1∧nv out+4294967296 ^ i * c=nv (A.take i)+nv (B.take i)∧nv out < 4294967296 ^ i) n ?_ ?_ ?_
  · exact ⟨List.replicate (n+1) 0,0,rfl,IsL.zeros _,by simp,by omega,by simp [zdk,nv],by simp [zdk]⟩
  · rintro i st hi ⟨out,c,rfl,hL,hlen,hc,hv,hlt⟩
    obtain ⟨x,hx1,hx2,hx3⟩:=zdn hA i
    obtain ⟨y,hy1,hy2,hy3⟩:=zdn hB i
    have q1:decide ((i:Int) < (n:Int))=true:=decide_eq_true (by omega)
    have q2:decide ((0:Int)≤(i:Int))=true:=decide_eq_true (by omega)
    have q3:decide ((i:Int) < (out.length:Int))=true:=decide_eq_true (by omega)
    have w2:w ((i:Int)+1)=((i+1:Nat):Int):=by rw [zbf (by omega) (by omega)]; omega
    have s1:wu64 ((x:Int)+(y:Int))=(x:Int)+y:=zbn (by omega) (by omega)
    have s2:wu64 ((x:Int)+(y:Int)+(c:Int))=(x:Int)+y+c:=zbn (by omega) (by omega)
    have s3:wu32 ((x:Int)+(y:Int)+(c:Int))=(((x+y+c) % 4294967296:Nat):Int):=by rw [zhx]; omega
    have s4:wu64 (((x:Int)+(y:Int)+(c:Int)) / 4294967296)=(((x+y+c) / 4294967296:Nat):Int):=by rw [zbn (by omega) (by omega)]; omega
    simp only [zgf hA,zgf hB,q1,q2,q3,w2,hx1,hy1,s1,s2,s3,sh32,s4,cond_true,Bool.and_self,Option.bind_some,show Int.toNat (i:Int)=i from rfl]
    have e1:=zjo hL (i:=i) (((x+y+c) % 4294967296:Nat):Int) (by omega) hlt
    rw [Int.toNat_natCast] at e1
    refine ⟨_,rfl,_,_,rfl,hL.set i (by omega) (by omega),by simpa using hlen,by omega,?_,?_⟩
    · rw [e1,hx3,hy3,Nat.pow_succ]
      exact carry_step rfl rfl rfl hv
    · rw [e1,Nat.pow_succ]
      exact pow_digit hlt (by omega)
  · rintro st ⟨out,c,rfl,hL,hlen,hc,hv,hlt⟩
    have q1:decide ((n:Int) < (n:Int))=false:=decide_eq_false (by omega)
    have q2:decide ((0:Int)≤(n:Int))=true:=decide_eq_true (by omega)
    have q3:decide ((n:Int) < (out.length:Int))=true:=decide_eq_true (by omega)
    have s3:wu32 (c:Int)=(c:Int):=by rw [zhx]; omega
    refine ⟨((n:Int),out,(c:Int)),by simp only [q1,cond_false],?_⟩
    simp only [q2,q3,s3,cond_true,Bool.and_self,show Int.toNat (n:Int)=n from rfl]
    have e1:=zjo hL (i:=n) (c:Int) (by omega) hlt
    rw [Int.toNat_natCast] at e1
    rw [List.take_of_length_le hnA,List.take_of_length_le hnB,eA,eB] at hv
    rw [zgg (hL.set n (by omega) (by omega)) (by simp; omega),e1,hv]
    rfl
end Go.Proofs.YtmipjomnjkmdbaaGreat
set_option linter.unusedSimpArgs false
set_option linter.unusedVariables false
namespace Go.Proofs.YtmipjomnjkmdbaaGreat
open Go Go.X
theorem zii {l:List Int} (hl:IsL l) {k m:Nat} {x:Int} (h0:0≤x) (h1:x < 4294967296) (hk:k < m) (hv:nv l < 4294967296 ^ m):nv (l.set k x) < 4294967296 ^ m:=by
  have hs:=hl.set k h0 h1
  by_cases h:m≤l.length
  · have e1:(l.set k x).drop m=l.drop m:=List.drop_set_of_lt hk
    have e2:=nv_drop hl h
    rw [Nat.div_eq_of_lt hv] at e2
    rw [nv_split (l.set k x) m (by simpa using h),e1,e2,Nat.mul_zero,Nat.add_zero]
    exact top_lt hs m
  · have:=zpg hs
    rw [List.length_set] at this
    exact Nat.lt_of_lt_of_le this (Nat.pow_le_pow_right (by decide) (by omega))
theorem or_add {a b n:Nat} (h:a < 2 ^ n):a ||| b * 2 ^ n=a+b * 2 ^ n:=by
  rw [Nat.or_comm,Nat.mul_comm b,Nat.add_comm,← Nat.two_pow_add_eq_or_of_lt h b]
theorem zgr (k n:Nat) (h:n < 2 ^ k):(BitVec.ofInt k (n:Int)).toNat=n:=by
  rw [BitVec.ofInt_natCast,BitVec.toNat_ofNat,Nat.mod_eq_of_lt h]
theorem or64 {a b:Nat} (ha:a < 4294967296) (hb:b < 4294967296):(BitVec.ofInt 64 ((a * 4294967296:Nat):Int) ||| BitVec.ofInt 64 (b:Int)).toNat=a * 4294967296+b:=by
  rw [BitVec.toNat_or,zgr 64 _ (by omega),zgr 64 _ (by omega),Nat.or_comm]
  have:=or_add (a:=b) (b:=a) (n:=32) hb
  rw [show (2:Nat) ^ 32=4294967296 from rfl] at this
  rw [this]; omega
theorem zau {n:Nat} (h:n < 18446744073709551616):wu64 (n:Int)=(n:Int):=zbn (by omega) (by omega)
theorem zcv {n:Nat}:wu32 (n:Int)=((n % 4294967296:Nat):Int):=by rw [zhx]; omega
theorem shl32 (n:Nat):(n:Int) * 2 ^ (min (Int.toNat 32) 64)=((n * 4294967296:Nat):Int):=by
  show (n:Int) * 4294967296=_
  omega
theorem shr32 (n:Nat):Int.fdiv (n:Int) (2 ^ (min (Int.toNat 32) 64))=((n / 4294967296:Nat):Int):=by
  rw [sh32]; omega
theorem or64w {a b:Nat} (ha:a < 4294967296) (hb:b < 4294967296):wu64 (((BitVec.ofInt 64 (wu64 ((a:Int) * 2 ^ (min (Int.toNat 32) 64))) ||| BitVec.ofInt 64 (wu64 (b:Int))).toNat:Nat):Int)=((a * 4294967296+b:Nat):Int):=by
  rw [shl32,zau (n:=a * 4294967296) (by omega),zau (n:=b) (by omega),or64 ha hb,zau (by omega)]
theorem wadd {a b:Nat} (h:a+b≤9223372036854775807):w ((a:Int)+(b:Int))=((a+b:Nat):Int):=by rw [zbf (by omega) (by omega)]; omega
theorem zbk {a:Nat} (h:a < 9223372036854775807):w ((a:Int)+1)=((a+1:Nat):Int):=by rw [zbf (by omega) (by omega)]; omega
theorem wpred {a:Nat} (h:a < 9223372036854775807):w (((a+1:Nat):Int) - 1)=(a:Int):=by rw [zbf (by omega) (by omega)]; omega
theorem dlt {a b:Nat} (h:a < b):decide ((a:Int) < (b:Int))=true:=decide_eq_true (by omega)
theorem nlt {a b:Nat} (h:b≤a):decide ((a:Int) < (b:Int))=false:=decide_eq_false (by omega)
theorem d0le (a:Nat):decide ((0:Int)≤(a:Int))=true:=decide_eq_true (by omega)
theorem tn (a:Nat):Int.toNat (a:Int)=a:=rfl
theorem cmpN_lt (x y:Nat):decide (cmpN x y < 0)=decide (x < y):=by
  unfold cmpN
  by_cases h:x < y
  · rw [if_pos h,decide_eq_true h]; rfl
  · rw [if_neg h,decide_eq_false h]; split <;> rfl
theorem zdj {x y:Nat} (h:x≤y):(zam x).length≤(zam y).length:=by
  have h1:=(zap y (zam y).length).1 (Nat.le_refl _)
  exact (zap x _).2 (by omega)
theorem borrow_step {P v s lo h c c' x y a b:Nat} (hs:s+y+c=4294967296+x) (hlo:s=lo+4294967296 * h) (hc:c'+h=1) (e:v+b=a+P * c):v+P * lo+(b+P * y)=a+P * x+P * 4294967296 * c':=by
  have e1:lo+y+c=x+4294967296 * c':=by omega
  have e2:=congrArg (P * ·) e1
  simp only [Nat.mul_add,← Nat.mul_assoc] at e2
  omega
theorem d210_eq {a b:List Int} (ha:IsL a) (hb:IsL b) (la:a.length≤1073741824) (lb:b.length≤1073741824):d210 a b=some (if nv a < nv b then ([],false) else (zam (nv a - nv b),true)):=by
  unfold d210
  rw [zby (by omega),zby (by omega)]
  simp only [cond_true,Option.bind_some,zbw ha,zbw hb]
  have hla:=zbi ha
  have hlb:=zbi hb
  have hA:=zar (nv a)
  have hB:=zar (nv b)
  have eA:=zax (nv a)
  have eB:=zax (nv b)
  have hm:=@zdj (nv b) (nv a)
  generalize hxA:zam (nv a)=A at *
  generalize hxB:zam (nv b)=B at *
  clear hxA hxB
  rw [d201_eq hA hB (by omega) (by omega),eA,eB]
  simp only [Option.bind_some,cmpN_lt]
  by_cases hlt:nv a < nv b
  · rw [decide_eq_true hlt,if_pos hlt]; rfl
  rw [decide_eq_false hlt,if_neg hlt]
  have hBA:=hm (by omega)
  simp only [cond_false,decide_true,d0le,zby (n:=A.length) (by omega),Bool.and_self,cond_true,tn]
  refine zbv (Q:=fun r=>r=some (zam (nv a - nv b),true)) (fun (i:Nat) (st:(List Int) × (List Int) × (List Int) × Int × Int × Int)=>∃ (out:List Int) (c:Nat),st=(A,B,out,(c:Int),(A.length:Int),(i:Int))∧IsL out∧out.length=A.length∧c≤1∧nv out+nv (B.take i)=nv (A.take i)+4294967296 ^ i * c∧nv out < 4294967296 ^ i) A.length ?_ ?_ ?_
  · exact ⟨List.replicate A.length 0,0,rfl,IsL.zeros _,by simp,by omega,by simp [zdk,nv],by simp [zdk]⟩
  · rintro i st hi ⟨out,c,rfl,hL,hlen,hc,hv,hv2⟩
    obtain ⟨x,hx1,hx2,hx3⟩:=zdn hA i
    obtain ⟨y,hy1,hy2,hy3⟩:=zdn hB i
    obtain ⟨s,hs⟩:∃ s,4294967296+x - y - c=s:=⟨_,rfl⟩
    have s1:wu64 (4294967296+(x:Int))=4294967296+(x:Int):=zbn (by omega) (by omega)
    have s2:wu64 (4294967296+(x:Int) - (y:Int))=4294967296+(x:Int) - y:=zbn (by omega) (by omega)
    have s3:wu64 (4294967296+(x:Int) - (y:Int) - (c:Int))=(s:Int):=by rw [zbn (by omega) (by omega)]; omega
    have s4:wu64 (((s / 4294967296:Nat):Int))=((s / 4294967296:Nat):Int):=zau (by omega)
    have s5:wu64 (1 - ((s / 4294967296:Nat):Int))=((1 - s / 4294967296:Nat):Int):=by rw [zbn (by omega) (by omega)]; omega
    simp only [zgf hA,zgf hB,dlt hi,d0le,dlt (show i < out.length by omega),zbk (show i < 9223372036854775807 by omega),hx1,hy1,s1,s2,s3,shr32,s4,s5,zcv,cond_true,Bool.and_self,Option.bind_some,tn]
    have e1:=zjo hL (i:=i) (((s % 4294967296:Nat):Int)) (by omega) hv2
    rw [Int.toNat_natCast] at e1
    refine ⟨_,rfl,_,_,rfl,hL.set i (by omega) (by omega),by simpa using hlen,by omega,?_,?_⟩
    · rw [e1,hx3,hy3,Nat.pow_succ]
      exact borrow_step (s:=s) (h:=s / 4294967296) (by omega) (by omega) (by omega) hv
    · rw [e1,Nat.pow_succ]
      exact pow_digit hv2 (by omega)
  · rintro st ⟨out,c,rfl,hL,hlen,hc,hv,hv2⟩
    refine ⟨out,by simp only [nlt (Nat.le_refl A.length),cond_false],?_⟩
    rw [List.take_of_length_le (Nat.le_refl _),List.take_of_length_le hBA,eA,eB] at hv
    have hc0:c=0:=by
      rcases Nat.eq_zero_or_pos c with h | h
      · exact h
      · have:c=1:=by omega
        subst this
        omega
    subst hc0
    show (d171 out).bind _=_
    rw [zgg hL (by omega),show nv out=nv a - nv b by omega]
    rfl
theorem mul_step {P v s lo hi c x y o t:Nat} (hs:s=x * y+o+c) (hlo:s=lo+4294967296 * hi):P * lo+P * 4294967296 * hi=P * (x * y)+P * o+P * c:=by
  have e2:=congrArg (P * ·) (hlo.symm.trans hs)
  simp only [Nat.mul_add,← Nat.mul_assoc] at e2 ⊢
  omega
theorem d177_eq {a b:List Int} (ha:IsL a) (hb:IsL b) (la:a.length≤1073741824) (lb:b.length≤1073741824):d177 a b=some (zam (nv a * nv b)):=by
  unfold d177
  rw [zby (by omega),zby (by omega)]
  simp only [cond_true,Option.bind_some,zbw ha,zbw hb]
  have hla:=zbi ha
  have hlb:=zbi hb
  have hA:=zar (nv a)
  have hB:=zar (nv b)
  have eA:=zax (nv a)
  have eB:=zax (nv b)
  generalize hxA:zam (nv a)=A at *
  generalize hxB:zam (nv b)=B at *
  clear hxA hxB
  simp only [wadd (show A.length+B.length≤9223372036854775807 by omega),decide_true,d0le,zby (n:=A.length+B.length) (by omega),Bool.and_self,cond_true,tn]
  refine zbv (Q:=fun r=>r=some (zam (nv a * nv b))) (fun (i:Nat) (st:(List Int) × (List Int) × (List Int) × Int × Int)=>∃ (out:List Int),st=(B,out,A,(A.length:Int),(i:Int))∧IsL out∧out.length=A.length+B.length∧nv out=nv (A.take i) * nv B) A.length ?_ ?_ ?_
  · exact ⟨_,rfl,IsL.zeros _,by simp,by simp [zdk,nv]⟩
  · rintro i st hi ⟨out,rfl,hL,hlen,hv⟩
    obtain ⟨x,hx1,hx2,hx3⟩:=zdn hA i
    have hlt0:nv out < 4294967296 ^ (i+B.length):=by
      rw [hv,Nat.pow_add]
      exact Nat.mul_lt_mul'' (top_lt hA i) (zpg hB)
    simp only [dlt hi,d0le,cond_true,Bool.and_self,tn,hx1]
    refine zbv (Q:=fun (r:Option (((List Int) × (List Int) × (List Int) × Int × Int) ⊕ (List Int)))=>∃ a',r=some (.inl a')∧∃ (out:List Int),a'=(B,out,A,(A.length:Int),((i+1:Nat):Int))∧IsL out∧out.length=A.length+B.length∧nv out=nv (A.take (i+1)) * nv B)
      (fun (j:Nat) (st:(List Int) × (List Int) × Int × Int × Int × (List Int) × Int × Int × (List Int) × Int × Int)=>∃ (o:List Int) (c:Nat),st=(B,o,(i:Int),(x:Int),(c:Int),A,(A.length:Int),(i:Int),B,(B.length:Int),(j:Int))∧IsL o∧o.length=A.length+B.length∧c < 4294967296∧nv o+4294967296 ^ i * 4294967296 ^ j * c=nv out+4294967296 ^ i * (x * nv (B.take j))∧nv o < 4294967296 ^ (i+B.length)) B.length ?_ ?_ ?_
    · exact ⟨out,0,rfl,hL,hlen,by omega,by simp [nv],hlt0⟩
    · rintro j st hj ⟨o,c,rfl,hL',hlen',hc,hv',hlt'⟩
      obtain ⟨y,hy1,hy2,hy3⟩:=zdn hB j
      have hz:=hL'.getD (i+j)
      obtain ⟨z,hz1⟩:∃ z:Nat,o.getD (i+j) 0=(z:Int):=⟨_,(Int.toNat_of_nonneg hz.1).symm⟩
      rw [hz1] at hz
      obtain ⟨p,hp⟩:∃ p,x * y=p:=⟨_,rfl⟩
      have hpl:p≤4294967295 * 4294967295:=by rw [← hp]; exact Nat.mul_le_mul (by omega) (by omega)
      have hxy:(x:Int) * (y:Int)=(p:Int):=by rw [← hp]; simp
      have s1:wu64 ((p:Int)+(z:Int))=((p+z:Nat):Int):=by rw [zbn (by omega) (by omega)]; omega
      have s2:wu64 (((p+z:Nat):Int)+(c:Int))=((p+z+c:Nat):Int):=by rw [zbn (by omega) (by omega)]; omega
      obtain ⟨s,hs⟩:∃ s,p+z+c=s:=⟨_,rfl⟩
      have s4:wu64 (((s / 4294967296:Nat):Int))=((s / 4294967296:Nat):Int):=zau (by omega)
      simp only [dlt hj,d0le,wadd (show i+j≤9223372036854775807 by omega),dlt (show i+j < o.length by omega),cond_true,Bool.and_self,tn,hy1,hz1,zau (show x < 18446744073709551616 by omega),zau (show y < 18446744073709551616 by omega),zau (show z < 18446744073709551616 by omega),hxy,zau (show p < 18446744073709551616 by omega),s1,s2,hs,zcv,shr32,s4,zbk (show j < 9223372036854775807 by omega)]
      have e1:=zij o (i+j) (((s % 4294967296:Nat):Int)) (by omega)
      rw [Int.toNat_natCast,hz1,Int.toNat_natCast] at e1
      refine ⟨_,rfl,_,_,rfl,hL'.set _ (by omega) (by omega),by simpa using hlen',by omega,?_,zii hL' (by omega) (by omega) (by omega) hlt'⟩
      rw [hy3,Nat.pow_succ]
      rw [Nat.pow_add] at e1
      have e2:s=x * y+z+c:=by rw [hp,hs]
      have e3:=mul_step (P:=4294967296 ^ i * 4294967296 ^ j) (v:=0) (t:=0) e2 (show s=s % 4294967296+4294967296 * (s / 4294967296) by omega)
      have e4:4294967296 ^ i * (x * (nv (B.take j)+4294967296 ^ j * y))=4294967296 ^ i * (x * nv (B.take j))+4294967296 ^ i * 4294967296 ^ j * (x * y):=by
        rw [Nat.mul_add,Nat.mul_add]
        congr 1
        rw [Nat.mul_left_comm x,← Nat.mul_assoc]
      rw [e4]
      rw [← Nat.mul_assoc (4294967296 ^ i) (4294967296 ^ j) 4294967296]
      omega
    · rintro st ⟨o,c,rfl,hL',hlen',hc,hv',hlt'⟩
      refine ⟨_,by simp only [nlt (Nat.le_refl B.length),cond_false]; rfl,?_⟩
      simp only [d0le,wadd (show i+B.length≤9223372036854775807 by omega),dlt (show i+B.length < o.length by omega),cond_true,Bool.and_self,tn,zbk (show i < 9223372036854775807 by omega),zcv,Nat.mod_eq_of_lt hc]
      have e1:=zjo hL' (i:=i+B.length) (c:Int) (by omega) hlt'
      rw [Int.toNat_natCast] at e1
      refine ⟨_,rfl,_,rfl,hL'.set _ (by omega) (by omega),by simpa using hlen',?_⟩
      rw [List.take_of_length_le (Nat.le_refl _)] at hv'
      rw [e1,hx3,Nat.add_mul,Nat.pow_add,hv',hv,Nat.mul_assoc]
  · rintro st ⟨out,rfl,hL,hlen,hv⟩
    refine ⟨out,by simp only [nlt (Nat.le_refl A.length),cond_false],?_⟩
    rw [List.take_of_length_le (Nat.le_refl _),eA,eB] at hv
    show (d171 out).bind _=_
    rw [zgg hL (by omega),hv]
    rfl
end Go.Proofs.YtmipjomnjkmdbaaGreat
set_option linter.unusedSimpArgs false
set_option linter.unusedVariables false
namespace Go.Proofs.YtmipjomnjkmdbaaGreat
open Go Go.X
theorem zng {α β γ:Type} {f:α→Option (α ⊕ β)} {k:β→Option γ} {a0:α} {Q:Option γ→Prop} (R:Nat→α→Prop) (n:Nat) (h0:R n a0) (hs:∀ i a,i < n→R (i+1) a→∃ a',f a=some (.inl a')∧R i a') (he:∀ a,R 0 a→∃ b,f a=some (.inr b)∧Q (k b)):Q ((zaa f a0).bind k):=by
  refine zbv (Q:=Q) (fun i a=>i≤n∧R (n - i) a) n ⟨Nat.zero_le _,h0⟩ ?_ ?_
  · rintro i a hi ⟨h1,h2⟩
    rw [show n - i=n - (i+1)+1 by omega] at h2
    obtain ⟨a',h3,h4⟩:=hs (n - (i+1)) a (by omega) h2
    exact ⟨a',h3,hi,h4⟩
  · rintro a ⟨_,h⟩
    rw [Nat.sub_self] at h
    exact he a h
theorem getD_set_ne (l:List Int) {i j:Nat} (x:Int) (h:i ≠ j):(l.set i x).getD j 0=l.getD j 0:=by
  simp only [List.getD_eq_getElem?_getD,List.getElem?_set_ne h]
theorem zny (n i:Nat):(List.replicate n (0:Int)).getD i 0=0:=by
  rw [List.getD_eq_getElem?_getD,List.getElem?_replicate]
  split <;> rfl
theorem short_step {P V q r t x d X:Nat} (h:V=q * d+P * 4294967296 * r+(t+P * x)) (hX:X=r * 4294967296+x):V=(q+P * (X / d)) * d+P * (X % d)+t:=by
  have e:=Nat.div_add_mod X d
  have e1:P * X=P * (X / d) * d+P * (X % d):=by
    rw [Nat.mul_assoc,Nat.mul_comm (X / d),← Nat.mul_add,e]
  have e2:P * X=P * 4294967296 * r+P * x:=by rw [hX,Nat.mul_add,Nat.mul_assoc,Nat.mul_comm r]
  rw [Nat.add_mul]
  omega
theorem d202_eq {a:List Int} (ha:IsL a) (la:a.length≤1073741824) {d:Nat} (hd:0 < d) (hd2:d < 4294967296):∃ q,d202 a (d:Int)=some (q,((nv a % d:Nat):Int))∧IsL q∧q.length=a.length∧nv q=nv a / d:=by
  unfold d202
  simp only [decide_true,d0le,zby (n:=a.length) (by omega),Bool.and_self,cond_true,tn]
  have hd0:decide ((d:Int)=0)=false:=decide_eq_false (by omega)
  refine zng (Q:=fun r=>∃ q,r=some (q,((nv a % d:Nat):Int))∧IsL q∧q.length=a.length∧nv q=nv a / d) (fun (i:Nat) (st:(List Int) × Int × (List Int) × Int × Int)=>∃ (q:List Int) (r:Nat),st=(a,(d:Int),q,(r:Int),(i:Int) - 1)∧i≤a.length∧IsL q∧q.length=a.length∧r < d∧(∀ k,k < i→q.getD k 0=0)∧nv a=nv q * d+4294967296 ^ i * r+nv (a.take i)) a.length ?_ ?_ ?_
  · refine ⟨_,0,by rw [zbf (by omega) (by omega)]; rfl,Nat.le_refl _,IsL.zeros _,by simp,hd,fun k _=>zny _ k,by simp [zdk]⟩
  · rintro i st hi ⟨q,r,rfl,hia,hL,hlen,hr,hz,hv⟩
    obtain ⟨x,hx1,hx2,hx3⟩:=zdn ha i
    have hi1:(((i+1:Nat):Int)) - 1=(i:Int):=by omega
    obtain ⟨X,hX⟩:∃ X,r * 4294967296+x=X:=⟨_,rfl⟩
    have hX1:X / d < 4294967296:=by
      rw [Nat.div_lt_iff_lt_mul hd]
      have:(r+1) * 4294967296≤d * 4294967296:=Nat.mul_le_mul_right _ hr
      rw [Nat.mul_comm 4294967296]
      omega
    have hX2:X % d < d:=Nat.mod_lt _ hd
    have t1:Int.tdiv (X:Int) (d:Int)=((X / d:Nat):Int):=rfl
    have t2:Int.tmod (X:Int) (d:Int)=((X % d:Nat):Int):=rfl
    have hw:w ((i:Int) - 1)=(i:Int) - 1:=zbf (by omega) (by omega)
    simp only [hi1,d0le,dlt (show i < a.length by omega),dlt (show i < q.length by omega),hd0,Bool.not_false,cond_true,Bool.and_self,tn,hx1,or64w (show r < 4294967296 by omega) hx2,hX,t1,t2,zau (show X / d < 18446744073709551616 by omega),zau (show X % d < 18446744073709551616 by omega),zcv,Nat.mod_eq_of_lt hX1,hw]
    have e1:=zij q i (((X / d:Nat):Int)) (by omega)
    rw [hz i (by omega),Int.toNat_natCast] at e1
    refine ⟨_,rfl,_,_,rfl,by omega,hL.set i (Int.natCast_nonneg _) (by rw [show (4294967296:Int)=((4294967296:Nat):Int) from rfl]; exact Int.ofNat_lt.2 hX1),by simpa using hlen,hX2,fun k hk=>by rw [getD_set_ne _ _ (by omega)]; exact hz k (by omega),?_⟩
    have e2:nv (q.set i (((X / d:Nat):Int)))=nv q+4294967296 ^ i * (X / d):=by simpa using e1
    rw [e2]
    rw [Nat.pow_succ,hx3] at hv
    exact short_step hv hX.symm
  · rintro st ⟨q,r,rfl,hia,hL,hlen,hr,hz,hv⟩
    refine ⟨(q,(r:Int)),rfl,q,?_,hL,hlen,?_⟩
    · simp only [List.take_zero,nv,Nat.pow_zero,Nat.one_mul,Nat.add_zero] at hv
      rw [hv,Nat.mul_comm,Nat.mul_add_mod,Nat.mod_eq_of_lt hr]
    · simp only [List.take_zero,nv,Nat.pow_zero,Nat.one_mul,Nat.add_zero] at hv
      rw [hv,Nat.mul_comm,Nat.mul_add_div hd,Nat.div_eq_of_lt hr,Nat.add_zero]
theorem shl_nat {x n:Nat} (hn:n≤31):(x:Int) * 2 ^ (min (Int.toNat (n:Int)) 64)=((x * 2 ^ n:Nat):Int):=by
  rw [tn,show min n 64=n by omega]; simp
theorem shr_nat {x n:Nat} (hn:n≤31):Int.fdiv (x:Int) (2 ^ (min (Int.toNat (n:Int)) 64))=((x / 2 ^ n:Nat):Int):=by
  rw [tn,show min n 64=n by omega]
  have:((2:Int) ^ n)=((2 ^ n:Nat):Int):=by simp
  rw [this,Int.fdiv_eq_ediv_of_nonneg _ (Int.natCast_nonneg _)]
  rfl
theorem zma {n:Nat} (hn:n≤31):2 ^ n * 2 ^ (32 - n)=4294967296:=by
  rw [← Nat.pow_add,show n+(32 - n)=32 by omega]
theorem low_half {x n:Nat} (hn:n≤31):x * 2 ^ n % 4294967296=x % 2 ^ (32 - n) * 2 ^ n:=by
  rw [← zma hn,Nat.mul_comm x,Nat.mul_mod_mul_left,Nat.mul_comm]
theorem low_top {x n o:Nat} (hn:n≤31) (ho:o < 2 ^ n):o+x * 2 ^ n % 4294967296 < 4294967296:=by
  rw [low_half hn]
  have h1:x % 2 ^ (32 - n) < 2 ^ (32 - n):=Nat.mod_lt _ (Nat.pow_pos (by decide))
  have h2:=Nat.mul_le_mul_right (2 ^ n) h1
  rw [Nat.mul_comm (2 ^ (32 - n)),zma hn,Nat.succ_mul] at h2
  omega
theorem or32 {o x n:Nat} (hn:n≤31) (ho:o < 2 ^ n):(BitVec.ofInt 32 (o:Int) ||| BitVec.ofInt 32 ((x * 2 ^ n % 4294967296:Nat):Int)).toNat=o+x * 2 ^ n % 4294967296:=by
  have h2:o < 4294967296:=by have:=low_top (x:=x) hn ho; omega
  rw [BitVec.toNat_or,zgr 32 _ (by omega),zgr 32 _ (Nat.mod_lt _ (by decide)),low_half hn]
  exact or_add ho
theorem left_step {P v lo hi x t T:Nat} (hv:v=t * T) (hlo:x * T=lo+4294967296 * hi):v+P * lo+P * 4294967296 * hi=(t+P * x) * T:=by
  rw [Nat.add_mul,← hv,Nat.mul_assoc P x T,hlo,Nat.mul_add,← Nat.mul_assoc]; omega
theorem set_set_nv {out:List Int} (hL:IsL out) {i o lo hi:Nat} (h:i+1 < out.length) (ho:out.getD i 0=(o:Int)) (hlt:nv out < 4294967296 ^ (i+1)) (h1:o+lo < 4294967296) (h2:hi < 4294967296) :
    IsL ((out.set i ((o+lo:Nat):Int)).set (i+1) (hi:Int))∧nv ((out.set i ((o+lo:Nat):Int)).set (i+1) (hi:Int))=nv out+4294967296 ^ i * lo+4294967296 ^ i * 4294967296 * hi:=by
  have q1:=hL.set i (x:=((o+lo:Nat):Int)) (by omega) (by omega)
  refine ⟨q1.set _ (by omega) (by omega),?_⟩
  have e1:=zij out i ((o+lo:Nat):Int) (by omega)
  rw [ho,Int.toNat_natCast,Int.toNat_natCast,Nat.mul_add] at e1
  have e2:=zjo q1 (i:=i+1) (hi:Int) (by simpa using h) (zii hL (by omega) (by omega) (by omega) hlt)
  rw [e2,Int.toNat_natCast,Nat.pow_succ]
  omega
theorem d204_eq {a:List Int} (ha:IsL a) (la:a.length≤1073741824) {n:Nat} (hn:n≤31):∃ out,d204 a (n:Int)=some out∧IsL out∧out.length=a.length+1∧nv out=nv a * 2 ^ n:=by
  unfold d204
  have hT:2 ^ n < 4294967296:=Nat.pow_lt_pow_right (by decide) (show n < 32 by omega)
  have hT0:0 < 2 ^ n:=Nat.pow_pos (by decide)
  simp only [zbk (show a.length < 9223372036854775807 by omega),decide_true,d0le,zby (n:=a.length+1) (by omega),Bool.and_self,cond_true,tn]
  refine zbv (Q:=fun r=>∃ out,r=some out∧IsL out∧out.length=a.length+1∧nv out=nv a * 2 ^ n) (fun (i:Nat) (st:Int × (List Int) × (List Int) × Int × Int)=>∃ (out:List Int),st=((n:Int),out,a,(a.length:Int),(i:Int))∧IsL out∧out.length=a.length+1∧nv out=nv (a.take i) * 2 ^ n) a.length ?_ ?_ ?_
  · exact ⟨_,rfl,IsL.zeros _,by simp,by simp [zdk,nv]⟩
  · rintro i st hi ⟨out,rfl,hL,hlen,hv⟩
    obtain ⟨x,hx1,hx2,hx3⟩:=zdn ha i
    have htop:=top_lt ha i
    have hlt:nv out < 4294967296 ^ i * 2 ^ n:=by rw [hv]; exact Nat.mul_lt_mul_of_pos_right htop hT0
    have ho1:out.getD i 0=((nv out / 4294967296 ^ i:Nat):Int):=by
      rw [zfe hL]
      have:nv out / 4294967296 ^ i < 2 ^ n:=Nat.div_lt_of_lt_mul hlt
      rw [Nat.mod_eq_of_lt (by omega)]
    have ho2:nv out / 4294967296 ^ i < 2 ^ n:=Nat.div_lt_of_lt_mul hlt
    obtain ⟨o,ho⟩:∃ o,nv out / 4294967296 ^ i=o:=⟨_,rfl⟩
    rw [ho] at ho1 ho2
    have hlt1:nv out < 4294967296 ^ (i+1):=by
      rw [Nat.pow_succ]
      exact Nat.lt_of_lt_of_le hlt (Nat.mul_le_mul_left _ (by omega))
    obtain ⟨v,hvx⟩:∃ v,x * 2 ^ n=v:=⟨_,rfl⟩
    have hv64:v < 4294967296 * 4294967296:=by rw [← hvx]; exact Nat.mul_lt_mul'' hx2 hT
    have hor:=or32 (x:=x) hn ho2
    have hlo:=low_top (x:=x) hn ho2
    rw [hvx] at hor hlo
    have s1:wu32 ((o+v % 4294967296:Nat):Int)=((o+v % 4294967296:Nat):Int):=by rw [zcv,Nat.mod_eq_of_lt hlo]
    have hhi:v / 4294967296 < 4294967296:=by omega
    have s2:wu32 ((v / 4294967296:Nat):Int)=((v / 4294967296:Nat):Int):=by rw [zcv,Nat.mod_eq_of_lt hhi]
    simp only [dlt hi,d0le,dlt (show i < out.length by omega),zbk (show i < 9223372036854775807 by omega),List.length_set,dlt (show i+1 < out.length by omega),cond_true,Bool.and_self,tn,hx1,ho1,zau (show x < 18446744073709551616 by omega)]
    rw [show (x:Int) * 2 ^ (min n 64)=(v:Int) by have:=shl_nat (x:=x) hn; rw [tn,hvx] at this; exact this]
    simp only [zau (show v < 18446744073709551616 by omega),zcv (n:=v),hor,s1,shr32,zau (show v / 4294967296 < 18446744073709551616 by omega),s2]
    obtain ⟨q1,q2⟩:=set_set_nv hL (i:=i) (lo:=v % 4294967296) (hi:=v / 4294967296) (by omega) ho1 hlt1 hlo hhi
    refine ⟨_,rfl,_,rfl,q1,by simpa using hlen,?_⟩
    rw [q2,hx3]
    exact left_step hv (by rw [hvx]; omega)
  · rintro st ⟨out,rfl,hL,hlen,hv⟩
    rw [List.take_of_length_le (Nat.le_refl _)] at hv
    exact ⟨out,by simp only [nlt (Nat.le_refl a.length),cond_false],out,rfl,hL,hlen,hv⟩
theorem right_digit {X n:Nat} (hn:n≤31):(X % 4294967296+X / 4294967296 % 4294967296 * 4294967296) / 2 ^ n % 4294967296=X / 2 ^ n % 4294967296:=by
  have hT0:0 < 2 ^ n:=Nat.pow_pos (by decide)
  obtain ⟨z,hz⟩:∃ z,X % 4294967296+X / 4294967296 % 4294967296 * 4294967296=z:=⟨_,rfl⟩
  have e:X=z+2 ^ n * (2 ^ (32 - n) * (X / 4294967296 / 4294967296) * 4294967296):=by
    rw [Nat.mul_assoc,← Nat.mul_assoc (2 ^ n),zma hn]
    omega
  rw [hz]
  conv=>rhs; rw [e]
  rw [Nat.add_mul_div_left _ _ hT0,Nat.add_mul_mod_self_right]
theorem or64r {a b:Nat} (ha:a < 4294967296) (hb:b < 4294967296):wu64 (((BitVec.ofInt 64 (b:Int) ||| BitVec.ofInt 64 (wu64 ((a:Int) * 2 ^ (min (Int.toNat 32) 64)))).toNat:Nat):Int)=((b+a * 4294967296:Nat):Int):=by
  rw [shl32,zau (n:=a * 4294967296) (by omega),BitVec.toNat_or,Nat.or_comm,← BitVec.toNat_or,or64 ha hb,zau (by omega)]
  congr 1
  omega
theorem d206_eq {a:List Int} (ha:IsL a) (la:a.length≤1073741824) {n:Nat} (hn:n≤31):∃ out,d206 a (n:Int)=some out∧IsL out∧out.length=a.length∧nv out=nv a / 2 ^ n:=by
  unfold d206
  have hT0:0 < 2 ^ n:=Nat.pow_pos (by decide)
  simp only [decide_true,d0le,zby (n:=a.length) (by omega),Bool.and_self,cond_true,tn]
  refine zbv (Q:=fun r=>∃ out,r=some out∧IsL out∧out.length=a.length∧nv out=nv a / 2 ^ n) (fun (i:Nat) (st:(List Int) × Int × (List Int) × Int × Int)=>∃ (out:List Int),st=(a,(n:Int),out,(a.length:Int),(i:Int))∧IsL out∧out.length=a.length∧nv out=nv a / 2 ^ n % 4294967296 ^ i) a.length ?_ ?_ ?_
  · exact ⟨_,rfl,IsL.zeros _,by simp,by simp [zdk,nv,Nat.mod_one]⟩
  · rintro i st hi ⟨out,rfl,hL,hlen,hv⟩
    have g0:=zfe ha i
    have g1:=zfe ha (i+1)
    rw [Nat.pow_succ,← Nat.div_div_eq_div_mul] at g1
    have hlt:nv out < 4294967296 ^ i:=by rw [hv]; exact Nat.mod_lt _ (zoo i)
    have hd:=right_digit (X:=nv a / 4294967296 ^ i) hn
    obtain ⟨X,hX⟩:∃ X,nv a / 4294967296 ^ i=X:=⟨_,rfl⟩
    rw [hX] at g0 g1 hd
    have b0:X % 4294967296 < 4294967296:=Nat.mod_lt _ (by decide)
    have b1:X / 4294967296 % 4294967296 < 4294967296:=Nat.mod_lt _ (by decide)
    obtain ⟨z,hz⟩:∃ z,X % 4294967296+X / 4294967296 % 4294967296 * 4294967296=z:=⟨_,rfl⟩
    rw [hz] at hd
    have hzb:z < 18446744073709551616:=by omega
    have hzd:z / 2 ^ n < 18446744073709551616:=Nat.lt_of_le_of_lt (Nat.div_le_self _ _) hzb
    have sh:Int.fdiv (z:Int) (2 ^ (min n 64))=((z / 2 ^ n:Nat):Int):=by have:=shr_nat (x:=z) hn; rwa [tn] at this
    simp only [dlt hi,zgf ha,zbk (show i < 9223372036854775807 by omega),d0le,dlt (show i < out.length by omega),cond_true,Bool.and_self,Option.bind_some,g0,g1,or64r b1 b0,hz,tn,sh,zau hzd,zcv,hd]
    have e1:=zjo hL (i:=i) (((X / 2 ^ n % 4294967296:Nat):Int)) (by omega) hlt
    rw [Int.toNat_natCast] at e1
    refine ⟨_,rfl,_,rfl,hL.set i (by omega) (by omega),by simpa using hlen,?_⟩
    rw [e1,hv,← hX,Nat.div_div_eq_div_mul,Nat.mul_comm (4294967296 ^ i) (2 ^ n),← Nat.div_div_eq_div_mul,Nat.mod_pow_succ]
  · rintro st ⟨out,rfl,hL,hlen,hv⟩
    refine ⟨out,by simp only [nlt (Nat.le_refl a.length),cond_false],out,rfl,hL,hlen,?_⟩
    rw [hv]
    exact Nat.mod_eq_of_lt (Nat.lt_of_le_of_lt (Nat.div_le_self _ _) (zpg ha))
end Go.Proofs.YtmipjomnjkmdbaaGreat
set_option linter.unusedSimpArgs false
set_option linter.unusedVariables false
namespace Go.Proofs.YtmipjomnjkmdbaaGreat
open Go Go.X
theorem zhc {α β γ:Type} {f:α→Option (α ⊕ β)} {k:β→Option γ} {a0:α} {Q:Option γ→Prop} (R:Nat→α→Prop) (n:Nat) (h0:R n a0) (hs:∀ m a,R m a→(∃ a' m',f a=some (.inl a')∧m' < m∧R m' a')∨∃ b,f a=some (.inr b)∧Q (k b)):Q ((zaa f a0).bind k):=by
  have key:∀ M m a,m < M→R m a→∃ b,zaa f a=some b∧Q (k b):=by
    intro M
    induction M with
    | zero=>intro m a h; omega
    | succ M ih =>
      intro m a hm hr
      rcases hs m a hr with ⟨a',m',h1,h2,h3⟩ | ⟨b,h1,h2⟩
      · obtain ⟨b,h4,h5⟩:=ih m' a' (by omega) h3
        exact ⟨b,zhd h1 h4,h5⟩
      · exact ⟨b,zec h1,h2⟩
  obtain ⟨b,h1,h2⟩:=key (n+1) n a0 (by omega) h0
  rw [h1]
  exact h2
theorem two_top {v:List Int} (hv:IsL v) {m:Nat} (hm:v.length=m+2):∃ h s t:Nat,v.getD (m+1) 0=(h:Int)∧v.getD m 0=(s:Int)∧h < 4294967296∧s < 4294967296∧t < 4294967296 ^ m∧nv v=(h * 4294967296+s) * 4294967296 ^ m+t:=by
  have g0:=zfe hv m
  have g1:=zfe hv (m+1)
  rw [Nat.pow_succ,← Nat.div_div_eq_div_mul] at g1
  have hlt:=zpg hv
  rw [hm,show m+2=m+1+1 by omega,Nat.pow_succ,Nat.pow_succ,Nat.mul_assoc] at hlt
  have hY:=Nat.div_lt_of_lt_mul hlt
  have hdm:=Nat.div_add_mod (nv v) (4294967296 ^ m)
  have hml:=Nat.mod_lt (nv v) (zoo m)
  generalize nv v / 4294967296 ^ m=Y at *
  refine ⟨Y / 4294967296,Y % 4294967296,nv v % 4294967296 ^ m,?_,g0,by omega,by omega,hml,?_⟩
  · rw [g1]; omega
  · rw [show Y / 4294967296 * 4294967296+Y % 4294967296=Y by omega,Nat.mul_comm Y]; omega
theorem three_top {u:List Int} (hu:IsL u) {j m:Nat} (hlt:nv u < 4294967296 ^ (j+m+3)):∃ a b c z:Nat,u.getD (j+m+2) 0=(a:Int)∧u.getD (j+m+1) 0=(b:Int)∧u.getD (j+m) 0=(c:Int)∧a < 4294967296∧b < 4294967296∧c < 4294967296∧z < 4294967296 ^ m∧nv u / 4294967296 ^ j=((a * 4294967296+b) * 4294967296+c) * 4294967296 ^ m+z:=by
  have g0:=zfe hu (j+m)
  have g1:=zfe hu (j+m+1)
  have g2:=zfe hu (j+m+2)
  rw [show j+m+2=j+m+1+1 by omega,Nat.pow_succ,← Nat.div_div_eq_div_mul] at g2
  rw [Nat.pow_succ,← Nat.div_div_eq_div_mul] at g1 g2
  rw [Nat.pow_add,← Nat.div_div_eq_div_mul] at g0 g1 g2
  have hl2:nv u / 4294967296 ^ j / 4294967296 ^ m < 4294967296 * 4294967296 * 4294967296:=by
    rw [Nat.div_div_eq_div_mul,← Nat.pow_add]
    refine Nat.div_lt_of_lt_mul ?_
    rw [show j+m+3=j+m+1+1+1 by omega,Nat.pow_succ,Nat.pow_succ,Nat.pow_succ] at hlt
    rw [← Nat.mul_assoc,← Nat.mul_assoc]
    exact hlt
  generalize nv u / 4294967296 ^ j=U at *
  have hdm:=Nat.div_add_mod U (4294967296 ^ m)
  have hml:=Nat.mod_lt U (zoo m)
  generalize U / 4294967296 ^ m=Y at *
  refine ⟨Y / 4294967296 / 4294967296,Y / 4294967296 % 4294967296,Y % 4294967296,U % 4294967296 ^ m,?_,g1,g0,by omega,by omega,by omega,hml,?_⟩
  · rw [show j+m+2=j+m+1+1 by omega,g2]; omega
  · rw [show (Y / 4294967296 / 4294967296 * 4294967296+Y / 4294967296 % 4294967296) * 4294967296+Y % 4294967296=Y by omega,Nat.mul_comm Y]; omega
theorem guess_low {U V W top h s t u0 z q r:Nat} (hV:V=(h * 4294967296+s) * W+t) (hU:U=(top * 4294967296+u0) * W+z) (hz:z < W) (hu:u0 < 4294967296) (hq:q * h+r=top) (hr:r < h):U < (q+1) * V:=by
  have h1:top+1≤(q+1) * h:=by rw [Nat.succ_mul]; omega
  have h2:top * 4294967296+u0+1≤(q+1) * (h * 4294967296+s):=by
    rw [Nat.mul_add,← Nat.mul_assoc]
    have:=Nat.mul_le_mul_right 4294967296 h1
    omega
  have h3:=Nat.mul_le_mul_right W h2
  rw [hV,Nat.mul_add,← Nat.mul_assoc,hU]
  rw [Nat.succ_mul] at h3
  omega
theorem top_bound {B U V W x c y t z:Nat} (hV:V=y * W+t) (hU:U=(x * B+c) * W+z) (ht:t < W) (hlt:U < B * V):x≤y:=by
  refine Nat.not_lt.1 fun h1=>?_
  have h2:(y+1) * B≤x * B:=Nat.mul_le_mul_right B h1
  have h3:=Nat.mul_le_mul_right W h2
  have h4:B * V≤B * ((y+1) * W):=by
    refine Nat.mul_le_mul_left B ?_
    rw [hV,Nat.succ_mul]; omega
  rw [Nat.mul_comm (y+1) B,Nat.mul_assoc] at h3
  rw [Nat.add_mul] at hU
  omega
theorem q_small {q h r:Nat} (hq:q * h+r≤h * 4294967296+4294967295) (hr:4294967296≤r):q < 4294967296:=by
  refine Nat.not_le.1 fun h1=>?_
  have:=Nat.mul_le_mul_right h h1
  rw [Nat.mul_comm 4294967296] at this
  omega
theorem d216_eq {u v:List Int} (hu:IsL u) (hv:IsL v) {j m:Nat} (hm:v.length=m+2) (hlen:j+m+2 < u.length) (lu:u.length≤1073741825) (hlt:nv u < 4294967296 ^ (j+m+3)) (hh:v.getD (m+1) 0 ≠ 0) (hUV:nv u / 4294967296 ^ j < 4294967296 * nv v) :
    ∃ q:Nat,d216 u v (j:Int)=some (q:Int)∧q < 4294967296∧nv u / 4294967296 ^ j < (q+1) * nv v∧q * nv v < nv u / 4294967296 ^ j+nv v:=by
  obtain ⟨h,s,t,v1,v2,hh1,hs1,ht1,hV⟩:=two_top hv hm
  obtain ⟨a,b,c,z,u1,u2,u3,ha1,hb1,hc1,hz1,hU⟩:=three_top hu hlt
  have hb0:=top_bound hV hU ht1 hUV
  generalize nv u / 4294967296 ^ j=U at *
  generalize nv v=V at *
  generalize 4294967296 ^ m=W at *
  rw [v1] at hh
  have hh0:0 < h:=by omega
  obtain ⟨top,htop⟩:∃ top,a * 4294967296+b=top:=⟨_,rfl⟩
  rw [htop] at hU hb0
  have htl:top < 18446744073709551616:=by omega
  unfold d216
  have i1:w ((j:Int)+((m+2:Nat):Int))=((j+m+2:Nat):Int):=by rw [zbf (by omega) (by omega)]; omega
  have i2:w (((j+m+2:Nat):Int) - 1)=((j+m+1:Nat):Int):=by rw [zbf (by omega) (by omega)]; omega
  have i3:w (((m+2:Nat):Int) - 1)=((m+1:Nat):Int):=by rw [zbf (by omega) (by omega)]; omega
  have i4:w (((m+2:Nat):Int) - 2)=((m:Nat):Int):=by rw [zbf (by omega) (by omega)]; omega
  have i5:w (((j+m+2:Nat):Int) - 2)=((j+m:Nat):Int):=by rw [zbf (by omega) (by omega)]; omega
  have hne:decide ((h:Int)=0)=false:=decide_eq_false (by omega)
  have hd1:top / h < 18446744073709551616:=Nat.lt_of_le_of_lt (Nat.div_le_self _ _) htl
  have hd2:top % h < h:=Nat.mod_lt _ hh0
  have t1:Int.tdiv (top:Int) (h:Int)=((top / h:Nat):Int):=rfl
  have t2:Int.tmod (top:Int) (h:Int)=((top % h:Nat):Int):=rfl
  simp only [hm,i1,i2,i3,d0le,dlt (show j+m+2 < u.length by omega),dlt (show j+m+1 < u.length by omega),dlt (show m+1 < m+2 by omega),cond_true,Bool.and_self,tn,v1,u1,u2,zau (show h < 18446744073709551616 by omega),zau (show a < 18446744073709551616 by omega),hne,Bool.not_false,or64w ha1 hb1,htop,t1,t2,zau hd1,zau (show top % h < 18446744073709551616 by omega)]
  refine zhc (Q:=fun r=>∃ q:Nat,r=some (q:Int)∧q < 4294967296∧U < (q+1) * V∧q * V < U+V) (fun (M:Nat) (st:(List Int) × (List Int) × Int × Int × Int × Int × Int)=>∃ (q r:Nat),M=q∧st=(u,v,(j:Int),((m+2:Nat):Int),(h:Int),(q:Int),(r:Int))∧q * h+r=top∧r < 4294967296∧q < 18446744073709551616∧U < (q+1) * V) (top / h) ?_ ?_
  · exact ⟨_,_,rfl,rfl,by rw [Nat.mul_comm]; exact Nat.div_add_mod top h,by omega,hd1,guess_low hV hU hz1 hc1 (by rw [Nat.mul_comm]; exact Nat.div_add_mod top h) hd2⟩
  · rintro M st ⟨q,r,rfl,rfl,hq,hr,hq64,hlow⟩
    have e2:wu64 ((r:Int)+(h:Int))=((r+h:Nat):Int):=by rw [zbn (by omega) (by omega)]; omega
    have e1:0 < M→wu64 ((M:Int) - 1)=((M - 1:Nat):Int):=fun h0=>by rw [zbn (by omega) (by omega)]; omega
    have down:0 < M→U < M * V→(4294967296≤r+h∧M - 1 < 4294967296∧U < (M - 1+1) * V∧(M - 1) * V < U+V)∨(r+h < 4294967296∧(M - 1) * h+(r+h)=top∧U < (M - 1+1) * V):=by
      intro h0 hU1
      have e3:(M - 1) * h+(r+h)=top:=by
        rw [← hq]
        obtain ⟨M',rfl⟩:∃ M',M=M'+1:=⟨M - 1,by omega⟩
        rw [Nat.add_sub_cancel,Nat.succ_mul]; omega
      have e4:M - 1+1=M:=by omega
      rw [e4]
      by_cases hb:4294967296≤r+h
      · have hqs:=q_small (h:=h) (r:=r+h) (by rw [e3]; omega) hb
        refine .inl ⟨hb,hqs,hU1,zoc hV hU ht1 hh0 e3 hqs ?_⟩
        have:(M - 1) * s≤4294967296 * 4294967296:=Nat.mul_le_mul (by omega) (by omega)
        omega
      · exact .inr ⟨by omega,e3,hU1⟩
    by_cases hq1:4294967296≤M
    · have d1:decide ((4294967296:Int)≤(M:Int))=true:=decide_eq_true (by omega)
      have hM:0 < M:=by omega
      rcases down hM (Nat.lt_of_lt_of_le hUV (Nat.mul_le_mul_right V hq1)) with ⟨k1,k2,k3,k4⟩ | ⟨k1,k2,k3⟩
      · have d2:decide ((4294967296:Int)≤((r+h:Nat):Int))=true:=decide_eq_true (by omega)
        exact .inr ⟨((M - 1:Nat):Int),by simp only [zak,d1,Bool.not_true,cond_false,cond_true,e1 hM,e2,d2],M - 1,rfl,k2,k3,k4⟩
      · have d2:decide ((4294967296:Int)≤((r+h:Nat):Int))=false:=decide_eq_false (by omega)
        exact .inl ⟨_,M - 1,by simp only [zak,d1,Bool.not_true,cond_false,cond_true,e1 hM,e2,d2],by omega,M - 1,r+h,rfl,rfl,k2,k1,by omega,k3⟩
    · have d1:decide ((4294967296:Int)≤(M:Int))=false:=decide_eq_false (by omega)
      obtain ⟨p,hp⟩:∃ p,M * s=p:=⟨_,rfl⟩
      have hpl:p≤4294967295 * 4294967295:=by rw [← hp]; exact Nat.mul_le_mul (by omega) (by omega)
      have hpi:(M:Int) * (s:Int)=(p:Int):=by rw [← hp]; simp
      simp only [zak,d1,Bool.not_false,cond_true,i1,i4,i5,d0le,dlt (show m < m+2 by omega),hm,dlt (show j+m < u.length by omega),Bool.and_self,tn,v2,u3,or64w hr hc1,zau (show s < 18446744073709551616 by omega),hpi,zau (show p < 18446744073709551616 by omega)]
      by_cases hc:r * 4294967296+c < p
      · simp only [dlt hc]
        rw [← hp] at hc
        have hM:0 < M:=by
          rcases Nat.eq_zero_or_pos M with h0 | h0
          · subst h0; rw [Nat.zero_mul] at hc; omega
          · exact h0
        rcases down hM (digit_low hV hU hz1 hq hc) with ⟨k1,k2,k3,k4⟩ | ⟨k1,k2,k3⟩
        · have d2:decide ((4294967296:Int)≤((r+h:Nat):Int))=true:=decide_eq_true (by omega)
          exact .inr ⟨((M - 1:Nat):Int),by simp only [cond_false,cond_true,e1 hM,e2,d2],M - 1,rfl,k2,k3,k4⟩
        · have d2:decide ((4294967296:Int)≤((r+h:Nat):Int))=false:=decide_eq_false (by omega)
          exact .inl ⟨_,M - 1,by simp only [cond_false,cond_true,e1 hM,e2,d2],by omega,M - 1,r+h,rfl,rfl,k2,k1,by omega,k3⟩
      · rw [nlt (a:=r * 4294967296+c) (b:=p) (by omega)]
        refine .inr ⟨(M:Int),by simp only [cond_false],M,rfl,by omega,hlow,?_⟩
        exact zoc hV hU ht1 hh0 hq (by omega) (by rw [hp]; omega)
end Go.Proofs.YtmipjomnjkmdbaaGreat
set_option linter.unusedSimpArgs false
set_option linter.unusedVariables false
namespace Go.Proofs.YtmipjomnjkmdbaaGreat
open Go Go.X
theorem and_low {p:Nat} (h:p < 18446744073709551616):wu64 (((BitVec.ofInt 64 (p:Int) &&& BitVec.ofInt 64 4294967295).toNat:Nat):Int)=((p % 4294967296:Nat):Int):=by
  have:BitVec.ofInt 64 4294967295=BitVec.ofNat 64 4294967295:=rfl
  rw [this,BitVec.toNat_and,zgr 64 _ (by omega),BitVec.toNat_ofNat]
  have e:=Nat.and_two_pow_sub_one_eq_mod p 32
  rw [show (2:Nat) ^ 32 - 1=4294967295 from rfl,show (2:Nat) ^ 32=4294967296 from rfl] at e
  rw [show 4294967295 % 2 ^ 64=4294967295 from rfl,e,zau (by omega)]
theorem sub_step {X N N' N2 T x y q dig lo h bo bo' ca ca' s p Y:Nat} (hN:N+X * (q * T)=N'+X * Y * (bo+ca)) (h2:N2+X * Y * x=N+X * Y * dig) (hp:q * y+ca=p) (hlo:p=lo+4294967296 * ca') (hs:s+lo+bo=4294967296+x) (hd:s=dig+4294967296 * h) (hb:bo'+h=1):N2+X * (q * (T+Y * y))=N'+X * (Y * 4294967296) * (bo'+ca'):=by
  have e:dig+q * y+ca+bo=x+4294967296 * (bo'+ca'):=by omega
  have e1:=congrArg ((X * Y) * ·) e
  simp only [Nat.mul_add] at e1 hN ⊢
  have e2:X * (q * (Y * y))=X * Y * (q * y):=by rw [Nat.mul_left_comm q,← Nat.mul_assoc]
  have e3:X * Y * (4294967296 * bo')=X * (Y * 4294967296) * bo':=by simp only [Nat.mul_assoc]
  have e4:X * Y * (4294967296 * ca')=X * (Y * 4294967296) * ca':=by simp only [Nat.mul_assoc]
  omega
theorem add_step {X N N' N2 T x y dig c c' s Y:Nat} (hN:N+X * Y * c=N'+X * T) (h2:N2+X * Y * x=N+X * Y * dig) (hs:x+y+c=s) (hd:s=dig+4294967296 * c'):N2+X * (Y * 4294967296) * c'=N'+X * (T+Y * y):=by
  have e:dig+4294967296 * c'=x+y+c:=by omega
  have e1:=congrArg ((X * Y) * ·) e
  simp only [Nat.mul_add] at e1 hN ⊢
  have e2:X * (Y * y)=X * Y * y:=by rw [Nat.mul_assoc]
  have e4:X * Y * (4294967296 * c')=X * (Y * 4294967296) * c':=by simp only [Nat.mul_assoc]
  omega
theorem below_next {N X U q V:Nat} (hX:0 < X) (hU:N / X=U) (h:U < (q+1) * V):N < X * (q * V)+X * V:=by
  have h1:N < X * (U+1):=by
    have:=Nat.div_add_mod N X
    have:=Nat.mod_lt N hX
    rw [hU] at *
    rw [Nat.mul_add,Nat.mul_one]
    omega
  have h2:X * (U+1)≤X * ((q+1) * V):=Nat.mul_le_mul_left _ h
  have e:X * ((q+1) * V)=X * (q * V)+X * V:=by rw [Nat.succ_mul,Nat.mul_add]
  omega
theorem floor_le {N X U Y:Nat} (hU:N / X=U) (h:Y≤U):X * Y≤N:=by
  have:=Nat.div_add_mod N X
  rw [hU] at this
  have h2:X * Y≤X * U:=Nat.mul_le_mul_left _ h
  omega
set_option maxHeartbeats 1000000 in
theorem d205_eq {u v:List Int} (hu:IsL u) (hv:IsL v) {m k:Nat} (hm:v.length=m+2) (hk:u.length=k+(m+2)) (lu:u.length≤1073741825) (hh:v.getD (m+1) 0 ≠ 0) (hlt:nv u < nv v * 4294967296 ^ k) :
    ∃ q r,d205 u v=some (q,r)∧IsL q∧IsL r∧q.length=k∧r.length=u.length∧nv q=nv u / nv v∧nv r=nv u % nv v:=by
  have hV0:0 < nv v:=by
    rcases Nat.eq_zero_or_pos (nv v) with h0 | h0
    · rw [h0,Nat.zero_mul] at hlt; omega
    · exact h0
  have hVB:=zpg hv
  unfold d205
  have i1:w ((u.length:Int) - (v.length:Int))=(k:Int):=by rw [zbf (by omega) (by omega)]; omega
  have i2:w ((v.length:Int)+1)=((m+3:Nat):Int):=by rw [zbf (by omega) (by omega)]; omega
  have i3:w ((k:Int) - 1)=(k:Int) - 1:=zbf (by omega) (by omega)
  simp only [i1,decide_true,d0le,zby (n:=k) (by omega),Bool.and_self,cond_true,tn,i3]
  refine zng (Q:=fun r=>∃ q r',r=some (q,r')∧IsL q∧IsL r'∧q.length=k∧r'.length=u.length∧nv q=nv u / nv v∧nv r'=nv u % nv v) (fun (i:Nat) (st:(List Int) × (List Int) × Int × (List Int) × Int)=>∃ (u' out:List Int),st=(u',v,(v.length:Int),out,(i:Int) - 1)∧i≤k∧IsL u'∧u'.length=u.length∧IsL out∧out.length=k∧(∀ t,t < i→out.getD t 0=0)∧nv u=nv u'+nv out * nv v∧nv u' < nv v * 4294967296 ^ i) k ?_ ?_ ?_
  · exact ⟨u,_,rfl,Nat.le_refl _,hu,rfl,IsL.zeros _,by simp,fun t _=>zny _ t,by rw [zdk]; omega,hlt⟩
  · rintro i st hi ⟨u',out,rfl,hik,hu',hlu,hL,hlo,hz,hv1,hv2⟩
    obtain ⟨X,hX⟩:∃ X,4294967296 ^ i=X:=⟨_,rfl⟩
    have hX0:0 < X:=by rw [← hX]; exact zoo i
    rw [Nat.pow_succ,hX] at hv2
    have hB3:nv u' < 4294967296 ^ (i+m+3):=by
      refine Nat.lt_of_lt_of_le hv2 ?_
      rw [show i+m+3=(m+2)+(i+1) by omega,Nat.pow_add,Nat.pow_succ _ i,hX,← hm]
      exact Nat.mul_le_mul_right _ (Nat.le_of_lt hVB)
    have hUV:nv u' / 4294967296 ^ i < 4294967296 * nv v:=by
      rw [hX]
      refine Nat.div_lt_of_lt_mul ?_
      rw [← Nat.mul_assoc,Nat.mul_comm]
      exact hv2
    obtain ⟨q,hq0,hq1,hq2,hq3⟩:=d216_eq hu' hv (j:=i) hm (by omega) (by omega) hB3 hh hUV
    have j1:((i+1:Nat):Int) - 1=(i:Int):=by omega
    have wi1:w ((i:Int) - 1)=(i:Int) - 1:=zbf (by omega) (by omega)
    rw [hX] at hq2 hq3
    simp only [j1,d0le,cond_true,hq0,Option.bind_some,i2]
    refine zbv (Q:=fun (r:Option (((List Int) × (List Int) × Int × (List Int) × Int) ⊕ ((List Int) × (List Int))))=>∃ a',r=some (.inl a')∧∃ (u' out:List Int),a'=(u',v,(v.length:Int),out,(i:Int) - 1)∧i≤k∧IsL u'∧u'.length=u.length∧IsL out∧out.length=k∧(∀ t,t < i→out.getD t 0=0)∧nv u=nv u'+nv out * nv v∧nv u' < nv v * 4294967296 ^ i)
      (fun (d:Nat) (st:(List Int) × (List Int) × Int × (List Int) × Int × Int × Int × Int × Int × Int)=>∃ (z:List Int) (bo ca:Nat),st=(z,v,(v.length:Int),out,(i:Int),(q:Int),(bo:Int),(ca:Int),((m+3:Nat):Int),(d:Int))∧IsL z∧z.length=u.length∧bo≤1∧ca < 4294967296∧(d≤m+2∨ca=0)∧nv z+X * (q * nv (v.take d))=nv u'+X * 4294967296 ^ d * (bo+ca)∧nv z < 4294967296 ^ (i+m+3)) (m+3) ?_ ?_ ?_
    · exact ⟨u',0,0,rfl,hu',hlu,by omega,by omega,.inl (by omega),by simp [nv],hB3⟩
    · rintro d st hd ⟨z,bo,ca,rfl,hzL,hzl,hbo,hca,hor,heq,hzb⟩
      obtain ⟨y,hy1,hy2,hy3⟩:=zdn hv d
      have hx:=hzL.getD (d+i)
      obtain ⟨x,hx1⟩:∃ x:Nat,z.getD (d+i) 0=(x:Int):=⟨_,(Int.toNat_of_nonneg hx.1).symm⟩
      rw [hx1] at hx
      obtain ⟨qy,hqy⟩:∃ p,q * y=p:=⟨_,rfl⟩
      have hpl:qy≤4294967295 * 4294967295:=by rw [← hqy]; exact Nat.mul_le_mul (by omega) (by omega)
      have hqi:(q:Int) * (y:Int)=(qy:Int):=by rw [← hqy]; simp
      have s1:wu64 ((qy:Int)+(ca:Int))=((qy+ca:Nat):Int):=by rw [zbn (by omega) (by omega)]; omega
      obtain ⟨p,hp⟩:∃ p,qy+ca=p:=⟨_,rfl⟩
      obtain ⟨lo,hlo'⟩:∃ lo,p % 4294967296=lo:=⟨_,rfl⟩
      have s2:wu64 (4294967296+(x:Int))=4294967296+(x:Int):=zbn (by omega) (by omega)
      have s3:wu64 (4294967296+(x:Int) - (lo:Int))=4294967296+(x:Int) - lo:=zbn (by omega) (by omega)
      obtain ⟨s,hs⟩:∃ s,4294967296+x - lo - bo=s:=⟨_,rfl⟩
      have s4:wu64 (4294967296+(x:Int) - (lo:Int) - (bo:Int))=(s:Int):=by rw [zbn (by omega) (by omega)]; omega
      have s5:wu64 (1 - ((s / 4294967296:Nat):Int))=((1 - s / 4294967296:Nat):Int):=by rw [zbn (by omega) (by omega)]; omega
      simp only [dlt hd,zgf hv,hy1,Option.bind_some,wadd (show d+i≤9223372036854775807 by omega),d0le,dlt (show d+i < z.length by omega),cond_true,Bool.and_self,tn,hx1,hqi,zau (show qy < 18446744073709551616 by omega),s1,hp,and_low (show p < 18446744073709551616 by omega),hlo',zau (show x < 18446744073709551616 by omega),s2,s3,s4,shr32,zau (show s / 4294967296 < 18446744073709551616 by omega),s5,zau (show p / 4294967296 < 18446744073709551616 by omega),zcv,zbk (show d < 9223372036854775807 by omega)]
      have e1:=zij z (d+i) (((s % 4294967296:Nat):Int)) (by omega)
      rw [hx1,Int.toNat_natCast,Int.toNat_natCast,Nat.add_comm d i,Nat.pow_add,hX,Nat.add_comm i d] at e1
      refine ⟨_,rfl,_,_,_,rfl,hzL.set _ (by omega) (by omega),by simpa using hzl,by omega,by omega,?_,?_,zii hzL (by omega) (by omega) (by omega) hzb⟩
      · by_cases hdm:d+1≤m+2
        · exact .inl hdm
        · right
          have hy0:y=0:=by
            have:v.getD d 0=0:=by rw [List.getD_eq_getElem?_getD,List.getElem?_eq_none (by omega)]; rfl
            omega
          rw [hy0,Nat.mul_zero] at hqy
          omega
      · rw [hy3,Nat.pow_succ]
        exact sub_step heq e1 (by rw [hqy]; exact hp) (show p=lo+4294967296 * (p / 4294967296) by omega) (s:=s) (by omega) (h:=s / 4294967296) (by omega) (by omega)
    · rintro st ⟨z,bo,ca,rfl,hzL,hzl,hbo,hca,hor,heq,hzb⟩
      have hca0:ca=0:=by omega
      subst hca0
      rw [List.take_of_length_le (by omega),Nat.add_zero] at heq
      have hX3:X * 4294967296 ^ (m+3)=4294967296 ^ (i+m+3):=by rw [← hX,← Nat.pow_add]; rfl
      rw [hX3] at heq
      refine ⟨_,by simp only [nlt (Nat.le_refl (m+3)),cond_false]; rfl,?_⟩
      obtain ⟨TT,hTT⟩:∃ TT,4294967296 ^ (i+m+3)=TT:=⟨_,rfl⟩
      rw [hTT] at heq hzb hX3
      rcases Nat.eq_zero_or_pos bo with hb0 | hb0
      · subst hb0
        simp only [show decide ((0:Int) < ((0:Nat):Int))=false from rfl,cond_false,zak,d0le,dlt (show i < out.length by omega),Bool.and_self,cond_true,tn,zcv,Nat.mod_eq_of_lt hq1,wi1]
        have e1:=zij out i (q:Int) (by omega)
        rw [hz i (by omega),Int.toNat_natCast,hX] at e1
        have e2:nv (out.set i (q:Int))=nv out+X * q:=by simpa using e1
        refine ⟨_,rfl,_,_,rfl,by omega,hzL,hzl,hL.set _ (by omega) (by omega),by simpa using hlo,fun t ht=>by rw [getD_set_ne _ _ (by omega)]; exact hz t (by omega),?_,?_⟩
        · rw [e2,hv1,Nat.add_mul,Nat.mul_assoc]; omega
        · have:=below_next hX0 rfl hq2
          rw [hX,Nat.mul_comm (nv v) X]
          omega
      · have hb1:bo=1:=by omega
        subst hb1
        rw [Nat.mul_one] at heq
        have hqV:nv u' < X * (q * nv v):=by omega
        have hq0':0 < q:=by
          rcases Nat.eq_zero_or_pos q with h0 | h0
          · subst h0; rw [Nat.zero_mul,Nat.mul_zero] at hqV; omega
          · exact h0
        obtain ⟨q',rfl⟩:∃ q',q=q'+1:=⟨q - 1,by omega⟩
        have hqm:wu64 (((q'+1:Nat):Int) - 1)=(q':Int):=by rw [zbn (by omega) (by omega)]; omega
        simp only [show decide ((0:Int) < ((1:Nat):Int))=true from rfl,cond_true,hqm,i2]
        refine zbv (Q:=fun (r:Option (((List Int) × (List Int) × Int × (List Int) × Int) ⊕ ((List Int) × (List Int))))=>∃ a',r=some (.inl a')∧∃ (u' out:List Int),a'=(u',v,(v.length:Int),out,(i:Int) - 1)∧i≤k∧IsL u'∧u'.length=u.length∧IsL out∧out.length=k∧(∀ t,t < i→out.getD t 0=0)∧nv u=nv u'+nv out * nv v∧nv u' < nv v * 4294967296 ^ i)
          (fun (d:Nat) (st:(List Int) × (List Int) × Int × (List Int) × Int × Int × Int × Int × Int)=>∃ (z2:List Int) (c:Nat),st=(z2,v,(v.length:Int),out,(i:Int),(q':Int),(c:Int),((m+3:Nat):Int),(d:Int))∧IsL z2∧z2.length=u.length∧c≤1∧nv z2+X * 4294967296 ^ d * c=nv z+X * nv (v.take d)∧nv z2 < 4294967296 ^ (i+m+3)) (m+3) ?_ ?_ ?_
        · exact ⟨z,0,rfl,hzL,hzl,by omega,by simp [nv],by rw [hTT]; exact hzb⟩
        · rintro d st hd ⟨z2,c,rfl,hzL2,hzl2,hc,heq2,hzb2⟩
          obtain ⟨y,hy1,hy2,hy3⟩:=zdn hv d
          have hx:=hzL2.getD (d+i)
          obtain ⟨x,hx1⟩:∃ x:Nat,z2.getD (d+i) 0=(x:Int):=⟨_,(Int.toNat_of_nonneg hx.1).symm⟩
          rw [hx1] at hx
          have s1:wu64 ((x:Int)+(y:Int))=((x+y:Nat):Int):=by rw [zbn (by omega) (by omega)]; omega
          have s2:wu64 (((x+y:Nat):Int)+(c:Int))=((x+y+c:Nat):Int):=by rw [zbn (by omega) (by omega)]; omega
          obtain ⟨s,hs⟩:∃ s,x+y+c=s:=⟨_,rfl⟩
          simp only [dlt hd,zgf hv,hy1,Option.bind_some,wadd (show d+i≤9223372036854775807 by omega),d0le,dlt (show d+i < z2.length by omega),cond_true,Bool.and_self,tn,hx1,zau (show x < 18446744073709551616 by omega),s1,s2,hs,shr32,zau (show s / 4294967296 < 18446744073709551616 by omega),zcv,zbk (show d < 9223372036854775807 by omega)]
          have e1:=zij z2 (d+i) (((s % 4294967296:Nat):Int)) (by omega)
          rw [hx1,Int.toNat_natCast,Int.toNat_natCast,Nat.add_comm d i,Nat.pow_add,hX,Nat.add_comm i d] at e1
          refine ⟨_,rfl,_,_,rfl,hzL2.set _ (by omega) (by omega),by simpa using hzl2,by omega,?_,zii hzL2 (by omega) (by omega) (by omega) hzb2⟩
          rw [hy3,Nat.pow_succ]
          exact add_step heq2 e1 hs (by omega)
        · rintro st ⟨z2,c,rfl,hzL2,hzl2,hc,heq2,hzb2⟩
          rw [List.take_of_length_le (by omega),hX3] at heq2
          rw [hTT] at hzb2
          refine ⟨_,by simp only [nlt (Nat.le_refl (m+3)),cond_false]; rfl,?_⟩
          simp only [zak,d0le,dlt (show i < out.length by omega),Bool.and_self,cond_true,tn,zcv,Nat.mod_eq_of_lt (show q' < 4294967296 by omega),wi1]
          have e1:=zij out i (q':Int) (by omega)
          rw [hz i (by omega),Int.toNat_natCast,hX] at e1
          have e2:nv (out.set i (q':Int))=nv out+X * q':=by simpa using e1
          have hfl:X * (q' * nv v)≤nv u':=by
            refine floor_le rfl ?_
            rw [Nat.succ_mul] at hq3
            omega
          rw [Nat.succ_mul,Nat.mul_add] at hqV heq
          have hc1:c=1:=by
            rcases Nat.eq_zero_or_pos c with h0 | h0
            · subst h0; rw [Nat.mul_zero] at heq2; omega
            · omega
          subst hc1
          rw [Nat.mul_one] at heq2
          refine ⟨_,rfl,_,_,rfl,by omega,hzL2,hzl2,hL.set _ (by omega) (by omega),by simpa using hlo,fun t ht=>by rw [getD_set_ne _ _ (by omega)]; exact hz t (by omega),?_,?_⟩
          · rw [e2,hv1,Nat.add_mul,Nat.mul_assoc]; omega
          · rw [hX,Nat.mul_comm (nv v) X]
            omega
  · rintro st ⟨u',out,rfl,hik,hu',hlu,hL,hlo,hz,hv1,hv2⟩
    rw [Nat.pow_zero,Nat.mul_one] at hv2
    refine ⟨(u',out),rfl,out,u',rfl,hL,hu',hlo,hlu,?_,?_⟩
    · rw [hv1,Nat.mul_comm,Nat.add_mul_div_left _ _ hV0,Nat.div_eq_of_lt hv2,Nat.zero_add]
    · rw [hv1,Nat.mul_comm,Nat.add_mul_mod_self_left,Nat.mod_eq_of_lt hv2]
end Go.Proofs.YtmipjomnjkmdbaaGreat
set_option linter.unusedSimpArgs false
set_option linter.unusedVariables false
namespace Go.Proofs.YtmipjomnjkmdbaaGreat
open Go Go.X
theorem bl_zero (f:Nat):Lib.bitLenAux f 0=0:=by cases f <;> simp [Lib.bitLenAux]
theorem bl_bounds:∀ (f x:Nat),x < 2 ^ f→x ≠ 0→1≤Lib.bitLenAux f x∧Lib.bitLenAux f x≤f∧x < 2 ^ Lib.bitLenAux f x
  | 0,x,h,h0=>by rw [Nat.pow_zero] at h; omega
  | f+1,x,h,h0=>by
    have e:Lib.bitLenAux (f+1) x=1+Lib.bitLenAux f (x / 2):=by simp [Lib.bitLenAux,h0]
    rw [e]
    by_cases h2:x / 2=0
    · rw [h2,bl_zero]
      exact ⟨by omega,by omega,by rw [Nat.add_zero,Nat.pow_one]; omega⟩
    · obtain ⟨q1,q2,q3⟩:=bl_bounds f (x / 2) (by rw [Nat.pow_succ] at h; omega) h2
      refine ⟨by omega,by omega,?_⟩
      rw [Nat.add_comm,Nat.pow_succ]; omega
theorem bl_more:∀ (f x:Nat),x < 2 ^ f→∀ g,f≤g→Lib.bitLenAux g x=Lib.bitLenAux f x
  | 0,x,h,g,_=>by
    rw [Nat.pow_zero] at h
    obtain rfl:x=0:=by omega
    rw [bl_zero,bl_zero]
  | f+1,x,h,g,hg=>by
    obtain ⟨g',rfl⟩:∃ g',g=g'+1:=⟨g - 1,by omega⟩
    simp only [Lib.bitLenAux]
    by_cases h0:x=0
    · rw [if_pos h0,if_pos h0]
    · rw [if_neg h0,if_neg h0,bl_more f (x / 2) (by rw [Nat.pow_succ] at h; omega) g' (by omega)]
theorem d200_eq {x:Nat} (h0:0 < x) (h1:x < 4294967296):∃ L:Nat,d200 (x:Int)=some (L:Int)∧1≤L∧L≤32∧x < 2 ^ L:=by
  have hx:x < 2 ^ 32:=h1
  have e:Lib.bitLen x=Lib.bitLenAux 32 x:=bl_more 32 x hx 64 (by decide)
  refine ⟨Lib.bitLen x,rfl,?_⟩
  rw [e]
  exact bl_bounds 32 x hx (by omega)
theorem zoq {v:List Int} (hv:NF v) {m:Nat} (hm:v.length=m+1):∃ h:Nat,v.getD m 0=(h:Int)∧0 < h∧h < 4294967296:=by
  have g:=hv.1.getD m
  refine ⟨(v.getD m 0).toNat,by omega,?_,by omega⟩
  have:v.getD m 0 ≠ 0:=by
    intro e
    refine hv.2 ?_
    rw [List.getLast?_eq_getElem?,hm,Nat.add_sub_cancel,List.getElem?_eq_getElem (by omega)]
    rw [List.getD_eq_getElem?_getD,List.getElem?_eq_getElem (by omega)] at e
    simpa using e
  omega
set_option maxHeartbeats 1000000 in
theorem d170_eq {a b:List Int} (ha:IsL a) (hb:IsL b) (la:a.length≤1073741823) (lb:b.length≤1073741823) (h0:nv b ≠ 0):d170 a b=some (zam (nv a / nv b),zam (nv a % nv b),true):=by
  unfold d170
  rw [zby (by omega),zby (by omega)]
  simp only [cond_true,Option.bind_some,zbw ha,zbw hb]
  have hla:=zbi ha
  have hlb:=zbi hb
  have hNA:=zjd (nv a)
  have hNB:=zjd (nv b)
  have hA:=zar (nv a)
  have hB:=zar (nv b)
  have eA:=zax (nv a)
  have eB:=zax (nv b)
  have hm:=@zdj (nv b) (nv a)
  have hBl:=zap (nv b)
  have hAl:=zap (nv a)
  have hBp:=@zdz (nv b)
  have hxA:zam (nv a)=zam (nv a):=rfl
  have hxB:zam (nv b)=zam (nv b):=rfl
  generalize hyA:zam (nv a)=A at *
  generalize hyB:zam (nv b)=B at *
  have hB0:0 < B.length:=hBp.2 (Nat.pos_of_ne_zero h0)
  rw [show decide ((B.length:Int)=0)=false from decide_eq_false (by omega),d201_eq hA hB (by omega) (by omega),eA,eB]
  simp only [cond_false,Option.bind_some,cmpN_lt]
  by_cases hlt:nv a < nv b
  · rw [decide_eq_true hlt,cond_true,d173_eq (by omega),Nat.div_eq_of_lt hlt,Nat.mod_eq_of_lt hlt,zcq,hyA]
    rfl
  rw [decide_eq_false hlt,cond_false]
  have hBA:=hm (by omega)
  by_cases h1:B.length=1
  · have q1:decide ((B.length:Int)=1)=true:=decide_eq_true (by omega)
    have q2:decide ((0:Int) < (B.length:Int))=true:=decide_eq_true (by omega)
    obtain ⟨h,hh1,hh2,hh3⟩:=zoq hNB (m:=0) h1
    have hbv:nv b=h:=by
      rw [← eB]
      obtain ⟨y,rfl⟩:=List.length_eq_one_iff.1 h1
      simp only [List.getD_cons_zero] at hh1
      simp only [nv,hh1]; omega
    obtain ⟨q,r1,r2,r3,r4⟩:=d202_eq hA (by omega) hh2 hh3
    have hml:nv A % h < h:=Nat.mod_lt _ hh2
    rw [eA] at r1 r4 hml
    have q3:d129 ((nv a % h:Nat):Int)=some (zam (nv a % h)):=by rw [zpx (by omega) (by omega)]; rfl
    simp only [q1,q2,q3,decide_true,Int.le_refl,Bool.and_self,cond_true,hh1,zau (show h < 18446744073709551616 by omega),r1,Option.bind_some,zgg r2 (show q.length≤4294967296 by omega),r4,hbv]
    rfl
  · obtain ⟨m,hmB⟩:∃ m,B.length=m+2:=⟨B.length - 2,by omega⟩
    have q1:decide (((m+2:Nat):Int)=1)=false:=decide_eq_false (by omega)
    have i1:w (((m+2:Nat):Int) - 1)=((m+1:Nat):Int):=by rw [zbf (by omega) (by omega)]; omega
    obtain ⟨h,hh1,hh2,hh3⟩:=zoq hNB (m:=m+1) hmB
    obtain ⟨L,hL0,hL1,hL2,hL3⟩:=d200_eq hh2 hh3
    have e203:d203 (h:Int)=some ((32 - L:Nat):Int):=by
      unfold d203
      rw [hL0]
      simp only [Option.bind_some]
      rw [zbf (by omega) (by omega)]
      congr 1; omega
    have hn:32 - L≤31:=by omega
    have hpow:2 ^ L * 2 ^ (32 - L)=4294967296:=by rw [← Nat.pow_add,show L+(32 - L)=32 by omega]
    obtain ⟨n,hnn⟩:∃ n,32 - L=n:=⟨_,rfl⟩
    rw [hnn] at e203 hn hpow
    have hT0:0 < 2 ^ n:=Nat.pow_pos (by decide)
    obtain ⟨u,u1,u2,u3,u4⟩:=d204_eq hA (by omega) hn
    obtain ⟨v0,v1,v2,v3,v4⟩:=d204_eq hB (by omega) hn
    rw [eA] at u4
    rw [eB] at v4
    simp only [hmB,q1,cond_false,i1,d0le,dlt (show m+1 < m+2 by omega),Bool.and_self,cond_true,tn,hh1,e203,Option.bind_some,u1,v1,zby (n:=v0.length) (by omega),zbw v2]
    have hbl:4294967296 ^ (m+1)≤nv b:=by
      refine Nat.not_lt.1 fun hc=>?_
      have:=(hBl (m+1)).2 hc
      omega
    have hbu:nv b < 2 ^ L * 4294967296 ^ (m+1):=by
      have g:=zfe hB (m+1)
      rw [hh1,eB] at g
      have hlt2:=(hBl (m+2)).1 (by omega)
      have hd:nv b / 4294967296 ^ (m+1) < 4294967296:=Nat.div_lt_of_lt_mul (by rw [← Nat.pow_succ]; exact hlt2)
      rw [Nat.mod_eq_of_lt hd] at g
      have:nv b / 4294967296 ^ (m+1) < 2 ^ L:=by omega
      exact (Nat.div_lt_iff_lt_mul (zoo _)).1 this
    have hvu:nv v0 < 4294967296 ^ (m+2):=by
      have e:4294967296 ^ (m+2)=2 ^ L * 4294967296 ^ (m+1) * 2 ^ n:=by
        rw [show m+2=(m+1)+1 by omega,Nat.pow_succ,Nat.mul_right_comm,hpow,Nat.mul_comm]
      rw [v4,e]
      exact Nat.mul_lt_mul_of_pos_right hbu hT0
    have hvl:4294967296 ^ (m+1)≤nv v0:=by
      rw [v4]
      exact Nat.le_trans hbl (Nat.le_mul_of_pos_right _ hT0)
    have hV:=zar (nv v0)
    have eV:=zax (nv v0)
    have hVlen:(zam (nv v0)).length=m+2:=by
      have r1:=(zap (nv v0) (m+2)).2 hvu
      have r2:¬ (zam (nv v0)).length≤m+1:=fun hc=>by
        have:=(zap (nv v0) (m+1)).1 hc
        omega
      omega
    obtain ⟨hv,w1,w2,_⟩:=zoq (zjd (nv v0)) (m:=m+1) hVlen
    obtain ⟨k,hk⟩:∃ k,A.length=k+(m+1):=⟨A.length - (m+1),by omega⟩
    have hal:nv a < 4294967296 ^ (k+(m+1)):=(hAl _).1 (by omega)
    have hkey:nv u < nv (zam (nv v0)) * 4294967296 ^ k:=by
      rw [eV,u4,v4,Nat.mul_right_comm]
      refine Nat.mul_lt_mul_of_pos_right ?_ hT0
      rw [Nat.pow_add,Nat.mul_comm] at hal
      exact Nat.lt_of_lt_of_le hal (Nat.mul_le_mul_right _ hbl)
    obtain ⟨q,r,z1,z2,z3,z4,z5,z6,z7⟩:=d205_eq u2 hV hVlen (k:=k) (by omega) (by omega) (by omega) hkey
    rw [eV,u4,v4,Nat.mul_div_mul_right _ _ hT0] at z6
    rw [eV,u4,v4,Nat.mul_mod_mul_right] at z7
    obtain ⟨o,o1,o2,o3,o4⟩:=d206_eq z3 (by omega) hn
    rw [z7,Nat.mul_div_cancel _ hT0] at o4
    simp only [z1,Option.bind_some,zgg z2 (show q.length≤4294967296 by omega),z6,o1,zgg o2 (show o.length≤4294967296 by omega),o4]
theorem d169_eq {a b:List Int} (ha:IsL a) (hb:IsL b) (la:a.length≤1073741823) (lb:b.length≤1073741823):d169 a b=some (zam (Nat.gcd (nv a) (nv b))):=by
  unfold d169
  rw [zgg ha (by omega),zgg hb (by omega)]
  simp only [Option.bind_some]
  have hla:=zbi ha
  have hlb:=zbi hb
  refine zhc (Q:=fun r=>r=some (zam (Nat.gcd (nv a) (nv b)))) (fun (M:Nat) (st:(List Int) × (List Int))=>∃ x:Nat,st=(zam x,zam M)∧(zam x).length≤1073741823∧(zam M).length≤1073741823∧Nat.gcd x M=Nat.gcd (nv a) (nv b)) (nv b) ⟨nv a,rfl,by omega,by omega,rfl⟩ ?_
  rintro M st ⟨x,rfl,h1,h2,h3⟩
  rcases Nat.eq_zero_or_pos M with h0 | h0
  · subst h0
    refine .inr ⟨zam x,by simp [zcq],?_⟩
    rw [Nat.gcd_zero_right] at h3
    rw [h3]
  · have hp:=zdz.2 h0
    have hd:=d170_eq (zar x) (zar M) h1 h2 (by rw [zax]; omega)
    rw [zax,zax] at hd
    refine .inl ⟨(zam M,zam (x % M)),x % M,?_,Nat.mod_lt _ h0,M,rfl,h2,?_,?_⟩
    · rw [show decide ((0:Int) < ((zam M).length:Int))=true from decide_eq_true (by omega),cond_true,hd]; rfl
    · have:=zdj (Nat.le_of_lt (Nat.mod_lt x h0)); omega
    · rw [← h3,Nat.gcd_comm x M,Nat.gcd_rec M x,Nat.gcd_comm]
theorem d167_eq {a:List Int} (ha:IsL a) (la:a.length≤1073741824):∃ k:Int,d167 a=some k∧decide (k=0)=decide (nv a=0):=by
  unfold d167
  rw [zby (by omega)]
  simp only [cond_true,Option.bind_some,zbw ha]
  have hla:=zbi ha
  have hNA:=zjd (nv a)
  have hp:=@zdz (nv a)
  generalize hyA:zam (nv a)=A at *
  rcases Nat.eq_zero_or_pos A.length with h0 | h0
  · refine ⟨0,by rw [decide_eq_true (show (A.length:Int)=0 by omega)]; rfl,?_⟩
    rw [decide_eq_true rfl,decide_eq_true (show nv a=0 by omega)]
  · obtain ⟨m,hm⟩:∃ m,A.length=m+1:=⟨A.length - 1,by omega⟩
    obtain ⟨h,hh1,hh2,hh3⟩:=zoq hNA hm
    obtain ⟨L,hL0,hL1,hL2,hL3⟩:=d200_eq hh2 hh3
    have i1:w (((m+1:Nat):Int) - 1)=(m:Int):=wpred (by omega)
    have i2:w (32 * (m:Int))=32 * (m:Int):=zbf (by omega) (by omega)
    have i3:w (32 * (m:Int)+(L:Int))=32 * (m:Int)+L:=zbf (by omega) (by omega)
    refine ⟨32 * (m:Int)+L,?_,?_⟩
    · rw [hm,decide_eq_false (show ¬ (((m+1:Nat):Int)=0) by omega)]
      simp only [cond_false,i1,d0le,dlt (show m < m+1 by omega),Bool.and_self,cond_true,tn,hh1,hL0,Option.bind_some,i2,i3]
    · rw [decide_eq_false (by omega),decide_eq_false (by omega)]
end Go.Proofs.YtmipjomnjkmdbaaGreat
set_option linter.unusedSimpArgs false
set_option linter.unusedVariables false
namespace Go.Proofs.YtmipjomnjkmdbaaGreat
open Go Go.X
abbrev Rt:=Bool × (List Int × List Int)
def sgnN (neg:Bool) (n:Nat):Int:=if neg then -(n:Int) else n
theorem sgnN_abs (neg:Bool) (n:Nat):(sgnN neg n).natAbs=n:=by unfold sgnN; split <;> simp
theorem sgnN_zero (neg:Bool):sgnN neg 0=0:=by cases neg <;> rfl
theorem sgnN_not (neg:Bool) (n:Nat):sgnN (!neg) n=- sgnN neg n:=by cases neg <;> simp [sgnN]
def rv (r:Rt):Rat:=mkRat (sgnN r.1 (nv r.2.1)) (nv r.2.2)
def rr (q:Rat):Rt:=(decide (q.num < 0),zam q.num.natAbs,zam q.den)
def RtOK (r:Rt):Prop:=IsL r.2.1∧IsL r.2.2
theorem rr_ok (q:Rat):RtOK (rr q):=⟨zar _,zar _⟩
theorem sgn_num (q:Rat):sgnN (decide (q.num < 0)) q.num.natAbs=q.num:=by
  unfold sgnN
  by_cases h:q.num < 0
  · simp only [h,decide_true,if_true]; omega
  · simp only [h,decide_false]; simp; omega
theorem rv_rr (q:Rat):rv (rr q)=q:=by
  unfold rv rr
  simp only [zax,sgn_num,Rat.mkRat_self]
theorem rr_zero:rr 0=(false,[],[1]):=by
  unfold rr
  simp only [Rat.zero_num,Rat.zero_den]
  rw [zeo (n:=1) (by omega)]
  simp [zcq]
theorem rr_make (neg:Bool) {a b:Nat} (ha:a ≠ 0) (hb:b ≠ 0):rr (mkRat (sgnN neg a) b)=(neg,zam (a / Nat.gcd a b),zam (b / Nat.gcd a b)):=by
  unfold rr
  rw [Rat.num_mkRat,Rat.den_mkRat,if_neg hb,if_neg hb,sgnN_abs,Nat.gcd_comm b a]
  obtain ⟨g,hg⟩:∃ g,Nat.gcd a b=g:=⟨_,rfl⟩
  have hd:g ∣ a:=by rw [← hg]; exact Nat.gcd_dvd_left a b
  have hgp:0 < g:=by rw [← hg]; exact Nat.gcd_pos_of_pos_left b (Nat.pos_of_ne_zero ha)
  rw [hg]
  obtain ⟨c,rfl⟩:=hd
  have hc:0 < c:=Nat.pos_of_ne_zero fun e=>ha (by rw [e,Nat.mul_zero])
  rw [Nat.mul_div_cancel_left c hgp]
  have h1:sgnN neg (g * c) / (g:Int)=sgnN neg c:=by
    unfold sgnN
    cases neg
    · simp only [Bool.false_eq_true,if_false,Int.natCast_mul]
      exact Int.mul_ediv_cancel_left _ (by omega)
    · simp only [if_true,Int.natCast_mul]
      rw [← Int.mul_neg]
      exact Int.mul_ediv_cancel_left _ (by omega)
  rw [h1,sgnN_abs]
  have h2:decide (sgnN neg c < 0)=neg:=by
    unfold sgnN
    cases neg
    · simp
    · simp; omega
  rw [h2]
theorem znr (q:Rat):(rr q).2.1=[]↔q=0:=by
  unfold rr
  rw [limbs_nil,Int.natAbs_eq_zero,Rat.num_eq_zero]
theorem rr_neg (q:Rat):(rr q).1=decide (q < 0):=by
  unfold rr
  have:q.num < 0↔q < 0:=by
    have h:=Rat.num_nonneg (q:=q)
    rw [← Rat.not_le,← h]; omega
  simp only [this]
def Sz (k:Nat) (r:Rt):Prop:=r.2.1.length≤k∧r.2.2.length≤k
theorem d168_eq:d168=some (rr 0):=by
  unfold d168
  rw [zpx (by omega) (by omega),rr_zero,show (1:Int).toNat=1 from rfl,zeo (n:=1) (by omega)]
  simp [zcq]
theorem d127_eq (neg:Bool) {a b:List Int} (ha:IsL a) (hb:IsL b) (la:a.length≤1073741823) (lb:b.length≤1073741823):d127 neg a b=some (rr (mkRat (sgnN neg (nv a)) (nv b))):=by
  unfold d127
  obtain ⟨k,k1,k2⟩:=d167_eq ha (by omega)
  obtain ⟨l,l1,l2⟩:=d167_eq hb (by omega)
  rw [zak,k1,l1]
  simp only [Option.bind_some,k2,l2]
  by_cases ha0:nv a=0
  · rw [ha0,decide_eq_true rfl]
    simp only [Bool.not_true,cond_false,cond_true,d168_eq,sgnN_zero,Rat.zero_mkRat,Option.bind_some]
  · rw [decide_eq_false ha0]
    by_cases hb0:nv b=0
    · rw [hb0,decide_eq_true rfl,Rat.mkRat_zero]
      simp only [Bool.not_false,cond_true,d168_eq,Option.bind_some]
    · rw [decide_eq_false hb0,rr_make neg ha0 hb0]
      have hg:Nat.gcd (nv a) (nv b) ≠ 0:=fun e=>ha0 (Nat.eq_zero_of_gcd_eq_zero_left e)
      have hgl:(zam (Nat.gcd (nv a) (nv b))).length≤1073741823:=by
        have:=zdj (Nat.le_of_dvd (Nat.pos_of_ne_zero ha0) (Nat.gcd_dvd_left (nv a) (nv b)))
        have:=zbi ha
        omega
      have e1:=d170_eq ha (zar (Nat.gcd (nv a) (nv b))) la hgl (by rw [zax]; exact hg)
      have e2:=d170_eq hb (zar (Nat.gcd (nv a) (nv b))) lb hgl (by rw [zax]; exact hg)
      rw [zax] at e1 e2
      simp only [Bool.not_false,cond_true,cond_false,d169_eq ha hb la lb,e1,e2,Option.bind_some]
theorem rr_len (neg:Bool) (a b:Nat):(rr (mkRat (sgnN neg a) b)).2.1.length≤(zam a).length∧(rr (mkRat (sgnN neg a) b)).2.2.length≤max 1 (zam b).length:=by
  by_cases ha:a=0
  · subst ha
    rw [sgnN_zero,Rat.zero_mkRat,rr_zero]
    exact ⟨Nat.zero_le _,Nat.le_max_left _ _⟩
  · by_cases hb:b=0
    · subst hb
      rw [Rat.mkRat_zero,rr_zero]
      exact ⟨Nat.zero_le _,Nat.le_max_left _ _⟩
    · rw [rr_make neg ha hb]
      exact ⟨zdj (Nat.div_le_self _ _),Nat.le_trans (zdj (Nat.div_le_self _ _)) (Nat.le_max_right _ _)⟩
theorem rr_sz {r:Rt} (h:RtOK r) {k:Nat} (hk:Sz k r) (h1:1≤k):Sz k (rr (rv r)):=by
  obtain ⟨q1,q2⟩:=rr_len r.1 (nv r.2.1) (nv r.2.2)
  have:=zbi h.1
  have:=zbi h.2
  have:=hk.1
  have:=hk.2
  exact ⟨by show (rr (mkRat _ _)).2.1.length≤_; omega,by show (rr (mkRat _ _)).2.2.length≤_; omega⟩
theorem zjw {r:Rt} (h:RtOK r) (hk:Sz 1073741823 r):d175 r=some (rr (rv r)):=by
  unfold d175
  rw [d127_eq r.1 h.1 h.2 hk.1 hk.2]; rfl
theorem zgb (a b:Nat):(zam (a * b)).length≤(zam a).length+(zam b).length:=by
  rw [zap,Nat.pow_add]
  exact Nat.mul_lt_mul'' ((zap a _).1 (Nat.le_refl _)) ((zap b _).1 (Nat.le_refl _))
theorem zpj (a b:Nat):(zam (a+b)).length≤max (zam a).length (zam b).length+1:=by
  rw [zap,Nat.pow_succ]
  have h1:=(zap a (max (zam a).length (zam b).length)).1 (Nat.le_max_left _ _)
  have h2:=(zap b (max (zam a).length (zam b).length)).1 (Nat.le_max_right _ _)
  omega
theorem sum_eq (s t:Bool) {a b:Nat} (la:(zam a).length≤1073741823) (lb:(zam b).length≤1073741823):∃ (u:Bool) (c:Nat),d176 s (zam a) t (zam b)=some (u,zam c)∧sgnN u c=sgnN s a+sgnN t b∧c≤a+b:=by
  unfold d176
  have hA:=zar a
  have hB:=zar b
  by_cases h:s=t
  · subst h
    rw [d209_eq hA hB (by omega) (by omega),zax,zax]
    refine ⟨s,a+b,by simp,?_,Nat.le_refl _⟩
    unfold sgnN; split <;> omega
  · rw [beq_eq_false_iff_ne.2 h,d210_eq hA hB (by omega) (by omega),d210_eq hB hA (by omega) (by omega),zax,zax]
    simp only [cond_false,Option.bind_some]
    by_cases hlt:a < b
    · rw [if_pos hlt,if_neg (by omega)]
      refine ⟨t,b - a,rfl,?_,by omega⟩
      unfold sgnN
      cases s <;> cases t <;> simp at h ⊢ <;> omega
    · rw [if_neg hlt]
      refine ⟨s,a - b,rfl,?_,by omega⟩
      unfold sgnN
      cases s <;> cases t <;> simp at h ⊢ <;> omega
theorem add_mk {x y:Rat}:mkRat (x.num * y.den+y.num * x.den) (x.den * y.den)=x+y:=by
  have:=Rat.mkRat_add_mkRat x.num y.num x.den_nz y.den_nz
  rw [Rat.mkRat_self,Rat.mkRat_self] at this
  exact this.symm
theorem sgn_scale (x:Rat) (d:Nat):sgnN (decide (x.num < 0)) (x.num.natAbs * d)=x.num * d:=by
  have h:=sgn_num x
  unfold sgnN at h ⊢
  split
  · rename_i h1
    rw [if_pos h1] at h
    rw [← h]
    simp [Int.neg_mul]
  · rename_i h1
    rw [if_neg h1] at h
    rw [← h]
    simp
theorem d138_rr {x y:Rat} (hx:Sz 268435456 (rr x)) (hy:Sz 268435456 (rr y)):d138 (rr x) (rr y)=some (rr (x+y)):=by
  unfold d138
  rw [zjw (rr_ok x) ⟨by have:=hx.1; omega,by have:=hx.2; omega⟩,zjw (rr_ok y) ⟨by have:=hy.1; omega,by have:=hy.2; omega⟩,rv_rr,rv_rr]
  simp only [Option.bind_some]
  obtain ⟨a1,a2⟩:=hx
  obtain ⟨b1,b2⟩:=hy
  simp only [rr] at a1 a2 b1 b2 ⊢
  rw [d177_eq (zar _) (zar _) (by omega) (by omega),d177_eq (zar _) (zar _) (by omega) (by omega),d177_eq (zar _) (zar _) (by omega) (by omega)]
  simp only [Option.bind_some,zax]
  have m1:=zgb x.num.natAbs y.den
  have m2:=zgb y.num.natAbs x.den
  have m3:=zgb x.den y.den
  obtain ⟨u,c,e1,e2,e3⟩:=sum_eq (decide (x.num < 0)) (decide (y.num < 0)) (a:=x.num.natAbs * y.den) (b:=y.num.natAbs * x.den) (by omega) (by omega)
  have m4:=zpj (x.num.natAbs * y.den) (y.num.natAbs * x.den)
  have m5:=zdj e3
  rw [e1]
  simp only [Option.bind_some]
  rw [d127_eq u (zar c) (zar _) (by omega) (by omega),zax,zax,e2,sgn_scale,sgn_scale,add_mk]
  rfl
theorem rv_not (r:Rt):rv (!r.1,r.2)=- rv r:=by
  unfold rv
  rw [sgnN_not,Rat.neg_mkRat]
theorem d138_gen {a b:Rt} (ha:RtOK a) (hb:RtOK b) (ka:Sz 268435456 a) (kb:Sz 268435456 b):d138 a b=some (rr (rv a+rv b)):=by
  have ha':=rr_sz ha ka (by omega)
  have hb':=rr_sz hb kb (by omega)
  rw [← d138_rr ha' hb']
  unfold d138
  rw [zjw ha ⟨by have:=ka.1; omega,by have:=ka.2; omega⟩,zjw hb ⟨by have:=kb.1; omega,by have:=kb.2; omega⟩,zjw (rr_ok _) ⟨by have:=ha'.1; omega,by have:=ha'.2; omega⟩,zjw (rr_ok _) ⟨by have:=hb'.1; omega,by have:=hb'.2; omega⟩,rv_rr,rv_rr]
theorem d132_rr {x y:Rat} (hx:Sz 268435456 (rr x)) (hy:Sz 268435456 (rr y)):d132 (rr x) (rr y)=some (rr (x - y)):=by
  unfold d132
  rw [d138_gen (rr_ok x) (b:=(!(rr y).1,(rr y).2)) (rr_ok y) hx hy,rv_not,rv_rr,rv_rr,Rat.sub_eq_add_neg]
  rfl
def cmpQ (x y:Rat):Int:=if x < y then -1 else if x=y then 0 else 1
theorem zke {x y:Rat}:x - y=0↔x=y:=by
  constructor
  · intro h; grind
  · intro h; grind
theorem zln {x y:Rat}:x - y < 0↔x < y:=by
  constructor
  · intro h; grind
  · intro h; grind
theorem d137_rr {x y:Rat} (hx:Sz 268435456 (rr x)) (hy:Sz 268435456 (rr y)):d137 (rr x) (rr y)=some (cmpQ x y):=by
  unfold d137
  rw [d132_rr hx hy]
  simp only [Option.bind_some]
  rw [rr_neg]
  unfold cmpQ
  by_cases h:x < y
  · rw [decide_eq_true (zln.2 h),if_pos h]; rfl
  · rw [decide_eq_false (fun hc=>h (zln.1 hc)),if_neg h]
    by_cases h2:x=y
    · rw [if_pos h2,(znr (x - y)).2 (zke.2 h2)]; rfl
    · have:(rr (x - y)).2.1 ≠ []:=fun hc=>h2 (zke.1 ((znr _).1 hc))
      have:=List.length_pos_iff.2 this
      rw [if_neg h2,decide_eq_false (by omega)]; rfl
theorem d128_eq {n:Int} (h0:-9223372036854775807≤n) (h1:n≤9223372036854775807):d128 n=some (zam n.natAbs):=by
  unfold d128
  by_cases h:n < 0
  · have e:wu64 (0 - wu64 n)=-n:=by
      rw [wu64_mod,wu64_mod]; omega
    rw [decide_eq_true h,cond_true,e,zpx (by omega) (by omega),show (-n).toNat=n.natAbs by omega]; rfl
  · rw [decide_eq_false h,cond_false,zbn (by omega) (by omega),zpx (by omega) (by omega),show n.toNat=n.natAbs by omega]; rfl
theorem zmf {n:Nat} (h:n < 18446744073709551616):(zam n).length≤2:=(zap n 2).2 h
end Go.Proofs.YtmipjomnjkmdbaaGreat
set_option linter.unusedSimpArgs false
set_option linter.unusedVariables false
namespace Go.Proofs.YtmipjomnjkmdbaaGreat
open Go Go.X
theorem B_pow (i:Nat):4294967296 ^ i=2 ^ (32 * i):=by rw [Nat.pow_mul]
theorem tdivN (a b:Nat):Int.tdiv (a:Int) (b:Int)=((a / b:Nat):Int):=rfl
theorem tmodN (a b:Nat):Int.tmod (a:Int) (b:Int)=((a % b:Nat):Int):=rfl
def Bz (k:Nat) (q:Rat):Prop:=q.num.natAbs < 2 ^ k∧q.den < 2 ^ k
theorem Bz.sz {k:Nat} {q:Rat} (h:Bz (32 * k) q):Sz k (rr q):=by
  refine ⟨(zap _ _).2 ?_,(zap _ _).2 ?_⟩
  · rw [B_pow]; exact h.1
  · rw [B_pow]; exact h.2
end Go.Proofs.YtmipjomnjkmdbaaGreat
set_option linter.unusedSimpArgs false
set_option linter.unusedVariables false
namespace Go.Proofs.YtmipjomnjkmdbaaGreat
open Go Go.X
def lst {α:Type} (f:Nat→α) (n:Nat):List α:=(List.range n).map f
theorem zba {α:Type} (f:Nat→α) (n:Nat):(lst f n).length=n:=by simp [lst]
theorem zbl {α:Type} (f:Nat→α) {n i:Nat} (h:i < n) (d:α):(lst f n).getD i d=f i:=by
  simp [lst,List.getD_eq_getElem?_getD,List.getElem?_map,List.getElem?_range h]
theorem lst_get? {α:Type} (f:Nat→α) {n i:Nat} (h:i < n):(lst f n)[i]? = some (f i):=by
  simp [lst,List.getElem?_map,List.getElem?_range h]
theorem zph {α:Type} (f:Nat→α) (n:Nat):lst f (n+1)=lst f n++[f n]:=by simp [lst,List.range_succ]
theorem zcj {α:Type} {f g:Nat→α} {n:Nat} (h:∀ i,i < n→f i=g i):lst f n=lst g n:=by
  unfold lst
  exact List.map_congr_left fun i hi=>h i (List.mem_range.1 hi)
def upd {α:Type} (f:Nat→α) (i:Nat) (x:α):Nat→α:=fun j=>if j=i then x else f j
theorem zop {α:Type} (f:Nat→α) (i:Nat) (x:α):upd f i x i=x:=if_pos rfl
theorem zlh {α:Type} (f:Nat→α) {i j:Nat} (x:α) (h:j ≠ i):upd f i x j=f j:=if_neg h
theorem zjq {α:Type} (f:Nat→α) (n i:Nat) (x:α):(lst f n).set i x=lst (upd f i x) n:=by
  refine List.ext_getElem? fun j=>?_
  by_cases hj:j < n
  · rw [lst_get? _ hj]
    by_cases h:i=j
    · subst h
      rw [List.getElem?_set_self (by rw [zba]; exact hj),zop]
    · rw [List.getElem?_set_ne h,lst_get? _ hj,zlh _ _ (fun e=>h e.symm)]
  · rw [List.getElem?_eq_none (by rw [List.length_set,zba]; omega),List.getElem?_eq_none (by rw [zba]; omega)]
theorem zme {α β:Type} (f:Nat→α) (g:α→β) (n:Nat):(lst f n).map g=lst (fun i=>g (f i)) n:=by simp [lst]
theorem lst_rep {α:Type} (x:α) (n:Nat):List.replicate n x=lst (fun _=>x) n:=by
  induction n with
  | zero=>rfl
  | succ n ih=>rw [zph,List.replicate_succ',ih]
theorem mem_lst {α:Type} {f:Nat→α} {n:Nat} {x:α}:x∈lst f n↔∃ i,i < n∧f i=x:=by simp [lst]
def sumN (f:Nat→Nat):Nat→Nat
  | 0=>0
  | n+1=>sumN f n+f n
theorem zao {f g:Nat→Nat}:∀ {n:Nat},(∀ i,i < n→f i=g i)→sumN f n=sumN g n
  | 0,_=>rfl
  | n+1,h=>by rw [sumN,sumN,zao fun i hi=>h i (by omega),h n (by omega)]
theorem zej {f g:Nat→Nat}:∀ {n:Nat},(∀ i,i < n→f i≤g i)→sumN f n≤sumN g n
  | 0,_=>Nat.le_refl _
  | n+1,h=>Nat.add_le_add (zej fun i hi=>h i (by omega)) (h n (by omega))
theorem zew (f g:Nat→Nat):∀ n:Nat,sumN (fun i=>f i+g i) n=sumN f n+sumN g n
  | 0=>rfl
  | n+1=>by rw [sumN,sumN,sumN,zew f g n]; omega
theorem zft (f:Nat→Nat) (c:Nat):∀ n:Nat,sumN (fun i=>f i * c) n=sumN f n * c
  | 0=>by rw [sumN,sumN,Nat.zero_mul]
  | n+1=>by rw [sumN,sumN,zft f c n,Nat.add_mul]
theorem zct:∀ n:Nat,sumN (fun _=>0) n=0
  | 0=>rfl
  | n+1=>by rw [sumN,zct n]
theorem zic (f:Nat→Nat→Nat) (n:Nat):∀ m:Nat,sumN (fun i=>sumN (f i) n) m=sumN (fun j=>sumN (fun i=>f i j) m) n
  | 0=>by simp only [sumN,zct]
  | m+1=>by
    simp only [sumN]
    rw [zic f n m,← zew]
theorem sumN_pos {f:Nat→Nat}:∀ {n:Nat},0 < sumN f n→∃ i,i < n∧0 < f i
  | 0,h=>absurd h (by simp [sumN])
  | n+1,h=>by
    rw [sumN] at h
    by_cases h0:0 < f n
    · exact ⟨n,by omega,h0⟩
    · obtain ⟨i,h1,h2⟩:=sumN_pos (show 0 < sumN f n by omega)
      exact ⟨i,by omega,h2⟩
theorem zot (c v:Nat):∀ n:Nat,sumN (fun i=>if i=c then v else 0) n=if c < n then v else 0
  | 0=>rfl
  | n+1=>by
    rw [sumN,zot c v n]
    by_cases h:c < n
    · rw [if_pos h,if_neg (show n ≠ c by omega),if_pos (show c < n+1 by omega)]; rfl
    · rw [if_neg h]
      by_cases h2:n=c
      · rw [if_pos h2,if_pos (by omega)]; omega
      · rw [if_neg h2,if_neg (by omega)]
theorem zlm {f:Nat→Nat} {n i:Nat} (h:i < n):f i≤sumN f n:=by
  induction n with
  | zero=>omega
  | succ n ih =>
    rw [sumN]
    by_cases h2:i=n
    · subst h2; omega
    · have:=ih (by omega); omega
theorem sumN_upd {f g:Nat→Nat} {n c:Nat} (hc:c < n) (h:∀ i,i < n→i ≠ c→f i=g i):sumN f n+g c=sumN g n+f c:=by
  induction n with
  | zero=>omega
  | succ n ih =>
    rw [sumN,sumN]
    by_cases h2:c=n
    · subst h2
      rw [zao fun i hi=>h i (by omega) (by omega)]; omega
    · have:=ih (by omega) fun i hi hn=>h i (by omega) hn
      have:=h n (by omega) (by omega)
      omega
def selN (p:Nat→Bool) (n:Nat):List Nat:=(List.range n).filter p
def selI (p:Nat→Bool) (n:Nat):List Int:=(selN p n).map Int.ofNat
def cntN (p:Nat→Bool) (n:Nat):Nat:=sumN (fun i=>if p i then 1 else 0) n
theorem zls (p:Nat→Bool) (n:Nat):selN p (n+1)=selN p n++(if p n then [n] else []):=by
  unfold selN
  rw [List.range_succ,List.filter_append]
  congr 1
  cases h:p n <;> simp [List.filter_cons,h]
theorem zek (p:Nat→Bool) (n:Nat):selI p (n+1)=selI p n++(if p n then [(n:Int)] else []):=by
  unfold selI
  rw [zls,List.map_append]
  congr 1
  cases h:p n <;> rfl
theorem zfw (p:Nat→Bool):∀ n:Nat,(selN p n).length=cntN p n
  | 0=>rfl
  | n+1=>by
    rw [zls,List.length_append,zfw p n]
    show _=cntN p n+(if p n then 1 else 0)
    cases h:p n <;> rfl
theorem zbc (p:Nat→Bool) (n:Nat):(selI p n).length=cntN p n:=by rw [selI,List.length_map,zfw]
theorem zez {p:Nat→Bool} {n i:Nat}:i∈selN p n↔i < n∧p i=true:=by
  unfold selN; rw [List.mem_filter,List.mem_range]
theorem zay {p:Nat→Bool} {n:Nat} {x:Int}:x∈selI p n↔∃ i:Nat,x=(i:Int)∧i < n∧p i=true:=by
  unfold selI
  rw [List.mem_map]
  constructor
  · rintro ⟨i,h,rfl⟩; exact ⟨i,rfl,zez.1 h⟩
  · rintro ⟨i,rfl,h⟩; exact ⟨i,zez.2 h,rfl⟩
theorem selN_congr {p q:Nat→Bool} {n:Nat} (h:∀ i,i < n→p i=q i):selN p n=selN q n:=by
  unfold selN
  exact List.filter_congr fun i hi=>h i (List.mem_range.1 hi)
theorem znp {p q:Nat→Bool} {n:Nat} (h:∀ i,i < n→p i=q i):selI p n=selI q n:=by
  unfold selI; rw [selN_congr h]
theorem zjz {p q:Nat→Bool} {n:Nat} (h:∀ i,i < n→p i=q i):cntN p n=cntN q n:=zao fun i hi=>by rw [h i hi]
theorem zcl (p:Nat→Bool) (n:Nat):cntN p n≤n:=by
  rw [← zfw]
  unfold selN
  exact Nat.le_trans (List.length_filter_le _ _) (by simp)
theorem zpz {p:Nat→Bool} {n:Nat}:0 < cntN p n↔∃ i,i < n∧p i=true:=by
  constructor
  · intro h
    obtain ⟨i,h1,h2⟩:=sumN_pos h
    refine ⟨i,h1,?_⟩
    cases hp:p i
    · rw [hp] at h2; simp at h2
    · rfl
  · rintro ⟨i,h1,h2⟩
    have:=zlm (f:=fun i=>if p i then 1 else 0) h1
    simp only [h2] at this
    exact this
theorem selN_filter (p q:Nat→Bool) (n:Nat):(selN p n).filter q=selN (fun i=>p i && q i) n:=by
  unfold selN
  rw [List.filter_filter]
  exact List.filter_congr fun i _=>by rw [Bool.and_comm]
def extr (least:Bool) (r:Int→Rat) (l:List Int):List Int:=l.filter fun i=>l.all fun k=>if least then decide (r i≤r k) else decide (r k≤r i)
def zbu (round:List Rat) (c:Int):Rat:=round.getD c.toNat 0
def zcb (lots:List Int) (c:Int):Nat:=lots.idxOf c
def byLot (lots:List Int) (least:Bool) (l:List Int):Int:=l.tail.foldl (fun m c=>if least then (if zcb lots m < zcb lots c then c else m) else (if zcb lots c < zcb lots m then c else m)) (l.headD 0)
def zaw (ties:Int) (earlier:List (List Rat)):List (List Rat):=if ties=3 then [] else if ties=1 then earlier.reverse else earlier
def tieL (least:Bool) (rounds:List (List Rat)) (tied:List Int):List Int:=rounds.foldl (fun l r=>if 1 < l.length then extr least (zbu r) l else l) tied
def tieB (ties:Int) (earlier:List (List Rat)) (tied lots:List Int) (least:Bool):Int :=
  let l:=tieL least (zaw ties earlier) tied
  if l.length=1 then l.headD 0 else byLot lots least l
abbrev Gp:=List Int × Int
structure GP where
  gs:List Gp
  n:Nat
  seats:Nat
  q:Nat
  tot:Nat
  ties:Int
  lots:List Int
def GP.p (P:GP) (g:Nat):List Int:=(P.gs.getD g ([],0)).1
def GP.k (P:GP) (g:Nat):Nat:=(P.gs.getD g ([],0)).2.toNat
def GP.G (P:GP):Nat:=P.gs.length
structure GS where
  D:Nat
  num:Nat→Nat
  at_:Nat→Nat
  st:Nat→Nat
  keep:Nat→Rat
def GS.on (P:GP) (s:GS) (g c:Nat):Bool:=decide (s.at_ g < (P.p g).length) && decide ((P.p g).getD (s.at_ g) 0=(c:Int))
def GS.lie (P:GP) (s:GS) (c:Nat):Nat:=sumN (fun g=>if s.on P g c then P.k g * s.num g else 0) P.G
def GS.bar (P:GP) (s:GS):Nat:=P.q * s.D
def frac (a b:Nat):Rat:=(a:Rat) / (b:Rat)
structure Rd where
  votes:List Rat
  keep:List Rat
  quota:Rat
  exh:Rat
  sur:Rat
  el:List Int
  ex:List Int
  ti:List Int
def g0:GS:={ D:=1,num:=fun _=>1,at_:=fun _=>0,st:=fun _=>0,keep:=fun _=>1 }
end Go.Proofs.YtmipjomnjkmdbaaGreat
set_option linter.unusedSimpArgs false
set_option linter.unusedVariables false
namespace Go.Proofs.YtmipjomnjkmdbaaGreat
open Go Go.X
theorem zfb {α:Type} (f:α→Rat):∀ {l:List α},l ≠ []→∃ i∈l,∀ k∈l,f i≤f k
  | [],h=>absurd rfl h
  | [x],_=>⟨x,by simp,fun k hk=>by simp at hk; subst hk; exact Rat.le_refl⟩
  | x::y::l,_=>by
    obtain ⟨i,h1,h2⟩:=zfb f (l:=y::l) (by simp)
    rcases Rat.le_total (a:=f x) (b:=f i) with h | h
    · refine ⟨x,by simp,fun k hk=>?_⟩
      rcases List.mem_cons.1 hk with rfl | hk
      · exact Rat.le_refl
      · exact Rat.le_trans h (h2 k hk)
    · refine ⟨i,List.mem_cons_of_mem _ h1,fun k hk=>?_⟩
      rcases List.mem_cons.1 hk with rfl | hk
      · exact h
      · exact h2 k hk
theorem zpp {α:Type} (f:α→Nat) {l:List α} (h:l ≠ []):∃ i∈l,∀ k∈l,f i≤f k:=by
  induction l with
  | nil=>exact absurd rfl h
  | cons x l ih =>
    by_cases hl:l=[]
    · subst hl; exact ⟨x,by simp,fun k hk=>by simp at hk; subst hk; exact Nat.le_refl _⟩
    · obtain ⟨i,h1,h2⟩:=ih hl
      by_cases hx:f x≤f i
      · refine ⟨x,by simp,fun k hk=>?_⟩
        rcases List.mem_cons.1 hk with rfl | hk
        · exact Nat.le_refl _
        · exact Nat.le_trans hx (h2 k hk)
      · refine ⟨i,List.mem_cons_of_mem _ h1,fun k hk=>?_⟩
        rcases List.mem_cons.1 hk with rfl | hk
        · omega
        · exact h2 k hk
theorem extr_ne {least:Bool} {r:Int→Rat} {l:List Int} (h:l ≠ []):extr least r l ≠ []:=by
  cases least
  · obtain ⟨i,h1,h2⟩:=zfb (fun i=>- r i) h
    have:i∈extr false r l:=List.mem_filter.2 ⟨h1,List.all_eq_true.2 fun k hk=>by
      have:=h2 k hk
      simp only [Bool.false_eq_true,if_false,decide_eq_true_eq]
      grind⟩
    exact List.ne_nil_of_mem this
  · obtain ⟨i,h1,h2⟩:=zfb r h
    have:i∈extr true r l:=List.mem_filter.2 ⟨h1,List.all_eq_true.2 fun k hk=>by
      simp only [if_true,decide_eq_true_eq]
      exact h2 k hk⟩
    exact List.ne_nil_of_mem this
theorem extr_sub {least:Bool} {r:Int→Rat} {l:List Int} {x:Int} (h:x∈extr least r l):x∈l:=(List.mem_filter.1 h).1
theorem zia:∀ {least:Bool} {rounds:List (List Rat)} {l:List Int} {x:Int},x∈tieL least rounds l→x∈l
  | _,[],_,_,h=>h
  | least,r::rounds,l,x,h=>by
    have h':x∈tieL least rounds (if 1 < l.length then extr least (zbu r) l else l):=h
    have:=zia h'
    split at this
    · exact extr_sub this
    · exact this
theorem tieL_ne:∀ {least:Bool} {rounds:List (List Rat)} {l:List Int},l ≠ []→tieL least rounds l ≠ []
  | _,[],_,h=>h
  | least,r::rounds,l,h=>by
    show tieL least rounds (if 1 < l.length then extr least (zbu r) l else l) ≠ []
    refine tieL_ne ?_
    split
    · exact extr_ne h
    · exact h
theorem ziv {α:Type} (f:α→α→α) (hf:∀ a b,f a b=a∨f a b=b):∀ (l:List α) (x:α),l.foldl f x=x∨l.foldl f x∈l
  | [],x=>.inl rfl
  | y::l,x=>by
    rw [List.foldl_cons]
    rcases ziv f hf l (f x y) with h | h
    · rw [h]
      rcases hf x y with h1 | h1
      · exact .inl h1
      · exact .inr (by rw [h1]; simp)
    · exact .inr (List.mem_cons_of_mem _ h)
theorem byLot_mem {lots:List Int} {least:Bool} {l:List Int} (h:l ≠ []):byLot lots least l∈l:=by
  cases l with
  | nil=>exact absurd rfl h
  | cons x l =>
    unfold byLot
    simp only [List.tail_cons,List.headD_cons]
    rcases ziv (fun m c=>if least then (if zcb lots m < zcb lots c then c else m) else (if zcb lots c < zcb lots m then c else m)) (fun a b=>by cases least <;> simp only [if_true,Bool.false_eq_true,if_false] <;> split <;> simp) l x with h | h
    · rw [h]; simp
    · exact List.mem_cons_of_mem _ h
theorem ziu {l:List Int} (h:l ≠ []):l.headD 0∈l:=by
  cases l with
  | nil=>exact absurd rfl h
  | cons x l=>simp
theorem tieB_mem {ties:Int} {earlier:List (List Rat)} {tied lots:List Int} {least:Bool} (h:tied ≠ []):tieB ties earlier tied lots least∈tied:=by
  unfold tieB
  have hn:=tieL_ne (least:=least) (rounds:=zaw ties earlier) h
  simp only
  split
  · exact zia (ziu hn)
  · exact zia (byLot_mem hn)
theorem getD_drop {α:Type} (l:List α) (k i:Nat) (d:α):(l.drop k).getD i d=l.getD (k+i) d:=by
  simp [List.getD_eq_getElem?_getD,List.getElem?_drop]
def GP.mkd (P:GP):Nat:=sumN (fun g=>if P.p g=[] then 0 else P.k g) P.G
structure GP.OK (P:GP):Prop where
  n1:1≤P.n
  n7:P.n≤7
  seats1:1≤P.seats
  seats5:P.seats≤5
  prefs:∀ g,g < P.G→∀ c∈P.p g,∃ i:Nat,c=(i:Int)∧i < P.n
  plen:∀ g,g < P.G→(P.p g).length≤7
  total:sumN P.k P.G=P.tot
  tot5:P.tot≤100000
  q1:1≤P.q
  q5:P.q≤100001
  quota:P.mkd < P.q * (P.seats+1)
  ties1:1≤P.ties
  ties3:P.ties≤3
  lotn:P.lots.length=P.n
  lots:∀ c∈P.lots,∃ i:Nat,c=(i:Int)∧i < P.n
  lotd:P.lots.Nodup
def GS.c2 (P:GP) (s:GS):Nat:=cntN (fun i=>decide (s.st i=2)) P.n
structure GI (P:GP) (s:GS):Prop where
  D0:0 < s.D
  Db:s.D≤2 ^ (17 * (2 ^ s.c2 P - 1))
  num:∀ g,g < P.G→s.num g≤s.D
  at_:∀ g,g < P.G→s.at_ g≤(P.p g).length
  lies:∀ g c,g < P.G→s.on P g c=true→s.st c=0∨s.st c=1
  st3:∀ c,s.st c≤3
  blank:∀ g,g < P.G→P.p g=[]→s.num g=s.D
  cons:sumN (fun g=>if P.p g=[] then 0 else P.k g * s.num g) P.G+s.bar P * s.c2 P=P.mkd * s.D
  pend:∀ c,c < P.n→s.st c=1→s.bar P≤s.lie P c
variable {P:GP} {s:GS}
theorem GS.on_lt {g c:Nat} (h:s.on P g c=true):s.at_ g < (P.p g).length:=by
  unfold GS.on at h
  rw [Bool.and_eq_true,decide_eq_true_eq] at h
  exact h.1
theorem GS.on_at {g c:Nat} (h:s.on P g c=true):(P.p g).getD (s.at_ g) 0=(c:Int):=by
  unfold GS.on at h
  rw [Bool.and_eq_true,decide_eq_true_eq,decide_eq_true_eq] at h
  exact h.2
theorem GS.on_uniq {g c d:Nat} (h:s.on P g c=true) (h':s.on P g d=true):c=d:=by
  have h1:=GS.on_at h
  have h2:=GS.on_at h'
  omega
theorem zcs {l:List Int} {i:Nat} (h:i < l.length):l.getD i 0∈l:=by
  rw [List.getD_eq_getElem?_getD,List.getElem?_eq_getElem h]
  exact List.getElem_mem h
theorem GS.on_ex (hP:P.OK) {g:Nat} (hg:g < P.G) (h:s.at_ g < (P.p g).length):∃ c,c < P.n∧s.on P g c=true:=by
  obtain ⟨i,h1,h2⟩:=hP.prefs g hg _ (zcs h)
  refine ⟨i,h2,?_⟩
  unfold GS.on
  rw [Bool.and_eq_true,decide_eq_true_eq,decide_eq_true_eq]
  exact ⟨h,h1⟩
theorem lie_sum (hP:P.OK):sumN (s.lie P) P.n=sumN (fun g=>if s.at_ g < (P.p g).length then P.k g * s.num g else 0) P.G:=by
  unfold GS.lie
  rw [zic (fun c g=>if s.on P g c then P.k g * s.num g else 0)]
  refine zao fun g hg=>?_
  by_cases h:s.at_ g < (P.p g).length
  · obtain ⟨c,h1,h2⟩:=GS.on_ex hP hg h
    rw [if_pos h]
    have:sumN (fun i=>if s.on P g i then P.k g * s.num g else 0) P.n=sumN (fun i=>if i=c then P.k g * s.num g else 0) P.n:=zao fun i hi=>by
      by_cases hic:i=c
      · subst hic; rw [if_pos h2,if_pos rfl]
      · rw [if_neg hic,if_neg fun h3=>hic (GS.on_uniq h3 h2)]
    rw [this,zot,if_pos h1]
  · rw [if_neg h]
    refine (zao fun i hi=>if_neg fun h3=>h (GS.on_lt h3)).trans (zct _)
theorem znu (hP:P.OK):sumN (s.lie P) P.n≤sumN (fun g=>if P.p g=[] then 0 else P.k g * s.num g) P.G:=by
  rw [lie_sum hP]
  refine zej fun g hg=>?_
  by_cases h:P.p g=[]
  · rw [if_neg (by rw [h]; simp),if_pos h]; exact Nat.le_refl _
  · rw [if_neg h]
    split
    · exact Nat.le_refl _
    · exact Nat.zero_le _
theorem cnt_mul (p:Nat→Bool) (v:Nat):∀ n:Nat,sumN (fun i=>if p i then v else 0) n=v * cntN p n
  | 0=>by simp [sumN,cntN]
  | n+1=>by
    show sumN _ n+(if p n then v else 0)=v * (cntN p n+(if p n then 1 else 0))
    rw [cnt_mul p v n,Nat.mul_add]
    cases p n <;> simp
theorem mk_le (hP:P.OK):P.mkd≤P.tot:=by
  rw [← hP.total]
  exact zej fun g _=>by split <;> omega
theorem cnt_upd {p q:Nat→Bool} {n x:Nat} (hx:x < n) (h:∀ i,i < n→i ≠ x→p i=q i) (h0:q x=false) (h1:p x=true):cntN p n=cntN q n+1:=by
  have:=sumN_upd (f:=fun i=>if p i then 1 else 0) (g:=fun i=>if q i then 1 else 0) hx fun i hi hne=>by rw [h i hi hne]
  simp only [h0,h1,if_true,Bool.false_eq_true,if_false] at this
  unfold cntN
  omega
theorem g0_inv (hP:P.OK):GI P g0:=by
  have hc:g0.c2 P=0:=(zjz (q:=fun _=>false) fun i _=>rfl).trans (by unfold cntN; exact zct _)
  refine ⟨by decide,by rw [hc]; exact Nat.le_refl 1,fun g hg=>Nat.le_refl 1,fun g hg=>Nat.zero_le _,fun g c hg _=>.inl rfl,fun c=>Nat.zero_le 3,fun g hg hp=>rfl,?_,fun c hc h=>by cases h⟩
  rw [hc,Nat.mul_zero,Nat.add_zero]
  show _=P.mkd * 1
  rw [Nat.mul_one]
  unfold GP.mkd
  refine zao fun g hg=>?_
  show (if P.p g=[] then 0 else P.k g * 1)=_
  rw [Nat.mul_one]
def eB:Nat:=2208
end Go.Proofs.YtmipjomnjkmdbaaGreat
set_option linter.unusedSimpArgs false
set_option linter.unusedVariables false
namespace Go.Proofs.YtmipjomnjkmdbaaGreat
open Go Go.X
abbrev CT:=List Int × (List (List Int) × (Int × (Int × (Int × (Int × (Int × (Int × Int)))))))
abbrev RD:=List Rt × (List Rt × (Rt × (Rt × (Rt × (List Int × (List Int × List Int))))))
theorem zff {α:Type} {l:List α} {d:α} (h:l.length+1≤4294967296):decide ((l.length:Int)+(([d]:List α).length:Int)≤LIM)=true:=by
  have:(l.length:Int)+(([d]:List α).length:Int)=((l.length+1:Nat):Int):=by simp
  rw [this]; exact zby h
theorem zpu (a b:Nat):decide ((a:Int)=(b:Int))=decide (a=b):=decide_eq_decide.2 Int.ofNat_inj
theorem frac_nd (a b:Nat):(frac a b).num.natAbs≤a∧(frac a b).den≤max 1 b:=by
  have e:frac a b=mkRat a b:=by
    unfold frac
    rw [Rat.mkRat_eq_div]
    rfl
  rw [e]
  by_cases hb:b=0
  · subst hb; rw [Rat.mkRat_zero]; exact ⟨Nat.zero_le _,Nat.le_max_left _ _⟩
  · rw [Rat.num_mkRat,Rat.den_mkRat,if_neg hb,if_neg hb]
    refine ⟨?_,Nat.le_trans (Nat.div_le_self _ _) (Nat.le_max_right _ _)⟩
    rw [Int.natAbs_natCast]
    have:((a:Int) / ((b.gcd a:Nat):Int))=((a / b.gcd a:Nat):Int):=rfl
    rw [this,Int.natAbs_natCast]
    exact Nat.div_le_self _ _
theorem frac_bz {a b e:Nat} (ha:a < 2 ^ e) (hb:b < 2 ^ e) (he:1≤e):Bz e (frac a b):=by
  obtain ⟨h1,h2⟩:=frac_nd a b
  have:1 < 2 ^ e:=Nat.one_lt_two_pow (by omega)
  exact ⟨by omega,by omega⟩
theorem Bz.sz2 {q:Rat} (h:Bz eB q):Sz 268435456 (rr q):=by
  have h':Bz (32 * 69) q:=h
  have:=Bz.sz (k:=69) h'
  exact ⟨by have:=this.1; omega,by have:=this.2; omega⟩
theorem selN_getD_lt {p:Nat→Bool} {n j:Nat} (h:j < (selN p n).length):(selN p n).getD j 0 < n∧p ((selN p n).getD j 0)=true:=by
  rw [List.getD_eq_getElem?_getD,List.getElem?_eq_getElem h]
  exact zez.1 (List.getElem_mem h)
theorem selI_getD {p:Nat→Bool} {n j:Nat} (h:j < (selN p n).length):(selI p n).getD j 0=(((selN p n).getD j 0:Nat):Int):=by
  unfold selI
  rw [List.getD_eq_getElem?_getD,List.getElem?_map,List.getElem?_eq_getElem h,List.getD_eq_getElem?_getD,List.getElem?_eq_getElem h]; rfl
theorem zbm {α:Type} (l:List α) (d:α) {n:Nat} (h:n < l.length):l.take (n+1)=l.take n++[l.getD n d]:=by
  rw [List.take_add_one,List.getD_eq_getElem?_getD,List.getElem?_eq_getElem h]; rfl
def zfg {α:Type} (f:Nat→α) (L:List Nat) (x:α):Nat→α:=fun c=>if c∈L then x else f c
theorem updAll_snoc {α:Type} (f:Nat→α) (L:List Nat) (c:Nat) (x:α):upd (zfg f L x) c x=zfg f (L++[c]) x:=by
  funext d
  unfold upd zfg
  by_cases h:d=c
  · subst h; simp
  · simp [h]
theorem updAll_nil {α:Type} (f:Nat→α) (x:α):zfg f [] x=f:=by funext d; simp [zfg]
variable {P:GP} {s:GS}
theorem lie_le (hP:P.OK) (hI:GI P s) {c:Nat} (h:c < P.n):s.lie P c≤P.tot * s.D:=by
  have h1:=zlm (f:=s.lie P) h
  have h2:=znu (s:=s) hP
  have h3:=hI.cons
  have h4:=Nat.mul_le_mul_right s.D (mk_le hP)
  omega
end Go.Proofs.YtmipjomnjkmdbaaGreat
set_option linter.unusedSimpArgs false
set_option linter.unusedVariables false
namespace Go.Proofs.YtmipjomnjkmdbaaGreat
open Go Go.X
theorem zos {α:Type} (l:List α) (x:α) {i:Nat} (h:i < l.length):(l.set i x).take (i+1)=l.take i++[x]:=by
  refine List.ext_getElem? fun j=>?_
  by_cases hj:j < i+1
  · rw [List.getElem?_take_of_lt hj]
    by_cases h2:i=j
    · subst h2
      rw [List.getElem?_set_self h,List.getElem?_append_right (by rw [List.length_take]; omega),List.length_take,Nat.min_eq_left (by omega),Nat.sub_self]; rfl
    · rw [List.getElem?_set_ne h2,List.getElem?_append_left (by rw [List.length_take]; omega),List.getElem?_take_of_lt (by omega)]
  · rw [List.getElem?_eq_none (by rw [List.length_take,List.length_set]; omega),List.getElem?_eq_none (by rw [List.length_append,List.length_take]; simp; omega)]
theorem zdw (g:Int→Bool) (s:List Int) {j:Nat} (h:j < s.length):(s.take (j+1)).filter g=(s.take j).filter g++(if g (s.getD j 0) then [s.getD j 0] else []):=by
  rw [zbm s 0 h,List.filter_append]
  congr 1
  rw [List.filter_cons]
  cases hg:g (s.getD j 0) <;> rfl
theorem getD_of_drop {s t:List Int} {j:Nat} (h:s.drop j=t.drop j):s.getD j 0=t.getD j 0:=by
  have h1:=getD_drop s j 0 0
  have h2:=getD_drop t j 0 0
  rw [Nat.add_zero] at h1 h2
  rw [← h1,← h2,h]
theorem zkk {s t:List Int} {j:Nat} (h:s.drop j=t.drop j):s.drop (j+1)=t.drop (j+1):=by
  rw [← List.drop_drop,← List.drop_drop,h]
theorem d134_eq {s:List Int} {f:Int→Option Bool} {g:Int→Bool} (hf:∀ c∈s,f c=some (g c)) (hs:s.length≤1000000):d134 s f=some (s.filter fun c=>!g c):=by
  unfold d134
  rw [d101_on hf (by omega)]
  have hle:=zfl g s
  by_cases h:zal g s < s.length
  · rw [if_pos h,Option.bind_some,decide_eq_false (show ¬ ((zal g s:Nat):Int)=-1 by omega),cond_false]
    obtain ⟨i0,hi0⟩:∃ i0,zal g s=i0:=⟨_,rfl⟩
    have hat:=zef g s h
    have hlt:=zda g s
    rw [hi0] at h hat hlt
    rw [hi0,zbk (by omega)]
    refine zbv (Q:=fun r=>r=some (s.filter fun c=>!g c)) (fun (m:Nat) (st:(List Int) × (Int→Option Bool) × Int × Int)=>∃ (s':List Int) (i:Nat),st=(s',f,(i:Int),((i0+1+m:Nat):Int))∧s'.length=s.length∧i≤i0+m∧i0+1+m≤s.length∧s'.take i=(s.take (i0+1+m)).filter (fun c=>!g c)∧s'.drop (i0+1+m)=s.drop (i0+1+m)) (s.length - (i0+1)) ?_ ?_ ?_
    · refine ⟨s,i0,rfl,rfl,by omega,by omega,?_,rfl⟩
      rw [zdw _ s h,hat,show (!true)=false from rfl]
      simp only [Bool.false_eq_true,if_false,List.append_nil]
      refine (List.filter_eq_self.2 fun x hx=>?_).symm
      obtain ⟨k,hk,hkx⟩:=List.getElem_of_mem hx
      rw [List.length_take] at hk
      have:=hlt k (by omega)
      rw [List.getD_eq_getElem?_getD,List.getElem?_eq_getElem (by omega)] at this
      rw [List.getElem_take] at hkx
      rw [← hkx]
      simpa using this
    · rintro m st hm ⟨s',i,rfl,hl,hi,hmle,ht,hd⟩
      have hj:i0+1+m < s.length:=by omega
      have hgd:=getD_of_drop hd
      have hmem:s.getD (i0+1+m) 0∈s:=zcs hj
      simp only [hl,dlt hj,d0le,Bool.and_self,cond_true,tn,zak,hgd,hf _ hmem,Option.bind_some]
      rw [show i0+1+(m+1)=i0+1+m+1 by omega]
      cases hg:g (s.getD (i0+1+m) 0) with
      | true =>
        refine ⟨_,by rw [Bool.not_true,cond_false,zbk (by omega)],s',i,rfl,hl,by omega,by omega,?_,zkk hd⟩
        rw [zdw _ s hj,hg,ht]; simp
      | false =>
        refine ⟨_,by simp only [Bool.not_false,cond_true,dlt (show i < s.length by omega),zbk (show i < 9223372036854775807 by omega),zbk (show i0+1+m < 9223372036854775807 by omega),Bool.and_self],s'.set i (s.getD (i0+1+m) 0),i+1,rfl,by simpa using hl,by omega,by omega,?_,?_⟩
        · rw [zos _ _ (by omega),zdw _ s hj,hg,ht]; simp
        · rw [List.drop_set_of_lt (by omega)]; exact zkk hd
    · rintro st ⟨s',i,rfl,hl,hi,hmle,ht,hd⟩
      have e:i0+1+(s.length - (i0+1))=s.length:=by omega
      rw [e] at ht hd ⊢
      rw [List.take_length] at ht
      refine ⟨(s',(i:Int)),by simp only [hl,nlt (Nat.le_refl s.length),cond_false],?_⟩
      have hil:i≤s'.length:=by omega
      have hlen:(List.take i s'++List.replicate (s'.length - i) 0).length=s'.length:=by simp; omega
      have c1:zcf (i:Int) (s'.length:Int) s'.length=true:=by
        unfold zcf
        simp only [Bool.and_eq_true,decide_eq_true_eq]
        omega
      have c2:zcf 0 (i:Int) s'.length=true:=by
        unfold zcf
        simp only [Bool.and_eq_true,decide_eq_true_eq]
        omega
      simp only [c1,cond_true,tn,hlen,c2]
      rw [List.take_append_of_le_length (by rw [List.length_take]; omega),List.take_take,Nat.min_self,ht]
  · rw [if_neg h,Option.bind_some]
    have hall:∀ x∈s,g x=false:=fun x hx=>by
      cases hg:g x
      · rfl
      · exact absurd ((zhv g s).2 ⟨x,hx,hg⟩) h
    rw [List.filter_eq_self.2 fun x hx=>by rw [hall x hx]; rfl]
    rfl
theorem zel (p:Nat→Bool):∀ n:Nat,(selI p n).Pairwise (· < ·)
  | 0=>List.Pairwise.nil
  | n+1=>by
    rw [zek,List.pairwise_append]
    refine ⟨zel p n,by split <;> simp,fun x hx y hy=>?_⟩
    obtain ⟨i,rfl,h1,_⟩:=zay.1 hx
    split at hy
    · simp at hy; subst hy; omega
    · simp at hy
theorem sortI_of {l m:List Int} (hp:l.Perm m) (hs:m.Pairwise (·≤·)):zdo l=m:=by
  unfold zdo
  have h1:=List.mergeSort_perm l fun x y=>decide (x≤y)
  have h2:(l.mergeSort fun x y=>decide (x≤y)).Pairwise (·≤·):=by
    have:=List.pairwise_mergeSort (le:=fun x y:Int=>decide (x≤y)) (fun a b c h1 h2=>decide_eq_true (Int.le_trans (of_decide_eq_true h1) (of_decide_eq_true h2))) (fun a b=>by simp only [Bool.or_eq_true,decide_eq_true_eq]; omega) l
    exact this.imp fun h=>of_decide_eq_true h
  exact (h1.trans hp).eq_of_pairwise (fun a b _ _ h3 h4=>Int.le_antisymm h3 h4) h2 hs
theorem sel_perm {p q:Nat→Bool} (h:∀ i,p i=true→q i=false):∀ n:Nat,(selI p n++selI q n).Perm (selI (fun i=>p i || q i) n)
  | 0=>List.Perm.refl _
  | n+1=>by
    have ih:=sel_perm h n
    rw [zek,zek,zek]
    cases hp:p n
    · simp only [Bool.false_eq_true,if_false,List.append_nil,Bool.false_or]
      cases hq:q n
      · simp only [Bool.false_eq_true,if_false,List.append_nil]; exact ih
      · simp only [if_true]
        rw [← List.append_assoc]
        exact ih.append_right _
    · rw [h n hp]
      simp only [Bool.false_eq_true,if_false,List.append_nil,Bool.or_false,if_true]
      refine List.Perm.trans ?_ (ih.append_right [(n:Int)])
      rw [List.append_assoc,List.append_assoc]
      exact List.Perm.append_left _ List.perm_append_comm
theorem sortI_two {p q:Nat→Bool} (h:∀ i,p i=true→q i=false) (n:Nat):zdo (selI p n++selI q n)=selI (fun i=>p i || q i) n :=
  sortI_of (sel_perm h n) ((zel _ n).imp fun h=>Int.le_of_lt h)
def ext0 (ρ:Int→Rat) (l:List Int):List Int:=l.filter fun i=>l.all fun k=>decide (ρ i≤ρ k)
def sgR (least:Bool) (r:Int→Rat) (c:Int):Rat:=if least then r c else - r c
theorem extr_ext0 (least:Bool) (r:Int→Rat) (l:List Int):extr least r l=ext0 (sgR least r) l:=by
  unfold extr ext0 sgR
  refine List.filter_congr fun i _=>?_
  congr 1
  funext k
  cases least
  · simp only [Bool.false_eq_true,if_false]
    exact decide_eq_decide.2 ⟨fun h=>by grind,fun h=>by grind⟩
  · rfl
theorem zpo {ρ:Int→Rat} {l:List Int} {x:Int}:x∈ext0 ρ l↔x∈l∧∀ k∈l,ρ x≤ρ k:=by
  unfold ext0
  rw [List.mem_filter,List.all_eq_true]
  simp only [decide_eq_true_eq]
theorem ext0_ne {ρ:Int→Rat} {l:List Int} (h:l ≠ []):ext0 ρ l ≠ []:=by
  obtain ⟨i,h1,h2⟩:=zfb ρ h
  exact List.ne_nil_of_mem (zpo.2 ⟨h1,h2⟩)
theorem ext0_nil (ρ:Int→Rat):ext0 ρ []=[]:=rfl
theorem ext0_snoc (ρ:Int→Rat) {l:List Int} (x:Int) (hl:l ≠ []):ext0 ρ (l++[x])=if ρ x < ρ ((ext0 ρ l).headD 0) then [x] else if ρ x=ρ ((ext0 ρ l).headD 0) then ext0 ρ l++[x] else ext0 ρ l:=by
  have hy:=ziu (ext0_ne (ρ:=ρ) hl)
  generalize (ext0 ρ l).headD 0=y at hy ⊢
  obtain ⟨h1,h2⟩:=zpo.1 hy
  have e:ext0 ρ (l++[x])=l.filter (fun i=>(l.all fun k=>decide (ρ i≤ρ k)) && decide (ρ i≤ρ x))++if (l.all fun k=>decide (ρ x≤ρ k)) then [x] else []:=by
    unfold ext0
    rw [List.filter_append]
    congr 1
    · refine List.filter_congr fun i _=>?_
      rw [List.all_append]; simp
    · rw [List.filter_cons,List.all_append]
      have:ρ x≤ρ x:=Rat.le_refl
      simp [this]
  rw [e]
  by_cases c1:ρ x < ρ y
  · rw [if_pos c1]
    have a1:l.filter (fun i=>(l.all fun k=>decide (ρ i≤ρ k)) && decide (ρ i≤ρ x))=[]:=by
      refine List.filter_eq_nil_iff.2 fun i hi hc=>?_
      simp only [Bool.and_eq_true,decide_eq_true_eq] at hc
      have:=h2 i hi
      grind
    have a2:(l.all fun k=>decide (ρ x≤ρ k))=true:=List.all_eq_true.2 fun k hk=>decide_eq_true (by have:=h2 k hk; grind)
    rw [a1,a2]; rfl
  · rw [if_neg c1]
    have a1:l.filter (fun i=>(l.all fun k=>decide (ρ i≤ρ k)) && decide (ρ i≤ρ x))=ext0 ρ l:=by
      unfold ext0
      refine List.filter_congr fun i hi=>?_
      cases hall:(l.all fun k=>decide (ρ i≤ρ k))
      · rfl
      · have:=of_decide_eq_true (List.all_eq_true.1 hall y h1)
        rw [Bool.true_and]
        exact decide_eq_true (by grind)
    rw [a1]
    by_cases c2:ρ x=ρ y
    · rw [if_pos c2]
      have a2:(l.all fun k=>decide (ρ x≤ρ k))=true:=List.all_eq_true.2 fun k hk=>decide_eq_true (by have:=h2 k hk; grind)
      rw [a2]; rfl
    · rw [if_neg c2]
      have a2:(l.all fun k=>decide (ρ x≤ρ k))=false:=by
        rw [List.all_eq_false]
        exact ⟨y,h1,by simp only [decide_eq_true_eq]; grind⟩
      rw [a2]; simp
def ordQ (least:Bool) (a b:Rat):Int:=if least then cmpQ a b else 0 - cmpQ a b
theorem ordQ_lt (least:Bool) (r:Int→Rat) (x y:Int):decide (ordQ least (r x) (r y) < 0)=decide (sgR least r x < sgR least r y):=by
  refine decide_eq_decide.2 ?_
  unfold ordQ sgR cmpQ
  cases least <;> simp only [Bool.false_eq_true,if_false,if_true]
  · by_cases h1:r x < r y
    · rw [if_pos h1]; constructor
      · intro h; omega
      · intro h; grind
    · rw [if_neg h1]
      by_cases h2:r x=r y
      · rw [if_pos h2]; constructor
        · intro h; omega
        · intro h; grind
      · rw [if_neg h2]; constructor
        · intro _; grind
        · intro _; omega
  · by_cases h1:r x < r y
    · rw [if_pos h1]; constructor
      · intro h; exact h1
      · intro h; omega
    · rw [if_neg h1]; constructor
      · intro h; split at h <;> omega
      · intro h; exact absurd h h1
theorem ordQ_eq (least:Bool) (r:Int→Rat) (x y:Int):decide (ordQ least (r x) (r y)=0)=decide (sgR least r x=sgR least r y):=by
  refine decide_eq_decide.2 ?_
  unfold ordQ sgR cmpQ
  cases least <;> simp only [Bool.false_eq_true,if_false,if_true]
  · by_cases h1:r x < r y
    · rw [if_pos h1]; constructor
      · intro h; omega
      · intro h; grind
    · rw [if_neg h1]
      by_cases h2:r x=r y
      · rw [if_pos h2]; constructor
        · intro h; grind
        · intro h; omega
      · rw [if_neg h2]; constructor
        · intro _; omega
        · intro _; grind
  · by_cases h1:r x < r y
    · rw [if_pos h1]; constructor
      · intro h; omega
      · intro h; grind
    · rw [if_neg h1]; constructor
      · intro h; split at h
        · assumption
        · omega
      · intro h; rw [if_pos h]
theorem cmpQ_bounds (a b:Rat):-1≤cmpQ a b∧cmpQ a b≤1:=by
  unfold cmpQ; (repeat' split) <;> omega
end Go.Proofs.YtmipjomnjkmdbaaGreat
set_option linter.unusedSimpArgs false
set_option linter.unusedVariables false
namespace Go.Proofs.YtmipjomnjkmdbaaGreat
open Go Go.X
theorem zgc (v:Int):∀ l:List Int,zal (fun x=>decide (v=x)) l=l.idxOf v
  | []=>rfl
  | x::l=>by
    unfold zal
    rw [List.idxOf_cons,zgc v l]
    by_cases h:v=x
    · subst h; simp
    · have:(x == v)=false:=by simp; exact fun e=>h e.symm
      rw [this]; simp [h]
theorem d188_eq {lots:List Int} (hl:lots.length≤1000) {a b:Int} (ha:a∈lots) (hb:b∈lots):d188 a b lots=some ((zcb lots a:Int) - (zcb lots b:Int)):=by
  unfold d188
  have h1:=List.idxOf_lt_length_iff.2 ha
  have h2:=List.idxOf_lt_length_iff.2 hb
  rw [zpv a (by omega),zpv b (by omega),zgc,zgc,if_pos h1,if_pos h2]
  simp only [Option.bind_some]
  unfold zcb
  rw [zbf (by omega) (by omega)]
theorem d190_eq {x:List Int} {cmp:Int→Int→Option Int} {g:Int→Int→Int} (hx:x ≠ []) (hl:x.length≤1000) (hc:∀ a∈x,∀ b∈x,cmp a b=some (g a b)):d190 x cmp=some (x.tail.foldl (fun m c=>if 0 < g c m then c else m) (x.headD 0)):=by
  have hp:=List.length_pos_iff.2 hx
  unfold d190
  rw [decide_eq_false (show ¬ ((x.length:Int) < 1) by omega),cond_false,show (decide (0≤0) && decide ((0:Int) < (x.length:Int)))=true by rw [decide_eq_true (show (0:Int) < (x.length:Int) by omega)]; rfl,cond_true]
  have hmem:∀ i,(x.tail.take i).foldl (fun m c=>if 0 < g c m then c else m) (x.headD 0)∈x:=fun i=>by
    cases x with
    | nil=>exact absurd rfl hx
    | cons y x =>
      simp only [List.tail_cons,List.headD_cons]
      rcases ziv (fun m c=>if 0 < g c m then c else m) (fun a b=>by split <;> simp) (x.take i) y with h | h
      · rw [h]; simp
      · exact List.mem_cons_of_mem _ (List.mem_of_mem_take h)
  refine zaf (fun i=>(x,cmp,(x.tail.take i).foldl (fun m c=>if 0 < g c m then c else m) (x.headD 0),((i+1:Nat):Int))) (x.length - 1) ?_ (fun i hi=>?_) (b:=x.tail.foldl (fun m c=>if 0 < g c m then c else m) (x.headD 0)) ?_ rfl
  · rw [List.take_zero,List.foldl_nil]
    cases x with
    | nil=>exact absurd rfl hx
    | cons y x=>rfl
  · have hlt:i+1 < x.length:=by omega
    have hxm:x.getD (i+1) 0∈x:=zcs hlt
    have ht:x.tail.getD i 0=x.getD (i+1) 0:=by
      cases x with
      | nil=>exact absurd rfl hx
      | cons y x=>rfl
    have hs:x.tail.take (i+1)=x.tail.take i++[x.getD (i+1) 0]:=by rw [zbm x.tail 0 (by rw [List.length_tail]; omega),ht]
    simp only [dlt hlt,d0le,Bool.and_self,cond_true,tn,zak,hc _ hxm _ (hmem i),Option.bind_some,zbk (show i+1 < 9223372036854775807 by omega),hs,List.foldl_append,List.foldl_cons,List.foldl_nil]
    generalize (x.tail.take i).foldl (fun m c=>if 0 < g c m then c else m) (x.headD 0)=m
    by_cases h:0 < g (x.getD (i+1) 0) m
    · rw [decide_eq_true h,cond_true,if_pos h]
    · rw [decide_eq_false h,cond_false,if_neg h]
  · have e:x.length - 1+1=x.length:=by omega
    rw [e]
    simp only [nlt (Nat.le_refl x.length),cond_false]
    rw [List.take_of_length_le (by rw [List.length_tail]; omega)]
theorem d191_eq {x:List Int} {cmp:Int→Int→Option Int} {g:Int→Int→Int} (hx:x ≠ []) (hl:x.length≤1000) (hc:∀ a∈x,∀ b∈x,cmp a b=some (g a b)):d191 x cmp=some (x.tail.foldl (fun m c=>if g c m < 0 then c else m) (x.headD 0)):=by
  have hp:=List.length_pos_iff.2 hx
  unfold d191
  rw [decide_eq_false (show ¬ ((x.length:Int) < 1) by omega),cond_false,show (decide (0≤0) && decide ((0:Int) < (x.length:Int)))=true by rw [decide_eq_true (show (0:Int) < (x.length:Int) by omega)]; rfl,cond_true]
  have hmem:∀ i,(x.tail.take i).foldl (fun m c=>if g c m < 0 then c else m) (x.headD 0)∈x:=fun i=>by
    cases x with
    | nil=>exact absurd rfl hx
    | cons y x =>
      simp only [List.tail_cons,List.headD_cons]
      rcases ziv (fun m c=>if g c m < 0 then c else m) (fun a b=>by split <;> simp) (x.take i) y with h | h
      · rw [h]; simp
      · exact List.mem_cons_of_mem _ (List.mem_of_mem_take h)
  refine zaf (fun i=>(x,cmp,(x.tail.take i).foldl (fun m c=>if g c m < 0 then c else m) (x.headD 0),((i+1:Nat):Int))) (x.length - 1) ?_ (fun i hi=>?_) (b:=x.tail.foldl (fun m c=>if g c m < 0 then c else m) (x.headD 0)) ?_ rfl
  · rw [List.take_zero,List.foldl_nil]
    cases x with
    | nil=>exact absurd rfl hx
    | cons y x=>rfl
  · have hlt:i+1 < x.length:=by omega
    have hxm:x.getD (i+1) 0∈x:=zcs hlt
    have ht:x.tail.getD i 0=x.getD (i+1) 0:=by
      cases x with
      | nil=>exact absurd rfl hx
      | cons y x=>rfl
    have hs:x.tail.take (i+1)=x.tail.take i++[x.getD (i+1) 0]:=by rw [zbm x.tail 0 (by rw [List.length_tail]; omega),ht]
    simp only [dlt hlt,d0le,Bool.and_self,cond_true,tn,zak,hc _ hxm _ (hmem i),Option.bind_some,zbk (show i+1 < 9223372036854775807 by omega),hs,List.foldl_append,List.foldl_cons,List.foldl_nil]
    generalize (x.tail.take i).foldl (fun m c=>if g c m < 0 then c else m) (x.headD 0)=m
    by_cases h:g (x.getD (i+1) 0) m < 0
    · rw [decide_eq_true h,cond_true,if_pos h]
    · rw [decide_eq_false h,cond_false,if_neg h]
  · have e:x.length - 1+1=x.length:=by omega
    rw [e]
    simp only [nlt (Nat.le_refl x.length),cond_false]
    rw [List.take_of_length_le (by rw [List.length_tail]; omega)]
structure LotsOK (n:Nat) (lots:List Int):Prop where
  n1:1≤n
  n7:n≤7
  len:lots.length=n
  within:∀ c∈lots,∃ i:Nat,c=(i:Int)∧i < n
  nodup:lots.Nodup
theorem LotsOK.mem {n:Nat} {lots:List Int} (h:LotsOK n lots) {i:Nat} (hi:i < n):(i:Int)∈lots:=by
  refine Decidable.byContradiction fun hni=>?_
  have:=zil (n:=n) ((i:Int)::lots) (List.nodup_cons.2 ⟨hni,h.nodup⟩) (fun x hx=>by
    rcases List.mem_cons.1 hx with rfl | hx
    · omega
    · obtain ⟨j,rfl,hj⟩:=h.within x hx; omega)
  rw [List.length_cons,h.len] at this
  omega
theorem d185_eq {n:Nat} {ties:Int} {tied lots:List Int} (h1:1≤ties) (h3:ties≤3) (hl:LotsOK n lots) (ht:tied ≠ []) (hts:tied.Pairwise (· < ·)) (htb:∀ c∈tied,∃ i:Nat,c=(i:Int)∧i < n) (htl:tied.length≤1000):d185 ties tied lots=some true:=by
  have hn1:=hl.n1
  have hn7:=hl.n7
  have hp:=List.length_pos_iff.2 ht
  unfold d185
  rw [zak]
  simp only [hl.len,decide_eq_false (show ¬ ties < 1 by omega),decide_eq_false (show ¬ 3 < ties by omega),decide_eq_false (show ¬ (n:Int) < 1 by omega),decide_eq_false (show ¬ 7 < (n:Int) by omega),decide_eq_false (show ¬ (tied.length:Int)=0 by omega),Bool.not_false,cond_true,cond_false]
  refine zaf (fun i=>(tied,(n:Int),lst (fun v=>decide ((v:Int)∈lots.take i)) 7,lots,(n:Int),(i:Int))) n ?_ (fun i hi=>?_) (b:=.inl (tied,(n:Int))) ?_ ?_
  · simp only [List.take_zero,List.not_mem_nil,decide_false]; rfl
  · have hil:i < lots.length:=by rw [hl.len]; exact hi
    obtain ⟨c,hc,hcn⟩:=hl.within _ (zcs hil)
    have hnot:decide ((c:Int)∈lots.take i)=false:=decide_eq_false fun hm=>by
      have:=hl.nodup.sublist (List.take_sublist (i+1) lots)
      rw [zbm lots 0 hil,hc,List.nodup_append] at this
      exact this.2.2 _ hm _ (by simp) rfl
    simp only [dlt hi,hl.len,d0le,Bool.and_self,cond_true,tn,zak,hc,decide_eq_false (show ¬ (c:Int) < 0 by omega),decide_eq_false (show ¬ (n:Int)≤(c:Int) by omega),Bool.not_false,show decide ((c:Int) < 7)=true from decide_eq_true (by omega),zbl (fun v=>decide ((v:Int)∈lots.take i)) (show c < 7 by omega),hnot,cond_false,zjq,zbk (show i < 9223372036854775807 by omega)]
    have e:lst (upd (fun v=>decide ((v:Int)∈lots.take i)) c true) 7=lst (fun v=>decide ((v:Int)∈lots.take (i+1))) 7:=zcj fun v hv=>by
      rw [zbm lots 0 hil,hc]
      unfold upd
      by_cases hvc:v=c
      · subst hvc; simp
      · rw [if_neg hvc]
        refine decide_eq_decide.2 ?_
        rw [List.mem_append,List.mem_singleton]
        exact ⟨.inl,fun hm=>hm.resolve_right fun e=>hvc (Int.ofNat_inj.1 e)⟩
    rw [e]
  · simp only [nlt (Nat.le_refl n),cond_false]
  · simp only
    refine zaf (fun i=>(tied,(n:Int),tied,(tied.length:Int),(i:Int))) tied.length rfl (fun i hi=>?_) (b:=.inl ()) ?_ rfl
    · obtain ⟨c,hc,hcn⟩:=htb _ (zcs hi)
      simp only [dlt hi,d0le,Bool.and_self,cond_true,tn,zak,hc,decide_eq_false (show ¬ (c:Int) < 0 by omega),decide_eq_false (show ¬ (n:Int)≤(c:Int) by omega),Bool.not_false,zbk (show i < 9223372036854775807 by omega)]
      cases i with
      | zero=>rfl
      | succ i =>
        have hlt:tied.getD i 0 < tied.getD (i+1) 0:=by
          rw [List.getD_eq_getElem?_getD,List.getElem?_eq_getElem (by omega),List.getD_eq_getElem?_getD,List.getElem?_eq_getElem hi]
          exact List.pairwise_iff_getElem.1 hts i (i+1) (by omega) hi (by omega)
        rw [hc] at hlt
        simp only [show decide ((0:Int) < ((i+1:Nat):Int))=true from decide_eq_true (by omega),cond_true,wpred (show i < 9223372036854775807 by omega),d0le,dlt (show i < tied.length by omega),Bool.and_self,tn,decide_eq_false (show ¬ (c:Int)≤tied.getD i 0 by omega),cond_false]
    · simp only [nlt (Nat.le_refl tied.length),cond_false]
def RndOK (n:Nat) (r:List Rat):Prop:=r.length=n∧∀ q∈r,Bz eB q
theorem map_getD_rr {r:List Rat} {c:Nat} (h:c < r.length):(r.map rr).getD c (false,[],[])=rr (r.getD c 0):=by
  rw [List.getD_eq_getElem?_getD,List.getElem?_map,List.getElem?_eq_getElem h,List.getD_eq_getElem?_getD,List.getElem?_eq_getElem h]; rfl
theorem zcu {α:Type} {l:List α} {d:α} {i:Nat} (h:i < l.length):l.getD i d∈l:=by
  rw [List.getD_eq_getElem?_getD,List.getElem?_eq_getElem h]
  exact List.getElem_mem h
theorem RndOK.bz {n:Nat} {r:List Rat} (h:RndOK n r) {c:Nat} (hc:c < n):Bz eB (zbu r (c:Int)):=h.2 _ (zcu (by rw [h.1]; exact hc))
theorem d213_eq {n:Nat} {r:List Rat} (h:RndOK n r) {c:Nat} (hc:c < n):d213 (r.map rr) (c:Int)=some (rr (zbu r (c:Int))):=by
  have hc':c < r.length:=by rw [h.1]; exact hc
  unfold d213
  rw [List.length_map,dlt hc']
  simp only [cond_true,d0le,Bool.and_self,tn,map_getD_rr hc']
  rfl
theorem w_ord (least:Bool) (a b:Rat):(bif !least then w (0 - cmpQ a b) else cmpQ a b)=ordQ least a b:=by
  have:=cmpQ_bounds a b
  unfold ordQ
  cases least
  · rw [Bool.not_false,cond_true,zbf (by omega) (by omega)]; rfl
  · rfl
theorem znw (l:List Int):l.getD 0 0=l.headD 0:=by cases l <;> rfl
theorem ext0_len (ρ:Int→Rat) (l:List Int):(ext0 ρ l).length≤l.length:=List.length_filter_le _ _
theorem d187_eq {n:Nat} {r:List Rat} (h:RndOK n r) {l:List Int} (hl:∀ c∈l,∃ i:Nat,c=(i:Int)∧i < n) (hll:l.length≤1000) (least:Bool):d187 l (r.map rr) least=some (extr least (zbu r) l):=by
  rw [extr_ext0]
  unfold d187
  refine zaf (fun i=>(r.map rr,least,ext0 (sgR least (zbu r)) (l.take i),l,(l.length:Int),(i:Int))) l.length rfl (fun i hi=>?_) (b:=ext0 (sgR least (zbu r)) l) ?_ rfl
  · obtain ⟨c,hc,hcn⟩:=hl _ (zcs hi)
    have hol:=ext0_len (sgR least (zbu r)) (l.take i)
    rw [List.length_take] at hol
    simp only [dlt hi,d0le,Bool.and_self,cond_true,tn,zak,hc,zbk (show i < 9223372036854775807 by omega)]
    rw [zbm l 0 hi,hc]
    by_cases hi0:l.take i=[]
    · rw [hi0,ext0_nil]
      have e:ext0 (sgR least (zbu r)) ([]++[(c:Int)])=[(c:Int)]:=by
        have:sgR least (zbu r) (c:Int)≤sgR least (zbu r) (c:Int):=Rat.le_refl
        simp [ext0,List.filter_cons,this]
      rw [e]
      simp only [show decide ((0:Int) < (([]:List Int).length:Int))=false from rfl,cond_false,show decide ((-1:Int)≤0)=true from rfl,cond_true,zff (l:=([]:List Int)) (d:=(c:Int)) (by simp)]
      rfl
    · have hne:=ext0_ne (ρ:=sgR least (zbu r)) hi0
      have hpos:=List.length_pos_iff.2 hne
      obtain ⟨y,hy⟩:∃ y,(ext0 (sgR least (zbu r)) (l.take i)).headD 0=y:=⟨_,rfl⟩
      have hym:y∈l:=by
        have:=ziu hne
        rw [hy] at this
        exact List.mem_of_mem_take (zpo.1 this).1
      obtain ⟨d,rfl,hdn⟩:=hl _ hym
      rw [ext0_snoc _ _ hi0,hy]
      generalize ext0 (sgR least (zbu r)) (l.take i)=out at *
      have hlt1:=ordQ_lt least (zbu r) (c:Int) (d:Int)
      have heq1:=ordQ_eq least (zbu r) (c:Int) (d:Int)
      have hg0:(decide (0≤0) && decide ((0:Int) < (out.length:Int)))=true:=by
        rw [decide_eq_true (show (0:Int) < (out.length:Int) by omega)]; rfl
      have hg1:decide ((0:Int) < (out.length:Int))=true:=decide_eq_true (by omega)
      have hcut:zcf 0 0 out.length=true:=by
        unfold zcf
        simp only [Bool.and_eq_true,decide_eq_true_eq]
        omega
      have hb:=w_ord least (zbu r (c:Int)) (zbu r (d:Int))
      rw [hg0]
      simp only [hg1,cond_true,znw,hy,d213_eq h hcn,d213_eq h hdn,Option.bind_some,d137_rr (h.bz hcn).sz2 (h.bz hdn).sz2,hcut,List.take_zero]
      have hcl:decide ((([]:List Int).length:Int)+(([(c:Int)]:List Int).length:Int)≤LIM)=true:=zff (l:=([]:List Int)) (d:=(c:Int)) (by simp)
      have hol2:=zff (l:=out) (d:=(c:Int)) (by omega)
      have key:∀ o:Int,o=ordQ least (zbu r (c:Int)) (zbu r (d:Int))→(bif decide (o < 0) then
          bif decide (o≤0) then
            bif decide ((([]:List Int).length:Int)+(([(c:Int)]:List Int).length:Int)≤LIM) then (some (Sum.inl (r.map rr,least,([]:List Int)++[(c:Int)],l,(l.length:Int),((i+1:Nat):Int))):Option ((List Rt × Bool × List Int × List Int × Int × Int) ⊕ List Int)) else none
          else some (Sum.inl (r.map rr,least,([]:List Int),l,(l.length:Int),((i+1:Nat):Int)))
        else
          bif decide (o≤0) then
            bif decide ((out.length:Int)+(([(c:Int)]:List Int).length:Int)≤LIM) then some (Sum.inl (r.map rr,least,out++[(c:Int)],l,(l.length:Int),((i+1:Nat):Int))) else none
          else some (Sum.inl (r.map rr,least,out,l,(l.length:Int),((i+1:Nat):Int))))=some (.inl (r.map rr,least,if sgR least (zbu r) (c:Int) < sgR least (zbu r) (d:Int) then [(c:Int)] else if sgR least (zbu r) (c:Int)=sgR least (zbu r) (d:Int) then out++[(c:Int)] else out,l,(l.length:Int),((i+1:Nat):Int))):=by
        intro o ho
        rw [← ho] at hlt1 heq1
        rw [hcl,hol2]
        by_cases c1:o < 0
        · rw [decide_eq_true c1] at hlt1
          rw [if_pos (of_decide_eq_true hlt1.symm),decide_eq_true c1,decide_eq_true (show o≤0 by omega)]; rfl
        · rw [decide_eq_false c1] at hlt1
          rw [if_neg (of_decide_eq_false hlt1.symm),decide_eq_false c1]
          by_cases c2:o=0
          · rw [decide_eq_true c2] at heq1
            rw [if_pos (of_decide_eq_true heq1.symm),decide_eq_true (show o≤0 by omega)]; rfl
          · rw [decide_eq_false c2] at heq1
            rw [if_neg (of_decide_eq_false heq1.symm),decide_eq_false (show ¬ o≤0 by omega)]; rfl
      cases least
      · rw [Bool.not_false,cond_true] at hb ⊢
        exact key _ hb
      · rw [Bool.not_true,cond_false] at hb ⊢
        exact key _ hb
  · simp only [nlt (Nat.le_refl l.length),cond_false,List.take_length]
theorem znj:∀ {least:Bool} {rs:List (List Rat)} {l:List Int},l.length≤1→tieL least rs l=l
  | _,[],_,_=>rfl
  | least,r::rs,l,h=>by
    show tieL least rs (if 1 < l.length then extr least (zbu r) l else l)=l
    rw [if_neg (by omega)]
    exact znj h
theorem tieL_snoc (least:Bool) (rs:List (List Rat)) (r:List Rat) (l:List Int):tieL least (rs++[r]) l=if 1 < (tieL least rs l).length then extr least (zbu r) (tieL least rs l) else tieL least rs l:=by
  unfold tieL
  rw [List.foldl_append]; rfl
theorem tieL_append (least:Bool) (rs rs':List (List Rat)) (l:List Int):tieL least (rs++rs') l=tieL least rs' (tieL least rs l):=by
  unfold tieL
  rw [List.foldl_append]
theorem extr_len (least:Bool) (r:Int→Rat) (l:List Int):(extr least r l).length≤l.length:=List.length_filter_le _ _
theorem zor:∀ (least:Bool) (rs:List (List Rat)) (l:List Int),(tieL least rs l).length≤l.length
  | _,[],_=>Nat.le_refl _
  | least,r::rs,l=>by
    show (tieL least rs (if 1 < l.length then extr least (zbu r) l else l)).length≤_
    refine Nat.le_trans (zor least rs _) ?_
    split
    · exact extr_len _ _ _
    · exact Nat.le_refl _
theorem d155_eq {n:Nat} {ties:Int} {E:List (List Rat)} {tied lots:List Int} {least:Bool} (h1:1≤ties) (h3:ties≤3) (hl:LotsOK n lots) (hE:∀ r∈E,RndOK n r) (hEl:E.length≤1000000) (ht:tied ≠ []) (hts:tied.Pairwise (· < ·)) (htb:∀ c∈tied,∃ i:Nat,c=(i:Int)∧i < n) (htl:tied.length≤1000) :
    ∃ b,d155 ties (E.map (List.map rr)) tied lots least=some (tieB ties E tied lots least,b,E.map (List.map rr)):=by
  have hcl:d186 tied=some tied:=by unfold d186; rw [zby (by omega)]; rfl
  unfold d155
  rw [d185_eq h1 h3 hl ht hts htb htl]
  simp only [Option.bind_some,Bool.not_true,cond_false,hcl]
  have hfin:∀ left:List Int,left=tieL least (zaw ties E) tied→∃ b,(bif (decide ((left.length:Int)=1)) then
      bif (decide (0≤0) && decide (0 < (left.length:Int))) then
        some ((List.getD left 0 0),false,E.map (List.map rr))
      else none
    else
      bif least then
        (d190 left (fun a a_1=>d188 a a_1 lots)).bind fun r_3 =>
        some (r_3,true,E.map (List.map rr))
      else
        (d191 left (fun a_2 a_3=>d188 a_2 a_3 lots)).bind fun r_4 =>
        some (r_4,true,E.map (List.map rr)))=some (tieB ties E tied lots least,b,E.map (List.map rr)):=by
    intro left hleft
    have hne:left ≠ []:=by rw [hleft]; exact tieL_ne ht
    have hlen:left.length≤tied.length:=by rw [hleft]; exact zor _ _ _
    have hlot:∀ a∈left,a∈lots:=fun a ha=>by
      rw [hleft] at ha
      obtain ⟨i,rfl,hi⟩:=htb _ (zia ha)
      exact hl.mem hi
    have hll:=hl.len
    have hn7:=hl.n7
    unfold tieB
    simp only [← hleft]
    by_cases hone:left.length=1
    · refine ⟨false,?_⟩
      rw [if_pos hone,hone,znw]; rfl
    · refine ⟨true,?_⟩
      rw [if_neg hone,decide_eq_false (show ¬ (left.length:Int)=1 by omega),cond_false]
      have hc:∀ a∈left,∀ b∈left,d188 a b lots=some ((zcb lots a:Int) - (zcb lots b:Int)):=fun a ha b hb=>d188_eq (by omega) (hlot a ha) (hlot b hb)
      cases least
      · rw [cond_false,d191_eq hne (by omega) hc,Option.bind_some]
        unfold byLot
        simp only [Bool.false_eq_true,if_false]
        congr 3
        funext m c
        by_cases h:zcb lots c < zcb lots m
        · rw [if_pos h,if_pos (by omega)]
        · rw [if_neg h,if_neg (by omega)]
      · rw [cond_true,d190_eq hne (by omega) hc,Option.bind_some]
        unfold byLot
        simp only [if_true]
        congr 3
        funext m c
        by_cases h:zcb lots m < zcb lots c
        · rw [if_pos h,if_pos (by omega)]
        · rw [if_neg h,if_neg (by omega)]
  refine zhc (Q:=fun r=>∃ b,r=some (tieB ties E tied lots least,b,E.map (List.map rr))) (fun (M:Nat) (st:Int × (List (List Rt)) × Bool × (List Int) × (List Int) × Int)=>∃ i:Nat,st=(ties,E.map (List.map rr),least,lots,tieL least ((zaw ties E).take i) tied,(i:Int))∧i+M=E.length) E.length ⟨0,by rw [List.take_zero]; rfl,by omega⟩ ?_
  rintro M st ⟨i,rfl,hM⟩
  have hsub:∀ c∈tieL least ((zaw ties E).take i) tied,∃ j:Nat,c=(j:Int)∧j < n:=fun c hc=>htb c (zia hc)
  have hlen:=zor least ((zaw ties E).take i) tied
  obtain ⟨left,hleft⟩:∃ left,tieL least ((zaw ties E).take i) tied=left:=⟨_,rfl⟩
  rw [hleft] at hsub hlen
  have hEm:(E.map (List.map rr)).length=E.length:=List.length_map ..
  simp only [hleft,hEm,zak]
  by_cases c3:ties=3
  · have hr:zaw ties E=[]:=by unfold zaw; rw [if_pos c3]
    have hq:left=tieL least (zaw ties E) tied:=by rw [← hleft,hr,List.take_nil]
    have hd3:(!decide (ties=3))=false:=by rw [decide_eq_true c3]; rfl
    refine .inr ⟨(E.map (List.map rr),least,lots,left),?_,hfin left hq⟩
    rw [hd3]
    simp only [cond_false]
    cases decide ((i:Int) < (E.length:Int)) <;> cases decide (1 < (left.length:Int)) <;> rfl
  · have hd3:(!decide (ties=3))=true:=by rw [decide_eq_false c3]; rfl
    have hrl:(zaw ties E).length=E.length:=by
      unfold zaw
      rw [if_neg c3]
      split
      · exact List.length_reverse
      · rfl
    rw [hd3]
    rcases Nat.eq_zero_or_pos M with h0 | h0
    · have hq:left=tieL least (zaw ties E) tied:=by rw [← hleft,List.take_of_length_le (by omega)]
      refine .inr ⟨(E.map (List.map rr),least,lots,left),?_,hfin left hq⟩
      simp only [nlt (show E.length≤i by omega),cond_false]
    · have hiE:i < E.length:=by omega
      by_cases hl1:1 < left.length
      · have hg:decide ((1:Int) < (left.length:Int))=true:=decide_eq_true (by omega)
        have key:∀ (r:List Rat) (z:List Rt),r∈E→(zaw ties E).getD i []=r→z=r.map rr→d187 left z least=some (tieL least ((zaw ties E).take (i+1)) tied):=by
          rintro r z hr hri rfl
          rw [d187_eq (hE r hr) hsub (by omega),zbm (zaw ties E) [] (by omega),tieL_snoc,hleft,hri,if_pos hl1]
        refine .inl ⟨(ties,E.map (List.map rr),least,lots,tieL least ((zaw ties E).take (i+1)) tied,((i+1:Nat):Int)),M - 1,?_,by omega,i+1,rfl,by omega⟩
        simp only [dlt hiE,hg,cond_true,d0le,Bool.and_self,tn,zbk (show i < 9223372036854775807 by omega)]
        by_cases c1:ties=1
        · have i1:w (w ((E.length:Int) - 1) - (i:Int))=((E.length - 1 - i:Nat):Int):=by
            rw [zbf (n:=(E.length:Int) - 1) (by omega) (by omega),zbf (by omega) (by omega)]; omega
          have hgr:(zaw ties E).getD i []=E.getD (E.length - 1 - i) []:=by
            unfold zaw
            rw [if_neg c3,if_pos c1]
            rw [List.getD_eq_getElem?_getD,List.getElem?_reverse hiE,List.getD_eq_getElem?_getD]
          have hz:(E.map (List.map rr)).getD (E.length - 1 - i) []=(E.getD (E.length - 1 - i) []).map rr:=by
            rw [List.getD_eq_getElem?_getD,List.getElem?_map,List.getElem?_eq_getElem (by omega),List.getD_eq_getElem?_getD,List.getElem?_eq_getElem (by omega)]; rfl
          simp only [decide_eq_true c1,cond_true,i1,d0le,dlt (show E.length - 1 - i < E.length by omega),Bool.and_self,tn]
          rw [key _ _ (zcu (by omega)) hgr hz]; rfl
        · have hgr:(zaw ties E).getD i []=E.getD i []:=by
            unfold zaw
            rw [if_neg c3,if_neg c1]
          have hz:(E.map (List.map rr)).getD i []=(E.getD i []).map rr:=by
            rw [List.getD_eq_getElem?_getD,List.getElem?_map,List.getElem?_eq_getElem hiE,List.getD_eq_getElem?_getD,List.getElem?_eq_getElem hiE]; rfl
          simp only [decide_eq_false c1,cond_false]
          rw [key _ _ (zcu (by omega)) hgr hz]; rfl
      · have hg:decide ((1:Int) < (left.length:Int))=false:=decide_eq_false (by omega)
        have hq:left=tieL least (zaw ties E) tied:=by
          have e:=tieL_append least ((zaw ties E).take i) ((zaw ties E).drop i) tied
          rw [List.take_append_drop,hleft,znj (l:=left) (by omega)] at e
          exact e.symm
        refine .inr ⟨(E.map (List.map rr),least,lots,left),?_,hfin left hq⟩
        simp only [dlt hiE,hg,cond_true,cond_false]
end Go.Proofs.YtmipjomnjkmdbaaGreat
set_option linter.unusedSimpArgs false
set_option linter.unusedVariables false
namespace Go.Proofs.YtmipjomnjkmdbaaGreat
open Go Go.X
def rdT (r:Rd):RD:=(r.votes.map rr,r.keep.map rr,rr r.quota,rr r.exh,rr r.sur,r.el,r.ex,r.ti)
variable {P:GP} {s:GS}
theorem zlt (p:Nat→Bool) (g:Int→Bool) (n:Nat):(selI p n).filter g=selI (fun i=>p i && g (i:Int)) n:=by
  unfold selI
  rw [List.filter_map,← selN_filter]
  rfl
theorem sum_sel (p:Nat→Bool) (f:Nat→Nat):∀ n:Nat,((selN p n).map f).sum=sumN (fun i=>if p i then f i else 0) n
  | 0=>rfl
  | n+1=>by
    rw [zls,List.map_append,List.sum_append,sum_sel p f n,sumN]
    congr 1
    cases p n <;> simp
theorem sum_take_le (l:List Nat) (j:Nat):(l.take j).sum≤l.sum:=by
  conv=>rhs; rw [← List.take_append_drop j l]
  rw [List.sum_append]
  omega
theorem lotsOK (hP:P.OK):LotsOK P.n P.lots:=⟨hP.n1,hP.n7,hP.lotn,hP.lots,hP.lotd⟩
theorem flat_len:∀ {rs:List Rd},(∀ r∈rs,r.el.length≤7)→(rs.flatMap Rd.el).length≤7 * rs.length
  | [],_=>by simp
  | r::rs,h=>by
    rw [List.flatMap_cons,List.length_append,List.length_cons]
    have:=flat_len (rs:=rs) fun x hx=>h x (List.mem_cons_of_mem _ hx)
    have:=h r (by simp)
    omega
end Go.Proofs.YtmipjomnjkmdbaaGreat
set_option linter.unusedSimpArgs false
set_option linter.unusedVariables false
namespace Go.Proofs.YtmipjomnjkmdbaaGreat
open Go Go.X
variable {P:GP} {s:GS}
theorem zmg {α:Type} {l m:List α} (h:l.length+m.length≤4294967296):decide ((l.length:Int)+(m.length:Int)≤LIM)=true:=by
  rw [show (l.length:Int)+(m.length:Int)=((l.length+m.length:Nat):Int) by omega]; exact zby h
end Go.Proofs.YtmipjomnjkmdbaaGreat
set_option linter.unusedSimpArgs false
set_option linter.unusedVariables false
namespace Go.Proofs.YtmipjomnjkmdbaaGreat
open Go Go.X
def permB (n:Int) (lots:List Int):Bool:=decide ((lots.length:Int)=n) && decide (isB n lots)
def fitE (m:Int) (c:CT) (gs:List Grp) (lots:List Int):Int :=
  bif decide (m < 1) || (decide (3 < m) || !decide (c.2.2.1=m)) then 5
  else bif decide ((c.2.1.length:Int) < 1) || (decide (7 < (c.2.1.length:Int)) || (decide (c.2.2.2.1 < 1) || (decide (5 < c.2.2.2.1) || ((decide (m=1) && !decide (c.2.2.2.1=1)) || (!(bif decide (m=2) then decide (1≤c.2.2.2.2.2.1) && decide (c.2.2.2.2.2.1≤6) else decide (c.2.2.2.2.2.1=0)) || (decide (c.2.2.2.2.2.2.1 < 1) || decide (3 < c.2.2.2.2.2.2.1))))))) then 4
  else bif !zpe (c.2.1.length:Int) gs then 8
  else bif !permB (c.2.1.length:Int) lots then 13
  else 0
set_option maxHeartbeats 2000000 in
theorem d66_eq (m:Int) (c:CT) {gs:List Grp} {lots:List Int} (hg:GsOK gs) (hl:lots.length≤281474976710656):d66 m c gs lots=some (fitE m c gs lots):=by
  have hp:decide ((c.2.1.length:Int) < 1)=false→decide (7 < (c.2.1.length:Int))=false→d124 (c.2.1.length:Int) gs=some (zpe (c.2.1.length:Int) gs):=fun h1 h2=>by
    have h1:=of_decide_eq_false h1
    have h2:=of_decide_eq_false h2
    rw [d124_eq (by omega) hg.1 hg.2]
    unfold zpe goodP
    rw [decide_eq_true (show 1≤(c.2.1.length:Int)∧(c.2.1.length:Int)≤7 by omega)]; rfl
  have hq:decide (7 < (c.2.1.length:Int))=false→d125 lots (c.2.1.length:Int)=some (permB (c.2.1.length:Int) lots):=fun h2=>by
    have h2:=of_decide_eq_false h2
    unfold d125 permB
    by_cases h:(lots.length:Int)=(c.2.1.length:Int)
    · rw [decide_eq_true h,cond_true,d165_eq (by omega) hl]; rfl
    · rw [decide_eq_false h]; rfl
  unfold d66 fitE
  cases he2:decide (m=2) <;> cases hg1:decide (1≤c.2.2.2.2.2.1) <;> simp only [he2,hg1,Bool.not_true,Bool.not_false,cond_true,cond_false,Bool.true_or,Bool.false_or,Bool.or_true,Bool.or_false,Bool.true_and,Bool.false_and,Option.bind_some]
  all_goals
    rw [zak]
    cases ha1:decide (m < 1)
    case true=>simp only [ha1,zak,Bool.not_true,Bool.not_false,cond_true,cond_false,Bool.true_or,Bool.false_or,Bool.or_true,Bool.or_false,Bool.true_and,Bool.false_and,Option.bind_some]
    try simp only [ha1,Bool.not_true,Bool.not_false,cond_true,cond_false,Bool.true_or,Bool.false_or,Bool.or_true,Bool.or_false,Bool.true_and,Bool.false_and,Option.bind_some]
    cases ha2:decide (3 < m)
    case true=>simp only [ha2,zak,Bool.not_true,Bool.not_false,cond_true,cond_false,Bool.true_or,Bool.false_or,Bool.or_true,Bool.or_false,Bool.true_and,Bool.false_and,Option.bind_some]
    try simp only [ha2,Bool.not_true,Bool.not_false,cond_true,cond_false,Bool.true_or,Bool.false_or,Bool.or_true,Bool.or_false,Bool.true_and,Bool.false_and,Option.bind_some]
    cases ha3:decide (c.2.2.1=m)
    case false=>simp only [ha3,zak,Bool.not_true,Bool.not_false,cond_true,cond_false,Bool.true_or,Bool.false_or,Bool.or_true,Bool.or_false,Bool.true_and,Bool.false_and,Option.bind_some]
    try simp only [ha3,Bool.not_true,Bool.not_false,cond_true,cond_false,Bool.true_or,Bool.false_or,Bool.or_true,Bool.or_false,Bool.true_and,Bool.false_and,Option.bind_some]
    rw [zak]
    try simp only [Bool.not_true,Bool.not_false,cond_true,cond_false,Bool.true_or,Bool.false_or,Bool.or_true,Bool.or_false,Bool.true_and,Bool.false_and,Option.bind_some]
    cases hn1:decide ((c.2.1.length:Int) < 1)
    case true=>simp only [hn1,zak,Bool.not_true,Bool.not_false,cond_true,cond_false,Bool.true_or,Bool.false_or,Bool.or_true,Bool.or_false,Bool.true_and,Bool.false_and,Option.bind_some]
    try simp only [hn1,Bool.not_true,Bool.not_false,cond_true,cond_false,Bool.true_or,Bool.false_or,Bool.or_true,Bool.or_false,Bool.true_and,Bool.false_and,Option.bind_some]
    cases hn2:decide (7 < (c.2.1.length:Int))
    case true=>simp only [hn2,zak,Bool.not_true,Bool.not_false,cond_true,cond_false,Bool.true_or,Bool.false_or,Bool.or_true,Bool.or_false,Bool.true_and,Bool.false_and,Option.bind_some]
    try simp only [hn2,Bool.not_true,Bool.not_false,cond_true,cond_false,Bool.true_or,Bool.false_or,Bool.or_true,Bool.or_false,Bool.true_and,Bool.false_and,Option.bind_some]
    simp only [zak,hp hn1 hn2,hq hn2,Bool.not_true,Bool.not_false,cond_true,cond_false,Bool.true_or,Bool.false_or,Bool.or_true,Bool.or_false,Bool.true_and,Bool.false_and,Option.bind_some]
    cases hs1:decide (c.2.2.2.1 < 1)
    case true=>simp only [hs1,zak,Bool.not_true,Bool.not_false,cond_true,cond_false,Bool.true_or,Bool.false_or,Bool.or_true,Bool.or_false,Bool.true_and,Bool.false_and,Option.bind_some]
    try simp only [hs1,Bool.not_true,Bool.not_false,cond_true,cond_false,Bool.true_or,Bool.false_or,Bool.or_true,Bool.or_false,Bool.true_and,Bool.false_and,Option.bind_some]
    cases hs2:decide (5 < c.2.2.2.1)
    case true=>simp only [hs2,zak,Bool.not_true,Bool.not_false,cond_true,cond_false,Bool.true_or,Bool.false_or,Bool.or_true,Bool.or_false,Bool.true_and,Bool.false_and,Option.bind_some]
    try simp only [hs2,Bool.not_true,Bool.not_false,cond_true,cond_false,Bool.true_or,Bool.false_or,Bool.or_true,Bool.or_false,Bool.true_and,Bool.false_and,Option.bind_some]
    cases hm1:decide (m=1) <;> cases hso:decide (c.2.2.2.1=1) <;> simp only [hm1,hso,Bool.not_true,Bool.not_false,cond_true,cond_false,Bool.true_or,Bool.false_or,Bool.or_true,Bool.or_false,Bool.true_and,Bool.false_and,Option.bind_some]
    all_goals (try (cases hg2:decide (c.2.2.2.2.2.1≤6) <;> simp only [hg2,Bool.not_true,Bool.not_false,cond_true,cond_false,Bool.true_or,Bool.false_or,Bool.or_true,Bool.or_false,Bool.true_and,Bool.false_and,Option.bind_some]))
    all_goals (try (cases hg0:decide (c.2.2.2.2.2.1=0) <;> simp only [hg0,Bool.not_true,Bool.not_false,cond_true,cond_false,Bool.true_or,Bool.false_or,Bool.or_true,Bool.or_false,Bool.true_and,Bool.false_and,Option.bind_some]))
    all_goals (try (cases ht1:decide (c.2.2.2.2.2.2.1 < 1) <;> simp only [ht1,Bool.not_true,Bool.not_false,cond_true,cond_false,Bool.true_or,Bool.false_or,Bool.or_true,Bool.or_false,Bool.true_and,Bool.false_and,Option.bind_some]))
    all_goals (try (cases ht2:decide (3 < c.2.2.2.2.2.2.1) <;> simp only [ht2,Bool.not_true,Bool.not_false,cond_true,cond_false,Bool.true_or,Bool.false_or,Bool.or_true,Bool.or_false,Bool.true_and,Bool.false_and,Option.bind_some]))
    all_goals (try (cases zpe (c.2.1.length:Int) gs <;> simp only [Bool.not_true,Bool.not_false,cond_true,cond_false,Bool.true_or,Bool.false_or,Bool.or_true,Bool.or_false,Bool.true_and,Bool.false_and,Option.bind_some]))
    all_goals (try (cases permB (c.2.1.length:Int) lots <;> simp only [Bool.not_true,Bool.not_false,cond_true,cond_false,Bool.true_or,Bool.false_or,Bool.or_true,Bool.or_false,Bool.true_and,Bool.false_and,Option.bind_some]))
theorem zmn {m:Int} {c:CT} {gs:List Grp} {lots:List Int} (h:fitE m c gs lots=0):1≤m∧m≤3∧c.2.2.1=m∧1≤c.2.1.length∧c.2.1.length≤7∧1≤c.2.2.2.1∧c.2.2.2.1≤5∧(m=1→c.2.2.2.1=1)∧(m=2→1≤c.2.2.2.2.2.1∧c.2.2.2.2.2.1≤6)∧(m ≠ 2→c.2.2.2.2.2.1=0)∧1≤c.2.2.2.2.2.2.1∧c.2.2.2.2.2.2.1≤3∧PileOK (c.2.1.length:Int) gs (wsum (fun _=>1) gs)∧lots.length=c.2.1.length∧isB (c.2.1.length:Int) lots:=by
  unfold fitE at h
  by_cases h1:(decide (m < 1) || (decide (3 < m) || !decide (c.2.2.1=m)))=true
  · rw [h1] at h; exact absurd h (by show ¬ (5:Int)=0; omega)
  have h1:(decide (m < 1) || (decide (3 < m) || !decide (c.2.2.1=m)))=false:=by simpa using h1
  rw [h1,cond_false] at h
  cases h2:(decide ((c.2.1.length:Int) < 1) || (decide (7 < (c.2.1.length:Int)) || (decide (c.2.2.2.1 < 1) || (decide (5 < c.2.2.2.1) || ((decide (m=1) && !decide (c.2.2.2.1=1)) || (!(bif decide (m=2) then decide (1≤c.2.2.2.2.2.1) && decide (c.2.2.2.2.2.1≤6) else decide (c.2.2.2.2.2.1=0)) || (decide (c.2.2.2.2.2.2.1 < 1) || decide (3 < c.2.2.2.2.2.2.1))))))))
  case true=>rw [h2] at h; exact absurd h (by show ¬ (4:Int)=0; omega)
  rw [h2,cond_false] at h
  cases h3:zpe (c.2.1.length:Int) gs
  case false=>rw [h3] at h; exact absurd h (by show ¬ (8:Int)=0; omega)
  rw [h3,Bool.not_true,cond_false] at h
  cases h4:permB (c.2.1.length:Int) lots
  case false=>rw [h4] at h; exact absurd h (by show ¬ (13:Int)=0; omega)
  simp only [Bool.or_eq_false_iff,decide_eq_false_iff_not,Bool.not_eq_false',decide_eq_true_eq] at h1 h2
  obtain ⟨a1,a2,a3⟩:=h1
  obtain ⟨b1,b2,b3,b4,b5,b6,b7,b8⟩:=h2
  unfold permB at h4
  simp only [Bool.and_eq_true,decide_eq_true_eq] at h4
  refine ⟨by omega,by omega,a3,by omega,by omega,by omega,by omega,fun hm=>?_,fun hm=>?_,fun hm=>?_,by omega,by omega,(pileB_ok h3).2.2,by omega,h4.2⟩
  · rw [decide_eq_true hm,Bool.true_and,Bool.not_eq_false',decide_eq_true_eq] at b5
    exact b5
  · rw [decide_eq_true hm,cond_true,Bool.and_eq_true,decide_eq_true_eq,decide_eq_true_eq] at b6
    exact b6
  · rw [decide_eq_false hm,cond_false,decide_eq_true_eq] at b6
    exact b6
theorem d30_eq {b s:Int} (h0:0≤b) (h1:b≤100000) (h2:1≤s) (h3:s≤5):d30 b s=some (b / (s+1)+1):=by
  have e:w (s+1)=s+1:=zbf (by omega) (by omega)
  have hd:Int.tdiv b (s+1)=b / (s+1):=Int.tdiv_eq_ediv_of_nonneg h0
  have hle:b / (s+1)≤b:=Int.ediv_le_self _ h0
  have hge:0≤b / (s+1):=Int.ediv_nonneg h0 (by omega)
  unfold d30
  rw [zak]
  simp only [decide_eq_false (show ¬ b < 0 by omega),decide_eq_false (show ¬ 100000 < b by omega),decide_eq_false (show ¬ s < 1 by omega),decide_eq_false (show ¬ 5 < s by omega),Bool.not_false,cond_true,cond_false,e,decide_eq_false (show ¬ s+1=0 by omega),hd]
  rw [zbf (n:=b / (s+1)) (by omega) (by omega),zbf (by omega) (by omega)]
theorem PileOK.d67 {n:Int} {gs:List Grp} {N:Int} (h:PileOK n gs N) (hn:n≤7):d67 gs=some (wsum (fun _=>1) gs):=by
  obtain ⟨hl,hg⟩:=h.sizes hn
  have hf:∀ p:List Int,0≤(1:Int)∧(1:Int)≤1:=fun p=>by omega
  unfold Go.Proofs.YtmipjomnjkmdbaaGreat.d67
  rw [h.d100 hn]
  simp only [Option.bind_some,Bool.not_true,cond_false]
  have:d104 gs (fun a=>d126 a)=some (wsum (fun _=>1) gs):=by
    unfold d104
    refine zaf (b:=wsum (fun _=>1) gs) (fun i=>((fun a=>d126 a),wsum (fun _=>1) (gs.take i),gs,(gs.length:Int),(i:Int))) gs.length rfl (fun i hi=>?_) ?_ rfl
    · have h1:=h.part hf (i+1)
      rw [zdb _ gs hi] at h1
      simp only [dlt hi,d0le,Bool.and_self,cond_true,tn,d126,Option.bind_some,zbk (show i < 9223372036854775807 by omega)]
      rw [zbf (by omega) (by omega),zdb _ gs hi,Int.mul_one]
    · simp only [nlt (Nat.le_refl gs.length),cond_false,List.take_length]
  rw [this]; rfl
def gpOf (c:CT) (gs:List Grp) (lots:List Int):GP :=
  { gs:=gs,n:=c.2.1.length,seats:=c.2.2.2.1.toNat,q:=(wsum zas gs / (c.2.2.2.1+1)+1).toNat,tot:=(wsum (fun _=>1) gs).toNat,ties:=c.2.2.2.2.2.2.1,lots:=lots }
theorem zhy {n:Int} {gs:List Grp} {N:Int} (h:PileOK n gs N) (b:List Int→Bool) (c:CT) (lots:List Int):∀ m,m≤gs.length→wsum (fun p=>if b p then 1 else 0) (gs.take m)=((sumN (fun g=>if b ((gpOf c gs lots).p g) then (gpOf c gs lots).k g else 0) m:Nat):Int)
  | 0,_=>rfl
  | m+1,hm=>by
    have hb:=(h.ballots _ (zcu (l:=gs) (d:=([],0)) (i:=m) (by omega))).2
    rw [zdb _ gs (by omega),zhy h b c lots m (by omega),sumN,Int.natCast_add]
    congr 1
    show _ * (if b (gs.getD m ([],0)).1 then 1 else 0)=((if b (gs.getD m ([],0)).1 then (gs.getD m ([],0)).2.toNat else 0:Nat):Int)
    split
    · rw [Int.mul_one]; omega
    · rw [Int.mul_zero]; rfl
theorem quo_lt {m s:Nat} (h1:1≤s) (h5:s≤5):m < (m / (s+1)+1) * (s+1):=by
  have:s=1∨s=2∨s=3∨s=4∨s=5:=by omega
  rcases this with rfl | rfl | rfl | rfl | rfl <;> omega
theorem gpOf_ok {c:CT} {gs:List Grp} {lots:List Int} (h:fitE 3 c gs lots=0):(gpOf c gs lots).OK∧(gpOf c gs lots).G≤1000000∧c.2.2.2.1=((gpOf c gs lots).seats:Int)∧d67 gs=some ((gpOf c gs lots).tot:Int)∧d52 gs=some (wsum zas gs)∧d30 (wsum zas gs) c.2.2.2.1=some ((gpOf c gs lots).q:Int):=by
  obtain ⟨_,_,_,n1,n7,s1,s5,_,_,_,t1,t3,hp,ll,hB⟩:=zmn h
  obtain ⟨hl,hg⟩:=hp.sizes (by omega)
  have hmk:=hp.part (f:=zas) (fun p=>by unfold zas; split <;> omega) gs.length
  have hto:=hp.part (f:=fun _=>1) (fun p=>by omega) gs.length
  rw [List.take_length] at hmk hto
  have hS:c.2.2.2.1=(c.2.2.2.1.toNat:Int):=by omega
  have e1:wsum (fun _=>1) gs=((sumN (gpOf c gs lots).k gs.length:Nat):Int):=by
    have:=zhy hp (fun _=>true) c lots gs.length (Nat.le_refl _)
    rw [List.take_length] at this
    simpa using this
  have e2:wsum zas gs=(((gpOf c gs lots).mkd:Nat):Int):=by
    have:=zhy hp (fun p=>decide (p ≠ [])) c lots gs.length (Nat.le_refl _)
    rw [List.take_length] at this
    have hf:(fun p:List Int=>if decide (p ≠ [])=true then (1:Int) else 0)=zas:=by
      funext p; unfold zas; by_cases hp:p=[] <;> simp [hp]
    rw [hf] at this
    rw [this]
    congr 1
    unfold GP.mkd
    refine zao fun g hg=>?_
    by_cases hp:(gpOf c gs lots).p g=[] <;> simp [hp]
  obtain ⟨S,hSS⟩:∃ S,c.2.2.2.1.toNat=S:=⟨_,rfl⟩
  have hq:(gpOf c gs lots).q=(gpOf c gs lots).mkd / (S+1)+1:=by
    show (wsum zas gs / (c.2.2.2.1+1)+1).toNat=_
    rw [e2,hS,hSS]
    rfl
  have hm5:(gpOf c gs lots).mkd≤100000:=by omega
  have hdiv:=Nat.div_le_self (gpOf c gs lots).mkd (S+1)
  have hq1:1≤(gpOf c gs lots).q∧(gpOf c gs lots).q≤100001:=by
    rw [hq]
    generalize (gpOf c gs lots).mkd / (S+1)=Q at hdiv ⊢
    omega
  refine ⟨⟨n1,n7,by show 1≤c.2.2.2.1.toNat; omega,by show c.2.2.2.1.toNat≤5; omega,fun g hgl x hx=>?_,fun g hgl=>?_,?_,by show (wsum (fun _=>1) gs).toNat≤_; omega,hq1.1,hq1.2,?_,t1,t3,ll,fun x hx=>?_,hB.1⟩,by show gs.length≤_; omega,?_,?_,hp.d52 (by omega),?_⟩
  · have:=(hp.ballots _ (zcu (l:=gs) (d:=([],0)) (i:=g) hgl)).1.2 x hx
    exact ⟨x.toNat,by omega,by show x.toNat < c.2.1.length; omega⟩
  · exact (hg _ (zcu (l:=gs) (d:=([],0)) (i:=g) hgl)).1
  · show sumN (gpOf c gs lots).k gs.length=(wsum (fun _=>1) gs).toNat
    omega
  · rw [hq]
    show _ < _ * (c.2.2.2.1.toNat+1)
    rw [hSS]
    exact quo_lt (by omega) (by omega)
  · have:=hB.2 x hx
    exact ⟨x.toNat,by omega,by show x.toNat < c.2.1.length; omega⟩
  · exact hS
  · rw [hp.d67 (by omega)]
    congr 1
    show _=((wsum (fun _=>1) gs).toNat:Int)
    omega
  · rw [d30_eq hmk.1 hmk.2 s1 s5]
    congr 1
    show _=((wsum zas gs / (c.2.2.2.1+1)+1).toNat:Int)
    have:0≤wsum zas gs / (c.2.2.2.1+1):=Int.ediv_nonneg hmk.1 (by omega)
    omega
variable {P:GP} {s:GS}
end Go.Proofs.YtmipjomnjkmdbaaGreat
set_option linter.unusedSimpArgs false
set_option linter.unusedVariables false
namespace Go.Proofs.YtmipjomnjkmdbaaGreat
open Go Go.X
theorem d72_eq {n:Nat} (hn:n≤1000):∃ l,d72 (n:Int)=some l∧l.length=n:=by
  unfold d72
  refine ⟨lst (fun i=>[wu8 (w (97+(i:Int)))]) n,?_,zba _ _⟩
  refine zaf (fun i=>((n:Int),lst (fun i=>[wu8 (w (97+(i:Int)))]) i,(i:Int))) n rfl (fun i hi=>?_) ?_ rfl
  · simp only [dlt hi,cond_true,zff (l:=lst (fun i=>[wu8 (w (97+(i:Int)))]) i) (d:=[wu8 (w (97+(i:Int)))]) (by rw [zba]; omega),zbk (show i < 9223372036854775807 by omega),zph]
  · simp only [nlt (Nat.le_refl n),cond_false]
structure ConOK (c:CT) (n:Nat) (m:Int):Prop where
  names:c.2.1.length=n
  method:c.2.2.1=m
  seats1:1≤c.2.2.2.1
  seats5:c.2.2.2.1≤5
  seat:m=1→c.2.2.2.1=1
  digits:m=2→1≤c.2.2.2.2.2.1∧c.2.2.2.2.2.1≤6
  nodigits:m ≠ 2→c.2.2.2.2.2.1=0
  ties1:1≤c.2.2.2.2.2.2.1
  ties3:c.2.2.2.2.2.2.1≤3
theorem d27_eq {n:Nat} (hn:n≤1000) {code:Int} (hc:WT (.int .i64) code):∃ l,d27 (n:Int) code=some l∧l.length=n∧isB (n:Int) l:=by
  have hwt:∀ x:Int,WT (.int .i64) x→-9223372036854775808≤x∧x≤9223372036854775807:=fun x hx=>wt_int hx
  unfold d27
  refine zbv (Q:=fun r=>∃ l,r=some l∧l.length=n∧isB (n:Int) l) (fun (i:Nat) (st:Int × Int × (List Int) × Int)=>∃ (cd:Int) (out:List Int),st=((n:Int),cd,out,(i:Int))∧WT (.int .i64) cd∧out.length=i∧isB (i:Int) out) n ?_ ?_ ?_
  · exact ⟨code,[],rfl,hc,rfl,List.nodup_nil,fun x hx=>by simp at hx⟩
  · rintro i st hi ⟨cd,out,rfl,hcd,hlen,hb⟩
    have hcb:=hwt cd hcd
    have b:=zjp cd (n:=((i+1:Nat):Int)) (by omega)
    obtain ⟨r,hr⟩:∃ r:Nat,cd % ((i+1:Nat):Int)=(r:Int):=⟨(cd % ((i+1:Nat):Int)).toNat,by omega⟩
    have hri:r≤i:=by omega
    have c1:zcf 0 (r:Int) out.length=true:=by
      unfold zcf
      simp only [Bool.and_eq_true,decide_eq_true_eq]
      omega
    have c2:zcf (r:Int) (out.length:Int) out.length=true:=by
      unfold zcf
      simp only [Bool.and_eq_true,decide_eq_true_eq]
      omega
    have hq:-9223372036854775808≤Int.tdiv cd ((i+1:Nat):Int)∧Int.tdiv cd ((i+1:Nat):Int)≤9223372036854775807:=by
      have h1:=Int.natAbs_tdiv_le_natAbs cd ((i+1:Nat):Int)
      by_cases h0:cd=-9223372036854775808
      · subst h0
        have h2:Int.tdiv (-9223372036854775808) ((i+1:Nat):Int)=-(Int.tdiv 9223372036854775808 ((i+1:Nat):Int)):=by rw [← Int.neg_tdiv]
        have h3:0≤Int.tdiv 9223372036854775808 ((i+1:Nat):Int):=Int.tdiv_nonneg (by omega) (by omega)
        omega
      · omega
    have hne:decide (((i+1:Nat):Int)=0)=false:=decide_eq_false (by omega)
    have ht:(out.take r).length=r:=by rw [List.length_take]; omega
    have l1:decide ((([]:List Int).length:Int)+((out.take r).length:Int)≤LIM)=true:=zmg (by rw [ht]; simp; omega)
    have l2:=zff (l:=out.take r) (d:=(i:Int)) (by omega)
    have l3:decide (((out.take r++[(i:Int)]).length:Int)+((out.drop r).length:Int)≤LIM)=true:=zmg (by simp; omega)
    simp only [dlt hi,cond_true,zbk (show i < 9223372036854775807 by omega),zhs hcd (show (0:Int) < ((i+1:Nat):Int) by omega) (by omega),hr,Option.bind_some,hne,Bool.not_false,c1,c2,List.drop_zero,tn,List.take_length,l1,l2,l3]
    refine ⟨_,rfl,_,_,rfl,?_,by simp; omega,?_,fun x hx=>?_⟩
    · rw [zbf hq.1 hq.2]
      exact zbf hq.1 hq.2
    · have hp:(out.take r++[(i:Int)]++out.drop r).Perm ((i:Int)::out):=by
        have h1:(out.take r++[(i:Int)]++out.drop r).Perm ([(i:Int)]++out.take r++out.drop r):=List.Perm.append_right _ List.perm_append_comm
        have h2:[(i:Int)]++out.take r++out.drop r=(i:Int)::out:=by rw [List.append_assoc,List.take_append_drop]; rfl
        rwa [h2] at h1
      refine hp.nodup_iff.2 (List.nodup_cons.2 ⟨fun hm=>?_,hb.1⟩)
      have:=hb.2 _ hm
      omega
    · simp only [List.mem_append,List.mem_singleton] at hx
      rcases hx with (hx | hx) | hx
      · have:=hb.2 x (List.mem_of_mem_take hx); omega
      · omega
      · have:=hb.2 x (List.mem_of_mem_drop hx); omega
  · rintro st ⟨cd,out,rfl,hcd,hlen,hb⟩
    exact ⟨out,by simp only [nlt (Nat.le_refl n),cond_false],out,rfl,hlen,hb⟩
theorem zmo {c:CT} {n:Nat} {m:Int} {gs:List Grp} {lots:List Int} {N:Int} (hc:ConOK c n m) (hm:1≤m) (hm3:m≤3) (h1:1≤n) (h7:n≤7) (hp:PileOK (n:Int) gs N) (hl:lots.length=n) (hb:isB (n:Int) lots):fitE m c gs lots=0:=by
  have hn:=hc.names
  have hpb:zpe (n:Int) gs=true:=by
    unfold zpe goodP
    rw [decide_eq_true hp.good,decide_eq_true (show 1≤(n:Int)∧(n:Int)≤7 by omega)]; rfl
  have hqb:permB (n:Int) lots=true:=by
    unfold permB
    rw [decide_eq_true hb,decide_eq_true (by omega)]; rfl
  have:=hc.seats1
  have:=hc.seats5
  have:=hc.ties1
  have:=hc.ties3
  unfold fitE
  rw [hn,hpb,hqb]
  simp only [decide_eq_false (show ¬ m < 1 by omega),decide_eq_false (show ¬ 3 < m by omega),decide_eq_true hc.method,decide_eq_false (show ¬ (n:Int) < 1 by omega),decide_eq_false (show ¬ 7 < (n:Int) by omega),decide_eq_false (show ¬ c.2.2.2.1 < 1 by omega),decide_eq_false (show ¬ 5 < c.2.2.2.1 by omega),decide_eq_false (show ¬ c.2.2.2.2.2.2.1 < 1 by omega),decide_eq_false (show ¬ 3 < c.2.2.2.2.2.2.1 by omega),Bool.not_true,Bool.or_false,Bool.false_or,cond_false]
  have h1:(decide (m=1) && !decide (c.2.2.2.1=1))=false:=by
    by_cases h:m=1
    · rw [decide_eq_true (hc.seat h)]; simp
    · rw [decide_eq_false h]; rfl
  have h2:(bif decide (m=2) then decide (1≤c.2.2.2.2.2.1) && decide (c.2.2.2.2.2.1≤6) else decide (c.2.2.2.2.2.1=0))=true:=by
    by_cases h:m=2
    · rw [decide_eq_true h,cond_true,decide_eq_true (hc.digits h).1,decide_eq_true (hc.digits h).2]; rfl
    · rw [decide_eq_false h,cond_false,decide_eq_true (hc.nodigits h)]
  rw [h1,h2]
  rfl
end Go.Proofs.YtmipjomnjkmdbaaGreat
set_option linter.unusedSimpArgs false
set_option linter.unusedVariables false
namespace Go.Proofs.YtmipjomnjkmdbaaGreat
open Go Go.X
variable {P:GP} {s:GS}
theorem zdi (p:Nat→Bool) (n:Nat):(selI p n).Nodup:=(zel p n).imp fun h=>by omega
end Go.Proofs.YtmipjomnjkmdbaaGreat
set_option linter.unusedSimpArgs false
set_option linter.unusedVariables false
namespace Go.Proofs.YtmipjomnjkmdbaaGreat
open Go Go.X
def mup (a b:Nat):Nat:=(a+b - 1) / b
structure MP where
  P:GP
  one:Nat
  om:Nat
def mw (one:Nat) (kp:Nat→Nat) (p:List Int):Nat→Nat
  | 0=>one
  | j+1=>mw one kp p j - mup (mw one kp p j * kp (p.getD j 0).toNat) one
def zdv (one:Nat) (kp:Nat→Nat) (p:List Int) (j:Nat):Nat:=mup (mw one kp p j * kp (p.getD j 0).toNat) one
def ziq (one:Nat) (kp:Nat→Nat) (p:List Int) (c:Nat):Nat:=sumN (fun j=>if p.getD j 0=(c:Int) then zdv one kp p j else 0) p.length
def mvo (P:GP) (one:Nat) (kp:Nat→Nat) (c:Nat):Nat:=sumN (fun g=>P.k g * ziq one kp (P.p g) c) P.G
def mro (P:GP) (one:Nat) (kp:Nat→Nat):Nat:=sumN (fun g=>P.k g * mw one kp (P.p g) (P.p g).length) P.G
structure MS where
  st:Nat→Nat
  kp:Nat→Nat
  since:Nat
  bef:Option Nat
def MS.v (Q:MP) (s:MS) (c:Nat):Nat:=mvo Q.P Q.one s.kp c
def MS.rest (Q:MP) (s:MS):Nat:=mro Q.P Q.one s.kp
def MS.quo (Q:MP) (s:MS):Nat:=sumN (s.v Q) Q.P.n / (Q.P.seats+1)+1
def MS.reach (Q:MP) (s:MS) (i:Nat):Bool:=decide (s.st i=0) && decide (s.quo Q≤s.v Q i)
def zdg (v:Nat→Nat) (lots:List Int) (d i:Nat):Bool:=decide (v i < v d) || (decide (v d=v i) && decide (zcb lots (d:Int) < zcb lots (i:Int)))
def MS.fl (Q:MP) (s:MS):Nat:=cntN (fun i=>decide (s.st i=1)) Q.P.n
def MS.rank (Q:MP) (s:MS) (i:Nat):Nat:=cntN (fun d=>s.reach Q d && zdg (s.v Q) Q.P.lots d i) Q.P.n
def MS.el (Q:MP) (s:MS) (i:Nat):Bool:=s.reach Q i && decide (s.rank Q i < Q.P.seats - s.fl Q)
def MS.st1 (Q:MP) (s:MS) (i:Nat):Nat:=if s.el Q i then 1 else s.st i
def MS.sur (Q:MP) (s:MS):Nat:=sumN (fun i=>if s.st1 Q i=1 then s.v Q i - s.quo Q else 0) Q.P.n
def MS.f1 (Q:MP) (s:MS):Nat:=cntN (fun i=>decide (s.st1 Q i=1)) Q.P.n
def MS.h1 (Q:MP) (s:MS):Nat:=cntN (fun i=>decide (s.st1 Q i=0)) Q.P.n
def MS.some1 (Q:MP) (s:MS):Bool:=decide (0 < cntN (s.el Q) Q.P.n)
def MS.stall (Q:MP) (s:MS):Bool:=decide (s.sur Q < Q.om) || decide (60≤s.since+1) || (match s.bef with | some b=>decide (b≤s.sur Q) | none=>false)
def MS.near (Q:MP) (s:MS) (i:Nat):Bool:=decide (s.st i=0) && (List.range Q.P.n).all fun k=>!decide (s.st k=0) || decide (s.v Q i≤s.v Q k+s.sur Q)
def MS.tied (Q:MP) (s:MS):List Int:=selI (s.near Q) Q.P.n
def MS.pick (Q:MP) (E:List (List Rat)) (s:MS):Int:=if (s.tied Q).length=1 then (s.tied Q).headD 0 else tieB Q.P.ties E (s.tied Q) Q.P.lots true
def MS.rd0 (Q:MP) (s:MS):Rd :=
  { votes:=lst (fun i=>frac (s.v Q i) Q.one) Q.P.n
    keep:=lst (fun i=>frac (s.kp i) Q.one) Q.P.n
    quota:=frac (s.quo Q) Q.one
    exh:=frac (s.rest Q) Q.one
    sur:=frac (s.sur Q) Q.one
    el:=selI (s.el Q) Q.P.n
    ex:=[]
    ti:=[] }
def MS.fin (Q:MP) (s:MS):Bool:=decide (s.f1 Q=Q.P.seats) || decide (s.f1 Q+s.h1 Q≤Q.P.seats)
def MS.done (Q:MP) (s:MS):Rd:={ s.rd0 Q with el:=if s.f1 Q=Q.P.seats then selI (s.el Q) Q.P.n else selI (fun i=>s.el Q i || decide (s.st1 Q i=0)) Q.P.n }
def MS.excl (Q:MP) (E:List (List Rat)) (s:MS):MS:={ st:=upd s.st (s.pick Q E).toNat 2,kp:=upd s.kp (s.pick Q E).toNat 0,since:=0,bef:=none }
def MS.kp1 (Q:MP) (s:MS) (i:Nat):Nat:=if s.st1 Q i=1∧0 < s.v Q i then min Q.one (mup (mup (s.kp i * s.quo Q) Q.one * Q.one) (s.v Q i)) else s.kp i
def MS.redu (Q:MP) (s:MS):MS:={ st:=s.st1 Q,kp:=s.kp1 Q,since:=if s.some1 Q then 0 else s.since+1,bef:=some (s.sur Q) }
def MS.exR (Q:MP) (E:List (List Rat)) (s:MS):Rd:={ s.rd0 Q with ex:=[s.pick Q E],ti:=if (s.tied Q).length=1 then [] else s.tied Q }
def MS.cut (Q:MP) (s:MS):Bool:=!s.some1 Q && s.stall Q
def mstep (Q:MP) (E:List (List Rat)) (s:MS):Rd × Option MS :=
  if s.fin Q then (s.done Q,none)
  else if s.cut Q then (s.exR Q E,some (s.excl Q E))
  else (s.rd0 Q,some (s.redu Q))
def mrun (Q:MP):Nat→List Rd→MS→List Rd
  | 0,rs,_=>rs
  | k+1,rs,s=>match mstep Q (rs.map Rd.votes) s with
    | (r,none)=>rs++[r]
    | (r,some s')=>mrun Q k (rs++[r]) s'
def MP.s0 (Q:MP):MS:={ st:=fun _=>0,kp:=fun _=>Q.one,since:=0,bef:=none }
def zad (Q:MP):List Rd:=mrun Q 500 [] Q.s0
theorem mup_le {a b c:Nat} (hb:0 < b) (h:a≤c * b):mup a b≤c:=by
  unfold mup
  have:(a+b - 1) / b < c+1:=by
    rw [Nat.div_lt_iff_lt_mul hb,Nat.add_mul]
    omega
  omega
theorem mup_pos {a b:Nat} (hb:0 < b) (ha:0 < a):0 < mup a b:=by
  unfold mup
  exact Nat.div_pos (by omega) hb
theorem mup_zero {b:Nat} (hb:0 < b):mup 0 b=0:=by
  unfold mup
  exact Nat.div_eq_of_lt (by omega)
theorem mup_mul {a b:Nat} (hb:0 < b):mup (a * b) b=a:=by
  unfold mup
  rw [show a * b+b - 1=b - 1+a * b by omega,Nat.add_mul_div_right _ _ hb,Nat.div_eq_of_lt (by omega),Nat.zero_add]
section
variable {one:Nat} {kp:Nat→Nat} (h1:0 < one) (hk:∀ c,kp c≤one)
include h1 hk
theorem zkx (p:List Int) (j:Nat):zdv one kp p j≤mw one kp p j:=mup_le h1 (Nat.mul_le_mul_left _ (hk _))
theorem mw_step (p:List Int) (j:Nat):mw one kp p (j+1)+zdv one kp p j=mw one kp p j:=by
  have:=zkx h1 hk p j
  show mw one kp p j - zdv one kp p j+_=_
  omega
theorem mw_sum (p:List Int):∀ j,sumN (zdv one kp p) j+mw one kp p j=one
  | 0=>by show 0+one=one; omega
  | j+1=>by
    have h2:=mw_sum p j
    have h3:=mw_step h1 hk p j
    rw [sumN]
    omega
theorem mw_le (p:List Int) (j:Nat):mw one kp p j≤one:=by have:=mw_sum h1 hk p j; omega
theorem mgive_sum {n:Nat} {p:List Int} (hp:∀ c∈p,∃ i:Nat,c=(i:Int)∧i < n):sumN (ziq one kp p) n+mw one kp p p.length=one:=by
  have hm:=mw_sum h1 hk p p.length
  refine Eq.trans ?_ hm
  congr 1
  unfold ziq
  rw [zic (fun c j=>if p.getD j 0=(c:Int) then zdv one kp p j else 0)]
  refine zao fun j hj=>?_
  obtain ⟨i,e,hi⟩:=hp _ (zcs hj)
  rw [e]
  have:sumN (fun c:Nat=>if (i:Int)=(c:Int) then zdv one kp p j else 0) n=sumN (fun c=>if c=i then zdv one kp p j else 0) n:=zao fun c _=>by
    by_cases h:c=i
    · subst h; rw [if_pos rfl,if_pos rfl]
    · rw [if_neg h,if_neg (by omega)]
  rw [this,zot,if_pos hi]
theorem mv_sum {P:GP} (hP:P.OK):sumN (mvo P one kp) P.n+mro P one kp=P.tot * one:=by
  unfold mvo mro
  rw [zic (fun c g=>P.k g * ziq one kp (P.p g) c),← zew,← hP.total,← zft]
  refine zao fun g hg=>?_
  have h2:=mgive_sum h1 hk (n:=P.n) (hP.prefs g hg)
  have h3:sumN (fun c=>P.k g * ziq one kp (P.p g) c) P.n=P.k g * sumN (ziq one kp (P.p g)) P.n:=by
    rw [Nat.mul_comm,← zft]
    exact zao fun c _=>Nat.mul_comm _ _
  rw [h3,← Nat.mul_add,h2]
theorem mv_le {P:GP} (hP:P.OK) {c:Nat} (hc:c < P.n):mvo P one kp c≤P.tot * one:=by
  have h2:=mv_sum h1 hk hP
  have h3:=zlm (f:=mvo P one kp) hc
  omega
end
theorem mgive_none {one:Nat} {kp:Nat→Nat} (h1:0 < one) {c:Nat} (hc:kp c=0) (p:List Int):ziq one kp p c=0:=by
  unfold ziq
  refine (zao (g:=fun _=>0) fun j _=>?_).trans (zct _)
  split
  · rename_i e
    unfold zdv
    rw [e,Int.toNat_natCast,hc,Nat.mul_zero,mup_zero h1]
  · rfl
structure MP.OK (Q:MP):Prop where
  P:Q.P.OK
  one1:0 < Q.one
  one6:Q.one≤1000000
  om:0 < Q.om
structure MI (Q:MP) (s:MS):Prop where
  st2:∀ c,s.st c≤2
  kp1:∀ c,s.kp c≤Q.one
  hop:∀ c,s.st c=0→s.kp c=Q.one
  elc:∀ c,s.st c=1→0 < s.kp c
  exc:∀ c,s.st c=2→s.kp c=0
  since:s.since≤59
  fill:s.fl Q < Q.P.seats
  left:0 < cntN (fun i=>decide (s.st i=0)) Q.P.n
variable {Q:MP} {s:MS}
theorem MS.v_le (hQ:Q.OK) (hI:MI Q s) {c:Nat} (hc:c < Q.P.n):s.v Q c≤Q.P.tot * Q.one:=mv_le hQ.one1 hI.kp1 hQ.P hc
theorem MS.sum_le (hQ:Q.OK) (hI:MI Q s):sumN (s.v Q) Q.P.n+s.rest Q=Q.P.tot * Q.one:=mv_sum hQ.one1 hI.kp1 hQ.P
theorem MS.tot_le (hQ:Q.OK):Q.P.tot * Q.one≤100000000000:=Nat.le_trans (Nat.mul_le_mul hQ.P.tot5 hQ.one6) (by decide)
theorem MS.quo_le (hQ:Q.OK) (hI:MI Q s):s.quo Q≤Q.P.tot * Q.one+1:=by
  have h1:=MS.sum_le hQ hI
  have h2:=Nat.div_le_self (sumN (s.v Q) Q.P.n) (Q.P.seats+1)
  unfold MS.quo
  omega
theorem zbj (c:Nat):(s.el Q c=true∧s.st c=0∧s.st1 Q c=1∧s.quo Q≤s.v Q c)∨(s.el Q c=false∧s.st1 Q c=s.st c):=by
  unfold MS.st1
  cases h:s.el Q c
  · exact .inr ⟨rfl,rfl⟩
  · unfold MS.el MS.reach at h
    rw [Bool.and_eq_true,Bool.and_eq_true,decide_eq_true_eq,decide_eq_true_eq] at h
    exact .inl ⟨rfl,h.1.1,rfl,h.1.2⟩
theorem f1_eq:s.f1 Q=s.fl Q+cntN (s.el Q) Q.P.n:=by
  unfold MS.f1 MS.fl cntN
  rw [← zew]
  refine zao fun i hi=>?_
  rcases zbj (Q:=Q) (s:=s) i with ⟨h0,h1,h2,_⟩ | ⟨h0,h2⟩
  · simp [h0,h1,h2]
  · simp [h0,h2]
theorem h1_eq:s.h1 Q+cntN (s.el Q) Q.P.n=cntN (fun i=>decide (s.st i=0)) Q.P.n:=by
  unfold MS.h1 cntN
  rw [← zew]
  refine zao fun i hi=>?_
  rcases zbj (Q:=Q) (s:=s) i with ⟨h0,h1,h2,_⟩ | ⟨h0,h2⟩
  · simp [h0,h1,h2]
  · simp [h0,h2]
def MS.meas (Q:MP) (s:MS):Nat:=cntN (fun i=>decide (s.st i=0)) Q.P.n * 61+(60 - s.since)
end Go.Proofs.YtmipjomnjkmdbaaGreat
