/- Part 14 of what stands below the statement. -/
import Derived.Test.YtmipjomnjkmdbaaGreatQ13
set_option linter.unusedSimpArgs false
set_option linter.unusedVariables false
namespace Go.Proofs.YtmipjomnjkmdbaaGreat
open Go Go.X
theorem zow {α:Type} (l:List α) (x:α) {i:Nat} (h:i < l.length):(l.set i x).take (i+1)=l.take i++[x]:=by
  refine List.ext_getElem? fun j=>?_
  by_cases hj:j < i+1
  · rw [List.getElem?_take_of_lt hj]
    by_cases h2:i=j
    · subst h2
      rw [List.getElem?_set_self h,List.getElem?_append_right (by rw [List.length_take]; omega),List.length_take,Nat.min_eq_left (by omega),Nat.sub_self]; rfl
    · rw [List.getElem?_set_ne h2,List.getElem?_append_left (by rw [List.length_take]; omega),List.getElem?_take_of_lt (by omega)]
  · rw [List.getElem?_eq_none (by rw [List.length_take,List.length_set]; omega),List.getElem?_eq_none (by rw [List.length_append,List.length_take]; simp; omega)]
theorem zea (g:Int→Bool) (s:List Int) {j:Nat} (h:j < s.length):(s.take (j+1)).filter g=(s.take j).filter g++(if g (s.getD j 0) then [s.getD j 0] else []):=by
  rw [zbm s 0 h,List.filter_append]
  congr 1
  rw [List.filter_cons]
  cases hg:g (s.getD j 0) <;> rfl
theorem getD_of_drop {s t:List Int} {j:Nat} (h:s.drop j=t.drop j):s.getD j 0=t.getD j 0:=by
  have h1:=zir s j 0 0
  have h2:=zir t j 0 0
  rw [Nat.add_zero] at h1 h2
  rw [← h1,← h2,h]
theorem zkl {s t:List Int} {j:Nat} (h:s.drop j=t.drop j):s.drop (j+1)=t.drop (j+1):=by
  rw [← List.drop_drop,← List.drop_drop,h]
theorem d134_eq {s:List Int} {f:Int→Option Bool} {g:Int→Bool} (hf:∀ c∈s,f c=some (g c)) (hs:s.length≤1000000):d134 s f=some (s.filter fun c=>!g c):=by
  unfold d134
  rw [d101_on hf (by omega)]
  have hle:=zfj g s
  by_cases h:zap g s < s.length
  · rw [if_pos h,Option.bind_some,decide_eq_false (show ¬ ((zap g s:Nat):Int)=-1 by omega),cond_false]
    obtain ⟨i0,hi0⟩:∃ i0,zap g s=i0:=⟨_,rfl⟩
    have hat:=zfk g s h
    have hlt:=zda g s
    rw [hi0] at h hat hlt
    rw [hi0,zcb (by omega)]
    refine zck (Q:=fun r=>r=some (s.filter fun c=>!g c)) (fun (m:Nat) (st:(List Int) × (Int→Option Bool) × Int × Int)=>∃ (s':List Int) (i:Nat),st=(s',f,(i:Int),((i0+1+m:Nat):Int))∧s'.length=s.length∧i≤i0+m∧i0+1+m≤s.length∧s'.take i=(s.take (i0+1+m)).filter (fun c=>!g c)∧s'.drop (i0+1+m)=s.drop (i0+1+m)) (s.length - (i0+1)) ?_ ?_ ?_
    · refine ⟨s,i0,rfl,rfl,by omega,by omega,?_,rfl⟩
      rw [zea _ s h,hat,show (!true)=false from rfl]
      simp only [Bool.false_eq_true,if_false,List.append_nil]
      refine (List.filter_eq_self.2 fun x hx=>?_).symm
      obtain ⟨k,hk,hkx⟩:=List.getElem_of_mem hx
      rw [List.length_take] at hk
      have:=hlt k (by omega)
      rw [List.getD_eq_getElem?_getD,List.getElem?_eq_getElem (by omega)] at this
      rw [List.getElem_take] at hkx
      rw [← hkx]
      simpa using this
    · rintro m st hm ⟨s',i,rfl,hl,hi,hmle,ht,hd⟩
      have hj:i0+1+m < s.length:=by omega
      have hgd:=getD_of_drop hd
      have hmem:s.getD (i0+1+m) 0∈s:=zdk hj
      simp only [hl,dlt hj,d0le,Bool.and_self,cond_true,tn,zay,hgd,hf _ hmem,Option.bind_some]
      rw [show i0+1+(m+1)=i0+1+m+1 by omega]
      cases hg:g (s.getD (i0+1+m) 0) with
      | true =>
        refine ⟨_,by rw [Bool.not_true,cond_false,zcb (by omega)],s',i,rfl,hl,by omega,by omega,?_,zkl hd⟩
        rw [zea _ s hj,hg,ht]; simp
      | false =>
        refine ⟨_,by simp only [Bool.not_false,cond_true,dlt (show i < s.length by omega),zcb (show i < 9223372036854775807 by omega),zcb (show i0+1+m < 9223372036854775807 by omega),Bool.and_self],s'.set i (s.getD (i0+1+m) 0),i+1,rfl,by simpa using hl,by omega,by omega,?_,?_⟩
        · rw [zow _ _ (by omega),zea _ s hj,hg,ht]; simp
        · rw [List.drop_set_of_lt (by omega)]; exact zkl hd
    · rintro st ⟨s',i,rfl,hl,hi,hmle,ht,hd⟩
      have e:i0+1+(s.length - (i0+1))=s.length:=by omega
      rw [e] at ht hd ⊢
      rw [List.take_length] at ht
      refine ⟨(s',(i:Int)),by simp only [hl,nlt (Nat.le_refl s.length),cond_false],?_⟩
      have hil:i≤s'.length:=by omega
      have hlen:(List.take i s'++List.replicate (s'.length - i) 0).length=s'.length:=by simp; omega
      have c1:zdb (i:Int) (s'.length:Int) s'.length=true:=by
        unfold zdb
        simp only [Bool.and_eq_true,decide_eq_true_eq]
        omega
      have c2:zdb 0 (i:Int) s'.length=true:=by
        unfold zdb
        simp only [Bool.and_eq_true,decide_eq_true_eq]
        omega
      simp only [c1,cond_true,tn,hlen,c2]
      rw [List.take_append_of_le_length (by rw [List.length_take]; omega),List.take_take,Nat.min_self,ht]
  · rw [if_neg h,Option.bind_some]
    have hall:∀ x∈s,g x=false:=fun x hx=>by
      cases hg:g x
      · rfl
      · exact absurd ((zhu g s).2 ⟨x,hx,hg⟩) h
    rw [List.filter_eq_self.2 fun x hx=>by rw [hall x hx]; rfl]
    rfl
theorem d133_eq {c:CT} {lots:List Int} {tot q:Int} {pc:List (List Int × (Int × (Int × Rt)))} {st:Nat→Nat} {n:Nat} {kp:List Rt} {filled:Nat} {rest:List (List Rt) × (Int × (Int × (Int × (Int × (List RD × List Int)))))}
    {v kk:List Rt} {qu ex su:Rt} {el ex2 ti:List Int} {p:Nat→Bool} (hn:n≤7) (hf:filled≤1000) (hel:el.length≤1000) :
    d133 (c,lots,tot,q,pc,lst (fun i=>(st i:Int)) n,kp,(filled:Int),rest) (v,kk,qu,ex,su,el,ex2,ti) (selI p n)
      = some ((c,lots,tot,q,pc,lst (fun i=>((if p i then 1 else st i:Nat):Int)) n,kp,((filled+cntN p n:Nat):Int),rest),(v,kk,qu,ex,su,zdz (el++selI p n),ex2,ti)):=by
  unfold d133
  obtain ⟨L,hL⟩:∃ L,selN p n=L:=⟨_,rfl⟩
  have hLi:(selI p n).length=L.length:=by rw [← hL,selI,List.length_map]
  have hLc:cntN p n=L.length:=by rw [← hL,zfv]
  have hLl:L.length≤7:=by rw [← hLc]; have:=zcf p n; omega
  rw [hLi]
  refine zaf (fun j=>((c,lots,tot,q,pc,lst (fun i=>((zeu st (L.take j) 1 i:Nat):Int)) n,kp,((filled+j:Nat):Int),rest),(v,kk,qu,ex,su,el++(selI p n).take j,ex2,ti),selI p n,(L.length:Int),(j:Int))) L.length ?_ (fun j hj=>?_) (b:=((c,lots,tot,q,pc,lst (fun i=>((zeu st L 1 i:Nat):Int)) n,kp,((filled+L.length:Nat):Int),rest),(v,kk,qu,ex,su,el++selI p n,ex2,ti))) ?_ ?_
  · rw [List.take_zero,zno,List.take_zero,List.append_nil]; rfl
  · have hj':j < (selN p n).length:=by rw [hL]; exact hj
    have hg:=zgm hj'
    have hsg:=zlx hj'
    rw [hL] at hg hsg
    have hll:(el++(selI p n).take j).length+1≤4294967296:=by rw [List.length_append,List.length_take]; omega
    simp only [dlt hj,d0le,hLi,Bool.and_self,cond_true,tn,hsg,zaz,dlt hg.1,zdi hll,zcb (show j < 9223372036854775807 by omega),zcb (show filled+j < 9223372036854775807 by omega),zgt]
    have e:lst (upd (fun i=>((zeu st (L.take j) 1 i:Nat):Int)) (L.getD j 0) 1) n=lst (fun i=>((zeu st (L.take (j+1)) 1 i:Nat):Int)) n:=zcd fun i hi=>by
      rw [zbm L 0 hj,← zlk]
      unfold upd
      split <;> rfl
    rw [e,zbm (selI p n) 0 (by rw [hLi]; exact hj),hsg,List.append_assoc]
    rfl
  · simp only [nlt (Nat.le_refl L.length),cond_false,List.take_length]
    rw [← hLi,List.take_length]
  · have hd:d174 (el++selI p n)=some (zdz (el++selI p n)):=by
      unfold d174
      rw [zbx (by rw [List.length_append]; omega)]; rfl
    simp only [hd,Option.bind_some,hLc]
    have e:lst (fun i=>((zeu st L 1 i:Nat):Int)) n=lst (fun i=>((if p i then 1 else st i:Nat):Int)) n:=zcd fun i hi=>by
     unfold zeu
     congr 1
     by_cases h:p i=true
     · rw [if_pos (by rw [← hL]; exact zdh.2 ⟨hi,h⟩),if_pos h]
     · rw [if_neg (by rw [← hL]; exact fun hm=>h (zdh.1 hm).2),if_neg h]
    rw [e]
theorem zdm (p:Nat→Bool):∀ n:Nat,(selI p n).Pairwise (· < ·)
  | 0=>List.Pairwise.nil
  | n+1=>by
    rw [zfd,List.pairwise_append]
    refine ⟨zdm p n,by split <;> simp,fun x hx y hy=>?_⟩
    obtain ⟨i,rfl,h1,_⟩:=zbk.1 hx
    split at hy
    · simp at hy; subst hy; omega
    · simp at hy
theorem sortI_of {l m:List Int} (hp:l.Perm m) (hs:m.Pairwise (·≤·)):zdz l=m:=by
  unfold zdz
  have h1:=List.mergeSort_perm l fun x y=>decide (x≤y)
  have h2:(l.mergeSort fun x y=>decide (x≤y)).Pairwise (·≤·):=by
    have:=List.pairwise_mergeSort (le:=fun x y:Int=>decide (x≤y)) (fun a b c h1 h2=>decide_eq_true (Int.le_trans (of_decide_eq_true h1) (of_decide_eq_true h2))) (fun a b=>by simp only [Bool.or_eq_true,decide_eq_true_eq]; omega) l
    exact this.imp fun h=>of_decide_eq_true h
  exact (h1.trans hp).eq_of_pairwise (fun a b _ _ h3 h4=>Int.le_antisymm h3 h4) h2 hs
theorem sortI_selI (p:Nat→Bool) (n:Nat):zdz (selI p n)=selI p n:=sortI_of (List.Perm.refl _) ((zdm p n).imp fun h=>Int.le_of_lt h)
theorem sel_perm {p q:Nat→Bool} (h:∀ i,p i=true→q i=false):∀ n:Nat,(selI p n++selI q n).Perm (selI (fun i=>p i || q i) n)
  | 0=>List.Perm.refl _
  | n+1=>by
    have ih:=sel_perm h n
    rw [zfd,zfd,zfd]
    cases hp:p n
    · simp only [Bool.false_eq_true,if_false,List.append_nil,Bool.false_or]
      cases hq:q n
      · simp only [Bool.false_eq_true,if_false,List.append_nil]; exact ih
      · simp only [if_true]
        rw [← List.append_assoc]
        exact ih.append_right _
    · rw [h n hp]
      simp only [Bool.false_eq_true,if_false,List.append_nil,Bool.or_false,if_true]
      refine List.Perm.trans ?_ (ih.append_right [(n:Int)])
      rw [List.append_assoc,List.append_assoc]
      exact List.Perm.append_left _ List.perm_append_comm
theorem sortI_two {p q:Nat→Bool} (h:∀ i,p i=true→q i=false) (n:Nat):zdz (selI p n++selI q n)=selI (fun i=>p i || q i) n :=
  sortI_of (sel_perm h n) ((zdm _ n).imp fun h=>Int.le_of_lt h)
def ext0 (ρ:Int→Rat) (l:List Int):List Int:=l.filter fun i=>l.all fun k=>decide (ρ i≤ρ k)
def sgR (least:Bool) (r:Int→Rat) (c:Int):Rat:=if least then r c else - r c
theorem extr_ext0 (least:Bool) (r:Int→Rat) (l:List Int):extr least r l=ext0 (sgR least r) l:=by
  unfold extr ext0 sgR
  refine List.filter_congr fun i _=>?_
  congr 1
  funext k
  cases least
  · simp only [Bool.false_eq_true,if_false]
    exact decide_eq_decide.2 ⟨fun h=>by grind,fun h=>by grind⟩
  · rfl
theorem zlc {ρ:Int→Rat} {l:List Int} {x:Int}:x∈ext0 ρ l↔x∈l∧∀ k∈l,ρ x≤ρ k:=by
  unfold ext0
  rw [List.mem_filter,List.all_eq_true]
  simp only [decide_eq_true_eq]
theorem ext0_ne {ρ:Int→Rat} {l:List Int} (h:l ≠ []):ext0 ρ l ≠ []:=by
  obtain ⟨i,h1,h2⟩:=zey ρ h
  exact List.ne_nil_of_mem (zlc.2 ⟨h1,h2⟩)
theorem ext0_nil (ρ:Int→Rat):ext0 ρ []=[]:=rfl
theorem ext0_snoc (ρ:Int→Rat) {l:List Int} (x:Int) (hl:l ≠ []):ext0 ρ (l++[x])=if ρ x < ρ ((ext0 ρ l).headD 0) then [x] else if ρ x=ρ ((ext0 ρ l).headD 0) then ext0 ρ l++[x] else ext0 ρ l:=by
  have hy:=zgu (ext0_ne (ρ:=ρ) hl)
  generalize (ext0 ρ l).headD 0=y at hy ⊢
  obtain ⟨h1,h2⟩:=zlc.1 hy
  have e:ext0 ρ (l++[x])=l.filter (fun i=>(l.all fun k=>decide (ρ i≤ρ k)) && decide (ρ i≤ρ x))++if (l.all fun k=>decide (ρ x≤ρ k)) then [x] else []:=by
    unfold ext0
    rw [List.filter_append]
    congr 1
    · refine List.filter_congr fun i _=>?_
      rw [List.all_append]; simp
    · rw [List.filter_cons,List.all_append]
      have:ρ x≤ρ x:=Rat.le_refl
      simp [this]
  rw [e]
  by_cases c1:ρ x < ρ y
  · rw [if_pos c1]
    have a1:l.filter (fun i=>(l.all fun k=>decide (ρ i≤ρ k)) && decide (ρ i≤ρ x))=[]:=by
      refine List.filter_eq_nil_iff.2 fun i hi hc=>?_
      simp only [Bool.and_eq_true,decide_eq_true_eq] at hc
      have:=h2 i hi
      grind
    have a2:(l.all fun k=>decide (ρ x≤ρ k))=true:=List.all_eq_true.2 fun k hk=>decide_eq_true (by have:=h2 k hk; grind)
    rw [a1,a2]; rfl
  · rw [if_neg c1]
    have a1:l.filter (fun i=>(l.all fun k=>decide (ρ i≤ρ k)) && decide (ρ i≤ρ x))=ext0 ρ l:=by
      unfold ext0
      refine List.filter_congr fun i hi=>?_
      cases hall:(l.all fun k=>decide (ρ i≤ρ k))
      · rfl
      · have:=of_decide_eq_true (List.all_eq_true.1 hall y h1)
        rw [Bool.true_and]
        exact decide_eq_true (by grind)
    rw [a1]
    by_cases c2:ρ x=ρ y
    · rw [if_pos c2]
      have a2:(l.all fun k=>decide (ρ x≤ρ k))=true:=List.all_eq_true.2 fun k hk=>decide_eq_true (by have:=h2 k hk; grind)
      rw [a2]; rfl
    · rw [if_neg c2]
      have a2:(l.all fun k=>decide (ρ x≤ρ k))=false:=by
        rw [List.all_eq_false]
        exact ⟨y,h1,by simp only [decide_eq_true_eq]; grind⟩
      rw [a2]; simp
def ordQ (least:Bool) (a b:Rat):Int:=if least then cmpQ a b else 0 - cmpQ a b
theorem ordQ_lt (least:Bool) (r:Int→Rat) (x y:Int):decide (ordQ least (r x) (r y) < 0)=decide (sgR least r x < sgR least r y):=by
  refine decide_eq_decide.2 ?_
  unfold ordQ sgR cmpQ
  cases least <;> simp only [Bool.false_eq_true,if_false,if_true]
  · by_cases h1:r x < r y
    · rw [if_pos h1]; constructor
      · intro h; omega
      · intro h; grind
    · rw [if_neg h1]
      by_cases h2:r x=r y
      · rw [if_pos h2]; constructor
        · intro h; omega
        · intro h; grind
      · rw [if_neg h2]; constructor
        · intro _; grind
        · intro _; omega
  · by_cases h1:r x < r y
    · rw [if_pos h1]; constructor
      · intro h; exact h1
      · intro h; omega
    · rw [if_neg h1]; constructor
      · intro h; split at h <;> omega
      · intro h; exact absurd h h1
theorem ordQ_eq (least:Bool) (r:Int→Rat) (x y:Int):decide (ordQ least (r x) (r y)=0)=decide (sgR least r x=sgR least r y):=by
  refine decide_eq_decide.2 ?_
  unfold ordQ sgR cmpQ
  cases least <;> simp only [Bool.false_eq_true,if_false,if_true]
  · by_cases h1:r x < r y
    · rw [if_pos h1]; constructor
      · intro h; omega
      · intro h; grind
    · rw [if_neg h1]
      by_cases h2:r x=r y
      · rw [if_pos h2]; constructor
        · intro h; grind
        · intro h; omega
      · rw [if_neg h2]; constructor
        · intro _; omega
        · intro _; grind
  · by_cases h1:r x < r y
    · rw [if_pos h1]; constructor
      · intro h; omega
      · intro h; grind
    · rw [if_neg h1]; constructor
      · intro h; split at h
        · assumption
        · omega
      · intro h; rw [if_pos h]
theorem cmpQ_bounds (a b:Rat):-1≤cmpQ a b∧cmpQ a b≤1:=by
  unfold cmpQ; (repeat' split) <;> omega
end Go.Proofs.YtmipjomnjkmdbaaGreat
set_option linter.unusedSimpArgs false
set_option linter.unusedVariables false
namespace Go.Proofs.YtmipjomnjkmdbaaGreat
open Go Go.X
theorem zhv (v:Int):∀ l:List Int,zap (fun x=>decide (v=x)) l=l.idxOf v
  | []=>rfl
  | x::l=>by
    unfold zap
    rw [List.idxOf_cons,zhv v l]
    by_cases h:v=x
    · subst h; simp
    · have:(x == v)=false:=by simp; exact fun e=>h e.symm
      rw [this]; simp [h]
theorem d188_eq {lots:List Int} (hl:lots.length≤1000) {a b:Int} (ha:a∈lots) (hb:b∈lots):d188 a b lots=some ((zav lots a:Int) - (zav lots b:Int)):=by
  unfold d188
  have h1:=List.idxOf_lt_length_iff.2 ha
  have h2:=List.idxOf_lt_length_iff.2 hb
  rw [d189_eq a (by omega),d189_eq b (by omega),zhv,zhv,if_pos h1,if_pos h2]
  simp only [Option.bind_some]
  unfold zav
  rw [zbr (by omega) (by omega)]
theorem d190_eq {x:List Int} {cmp:Int→Int→Option Int} {g:Int→Int→Int} (hx:x ≠ []) (hl:x.length≤1000) (hc:∀ a∈x,∀ b∈x,cmp a b=some (g a b)):d190 x cmp=some (x.tail.foldl (fun m c=>if 0 < g c m then c else m) (x.headD 0)):=by
  have hp:=List.length_pos_iff.2 hx
  unfold d190
  rw [decide_eq_false (show ¬ ((x.length:Int) < 1) by omega),cond_false,show (decide (0≤0) && decide ((0:Int) < (x.length:Int)))=true by rw [decide_eq_true (show (0:Int) < (x.length:Int) by omega)]; rfl,cond_true]
  have hmem:∀ i,(x.tail.take i).foldl (fun m c=>if 0 < g c m then c else m) (x.headD 0)∈x:=fun i=>by
    cases x with
    | nil=>exact absurd rfl hx
    | cons y x =>
      simp only [List.tail_cons,List.headD_cons]
      rcases ziu (fun m c=>if 0 < g c m then c else m) (fun a b=>by split <;> simp) (x.take i) y with h | h
      · rw [h]; simp
      · exact List.mem_cons_of_mem _ (List.mem_of_mem_take h)
  refine zaf (fun i=>(x,cmp,(x.tail.take i).foldl (fun m c=>if 0 < g c m then c else m) (x.headD 0),((i+1:Nat):Int))) (x.length - 1) ?_ (fun i hi=>?_) (b:=x.tail.foldl (fun m c=>if 0 < g c m then c else m) (x.headD 0)) ?_ rfl
  · rw [List.take_zero,List.foldl_nil]
    cases x with
    | nil=>exact absurd rfl hx
    | cons y x=>rfl
  · have hlt:i+1 < x.length:=by omega
    have hxm:x.getD (i+1) 0∈x:=zdk hlt
    have ht:x.tail.getD i 0=x.getD (i+1) 0:=by
      cases x with
      | nil=>exact absurd rfl hx
      | cons y x=>rfl
    have hs:x.tail.take (i+1)=x.tail.take i++[x.getD (i+1) 0]:=by rw [zbm x.tail 0 (by rw [List.length_tail]; omega),ht]
    simp only [dlt hlt,d0le,Bool.and_self,cond_true,tn,zay,hc _ hxm _ (hmem i),Option.bind_some,zcb (show i+1 < 9223372036854775807 by omega),hs,List.foldl_append,List.foldl_cons,List.foldl_nil]
    generalize (x.tail.take i).foldl (fun m c=>if 0 < g c m then c else m) (x.headD 0)=m
    by_cases h:0 < g (x.getD (i+1) 0) m
    · rw [decide_eq_true h,cond_true,if_pos h]
    · rw [decide_eq_false h,cond_false,if_neg h]
  · have e:x.length - 1+1=x.length:=by omega
    rw [e]
    simp only [nlt (Nat.le_refl x.length),cond_false]
    rw [List.take_of_length_le (by rw [List.length_tail]; omega)]
theorem d191_eq {x:List Int} {cmp:Int→Int→Option Int} {g:Int→Int→Int} (hx:x ≠ []) (hl:x.length≤1000) (hc:∀ a∈x,∀ b∈x,cmp a b=some (g a b)):d191 x cmp=some (x.tail.foldl (fun m c=>if g c m < 0 then c else m) (x.headD 0)):=by
  have hp:=List.length_pos_iff.2 hx
  unfold d191
  rw [decide_eq_false (show ¬ ((x.length:Int) < 1) by omega),cond_false,show (decide (0≤0) && decide ((0:Int) < (x.length:Int)))=true by rw [decide_eq_true (show (0:Int) < (x.length:Int) by omega)]; rfl,cond_true]
  have hmem:∀ i,(x.tail.take i).foldl (fun m c=>if g c m < 0 then c else m) (x.headD 0)∈x:=fun i=>by
    cases x with
    | nil=>exact absurd rfl hx
    | cons y x =>
      simp only [List.tail_cons,List.headD_cons]
      rcases ziu (fun m c=>if g c m < 0 then c else m) (fun a b=>by split <;> simp) (x.take i) y with h | h
      · rw [h]; simp
      · exact List.mem_cons_of_mem _ (List.mem_of_mem_take h)
  refine zaf (fun i=>(x,cmp,(x.tail.take i).foldl (fun m c=>if g c m < 0 then c else m) (x.headD 0),((i+1:Nat):Int))) (x.length - 1) ?_ (fun i hi=>?_) (b:=x.tail.foldl (fun m c=>if g c m < 0 then c else m) (x.headD 0)) ?_ rfl
  · rw [List.take_zero,List.foldl_nil]
    cases x with
    | nil=>exact absurd rfl hx
    | cons y x=>rfl
  · have hlt:i+1 < x.length:=by omega
    have hxm:x.getD (i+1) 0∈x:=zdk hlt
    have ht:x.tail.getD i 0=x.getD (i+1) 0:=by
      cases x with
      | nil=>exact absurd rfl hx
      | cons y x=>rfl
    have hs:x.tail.take (i+1)=x.tail.take i++[x.getD (i+1) 0]:=by rw [zbm x.tail 0 (by rw [List.length_tail]; omega),ht]
    simp only [dlt hlt,d0le,Bool.and_self,cond_true,tn,zay,hc _ hxm _ (hmem i),Option.bind_some,zcb (show i+1 < 9223372036854775807 by omega),hs,List.foldl_append,List.foldl_cons,List.foldl_nil]
    generalize (x.tail.take i).foldl (fun m c=>if g c m < 0 then c else m) (x.headD 0)=m
    by_cases h:g (x.getD (i+1) 0) m < 0
    · rw [decide_eq_true h,cond_true,if_pos h]
    · rw [decide_eq_false h,cond_false,if_neg h]
  · have e:x.length - 1+1=x.length:=by omega
    rw [e]
    simp only [nlt (Nat.le_refl x.length),cond_false]
    rw [List.take_of_length_le (by rw [List.length_tail]; omega)]
structure LotsOK (n:Nat) (lots:List Int):Prop where
  n1:1≤n
  n7:n≤7
  len:lots.length=n
  within:∀ c∈lots,∃ i:Nat,c=(i:Int)∧i < n
  nodup:lots.Nodup
theorem LotsOK.mem {n:Nat} {lots:List Int} (h:LotsOK n lots) {i:Nat} (hi:i < n):(i:Int)∈lots:=by
  refine Decidable.byContradiction fun hni=>?_
  have:=zil (n:=n) ((i:Int)::lots) (List.nodup_cons.2 ⟨hni,h.nodup⟩) (fun x hx=>by
    rcases List.mem_cons.1 hx with rfl | hx
    · omega
    · obtain ⟨j,rfl,hj⟩:=h.within x hx; omega)
  rw [List.length_cons,h.len] at this
  omega
theorem d185_eq {n:Nat} {ties:Int} {tied lots:List Int} (h1:1≤ties) (h3:ties≤3) (hl:LotsOK n lots) (ht:tied ≠ []) (hts:tied.Pairwise (· < ·)) (htb:∀ c∈tied,∃ i:Nat,c=(i:Int)∧i < n) (htl:tied.length≤1000):d185 ties tied lots=some true:=by
  have hn1:=hl.n1
  have hn7:=hl.n7
  have hp:=List.length_pos_iff.2 ht
  unfold d185
  rw [zay]
  simp only [hl.len,decide_eq_false (show ¬ ties < 1 by omega),decide_eq_false (show ¬ 3 < ties by omega),decide_eq_false (show ¬ (n:Int) < 1 by omega),decide_eq_false (show ¬ 7 < (n:Int) by omega),decide_eq_false (show ¬ (tied.length:Int)=0 by omega),Bool.not_false,cond_true,cond_false]
  refine zaf (fun i=>(tied,(n:Int),lst (fun v=>decide ((v:Int)∈lots.take i)) 7,lots,(n:Int),(i:Int))) n ?_ (fun i hi=>?_) (b:=.inl (tied,(n:Int))) ?_ ?_
  · simp only [List.take_zero,List.not_mem_nil,decide_false]; rfl
  · have hil:i < lots.length:=by rw [hl.len]; exact hi
    obtain ⟨c,hc,hcn⟩:=hl.within _ (zdk hil)
    have hnot:decide ((c:Int)∈lots.take i)=false:=decide_eq_false fun hm=>by
      have:=hl.nodup.sublist (List.take_sublist (i+1) lots)
      rw [zbm lots 0 hil,hc,List.nodup_append] at this
      exact this.2.2 _ hm _ (by simp) rfl
    simp only [dlt hi,hl.len,d0le,Bool.and_self,cond_true,tn,zay,hc,decide_eq_false (show ¬ (c:Int) < 0 by omega),decide_eq_false (show ¬ (n:Int)≤(c:Int) by omega),Bool.not_false,show decide ((c:Int) < 7)=true from decide_eq_true (by omega),zbi (fun v=>decide ((v:Int)∈lots.take i)) (show c < 7 by omega),hnot,cond_false,zgt,zcb (show i < 9223372036854775807 by omega)]
    have e:lst (upd (fun v=>decide ((v:Int)∈lots.take i)) c true) 7=lst (fun v=>decide ((v:Int)∈lots.take (i+1))) 7:=zcd fun v hv=>by
      rw [zbm lots 0 hil,hc]
      unfold upd
      by_cases hvc:v=c
      · subst hvc; simp
      · rw [if_neg hvc]
        refine decide_eq_decide.2 ?_
        rw [List.mem_append,List.mem_singleton]
        exact ⟨.inl,fun hm=>hm.resolve_right fun e=>hvc (Int.ofNat_inj.1 e)⟩
    rw [e]
  · simp only [nlt (Nat.le_refl n),cond_false]
  · simp only
    refine zaf (fun i=>(tied,(n:Int),tied,(tied.length:Int),(i:Int))) tied.length rfl (fun i hi=>?_) (b:=.inl ()) ?_ rfl
    · obtain ⟨c,hc,hcn⟩:=htb _ (zdk hi)
      simp only [dlt hi,d0le,Bool.and_self,cond_true,tn,zay,hc,decide_eq_false (show ¬ (c:Int) < 0 by omega),decide_eq_false (show ¬ (n:Int)≤(c:Int) by omega),Bool.not_false,zcb (show i < 9223372036854775807 by omega)]
      cases i with
      | zero=>rfl
      | succ i =>
        have hlt:tied.getD i 0 < tied.getD (i+1) 0:=by
          rw [List.getD_eq_getElem?_getD,List.getElem?_eq_getElem (by omega),List.getD_eq_getElem?_getD,List.getElem?_eq_getElem hi]
          exact List.pairwise_iff_getElem.1 hts i (i+1) (by omega) hi (by omega)
        rw [hc] at hlt
        simp only [show decide ((0:Int) < ((i+1:Nat):Int))=true from decide_eq_true (by omega),cond_true,wpred (show i < 9223372036854775807 by omega),d0le,dlt (show i < tied.length by omega),Bool.and_self,tn,decide_eq_false (show ¬ (c:Int)≤tied.getD i 0 by omega),cond_false]
    · simp only [nlt (Nat.le_refl tied.length),cond_false]
def RndOK (n:Nat) (r:List Rat):Prop:=r.length=n∧∀ q∈r,Bz eB q
theorem map_getD_rr {r:List Rat} {c:Nat} (h:c < r.length):(r.map rr).getD c (false,[],[])=rr (r.getD c 0):=by
  rw [List.getD_eq_getElem?_getD,List.getElem?_map,List.getElem?_eq_getElem h,List.getD_eq_getElem?_getD,List.getElem?_eq_getElem h]; rfl
theorem zcv {α:Type} {l:List α} {d:α} {i:Nat} (h:i < l.length):l.getD i d∈l:=by
  rw [List.getD_eq_getElem?_getD,List.getElem?_eq_getElem h]
  exact List.getElem_mem h
theorem RndOK.bz {n:Nat} {r:List Rat} (h:RndOK n r) {c:Nat} (hc:c < n):Bz eB (zbf r (c:Int)):=h.2 _ (zcv (by rw [h.1]; exact hc))
theorem d213_eq {n:Nat} {r:List Rat} (h:RndOK n r) {c:Nat} (hc:c < n):d213 (r.map rr) (c:Int)=some (rr (zbf r (c:Int))):=by
  have hc':c < r.length:=by rw [h.1]; exact hc
  unfold d213
  rw [List.length_map,dlt hc']
  simp only [cond_true,d0le,Bool.and_self,tn,map_getD_rr hc']
  rfl
theorem w_ord (least:Bool) (a b:Rat):(bif !least then w (0 - cmpQ a b) else cmpQ a b)=ordQ least a b:=by
  have:=cmpQ_bounds a b
  unfold ordQ
  cases least
  · rw [Bool.not_false,cond_true,zbr (by omega) (by omega)]; rfl
  · rfl
theorem zhi (l:List Int):l.getD 0 0=l.headD 0:=by cases l <;> rfl
theorem ext0_len (ρ:Int→Rat) (l:List Int):(ext0 ρ l).length≤l.length:=List.length_filter_le _ _
theorem d187_eq {n:Nat} {r:List Rat} (h:RndOK n r) {l:List Int} (hl:∀ c∈l,∃ i:Nat,c=(i:Int)∧i < n) (hll:l.length≤1000) (least:Bool):d187 l (r.map rr) least=some (extr least (zbf r) l):=by
  rw [extr_ext0]
  unfold d187
  refine zaf (fun i=>(r.map rr,least,ext0 (sgR least (zbf r)) (l.take i),l,(l.length:Int),(i:Int))) l.length rfl (fun i hi=>?_) (b:=ext0 (sgR least (zbf r)) l) ?_ rfl
  · obtain ⟨c,hc,hcn⟩:=hl _ (zdk hi)
    have hol:=ext0_len (sgR least (zbf r)) (l.take i)
    rw [List.length_take] at hol
    simp only [dlt hi,d0le,Bool.and_self,cond_true,tn,zay,hc,zcb (show i < 9223372036854775807 by omega)]
    rw [zbm l 0 hi,hc]
    by_cases hi0:l.take i=[]
    · rw [hi0,ext0_nil]
      have e:ext0 (sgR least (zbf r)) ([]++[(c:Int)])=[(c:Int)]:=by
        have:sgR least (zbf r) (c:Int)≤sgR least (zbf r) (c:Int):=Rat.le_refl
        simp [ext0,List.filter_cons,this]
      rw [e]
      simp only [show decide ((0:Int) < (([]:List Int).length:Int))=false from rfl,cond_false,show decide ((-1:Int)≤0)=true from rfl,cond_true,zdi (l:=([]:List Int)) (d:=(c:Int)) (by simp)]
      rfl
    · have hne:=ext0_ne (ρ:=sgR least (zbf r)) hi0
      have hpos:=List.length_pos_iff.2 hne
      obtain ⟨y,hy⟩:∃ y,(ext0 (sgR least (zbf r)) (l.take i)).headD 0=y:=⟨_,rfl⟩
      have hym:y∈l:=by
        have:=zgu hne
        rw [hy] at this
        exact List.mem_of_mem_take (zlc.1 this).1
      obtain ⟨d,rfl,hdn⟩:=hl _ hym
      rw [ext0_snoc _ _ hi0,hy]
      generalize ext0 (sgR least (zbf r)) (l.take i)=out at *
      have hlt1:=ordQ_lt least (zbf r) (c:Int) (d:Int)
      have heq1:=ordQ_eq least (zbf r) (c:Int) (d:Int)
      have hg0:(decide (0≤0) && decide ((0:Int) < (out.length:Int)))=true:=by
        rw [decide_eq_true (show (0:Int) < (out.length:Int) by omega)]; rfl
      have hg1:decide ((0:Int) < (out.length:Int))=true:=decide_eq_true (by omega)
      have hcut:zdb 0 0 out.length=true:=by
        unfold zdb
        simp only [Bool.and_eq_true,decide_eq_true_eq]
        omega
      have hb:=w_ord least (zbf r (c:Int)) (zbf r (d:Int))
      rw [hg0]
      simp only [hg1,cond_true,zhi,hy,d213_eq h hcn,d213_eq h hdn,Option.bind_some,d137_rr (h.bz hcn).sz2 (h.bz hdn).sz2,hcut,List.take_zero]
      have hcl:decide ((([]:List Int).length:Int)+(([(c:Int)]:List Int).length:Int)≤LIM)=true:=zdi (l:=([]:List Int)) (d:=(c:Int)) (by simp)
      have hol2:=zdi (l:=out) (d:=(c:Int)) (by omega)
      have key:∀ o:Int,o=ordQ least (zbf r (c:Int)) (zbf r (d:Int))→(bif decide (o < 0) then
          bif decide (o≤0) then
            bif decide ((([]:List Int).length:Int)+(([(c:Int)]:List Int).length:Int)≤LIM) then (some (Sum.inl (r.map rr,least,([]:List Int)++[(c:Int)],l,(l.length:Int),((i+1:Nat):Int))):Option ((List Rt × Bool × List Int × List Int × Int × Int) ⊕ List Int)) else none
          else some (Sum.inl (r.map rr,least,([]:List Int),l,(l.length:Int),((i+1:Nat):Int)))
        else
          bif decide (o≤0) then
            bif decide ((out.length:Int)+(([(c:Int)]:List Int).length:Int)≤LIM) then some (Sum.inl (r.map rr,least,out++[(c:Int)],l,(l.length:Int),((i+1:Nat):Int))) else none
          else some (Sum.inl (r.map rr,least,out,l,(l.length:Int),((i+1:Nat):Int))))=some (.inl (r.map rr,least,if sgR least (zbf r) (c:Int) < sgR least (zbf r) (d:Int) then [(c:Int)] else if sgR least (zbf r) (c:Int)=sgR least (zbf r) (d:Int) then out++[(c:Int)] else out,l,(l.length:Int),((i+1:Nat):Int))):=by
        intro o ho
        rw [← ho] at hlt1 heq1
        rw [hcl,hol2]
        by_cases c1:o < 0
        · rw [decide_eq_true c1] at hlt1
          rw [if_pos (of_decide_eq_true hlt1.symm),decide_eq_true c1,decide_eq_true (show o≤0 by omega)]; rfl
        · rw [decide_eq_false c1] at hlt1
          rw [if_neg (of_decide_eq_false hlt1.symm),decide_eq_false c1]
          by_cases c2:o=0
          · rw [decide_eq_true c2] at heq1
            rw [if_pos (of_decide_eq_true heq1.symm),decide_eq_true (show o≤0 by omega)]; rfl
          · rw [decide_eq_false c2] at heq1
            rw [if_neg (of_decide_eq_false heq1.symm),decide_eq_false (show ¬ o≤0 by omega)]; rfl
      cases least
      · rw [Bool.not_false,cond_true] at hb ⊢
        exact key _ hb
      · rw [Bool.not_true,cond_false] at hb ⊢
        exact key _ hb
  · simp only [nlt (Nat.le_refl l.length),cond_false,List.take_length]
theorem znq:∀ {least:Bool} {rs:List (List Rat)} {l:List Int},l.length≤1→tieL least rs l=l
  | _,[],_,_=>rfl
  | least,r::rs,l,h=>by
    show tieL least rs (if 1 < l.length then extr least (zbf r) l else l)=l
    rw [if_neg (by omega)]
    exact znq h
theorem tieL_snoc (least:Bool) (rs:List (List Rat)) (r:List Rat) (l:List Int):tieL least (rs++[r]) l=if 1 < (tieL least rs l).length then extr least (zbf r) (tieL least rs l) else tieL least rs l:=by
  unfold tieL
  rw [List.foldl_append]; rfl
theorem tieL_append (least:Bool) (rs rs':List (List Rat)) (l:List Int):tieL least (rs++rs') l=tieL least rs' (tieL least rs l):=by
  unfold tieL
  rw [List.foldl_append]
theorem extr_len (least:Bool) (r:Int→Rat) (l:List Int):(extr least r l).length≤l.length:=List.length_filter_le _ _
theorem zov:∀ (least:Bool) (rs:List (List Rat)) (l:List Int),(tieL least rs l).length≤l.length
  | _,[],_=>Nat.le_refl _
  | least,r::rs,l=>by
    show (tieL least rs (if 1 < l.length then extr least (zbf r) l else l)).length≤_
    refine Nat.le_trans (zov least rs _) ?_
    split
    · exact extr_len _ _ _
    · exact Nat.le_refl _
theorem d155_eq {n:Nat} {ties:Int} {E:List (List Rat)} {tied lots:List Int} {least:Bool} (h1:1≤ties) (h3:ties≤3) (hl:LotsOK n lots) (hE:∀ r∈E,RndOK n r) (hEl:E.length≤1000000) (ht:tied ≠ []) (hts:tied.Pairwise (· < ·)) (htb:∀ c∈tied,∃ i:Nat,c=(i:Int)∧i < n) (htl:tied.length≤1000) :
    ∃ b,d155 ties (E.map (List.map rr)) tied lots least=some (tieB ties E tied lots least,b,E.map (List.map rr)):=by
  have hcl:d186 tied=some tied:=by unfold d186; rw [zbx (by omega)]; rfl
  unfold d155
  rw [d185_eq h1 h3 hl ht hts htb htl]
  simp only [Option.bind_some,Bool.not_true,cond_false,hcl]
  have hfin:∀ left:List Int,left=tieL least (zam ties E) tied→∃ b,(bif (decide ((left.length:Int)=1)) then
      bif (decide (0≤0) && decide (0 < (left.length:Int))) then
        some ((List.getD left 0 0),false,E.map (List.map rr))
      else none
    else
      bif least then
        (d190 left (fun a a_1=>d188 a a_1 lots)).bind fun r_3 =>
        some (r_3,true,E.map (List.map rr))
      else
        (d191 left (fun a_2 a_3=>d188 a_2 a_3 lots)).bind fun r_4 =>
        some (r_4,true,E.map (List.map rr)))=some (tieB ties E tied lots least,b,E.map (List.map rr)):=by
    intro left hleft
    have hne:left ≠ []:=by rw [hleft]; exact zou ht
    have hlen:left.length≤tied.length:=by rw [hleft]; exact zov _ _ _
    have hlot:∀ a∈left,a∈lots:=fun a ha=>by
      rw [hleft] at ha
      obtain ⟨i,rfl,hi⟩:=htb _ (zid ha)
      exact hl.mem hi
    have hll:=hl.len
    have hn7:=hl.n7
    unfold tieB
    simp only [← hleft]
    by_cases hone:left.length=1
    · refine ⟨false,?_⟩
      rw [if_pos hone,hone,zhi]; rfl
    · refine ⟨true,?_⟩
      rw [if_neg hone,decide_eq_false (show ¬ (left.length:Int)=1 by omega),cond_false]
      have hc:∀ a∈left,∀ b∈left,d188 a b lots=some ((zav lots a:Int) - (zav lots b:Int)):=fun a ha b hb=>d188_eq (by omega) (hlot a ha) (hlot b hb)
      cases least
      · rw [cond_false,d191_eq hne (by omega) hc,Option.bind_some]
        unfold byLot
        simp only [Bool.false_eq_true,if_false]
        congr 3
        funext m c
        by_cases h:zav lots c < zav lots m
        · rw [if_pos h,if_pos (by omega)]
        · rw [if_neg h,if_neg (by omega)]
      · rw [cond_true,d190_eq hne (by omega) hc,Option.bind_some]
        unfold byLot
        simp only [if_true]
        congr 3
        funext m c
        by_cases h:zav lots m < zav lots c
        · rw [if_pos h,if_pos (by omega)]
        · rw [if_neg h,if_neg (by omega)]
  refine zes (Q:=fun r=>∃ b,r=some (tieB ties E tied lots least,b,E.map (List.map rr))) (fun (M:Nat) (st:Int × (List (List Rt)) × Bool × (List Int) × (List Int) × Int)=>∃ i:Nat,st=(ties,E.map (List.map rr),least,lots,tieL least ((zam ties E).take i) tied,(i:Int))∧i+M=E.length) E.length ⟨0,by rw [List.take_zero]; rfl,by omega⟩ ?_
  rintro M st ⟨i,rfl,hM⟩
  have hsub:∀ c∈tieL least ((zam ties E).take i) tied,∃ j:Nat,c=(j:Int)∧j < n:=fun c hc=>htb c (zid hc)
  have hlen:=zov least ((zam ties E).take i) tied
  obtain ⟨left,hleft⟩:∃ left,tieL least ((zam ties E).take i) tied=left:=⟨_,rfl⟩
  rw [hleft] at hsub hlen
  have hEm:(E.map (List.map rr)).length=E.length:=List.length_map ..
  simp only [hleft,hEm,zay]
  by_cases c3:ties=3
  · have hr:zam ties E=[]:=by unfold zam; rw [if_pos c3]
    have hq:left=tieL least (zam ties E) tied:=by rw [← hleft,hr,List.take_nil]
    have hd3:(!decide (ties=3))=false:=by rw [decide_eq_true c3]; rfl
    refine .inr ⟨(E.map (List.map rr),least,lots,left),?_,hfin left hq⟩
    rw [hd3]
    simp only [cond_false]
    cases decide ((i:Int) < (E.length:Int)) <;> cases decide (1 < (left.length:Int)) <;> rfl
  · have hd3:(!decide (ties=3))=true:=by rw [decide_eq_false c3]; rfl
    have hrl:(zam ties E).length=E.length:=by
      unfold zam
      rw [if_neg c3]
      split
      · exact List.length_reverse
      · rfl
    rw [hd3]
    rcases Nat.eq_zero_or_pos M with h0 | h0
    · have hq:left=tieL least (zam ties E) tied:=by rw [← hleft,List.take_of_length_le (by omega)]
      refine .inr ⟨(E.map (List.map rr),least,lots,left),?_,hfin left hq⟩
      simp only [nlt (show E.length≤i by omega),cond_false]
    · have hiE:i < E.length:=by omega
      by_cases hl1:1 < left.length
      · have hg:decide ((1:Int) < (left.length:Int))=true:=decide_eq_true (by omega)
        have key:∀ (r:List Rat) (z:List Rt),r∈E→(zam ties E).getD i []=r→z=r.map rr→d187 left z least=some (tieL least ((zam ties E).take (i+1)) tied):=by
          rintro r z hr hri rfl
          rw [d187_eq (hE r hr) hsub (by omega),zbm (zam ties E) [] (by omega),tieL_snoc,hleft,hri,if_pos hl1]
        refine .inl ⟨(ties,E.map (List.map rr),least,lots,tieL least ((zam ties E).take (i+1)) tied,((i+1:Nat):Int)),M - 1,?_,by omega,i+1,rfl,by omega⟩
        simp only [dlt hiE,hg,cond_true,d0le,Bool.and_self,tn,zcb (show i < 9223372036854775807 by omega)]
        by_cases c1:ties=1
        · have i1:w (w ((E.length:Int) - 1) - (i:Int))=((E.length - 1 - i:Nat):Int):=by
            rw [zbr (n:=(E.length:Int) - 1) (by omega) (by omega),zbr (by omega) (by omega)]; omega
          have hgr:(zam ties E).getD i []=E.getD (E.length - 1 - i) []:=by
            unfold zam
            rw [if_neg c3,if_pos c1]
            rw [List.getD_eq_getElem?_getD,List.getElem?_reverse hiE,List.getD_eq_getElem?_getD]
          have hz:(E.map (List.map rr)).getD (E.length - 1 - i) []=(E.getD (E.length - 1 - i) []).map rr:=by
            rw [List.getD_eq_getElem?_getD,List.getElem?_map,List.getElem?_eq_getElem (by omega),List.getD_eq_getElem?_getD,List.getElem?_eq_getElem (by omega)]; rfl
          simp only [decide_eq_true c1,cond_true,i1,d0le,dlt (show E.length - 1 - i < E.length by omega),Bool.and_self,tn]
          rw [key _ _ (zcv (by omega)) hgr hz]; rfl
        · have hgr:(zam ties E).getD i []=E.getD i []:=by
            unfold zam
            rw [if_neg c3,if_neg c1]
          have hz:(E.map (List.map rr)).getD i []=(E.getD i []).map rr:=by
            rw [List.getD_eq_getElem?_getD,List.getElem?_map,List.getElem?_eq_getElem hiE,List.getD_eq_getElem?_getD,List.getElem?_eq_getElem hiE]; rfl
          simp only [decide_eq_false c1,cond_false]
          rw [key _ _ (zcv (by omega)) hgr hz]; rfl
      · have hg:decide ((1:Int) < (left.length:Int))=false:=decide_eq_false (by omega)
        have hq:left=tieL least (zam ties E) tied:=by
          have e:=tieL_append least ((zam ties E).take i) ((zam ties E).drop i) tied
          rw [List.take_append_drop,hleft,znq (l:=left) (by omega)] at e
          exact e.symm
        refine .inr ⟨(E.map (List.map rr),least,lots,left),?_,hfin left hq⟩
        simp only [dlt hiE,hg,cond_true,cond_false]
end Go.Proofs.YtmipjomnjkmdbaaGreat
set_option linter.unusedSimpArgs false
set_option linter.unusedVariables false
namespace Go.Proofs.YtmipjomnjkmdbaaGreat
open Go Go.X
set_option maxHeartbeats 1000000 in
theorem d178_eq {c:CT} {lots:List Int} {tot q:Int} {pc:List (List Int × (Int × (Int × Rt)))} {stl:List Int} {kp:List Rt} {filled:Int} {E:List (List Rat)} {rest:Int × (Int × (Int × (Int × (List RD × List Int))))}
    {n:Nat} {v:Nat→Rat} {kk:List Rt} {qu ex su:Rt} {el ex2 ti cls:List Int} {ties:Int} {least:Bool} (hties:c.2.2.2.2.2.2.1=ties) (h1:1≤ties) (h3:ties≤3) (hl:LotsOK n lots) (hE:∀ r∈E,RndOK n r) (hEl:E.length≤1000000)
    (hv:∀ i,i < n→Bz eB (v i)) (hcn:cls ≠ []) (hcs:cls.Pairwise (· < ·)) (hcb:∀ x∈cls,∃ i:Nat,x=(i:Int)∧i < n) (hcl:cls.length≤1000) :
    d178 (c,lots,tot,q,pc,stl,kp,filled,E.map (List.map rr),rest) (lst (fun i=>rr (v i)) n,kk,qu,ex,su,el,ex2,ti) cls least
      = some (if (extr least (fun x=>v x.toNat) cls).length=1 then (extr least (fun x=>v x.toNat) cls).headD 0 else tieB ties E (extr least (fun x=>v x.toNat) cls) lots least,(c,lots,tot,q,pc,stl,kp,filled,E.map (List.map rr),rest),(lst (fun i=>rr (v i)) n,kk,qu,ex,su,el,ex2,if (extr least (fun x=>v x.toNat) cls).length=1 then ti else extr least (fun x=>v x.toNat) cls)):=by
  unfold d178
  obtain ⟨K,hK⟩:∃ K:KT,(c,lots,tot,q,pc,stl,kp,filled,E.map (List.map rr),rest)=K:=⟨_,rfl⟩
  obtain ⟨R,hR⟩:∃ R:RD,(lst (fun i=>rr (v i)) n,kk,qu,ex,su,el,ex2,ti)=R:=⟨_,rfl⟩
  have hR1:R.1=lst (fun i=>rr (v i)) n:=by rw [← hR]
  rw [hK,hR]
  refine zaf (fun i=>(K,R,least,ext0 (sgR least (fun x=>v x.toNat)) (cls.take i),cls,(cls.length:Int),(i:Int))) cls.length rfl (fun i hi=>?_) (b:=(K,R,least,ext0 (sgR least (fun x=>v x.toNat)) cls)) ?_ ?_
  · obtain ⟨c,hc,hcn⟩:=hcb _ (zdk hi)
    have hol:=ext0_len (sgR least (fun x=>v x.toNat)) (cls.take i)
    rw [List.length_take] at hol
    simp only [dlt hi,d0le,Bool.and_self,cond_true,tn,zay,hc,zcb (show i < 9223372036854775807 by omega)]
    rw [zbm cls 0 hi,hc]
    by_cases hi0:cls.take i=[]
    · rw [hi0,ext0_nil]
      have e:ext0 (sgR least (fun x=>v x.toNat)) ([]++[(c:Int)])=[(c:Int)]:=by
        have:sgR least (fun x=>v x.toNat) (c:Int)≤sgR least (fun x=>v x.toNat) (c:Int):=Rat.le_refl
        simp [ext0,List.filter_cons,this]
      rw [e]
      rfl
    · have hne:=ext0_ne (ρ:=sgR least (fun x=>v x.toNat)) hi0
      have hpos:=List.length_pos_iff.2 hne
      obtain ⟨y,hy⟩:∃ y,(ext0 (sgR least (fun x=>v x.toNat)) (cls.take i)).headD 0=y:=⟨_,rfl⟩
      have hym:y∈cls:=by
        have:=zgu hne
        rw [hy] at this
        exact List.mem_of_mem_take (zlc.1 this).1
      obtain ⟨d,rfl,hdn⟩:=hcb _ hym
      rw [ext0_snoc _ _ hi0,hy]
      generalize ext0 (sgR least (fun x=>v x.toNat)) (cls.take i)=out at *
      have hlt1:ordQ least (v c) (v d) < 0↔sgR least (fun x=>v x.toNat) (c:Int) < sgR least (fun x=>v x.toNat) (d:Int):=decide_eq_decide.1 (ordQ_lt least (fun x=>v x.toNat) (c:Int) (d:Int))
      have heq1:ordQ least (v c) (v d)=0↔sgR least (fun x=>v x.toNat) (c:Int)=sgR least (fun x=>v x.toNat) (d:Int):=decide_eq_decide.1 (ordQ_eq least (fun x=>v x.toNat) (c:Int) (d:Int))
      have hg0:(decide (0≤0) && decide ((0:Int) < (out.length:Int)))=true:=by
        rw [decide_eq_true (show (0:Int) < (out.length:Int) by omega)]; rfl
      have hg1:decide ((0:Int) < (out.length:Int))=true:=decide_eq_true (by omega)
      have hb:=w_ord least (v c) (v d)
      rw [hg0]
      have hol2:=zdi (l:=out) (d:=(c:Int)) (by omega)
      simp only [hg1,cond_true,zhi,hy,d0le,tn,hR1,zaz,dlt hcn,dlt hdn,Bool.and_self,zbi (fun i=>rr (v i)) hcn,zbi (fun i=>rr (v i)) hdn,d137_rr (hv c hcn).sz2 (hv d hdn).sz2,Option.bind_some,hol2]
      have key:∀ o:Int,o=ordQ least (v c) (v d)→(bif decide (o < 0) then
          (some (Sum.inl (K,R,least,[(c:Int)],cls,(cls.length:Int),((i+1:Nat):Int))):Option ((KT × RD × Bool × List Int × List Int × Int × Int) ⊕ (KT × RD × Bool × List Int)))
        else
          bif decide (o=0) then some (Sum.inl (K,R,least,out++[(c:Int)],cls,(cls.length:Int),((i+1:Nat):Int)))
          else some (Sum.inl (K,R,least,out,cls,(cls.length:Int),((i+1:Nat):Int))))=some (.inl (K,R,least,if sgR least (fun x=>v x.toNat) (c:Int) < sgR least (fun x=>v x.toNat) (d:Int) then [(c:Int)] else if sgR least (fun x=>v x.toNat) (c:Int)=sgR least (fun x=>v x.toNat) (d:Int) then out++[(c:Int)] else out,cls,(cls.length:Int),((i+1:Nat):Int))):=by
        intro o ho
        rw [← ho] at hlt1 heq1
        by_cases c1:o < 0
        · rw [if_pos (hlt1.1 c1),decide_eq_true c1]; rfl
        · rw [if_neg fun h=>c1 (hlt1.2 h),decide_eq_false c1]
          by_cases c2:o=0
          · rw [if_pos (heq1.1 c2),decide_eq_true c2]; rfl
          · rw [if_neg fun h=>c2 (heq1.2 h),decide_eq_false c2]; rfl
      cases least
      · rw [Bool.not_false,cond_true] at hb ⊢
        exact key _ hb
      · rw [Bool.not_true,cond_false] at hb ⊢
        exact key _ hb
  · simp only [nlt (Nat.le_refl cls.length),cond_false,List.take_length]
  · rw [← extr_ext0]
    have htne:extr least (fun x=>v x.toNat) cls ≠ []:=extr_ne hcn
    have htl:=extr_len least (fun x=>v x.toNat) cls
    have hts:(extr least (fun x=>v x.toNat) cls).Pairwise (· < ·):=hcs.sublist List.filter_sublist
    have htb:∀ x∈extr least (fun x=>v x.toNat) cls,∃ i:Nat,x=(i:Int)∧i < n:=fun x hx=>hcb x (extr_sub hx)
    generalize extr least (fun x=>v x.toNat) cls=tied at *
    by_cases hone:tied.length=1
    · simp only [if_pos hone]
      rw [hone,zhi,← hR]; rfl
    · simp only [if_neg hone]
      rw [decide_eq_false (show ¬ (tied.length:Int)=1 by omega),cond_false]
      obtain ⟨b,hb⟩:=d155_eq (least:=least) h1 h3 hl hE hEl htne hts htb (by omega)
      simp only [← hK,← hR,hties,hb,Option.bind_some]
theorem zit {a b c d:Nat} (hb:0 < b) (hd:0 < d):frac a b * frac c d=frac (a * c) (b * d):=by
  unfold frac
  have h1:(b:Rat) ≠ 0:=by
    have:(0:Rat) < (b:Rat):=by exact_mod_cast hb
    intro e
    rw [e] at this
    exact absurd this (by decide)
  have h2:(d:Rat) ≠ 0:=by
    have:(0:Rat) < (d:Rat):=by exact_mod_cast hd
    intro e
    rw [e] at this
    exact absurd this (by decide)
  rw [Rat.natCast_mul,Rat.natCast_mul]
  grind
theorem frac_cancel {a b c:Nat} (hb:0 < b) (hc:0 < c):frac (a * c) (b * c)=frac a b:=by
  rw [← zit hb hc]
  have:frac c c=1:=by
    have:=zis (q:=1) hc
    rw [Nat.one_mul] at this
    exact this
  rw [this,Rat.mul_one]
theorem nxt_congr {p:List Int} {st st':Nat→Nat} (h:∀ i,st i=0↔st' i=0) (k:Nat):nxt p st k=nxt p st' k:=by
  unfold nxt
  congr 3
  funext c
  exact decide_eq_decide.2 (not_congr (h _))
theorem upd_upd {α:Type} (f:Nat→α) (i:Nat) (x y:α):upd (upd f i x) i y=upd f i y:=by
  funext j; unfold upd; split <;> rfl
variable {P:GP} {s:GS}
set_option maxHeartbeats 1000000 in
theorem d180_eq (hP:P.OK) (hI:GI P s) (hG:P.G≤1000000) {c:CT} {lots:List Int} {tot q:Int} {kp:List Rt} {filled:Int} {rest:List (List Rt) × (Int × (Int × (Int × (Int × (List RD × List Int)))))}
    {st st':Nat→Nat} {keep:Nat→Rat} {x a b:Nat} (hst:∀ i,st i=0↔st' i=0) (hb:0 < b) (hab:Bz eB (frac a b)) :
    d180 (c,lots,tot,q,lst (parc P s) P.G,lst (fun i=>(st i:Int)) P.n,kp,filled,rest) (x:Int) (rr (frac a b))
      = some (c,lots,tot,q,lst (parc P (s.move P st' keep x a b)) P.G,lst (fun i=>(st i:Int)) P.n,kp,filled,rest):=by
  unfold d180
  simp only [zaz]
  refine zaf (fun g=>((c,lots,tot,q,lst (fun j=>if j < g then parc P (s.move P st' keep x a b) j else parc P s j) P.G,lst (fun i=>(st i:Int)) P.n,kp,filled,rest),(x:Int),rr (frac a b),(P.G:Int),(g:Int))) P.G ?_ (fun g hg=>?_) (b:=(c,lots,tot,q,lst (parc P (s.move P st' keep x a b)) P.G,lst (fun i=>(st i:Int)) P.n,kp,filled,rest)) ?_ rfl
  · rfl
  · have hgF:(fun j=>if j < g then parc P (s.move P st' keep x a b) j else parc P s j) g=parc P s g:=by simp
    have hnext:upd (fun j=>if j < g then parc P (s.move P st' keep x a b) j else parc P s j) g (parc P (s.move P st' keep x a b) g)=fun j=>if j < g+1 then parc P (s.move P st' keep x a b) j else parc P s j:=by
      funext j
      unfold upd
      by_cases h:j=g
      · subst h; rw [if_pos rfl,if_pos (by omega)]
      · rw [if_neg h]
        show (if j < g then parc P (s.move P st' keep x a b) j else parc P s j)=_
        by_cases h2:j < g
        · rw [if_pos h2,if_pos (by omega)]
        · rw [if_neg h2,if_neg (by omega)]
    have hplen:=hP.plen g hg
    generalize (fun j=>if j < g then parc P (s.move P st' keep x a b) j else parc P s j)=F at hgF hnext ⊢
    have hw:w ((g:Int)+1)=((g+1:Nat):Int):=by rw [zbr (by omega) (by omega)]; omega
    have stay:s.on P g x=false→lst F P.G=lst (fun j=>if j < g+1 then parc P (s.move P st' keep x a b) j else parc P s j) P.G:=fun h=>by
      rw [← hnext]
      refine zcd fun i hi=>?_
      unfold upd
      by_cases hig:i=g
      · subst hig
        rw [if_pos rfl,hgF]
        unfold parc
        have e1:(s.move P st' keep x a b).at_ i=s.at_ i:=by
          show (if s.on P i x then _ else s.at_ i)=_
          rw [h]; rfl
        have e2:(s.move P st' keep x a b).num i=s.num i * b:=by
          show (if s.on P i x then _ else s.num i * b)=_
          rw [h]; rfl
        have e3:(s.move P st' keep x a b).D=s.D * b:=rfl
        rw [e1,e2,e3,frac_cancel hI.D0 hb]
      · rw [if_neg hig]
    simp only [dlt hg,d0le,zaz,Bool.and_self,cond_true,tn,zay,zbi F hg,hgF,parc,Int.toNat_natCast,hw]
    by_cases ha:s.at_ g < (P.p g).length
    · obtain ⟨d,d1,d2⟩:=GS.on_ex hP hg ha
      have d3:=GS.on_at d2
      rw [show decide (((P.p g).length:Int)≤(s.at_ g:Int))=false from decide_eq_false (by omega)]
      simp only [Bool.not_false,cond_true,dlt ha,d0le,Bool.and_self,d3,zqb,tn]
      by_cases hdx:d=x
      · subst hdx
        simp only [decide_true,Bool.not_true,cond_false]
        rw [d172_rr (num_small hP hI hg).sz2 hab.sz2,Option.bind_some,zit hI.D0 hb]
        simp only [zgt,zbi (upd F g _) hg,zcg,upd_upd,zcb (show s.at_ g < 9223372036854775807 by omega)]
        have hn1:=nxt_ge (P.p g) st (s.at_ g+1)
        have hn2:=nxt_le st (show s.at_ g+1≤(P.p g).length by omega)
        refine zaf (fun m=>((c,lots,tot,q,lst (upd F g (P.p g,(P.k g:Int),((s.at_ g+1+m:Nat):Int),rr (frac (s.num g * a) (s.D * b)))) P.G,lst (fun i=>(st i:Int)) P.n,kp,filled,rest),(d:Int),rr (frac a b),(g:Int),(P.G:Int),(g:Int))) (nxt (P.p g) st (s.at_ g+1) - (s.at_ g+1)) ?_ (fun m hm=>?_) (b:=((c,lots,tot,q,lst (upd F g (P.p g,(P.k g:Int),((nxt (P.p g) st (s.at_ g+1):Nat):Int),rr (frac (s.num g * a) (s.D * b)))) P.G,lst (fun i=>(st i:Int)) P.n,kp,filled,rest),(d:Int),rr (frac a b),(P.G:Int),(g:Int))) ?_ ?_
        · rfl
        · have hlt:s.at_ g+1+m < (P.p g).length:=by omega
          obtain ⟨e,e1,e2⟩:=hP.prefs g hg _ (zdk hlt)
          have hbf:=nxt_before (p:=P.p g) (st:=st) (k:=s.at_ g+1) (i:=s.at_ g+1+m) (by omega) (by omega)
          rw [e1,Int.toNat_natCast] at hbf
          have hd0:decide ((st e:Int)=0)=false:=decide_eq_false (by omega)
          simp only [zbi (upd F g _) hg,zcg,dlt hlt,d0le,Bool.and_self,cond_true,tn,e1,zaz,dlt e2,zbi (fun i=>(st i:Int)) e2,hd0,Bool.not_false,zgt,upd_upd,zcb (show s.at_ g+1+m < 9223372036854775807 by omega)]
          rfl
        · obtain ⟨N,hN⟩:∃ N,nxt (P.p g) st (s.at_ g+1)=N:=⟨_,rfl⟩
          rw [hN] at hn1 hn2 ⊢
          rw [show s.at_ g+1+(N - (s.at_ g+1))=N by omega]
          by_cases hlt:N < (P.p g).length
          · obtain ⟨e,e1,e2⟩:=hP.prefs g hg _ (zdk hlt)
            have hat:=nxt_at (p:=P.p g) (st:=st) (k:=s.at_ g+1) (by rw [hN]; exact hlt)
            rw [hN,e1,Int.toNat_natCast] at hat
            have hd0:decide ((st e:Int)=0)=true:=decide_eq_true (by omega)
            simp only [zbi (upd F g _) hg,zcg,dlt hlt,d0le,Bool.and_self,cond_true,cond_false,tn,e1,zaz,dlt e2,zbi (fun i=>(st i:Int)) e2,hd0,Bool.not_true]
          · simp only [zbi (upd F g _) hg,zcg,tn,nlt (show (P.p g).length≤N by omega),cond_false]
        · have e:(P.p g,(P.k g:Int),((nxt (P.p g) st (s.at_ g+1):Nat):Int),rr (frac (s.num g * a) (s.D * b)))=parc P (s.move P st' keep d a b) g:=by
            unfold parc
            have e1:(s.move P st' keep d a b).at_ g=nxt (P.p g) st (s.at_ g+1):=by
              show (if s.on P g d then _ else s.at_ g)=_
              rw [d2,nxt_congr hst]; rfl
            have e2:(s.move P st' keep d a b).num g=s.num g * a:=by
              show (if s.on P g d then s.num g * a else _)=_
              rw [d2]; rfl
            have e3:(s.move P st' keep d a b).D=s.D * b:=rfl
            rw [e1,e2,e3]
          rw [e,hnext]
          simp only [hw]
          rfl
      · have hoff:s.on P g x=false:=by
          cases h:s.on P g x
          · rfl
          · exact absurd (GS.on_uniq d2 h) hdx
        simp only [decide_eq_false hdx,Bool.not_false,cond_true]
        rw [stay hoff]
        rfl
    · have hoff:s.on P g x=false:=by
        cases h:s.on P g x
        · rfl
        · exact absurd (GS.on_lt h) ha
      rw [show decide (((P.p g).length:Int)≤(s.at_ g:Int))=true from decide_eq_true (by omega)]
      simp only [Bool.not_true,cond_false,cond_true]
      rw [stay hoff]
      rfl
  · have e:lst (fun j=>if j < P.G then parc P (s.move P st' keep x a b) j else parc P s j) P.G=lst (parc P (s.move P st' keep x a b)) P.G:=zcd fun i hi=>if_pos hi
    simp only [nlt (Nat.le_refl P.G),cond_false,e]
end Go.Proofs.YtmipjomnjkmdbaaGreat
set_option linter.unusedSimpArgs false
set_option linter.unusedVariables false
namespace Go.Proofs.YtmipjomnjkmdbaaGreat
open Go Go.X
def rdT (r:Rd):RD:=(r.votes.map rr,r.keep.map rr,rr r.quota,rr r.exh,rr r.sur,r.el,r.ex,r.ti)
def KTof (P:GP) (c:CT) (s:GS) (st:Nat→Nat) (fl:Nat) (rs:List Rd):KT :=
  (c,P.lots,(P.tot:Int),(P.q:Int),lst (parc P s) P.G,lst (fun i=>(st i:Int)) P.n,lst (fun i=>rr (s.keep i)) P.n,(fl:Int),(rs.map Rd.votes).map (List.map rr),3,(P.seats:Int),0,(P.n:Int),rs.map rdT,rs.flatMap Rd.el)
variable {P:GP} {s:GS}
theorem zly (p:Nat→Bool) (g:Int→Bool) (n:Nat):(selI p n).filter g=selI (fun i=>p i && g (i:Int)) n:=by
  unfold selI
  rw [List.filter_map,← selN_filter]
  rfl
theorem sum_sel (p:Nat→Bool) (f:Nat→Nat):∀ n:Nat,((selN p n).map f).sum=sumN (fun i=>if p i then f i else 0) n
  | 0=>rfl
  | n+1=>by
    rw [zlw,List.map_append,List.sum_append,sum_sel p f n,sumN]
    congr 1
    cases p n <;> simp
theorem sum_take_le (l:List Nat) (j:Nat):(l.take j).sum≤l.sum:=by
  conv=>rhs; rw [← List.take_append_drop j l]
  rw [List.sum_append]
  omega
theorem zmz (hI:GI P s):cntN (fun i=>decide (s.st i=1)) P.n+cntN (fun i=>decide (s.st i=2)) P.n+cntN (s.el1 P) P.n=s.e1 P+s.e2 P:=by
  unfold cntN GS.e1 GS.e2 cntN
  rw [← zcq,← zcq,← zcq]
  refine zaw fun i hi=>?_
  rcases zbn (P:=P) (s:=s) i with ⟨h0,h1,h2,_⟩ | ⟨h0,h2⟩
  · simp [h0,h1,h2]
  · simp [h2,h0]
theorem tied_eq (hI:GI P s) (st:Nat→Nat) (c:Nat) (most:Bool):extr (!most) (fun x=>frac (s.vt P x.toNat) s.D) (selI (fun i=>decide (st i=c)) P.n)=selI (zng P (s.vt P) st c most) P.n:=by
  unfold extr
  rw [zly]
  refine zjl fun i hi=>?_
  unfold zng
  congr 1
  rw [Bool.eq_iff_iff,List.all_eq_true,List.all_eq_true]
  constructor
  · intro h k hk
    by_cases hc:st k=c
    · have:=h (k:Int) (zbk.2 ⟨k,rfl,List.mem_range.1 hk,decide_eq_true hc⟩)
      cases most
      · simpa [hc,zmm hI.D0] using this
      · simpa [hc,zmm hI.D0] using this
    · simp [hc]
  · intro h x hx
    obtain ⟨k,rfl,hk,hc⟩:=zbk.1 hx
    have:=h k (List.mem_range.2 hk)
    rw [hc] at this
    cases most
    · simpa [zmm hI.D0] using this
    · simpa [zmm hI.D0] using this
theorem frac_div (hD:0 < s.D) {a b:Nat} (hb:0 < b):frac a s.D / frac b s.D=frac a b:=by
  unfold frac
  have h1:(s.D:Rat) ≠ 0:=by
    have:(0:Rat) < (s.D:Rat):=by exact_mod_cast hD
    intro e
    rw [e] at this
    exact absurd this (by decide)
  have h2:(b:Rat) ≠ 0:=by
    have:(0:Rat) < (b:Rat):=by exact_mod_cast hb
    intro e
    rw [e] at this
    exact absurd this (by decide)
  grind
theorem frac_pos {a b:Nat} (ha:0 < a) (hb:0 < b):0 < frac a b:=by
  have:=(frac_lt (a:=0) (b:=a) hb).2 ha
  have e:frac 0 b=0:=by unfold frac; rw [Rat.div_def]; simp
  rwa [e] at this
structure RsOK (P:GP) (s:GS) (rs:List Rd):Prop where
  rnd:∀ r∈rs,RndOK P.n r.votes∧r.el.length≤7
  len:rs.length≤7
  keep:∀ i,i < P.n→Bz eB (s.keep i)
theorem lotsOK (hP:P.OK):LotsOK P.n P.lots:=⟨hP.n1,hP.n7,hP.lotn,hP.lots,hP.lotd⟩
theorem flat_len:∀ {rs:List Rd},(∀ r∈rs,r.el.length≤7)→(rs.flatMap Rd.el).length≤7 * rs.length
  | [],_=>by simp
  | r::rs,h=>by
    rw [List.flatMap_cons,List.length_append,List.length_cons]
    have:=flat_len (rs:=rs) fun x hx=>h x (List.mem_cons_of_mem _ hx)
    have:=h r (by simp)
    omega
theorem votes_rnd (hP:P.OK) (hI:GI P s):RndOK P.n (lst (fun i=>frac (s.vt P i) s.D) P.n):=⟨zaz _ _,fun q hq=>by
  obtain ⟨i,hi,rfl⟩:=mem_lst.1 hq
  exact zbe hP hI (zos hP hI hi)⟩
theorem bz_zero:Bz eB (0:Rat):=by
  have:=bz_nat (n:=0) (by decide)
  exact this
def zcj (P:GP) (s:GS) (el:List Int):RD:=(lst (fun i=>rr (frac (s.vt P i) s.D)) P.n,lst (fun i=>rr (s.keep i)) P.n,rr (P.q:Rat),rr (frac (P.tot * s.D - sumN (s.vt P) P.n) s.D),rr (frac (sumN (fun i=>if s.st1 P i=1 then s.vt P i - s.bar P else 0) P.n) s.D),el,[],[])
theorem sur_le (hP:P.OK) (hI:GI P s):sumN (fun i=>if s.st1 P i=1 then s.vt P i - s.bar P else 0) P.n≤P.tot * s.D :=
  Nat.le_trans (zji fun i _=>by split <;> omega) (zjc hP hI)
theorem q_frac (hI:GI P s):(P.q:Rat)=frac (s.bar P) s.D:=(zis hI.D0).symm
theorem bar_le (hP:P.OK) (hI:GI P s):Bz eB (frac (s.bar P) s.D):=by rw [← q_frac hI]; exact zmc hP
theorem d136_eq (hP:P.OK) (hI:GI P s) {c:Nat} (hc:c < P.n) {r:RD} (h1:r.1=lst (fun i=>rr (frac (s.vt P i) s.D)) P.n) (h2:r.2.2.1=rr (P.q:Rat)):d136 (c:Int) r=some (decide (s.vt P c < s.bar P)):=by
  unfold d136
  simp only [h1,h2,zaz,d0le,dlt hc,Bool.and_self,cond_true,tn,zbi (fun i=>rr (frac (s.vt P i) s.D)) hc]
  rw [d137_rr (zbe hP hI (zos hP hI hc)).sz2 (zmc hP).sz2,Option.bind_some,q_frac hI]
  congr 1
  refine decide_eq_decide.2 ?_
  rw [← frac_lt hI.D0]
  unfold cmpQ
  by_cases h:frac (s.vt P c) s.D < frac (s.bar P) s.D
  · rw [if_pos h]; exact ⟨fun _=>h,fun _=>by omega⟩
  · rw [if_neg h]; exact ⟨fun hc=>by split at hc <;> omega,fun hc=>absurd hc h⟩
set_option maxHeartbeats 1000000 in
theorem d139_eq (hP:P.OK) (hI:GI P s) (hG:P.G≤1000000) {rs:List Rd} (hR:RsOK P s rs) {c:CT} (hc:c.2.2.2.2.2.2.1=P.ties) (fl:Nat) (hf:s.fin P=false) (hm:s.most P=true) (el:List Int) :
    d139 (KTof P c s (s.st1 P) fl rs) (zcj P s el)=some (KTof P c (s.trans P (rs.map Rd.votes)) (s.trans P (rs.map Rd.votes)).st fl rs,(zcj P s el).1,(zcj P s el).2.1,(zcj P s el).2.2.1,(zcj P s el).2.2.2.1,(zcj P s el).2.2.2.2.1,el,[],s.tiedR P):=by
  have hn7:=hP.n7
  have hq5:=hP.q5
  obtain ⟨x,x1,x2,x3⟩:=zel hP hI hf (rs.map Rd.votes)
  rw [hm,if_pos rfl] at x3
  obtain ⟨_,k2,k3⟩:=zlq hI x2 x3
  have hb:=bar_pos hP hI
  have hvx:=zos hP hI x2
  have htie:extr false (fun x=>frac (s.vt P x.toNat) s.D) (selI (fun i=>decide (s.st1 P i=1)) P.n)=s.tied P:=by
    have:=tied_eq hI (s.st1 P) 1 true
    unfold GS.tied
    rw [hm]
    exact this
  have hcls:selI (fun i=>decide (s.st1 P i=1)) P.n ≠ []:=List.ne_nil_of_mem (zbk.2 ⟨x,rfl,x2,decide_eq_true x3⟩)
  have hcl:(selI (fun i=>decide (s.st1 P i=1)) P.n).length≤1000:=by rw [zbs]; have:=zcf (fun i=>decide (s.st1 P i=1)) P.n; omega
  unfold d139
  rw [show d135 (KTof P c s (s.st1 P) fl rs) 1=some (selI (fun i=>decide (s.st1 P i=1)) P.n) from zjz (k:=KTof P c s (s.st1 P) fl rs) rfl (by omega) 1]
  have hd:=d178_eq (c:=c) (lots:=P.lots) (tot:=(P.tot:Int)) (q:=(P.q:Int)) (pc:=lst (parc P s) P.G) (stl:=lst (fun i=>(s.st1 P i:Int)) P.n) (kp:=lst (fun i=>rr (s.keep i)) P.n) (filled:=(fl:Int)) (E:=rs.map Rd.votes) (rest:=(3,(P.seats:Int),0,(P.n:Int),rs.map rdT,rs.flatMap Rd.el)) (v:=fun i=>frac (s.vt P i) s.D) (kk:=(zcj P s el).2.1) (qu:=(zcj P s el).2.2.1) (ex:=(zcj P s el).2.2.2.1) (su:=(zcj P s el).2.2.2.2.1) (el:=el) (ex2:=[]) (ti:=[]) (least:=false) hc (by have:=hP.ties1; omega) hP.ties3 (lotsOK hP) (fun r hr=>by
      obtain ⟨r',h1,rfl⟩:=List.mem_map.1 hr
      exact (hR.rnd r' h1).1) (by rw [List.length_map]; have:=hR.len; omega) (fun i hi=>zbe hP hI (zos hP hI hi)) hcls (zdm _ _) (fun y hy=>by
      obtain ⟨i,h1,h2,_⟩:=zbk.1 hy
      exact ⟨i,h1,h2⟩) hcl
  rw [htie] at hd
  have hpick:(if (s.tied P).length=1 then (s.tied P).headD 0 else tieB P.ties (rs.map Rd.votes) (s.tied P) P.lots false)=(x:Int):=by
    rw [← x1]; unfold GS.pick; rw [hm]; rfl
  rw [hpick] at hd
  rw [Option.bind_some,show d178 (KTof P c s (s.st1 P) fl rs) (zcj P s el) (selI (fun i=>decide (s.st1 P i=1)) P.n) false=_ from hd,Option.bind_some]
  have hbz:Bz eB (frac (s.vt P x - s.bar P) (s.vt P x)):=zjw (zha hP hI (by omega)) (zha hP hI hvx) (by decide)
  have h180:=d180_eq (keep:=upd s.keep x (frac (s.vt P x - s.bar P) (s.vt P x))) hP hI hG (c:=c) (lots:=P.lots) (tot:=(P.tot:Int)) (q:=(P.q:Int)) (kp:=lst (fun i=>rr (s.keep i)) P.n) (filled:=(fl:Int)) (rest:=((rs.map Rd.votes).map (List.map rr),3,(P.seats:Int),0,(P.n:Int),rs.map rdT,rs.flatMap Rd.el)) (st:=s.st1 P) (st':=upd (s.st1 P) x 2) (x:=x) (a:=s.vt P x - s.bar P) (b:=s.vt P x) (fun i=>by
    unfold upd
    by_cases h:i=x
    · subst h; rw [if_pos rfl,x3]; omega
    · rw [if_neg h]) (by omega) hbz
  simp only [d0le,zaz,dlt x2,Bool.and_self,cond_true,tn,zbi (fun i=>rr (frac (s.vt P i) s.D)) x2,zmu (show P.q≤9223372036854775807 by omega),Option.bind_some,zmw (zbe hP hI hvx).sz2 (zmc hP).sz2,q_frac hI,zla hI.D0 k3]
  have hdiv:d179 (rr (frac (s.vt P x - s.bar P) s.D)) (rr (frac (s.vt P x) s.D))=some (rr (frac (s.vt P x - s.bar P) (s.vt P x)),true):=by
    rw [d179_rr (zbe hP hI (by omega)).sz2 (zbe hP hI hvx).sz2 (frac_pos (by omega) hI.D0),frac_div hI.D0 (by omega)]
  have hd132:d132 (rr (frac (s.vt P x) s.D)) (rr (frac (s.bar P) s.D))=some (rr (frac (s.vt P x - s.bar P) s.D)):=by
    rw [zmw (zbe hP hI hvx).sz2 (bar_le hP hI).sz2,zla hI.D0 k3]
  rw [hd132,Option.bind_some,hdiv,Option.bind_some]
  simp only [h180,Option.bind_some,zaz,dlt x2,cond_true,zgt]
  have hxn:(s.pick P (rs.map Rd.votes)).toNat=x:=by rw [x1]; rfl
  congr 1
  unfold KTof GS.trans GS.tiedR zcj
  simp only [hxn]
  have e1:lst (upd (fun i=>(s.st1 P i:Int)) x 2) P.n=lst (fun i=>((s.move P (upd (s.st1 P) x 2) (upd s.keep x (frac (s.vt P x - s.bar P) (s.vt P x))) x (s.vt P x - s.bar P) (s.vt P x)).st i:Int)) P.n:=zcd fun i hi=>by
    show upd (fun i=>(s.st1 P i:Int)) x 2 i=((upd (s.st1 P) x 2 i:Nat):Int)
    unfold upd; split <;> rfl
  have e2:lst (upd (fun i=>rr (s.keep i)) x (rr (frac (s.vt P x - s.bar P) (s.vt P x)))) P.n=lst (fun i=>rr ((s.move P (upd (s.st1 P) x 2) (upd s.keep x (frac (s.vt P x - s.bar P) (s.vt P x))) x (s.vt P x - s.bar P) (s.vt P x)).keep i)) P.n:=zcd fun i hi=>by
    show upd (fun i=>rr (s.keep i)) x _ i=rr (upd s.keep x _ i)
    unfold upd; split <;> rfl
  rw [e1,e2,q_frac hI]
  rfl
set_option maxHeartbeats 1000000 in
theorem d140_eq (hP:P.OK) (hI:GI P s) (hG:P.G≤1000000) {rs:List Rd} (hR:RsOK P s rs) {c:CT} (hc:c.2.2.2.2.2.2.1=P.ties) (fl:Nat) (hf:s.fin P=false) (hm:s.most P=false) (el:List Int) :
    d140 (KTof P c s (s.st1 P) fl rs) (zcj P s el)=some (KTof P c (s.excl P (rs.map Rd.votes)) (s.excl P (rs.map Rd.votes)).st fl rs,(zcj P s el).1,(zcj P s el).2.1,(zcj P s el).2.2.1,(zcj P s el).2.2.2.1,(zcj P s el).2.2.2.2.1,el,[s.pick P (rs.map Rd.votes)],s.tiedR P):=by
  have hn7:=hP.n7
  obtain ⟨x,x1,x2,x3⟩:=zel hP hI hf (rs.map Rd.votes)
  rw [hm] at x3
  have x3':s.st1 P x=0:=by simpa using x3
  have htie:extr true (fun x=>frac (s.vt P x.toNat) s.D) (selI (fun i=>decide (s.st1 P i=0)) P.n)=s.tied P:=by
    have:=tied_eq hI (s.st1 P) 0 false
    unfold GS.tied
    rw [hm]
    exact this
  have hcls:selI (fun i=>decide (s.st1 P i=0)) P.n ≠ []:=List.ne_nil_of_mem (zbk.2 ⟨x,rfl,x2,decide_eq_true x3'⟩)
  have hcl:(selI (fun i=>decide (s.st1 P i=0)) P.n).length≤1000:=by rw [zbs]; have:=zcf (fun i=>decide (s.st1 P i=0)) P.n; omega
  unfold d140
  rw [show d135 (KTof P c s (s.st1 P) fl rs) 0=some (selI (fun i=>decide (s.st1 P i=0)) P.n) from zjz (k:=KTof P c s (s.st1 P) fl rs) rfl (by omega) 0]
  have hd:=d178_eq (c:=c) (lots:=P.lots) (tot:=(P.tot:Int)) (q:=(P.q:Int)) (pc:=lst (parc P s) P.G) (stl:=lst (fun i=>(s.st1 P i:Int)) P.n) (kp:=lst (fun i=>rr (s.keep i)) P.n) (filled:=(fl:Int)) (E:=rs.map Rd.votes) (rest:=(3,(P.seats:Int),0,(P.n:Int),rs.map rdT,rs.flatMap Rd.el)) (v:=fun i=>frac (s.vt P i) s.D) (kk:=(zcj P s el).2.1) (qu:=(zcj P s el).2.2.1) (ex:=(zcj P s el).2.2.2.1) (su:=(zcj P s el).2.2.2.2.1) (el:=el) (ex2:=[]) (ti:=[]) (least:=true) hc (by have:=hP.ties1; omega) hP.ties3 (lotsOK hP) (fun r hr=>by
      obtain ⟨r',h1,rfl⟩:=List.mem_map.1 hr
      exact (hR.rnd r' h1).1) (by rw [List.length_map]; have:=hR.len; omega) (fun i hi=>zbe hP hI (zos hP hI hi)) hcls (zdm _ _) (fun y hy=>by
      obtain ⟨i,h1,h2,_⟩:=zbk.1 hy
      exact ⟨i,h1,h2⟩) hcl
  rw [htie] at hd
  have hpick:(if (s.tied P).length=1 then (s.tied P).headD 0 else tieB P.ties (rs.map Rd.votes) (s.tied P) P.lots true)=(x:Int):=by
    rw [← x1]; unfold GS.pick; rw [hm]; rfl
  rw [hpick] at hd
  rw [Option.bind_some,show d178 (KTof P c s (s.st1 P) fl rs) (zcj P s el) (selI (fun i=>decide (s.st1 P i=0)) P.n) true=_ from hd,Option.bind_some]
  have h180:=d180_eq (keep:=upd s.keep x 0) hP hI hG (c:=c) (lots:=P.lots) (tot:=(P.tot:Int)) (q:=(P.q:Int)) (kp:=lst (fun i=>rr (upd s.keep x 0 i)) P.n) (filled:=(fl:Int)) (rest:=((rs.map Rd.votes).map (List.map rr),3,(P.seats:Int),0,(P.n:Int),rs.map rdT,rs.flatMap Rd.el)) (st:=upd (s.st1 P) x 3) (st':=upd (s.st1 P) x 3) (x:=x) (a:=1) (b:=1) (fun i=>Iff.rfl) (by omega) (zjw (Nat.one_lt_two_pow (by decide)) (Nat.one_lt_two_pow (by decide)) (by decide))
  have hone:rr (frac 1 1)=rr (1:Rat):=by rw [zlb]; rfl
  have e1:lst (upd (fun i=>(s.st1 P i:Int)) x 3) P.n=lst (fun i=>((upd (s.st1 P) x 3 i:Nat):Int)) P.n:=zcd fun i hi=>by
    unfold upd; split <;> rfl
  have e2:lst (upd (fun i=>rr (s.keep i)) x (rr 0)) P.n=lst (fun i=>rr (upd s.keep x 0 i)) P.n:=zcd fun i hi=>by
    unfold upd; split <;> rfl
  have hz0:d68 0=some (rr 0):=zoh (n:=0) (by omega) (by omega)
  have hz1:d68 1=some (rr 1):=zoh (n:=1) (by omega) (by omega)
  rw [hone] at h180
  simp only [d0le,zaz,dlt x2,Bool.and_self,cond_true,tn,hz0,hz1,Option.bind_some,zgt,e1,e2,h180]
  have hxn:(s.pick P (rs.map Rd.votes)).toNat=x:=by rw [x1]; rfl
  unfold KTof GS.excl GS.tiedR zcj
  simp only [hxn,x1]
  rfl
end Go.Proofs.YtmipjomnjkmdbaaGreat
set_option linter.unusedSimpArgs false
set_option linter.unusedVariables false
namespace Go.Proofs.YtmipjomnjkmdbaaGreat
open Go Go.X
variable {P:GP} {s:GS}
theorem zmj {α:Type} {l m:List α} (h:l.length+m.length≤4294967296):decide ((l.length:Int)+(m.length:Int)≤LIM)=true:=by
  rw [show (l.length:Int)+(m.length:Int)=((l.length+m.length:Nat):Int) by omega]; exact zbx h
theorem zpj {c:CT} {s:GS} {st:Nat→Nat} {fl:Nat} {rs:List Rd} {r:Rd} {T:RD} {b:Bool} (hT:T=rdT r) (hr:∀ x∈rs,x.el.length≤7) (hl:rs.length≤7) (he:r.el.length≤7) :
    (bif (decide (((KTof P c s st fl rs).2.2.2.2.2.2.2.2.1.length:Int)+(([T.1]:List (List Rt)).length:Int)≤LIM)) then
        bif (decide (((KTof P c s st fl rs).2.2.2.2.2.2.2.2.2.2.2.2.2.1.length:Int)+(([T]:List RD).length:Int)≤LIM)) then
          bif (decide (((KTof P c s st fl rs).2.2.2.2.2.2.2.2.2.2.2.2.2.2.length:Int)+(T.2.2.2.2.2.1.length:Int)≤LIM)) then
            some (!b,((KTof P c s st fl rs).1,(KTof P c s st fl rs).2.1,(KTof P c s st fl rs).2.2.1,(KTof P c s st fl rs).2.2.2.1,(KTof P c s st fl rs).2.2.2.2.1,(KTof P c s st fl rs).2.2.2.2.2.1,(KTof P c s st fl rs).2.2.2.2.2.2.1,(KTof P c s st fl rs).2.2.2.2.2.2.2.1,((KTof P c s st fl rs).2.2.2.2.2.2.2.2.1++[T.1]),(KTof P c s st fl rs).2.2.2.2.2.2.2.2.2.1,(KTof P c s st fl rs).2.2.2.2.2.2.2.2.2.2.1,(KTof P c s st fl rs).2.2.2.2.2.2.2.2.2.2.2.1,(KTof P c s st fl rs).2.2.2.2.2.2.2.2.2.2.2.2.1,((KTof P c s st fl rs).2.2.2.2.2.2.2.2.2.2.2.2.2.1++[T]),((KTof P c s st fl rs).2.2.2.2.2.2.2.2.2.2.2.2.2.2++T.2.2.2.2.2.1)))
          else none
        else none
      else none:Option (Bool × KT))=some (!b,KTof P c s st fl (rs++[r])):=by
  subst hT
  have h1:=flat_len hr
  have e1:(KTof P c s st fl rs).2.2.2.2.2.2.2.2.1.length=rs.length:=by simp [KTof]
  have e2:(KTof P c s st fl rs).2.2.2.2.2.2.2.2.2.2.2.2.2.1.length=rs.length:=by simp [KTof]
  have e3:(KTof P c s st fl rs).2.2.2.2.2.2.2.2.2.2.2.2.2.2.length=(rs.flatMap Rd.el).length:=rfl
  rw [zmj (by rw [e1]; simp; omega),zmj (by rw [e2]; simp; omega),zmj (by rw [e3]; show (rs.flatMap Rd.el).length+r.el.length≤_; omega)]
  simp only [cond_true,KTof,List.map_append,List.flatMap_append,List.map_cons,List.map_nil,List.flatMap_cons,List.flatMap_nil,List.append_nil]
  rfl
theorem zlf (P:GP) (s:GS) (el ex ti:List Int):((zcj P s el).1,(zcj P s el).2.1,(zcj P s el).2.2.1,(zcj P s el).2.2.2.1,(zcj P s el).2.2.2.2.1,el,ex,ti)=rdT { s.rd0 P with el:=el,ex:=ex,ti:=ti }:=by
  unfold zcj rdT GS.rd0
  simp only [lst_map]
set_option maxHeartbeats 2000000 in
theorem d69_eq (hP:P.OK) (hI:GI P s) (hG:P.G≤1000000) {rs:List Rd} (hR:RsOK P s rs) {c:CT} (hc:c.2.2.2.2.2.2.1=P.ties) (hcs:c.2.2.2.1=(P.seats:Int)) {fl:Nat} (hfl:fl=cntN (fun i=>decide (s.st i=1)) P.n+cntN (fun i=>decide (s.st i=2)) P.n) :
    (s.fin P=true∧∃ st' fl',d69 (KTof P c s s.st fl rs)=some (false,KTof P c s st' fl' (rs++[s.done P]))) ∨
    (s.fin P=false∧s.most P=true∧d69 (KTof P c s s.st fl rs)=some (true,KTof P c (s.trans P (rs.map Rd.votes)) (s.trans P (rs.map Rd.votes)).st (s.e1 P+s.e2 P) (rs++[{ s.rd0 P with ti:=s.tiedR P }]))) ∨
    (s.fin P=false∧s.most P=false∧d69 (KTof P c s s.st fl rs)=some (true,KTof P c (s.excl P (rs.map Rd.votes)) (s.excl P (rs.map Rd.votes)).st (s.e1 P+s.e2 P) (rs++[{ s.rd0 P with ti:=s.tiedR P,ex:=[s.pick P (rs.map Rd.votes)] }]))):=by
  have hn7:=hP.n7
  have hq5:=hP.q5
  have ht5:=hP.tot5
  have hs5:=hP.seats5
  have hsum:=zjc hP hI
  have hz0:d68 0=some (rr 0):=zoh (n:=0) (by omega) (by omega)
  unfold d69
  rw [d130_eq hP hI hG (k:=KTof P c s s.st fl rs) rfl rfl rfl,Option.bind_some,show d131 (KTof P c s s.st fl rs).2.2.2.2.2.2.1=some (lst (fun i=>rr (s.keep i)) P.n) from d131_eq (by omega) hR.keep,Option.bind_some,
    show d68 (KTof P c s s.st fl rs).2.2.2.1=some (rr (P.q:Rat)) from zmu (by omega),Option.bind_some,show d68 (KTof P c s s.st fl rs).2.2.1=some (rr (P.tot:Rat)) from zmu (by omega),Option.bind_some,zaz]
  obtain ⟨K,hK⟩:∃ K:KT,KTof P c s s.st fl rs=K:=⟨_,rfl⟩
  rw [hK]
  have partial_le:∀ i,i≤P.n→sumN (s.vt P) i≤sumN (s.vt P) P.n:=fun i hi=>by
    have key:∀ (f:Nat→Nat) (m n:Nat),m≤n→sumN f m≤sumN f n:=by
      intro f m n
      induction n with
      | zero=>intro h; rw [show m=0 by omega]; exact Nat.le_refl _
      | succ n ih =>
        intro h
        by_cases hm:m=n+1
        · rw [hm]; exact Nat.le_refl _
        · rw [sumN]; have:=ih (by omega); omega
    exact key _ _ _ hi
  have sumS:∀ i,sumN (s.vt P) (i+1)=sumN (s.vt P) i+s.vt P i:=fun i=>rfl
  obtain ⟨R0,hR0⟩:∃ R0:Nat→RD,(fun i=>((lst (fun i=>rr (frac (s.vt P i) s.D)) P.n,lst (fun i=>rr (s.keep i)) P.n,rr (P.q:Rat),rr (frac (P.tot * s.D - sumN (s.vt P) i) s.D),(false,[],[]),[],[],[]):RD))=R0:=⟨_,rfl⟩
  have goalA:∀ X:Option (Bool × KT)→Prop,∀ Kf:KT × RD→Option (Bool × KT),X (Kf (K,R0 P.n))→X ((zab (β:=(KT × RD)) (fun ((t0,t3,t29,t30,t31):KT × RD × (List Rt) × Int × Int) =>
      bif (decide (t31 < t30)) then
        bif (decide (0≤t31) && decide (t31 < (t29.length:Int))) then
          (d132 t3.2.2.2.1 (List.getD t29 (Int.toNat t31) (false,[],[]))).bind fun r_4 =>
          some (Sum.inl (t0,(t3.1,t3.2.1,t3.2.2.1,r_4,t3.2.2.2.2),t29,t30,(w (t31+1))))
        else none
      else
        some (Sum.inr (t0,t3))) (K,(lst (fun i=>rr (frac (s.vt P i) s.D)) P.n,lst (fun i=>rr (s.keep i)) P.n,rr (P.q:Rat),rr (P.tot:Rat),(false,[],[]),[],[],[]),lst (fun i=>rr (frac (s.vt P i) s.D)) P.n,(P.n:Int),0)).bind Kf):=by
    intro X Kf hX
    refine Eq.mpr (congrArg X ?_) hX
    refine zaf (fun i=>(K,R0 i,lst (fun i=>rr (frac (s.vt P i) s.D)) P.n,(P.n:Int),(i:Int))) P.n (b:=(K,R0 P.n)) ?_ (fun i hi=>?_) ?_ rfl
    · rw [← hR0]
      simp only [sumN,Nat.sub_zero,zis hI.D0]; rfl
    · have h1:=partial_le i (by omega)
      have h2:=partial_le (i+1) (by omega)
      rw [sumS] at h2
      have hv:=zos hP hI hi
      have hd:d132 (rr (frac (P.tot * s.D - sumN (s.vt P) i) s.D)) (rr (frac (s.vt P i) s.D))=some (rr (frac (P.tot * s.D - sumN (s.vt P) (i+1)) s.D)):=by
        rw [zmw (zbe hP hI (by omega)).sz2 (zbe hP hI hv).sz2,zla hI.D0 (by omega),sumS,Nat.sub_sub]
      rw [← hR0]
      simp only [dlt hi,d0le,zaz,Bool.and_self,cond_true,tn,zbi (fun i=>rr (frac (s.vt P i) s.D)) hi,hd,Option.bind_some,zcb (show i < 9223372036854775807 by omega)]
    · simp only [nlt (Nat.le_refl P.n),cond_false]
  refine goalA (fun z=>(s.fin P=true∧∃ st' fl',z=some (false,KTof P c s st' fl' (rs++[s.done P]))) ∨
    (s.fin P=false∧s.most P=true∧z=some (true,KTof P c (s.trans P (rs.map Rd.votes)) (s.trans P (rs.map Rd.votes)).st (s.e1 P+s.e2 P) (rs++[{ s.rd0 P with ti:=s.tiedR P }]))) ∨
    (s.fin P=false∧s.most P=false∧z=some (true,KTof P c (s.excl P (rs.map Rd.votes)) (s.excl P (rs.map Rd.votes)).st (s.e1 P+s.e2 P) (rs++[{ s.rd0 P with ti:=s.tiedR P,ex:=[s.pick P (rs.map Rd.votes)] }])))) _ ?_
  clear goalA
  simp only
  have h5:d135 K 0=some (selI (fun i=>decide (s.st i=0)) P.n):=zjz (k:=K) (by rw [← hK]; rfl) (by omega) 0
  rw [h5,Option.bind_some]
  have h6:d134 (selI (fun i=>decide (s.st i=0)) P.n) (fun a=>d136 a (R0 P.n))=some (selI (s.el1 P) P.n):=by
    have hl:(selI (fun i=>decide (s.st i=0)) P.n).length≤1000000:=by rw [zbs]; have:=zcf (fun i=>decide (s.st i=0)) P.n; omega
    rw [d134_eq (g:=fun c=>decide (s.vt P c.toNat < s.bar P)) (fun x hx=>by
      obtain ⟨i,rfl,hi,_⟩:=zbk.1 hx
      exact d136_eq hP hI hi (by rw [← hR0]) (by rw [← hR0])) hl,zly]
    congr 1
    refine zjl fun i hi=>?_
    unfold GS.el1
    simp only [Int.toNat_natCast]
    congr 1
    by_cases h:s.vt P i < s.bar P
    · rw [decide_eq_true h,decide_eq_false (by omega)]; rfl
    · rw [decide_eq_false h,decide_eq_true (by omega)]; rfl
  rw [h6,Option.bind_some]
  have hKfl:fl≤1000:=by
    have h1:=zcf (fun i=>decide (s.st i=1)) P.n
    have h2:=zcf (fun i=>decide (s.st i=2)) P.n
    omega
  have hcs2:=zmz hI
  have h7:d133 K (R0 P.n) (selI (s.el1 P) P.n)=some (KTof P c s (s.st1 P) (s.e1 P+s.e2 P) rs,lst (fun i=>rr (frac (s.vt P i) s.D)) P.n,lst (fun i=>rr (s.keep i)) P.n,rr (P.q:Rat),rr (frac (P.tot * s.D - sumN (s.vt P) P.n) s.D),(false,[],[]),selI (s.el1 P) P.n,[],[]):=by
    rw [← hK,← hR0]
    unfold KTof
    simp only
    rw [d133_eq hn7 hKfl (by simp),List.nil_append,sortI_selI,hfl,hcs2]
    rfl
  rw [h7,Option.bind_some,hz0,Option.bind_some]
  simp only
  have h9:d135 (KTof P c s (s.st1 P) (s.e1 P+s.e2 P) rs) 1=some (selI (fun i=>decide (s.st1 P i=1)) P.n):=zjz (k:=KTof P c s (s.st1 P) (s.e1 P+s.e2 P) rs) rfl (by omega) 1
  have h10:d135 (KTof P c s (s.st1 P) (s.e1 P+s.e2 P) rs) 0=some (selI (fun i=>decide (s.st1 P i=0)) P.n):=zjz (k:=KTof P c s (s.st1 P) (s.e1 P+s.e2 P) rs) rfl (by omega) 0
  rw [h9,Option.bind_some]
  obtain ⟨L,hL⟩:∃ L,selN (fun i=>decide (s.st1 P i=1)) P.n=L:=⟨_,rfl⟩
  have hLi:(selI (fun i=>decide (s.st1 P i=1)) P.n).length=L.length:=by rw [← hL,selI,List.length_map]
  have hLl:L.length≤7:=by rw [← hL,zfv]; have:=zcf (fun i=>decide (s.st1 P i=1)) P.n; omega
  have hLs:(L.map fun i=>s.vt P i - s.bar P).sum=sumN (fun i=>if s.st1 P i=1 then s.vt P i - s.bar P else 0) P.n:=by
    rw [← hL,sum_sel]
    refine zaw fun i hi=>?_
    by_cases h:s.st1 P i=1
    · simp [h]
    · simp [h]
  have hLt:(L.map fun i=>s.vt P i - s.bar P).sum≤P.tot * s.D:=by rw [hLs]; exact sur_le hP hI
  rw [hLi]
  obtain ⟨K1,hK1⟩:∃ K1:KT,KTof P c s (s.st1 P) (s.e1 P+s.e2 P) rs=K1:=⟨_,rfl⟩
  rw [hK1]
  obtain ⟨T,hT⟩:∃ T:Nat→RD,(fun j=>((lst (fun i=>rr (frac (s.vt P i) s.D)) P.n,lst (fun i=>rr (s.keep i)) P.n,rr (P.q:Rat),rr (frac (P.tot * s.D - sumN (s.vt P) P.n) s.D),rr (frac ((L.take j).map fun i=>s.vt P i - s.bar P).sum s.D),selI (s.el1 P) P.n,[],[]):RD))=T:=⟨_,rfl⟩
  have hTb:T L.length=zcj P s (selI (s.el1 P) P.n):=by
    rw [← hT]
    simp only [List.take_length,hLs]
    rfl
  have goalB:∀ X:Option (Bool × KT)→Prop,∀ Kf:KT × RD→Option (Bool × KT),X (Kf (K1,zcj P s (selI (s.el1 P) P.n)))→X ((zab (β:=(KT × RD)) (fun ((t0_2,t3_2,t50,t51,t52):KT × RD × (List Int) × Int × Int) =>
      bif (decide (t52 < t51)) then
        bif (decide (0≤t52) && decide (t52 < (t50.length:Int))) then
          bif (decide (0≤(List.getD t50 (Int.toNat t52) 0)) && decide ((List.getD t50 (Int.toNat t52) 0) < (t3_2.1.length:Int))) then
            (d132 (List.getD t3_2.1 (Int.toNat (List.getD t50 (Int.toNat t52) 0)) (false,[],[])) t3_2.2.2.1).bind fun r_10 =>
            (d138 t3_2.2.2.2.2.1 r_10).bind fun r_11 =>
            some (Sum.inl (t0_2,(t3_2.1,t3_2.2.1,t3_2.2.2.1,t3_2.2.2.2.1,r_11,t3_2.2.2.2.2.2),t50,t51,(w (t52+1))))
          else none
        else none
      else
        some (Sum.inr (t0_2,t3_2))) (K1,(lst (fun i=>rr (frac (s.vt P i) s.D)) P.n,lst (fun i=>rr (s.keep i)) P.n,rr (P.q:Rat),rr (frac (P.tot * s.D - sumN (s.vt P) P.n) s.D),rr 0,selI (s.el1 P) P.n,[],[]),selI (fun i=>decide (s.st1 P i=1)) P.n,(L.length:Int),0)).bind Kf):=by
    intro X Kf hX
    refine Eq.mpr (congrArg X ?_) hX
    refine zaf (fun j=>(K1,T j,selI (fun i=>decide (s.st1 P i=1)) P.n,(L.length:Int),(j:Int))) L.length (b:=(K1,zcj P s (selI (s.el1 P) P.n))) ?_ (fun j hj=>?_) ?_ rfl
    · rw [← hT]
      simp only [List.take_zero,List.map_nil,List.sum_nil]
      have:frac 0 s.D=0:=by unfold frac; rw [Rat.div_def]; simp
      rw [this]; rfl
    · have hj':j < (selN (fun i=>decide (s.st1 P i=1)) P.n).length:=by rw [hL]; exact hj
      have hg:=zgm hj'
      have hsg:=zlx hj'
      rw [hL] at hg hsg
      obtain ⟨x,hx⟩:∃ x,L.getD j 0=x:=⟨_,rfl⟩
      rw [hx] at hg hsg
      obtain ⟨_,_,k3⟩:=zlq hI hg.1 (of_decide_eq_true hg.2)
      have hv:=zos hP hI hg.1
      have hd1:d132 (rr (frac (s.vt P x) s.D)) (rr (P.q:Rat))=some (rr (frac (s.vt P x - s.bar P) s.D)):=by
        rw [q_frac hI,zmw (zbe hP hI hv).sz2 (bar_le hP hI).sz2,zla hI.D0 k3]
      have hst:((L.take (j+1)).map fun i=>s.vt P i - s.bar P).sum=((L.take j).map fun i=>s.vt P i - s.bar P).sum+(s.vt P x - s.bar P):=by
        rw [zbm L 0 hj,hx,List.map_append,List.sum_append]; simp
      have hle1:((L.take j).map fun i=>s.vt P i - s.bar P).sum≤P.tot * s.D:=by
        rw [List.map_take]; exact Nat.le_trans (sum_take_le _ _) hLt
      have hd2:d138 (rr (frac ((L.take j).map fun i=>s.vt P i - s.bar P).sum s.D)) (rr (frac (s.vt P x - s.bar P) s.D))=some (rr (frac ((L.take (j+1)).map fun i=>s.vt P i - s.bar P).sum s.D)):=by
        rw [d138_rr (zbe hP hI hle1).sz2 (zbe hP hI (by omega)).sz2,zpv hI.D0,hst]
      rw [← hT]
      simp only [dlt hj,d0le,hLi,Bool.and_self,cond_true,tn,hsg,zaz,dlt hg.1,zbi (fun i=>rr (frac (s.vt P i) s.D)) hg.1,hd1,hd2,Option.bind_some,zcb (show j < 9223372036854775807 by omega)]
    · simp only [nlt (Nat.le_refl L.length),cond_false,hTb]
  refine goalB (fun z=>(s.fin P=true∧∃ st' fl',z=some (false,KTof P c s st' fl' (rs++[s.done P]))) ∨
    (s.fin P=false∧s.most P=true∧z=some (true,KTof P c (s.trans P (rs.map Rd.votes)) (s.trans P (rs.map Rd.votes)).st (s.e1 P+s.e2 P) (rs++[{ s.rd0 P with ti:=s.tiedR P }]))) ∨
    (s.fin P=false∧s.most P=false∧z=some (true,KTof P c (s.excl P (rs.map Rd.votes)) (s.excl P (rs.map Rd.votes)).st (s.e1 P+s.e2 P) (rs++[{ s.rd0 P with ti:=s.tiedR P,ex:=[s.pick P (rs.map Rd.votes)] }])))) _ ?_
  clear goalB hT hTb
  subst hK1
  clear hK h5 h6 h7
  have hel:(selI (s.el1 P) P.n).length≤7:=by rw [zbs]; have:=zcf (s.el1 P) P.n; omega
  have hrl:=hR.len
  have hre:∀ x∈rs,x.el.length≤7:=fun x hx=>(hR.rnd x hx).2
  simp only [zay]
  have hfs:(KTof P c s (s.st1 P) (s.e1 P+s.e2 P) rs).2.2.2.2.2.2.2.1=((s.e1 P+s.e2 P:Nat):Int):=rfl
  have hss:(KTof P c s (s.st1 P) (s.e1 P+s.e2 P) rs).1.2.2.2.1=(P.seats:Int):=hcs
  have helec:=zjy hP hI
  simp only [hfs,hss,zqb]
  by_cases hq:s.e1 P+s.e2 P=P.seats
  · have hfin:s.fin P=true:=by
      unfold GS.fin
      rw [Bool.or_eq_true]
      exact .inl (decide_eq_true hq)
    refine .inl ⟨hfin,s.st1 P,s.e1 P+s.e2 P,?_⟩
    simp only [decide_eq_true hq,cond_true]
    have hdone:s.done P={ s.rd0 P with el:=selI (s.el1 P) P.n,ex:=[],ti:=[] }:=by
      unfold GS.done
      have h':¬ (cntN (fun i=>decide (s.st1 P i=1)) P.n+cntN (fun i=>decide (s.st1 P i=2)) P.n < P.seats):=by
        show ¬ (s.e1 P+s.e2 P < P.seats); omega
      simp only [if_neg h']
      rfl
    rw [hdone]
    exact zpj (b:=true) (zlf P s (selI (s.el1 P) P.n) [] []) hre (by omega) hel
  · simp only [decide_eq_false hq,cond_false,h10,Option.bind_some]
    have hlen0:(selI (fun i=>decide (s.st1 P i=0)) P.n).length=s.e0 P:=zbs _ _
    have he0:s.e0 P≤7:=by unfold GS.e0; have:=zcf (fun i=>decide (s.st1 P i=0)) P.n; omega
    rw [hlen0,wadd (by omega)]
    by_cases hq2:s.e1 P+s.e2 P+s.e0 P≤P.seats
    · have hfin:s.fin P=true:=by
        unfold GS.fin
        rw [Bool.or_eq_true]
        exact .inr (decide_eq_true hq2)
      rw [show decide (((s.e1 P+s.e2 P+s.e0 P:Nat):Int)≤(P.seats:Int))=true from decide_eq_true (by omega),cond_true]
      have h14:d133 (KTof P c s (s.st1 P) (s.e1 P+s.e2 P) rs) (zcj P s (selI (s.el1 P) P.n)) (selI (fun i=>decide (s.st1 P i=0)) P.n)=some (KTof P c s (fun i=>if decide (s.st1 P i=0) then 1 else s.st1 P i) (s.e1 P+s.e2 P+s.e0 P) rs,zcj P s (selI (fun i=>s.el1 P i || decide (s.st1 P i=0)) P.n)):=by
        unfold KTof zcj
        rw [d133_eq (st:=s.st1 P) hn7 (by omega) (by omega),sortI_two fun i hi=>?_]
        · rfl
        · rcases zbn (P:=P) (s:=s) i with ⟨_,_,h2,_⟩ | ⟨h0,_⟩
          · rw [h2]; rfl
          · rw [h0] at hi; cases hi
      rw [h14,Option.bind_some]
      refine .inl ⟨hfin,fun i=>if decide (s.st1 P i=0) then 1 else s.st1 P i,s.e1 P+s.e2 P+s.e0 P,?_⟩
      have hdone:s.done P={ s.rd0 P with el:=selI (fun i=>s.el1 P i || decide (s.st1 P i=0)) P.n,ex:=[],ti:=[] }:=by
        unfold GS.done
        have h':cntN (fun i=>decide (s.st1 P i=1)) P.n+cntN (fun i=>decide (s.st1 P i=2)) P.n < P.seats:=by
          show s.e1 P+s.e2 P < P.seats; omega
        simp only [if_pos h']
        rfl
      rw [hdone]
      exact zpj (b:=true) (zlf P s (selI (fun i=>s.el1 P i || decide (s.st1 P i=0)) P.n) [] []) hre (by omega) (by
        show (selI _ _).length≤7
        rw [zbs]; have:=zcf (fun i=>s.el1 P i || decide (s.st1 P i=0)) P.n; omega)
    · have hfin:s.fin P=false:=by
        unfold GS.fin
        rw [Bool.or_eq_false_iff]
        exact ⟨decide_eq_false hq,decide_eq_false hq2⟩
      rw [show decide (((s.e1 P+s.e2 P+s.e0 P:Nat):Int)≤(P.seats:Int))=false from decide_eq_false (by omega),cond_false,h9,Option.bind_some]
      have hlen1:(selI (fun i=>decide (s.st1 P i=1)) P.n).length=s.e1 P:=zbs _ _
      rw [hlen1]
      refine .inr ?_
      cases hm:s.most P with
      | true =>
        refine .inl ⟨hfin,rfl,?_⟩
        have h0:0 < s.e1 P:=of_decide_eq_true hm
        rw [show decide ((0:Int) < (s.e1 P:Int))=true from decide_eq_true (by omega),cond_true,d139_eq hP hI hG hR hc _ hfin hm,Option.bind_some]
        exact zpj (b:=false) (zlf P s (selI (s.el1 P) P.n) [] (s.tiedR P)) hre (by omega) hel
      | false =>
        refine .inr ⟨hfin,rfl,?_⟩
        have h0:¬ 0 < s.e1 P:=of_decide_eq_false hm
        rw [show decide ((0:Int) < (s.e1 P:Int))=false from decide_eq_false (by omega),cond_false,d140_eq hP hI hG hR hc _ hfin hm,Option.bind_some]
        exact zpj (b:=false) (zlf P s (selI (s.el1 P) P.n) [s.pick P (rs.map Rd.votes)] (s.tiedR P)) hre (by omega) hel
end Go.Proofs.YtmipjomnjkmdbaaGreat
set_option linter.unusedSimpArgs false
set_option linter.unusedVariables false
namespace Go.Proofs.YtmipjomnjkmdbaaGreat
open Go Go.X
def permB (n:Int) (lots:List Int):Bool:=decide ((lots.length:Int)=n) && decide (isB n lots)
def fitE (m:Int) (c:CT) (gs:List Grp) (lots:List Int):Int :=
  bif decide (m < 1) || (decide (3 < m) || !decide (c.2.2.1=m)) then 5
  else bif decide ((c.2.1.length:Int) < 1) || (decide (7 < (c.2.1.length:Int)) || (decide (c.2.2.2.1 < 1) || (decide (5 < c.2.2.2.1) || ((decide (m=1) && !decide (c.2.2.2.1=1)) || (!(bif decide (m=2) then decide (1≤c.2.2.2.2.2.1) && decide (c.2.2.2.2.2.1≤6) else decide (c.2.2.2.2.2.1=0)) || (decide (c.2.2.2.2.2.2.1 < 1) || decide (3 < c.2.2.2.2.2.2.1))))))) then 4
  else bif !zpm (c.2.1.length:Int) gs then 8
  else bif !permB (c.2.1.length:Int) lots then 13
  else 0
set_option maxHeartbeats 2000000 in
theorem d66_eq (m:Int) (c:CT) {gs:List Grp} {lots:List Int} (hg:GsOK gs) (hl:lots.length≤281474976710656):d66 m c gs lots=some (fitE m c gs lots):=by
  have hp:decide ((c.2.1.length:Int) < 1)=false→decide (7 < (c.2.1.length:Int))=false→d124 (c.2.1.length:Int) gs=some (zpm (c.2.1.length:Int) gs):=fun h1 h2=>by
    have h1:=of_decide_eq_false h1
    have h2:=of_decide_eq_false h2
    rw [d124_eq (by omega) hg.1 hg.2]
    unfold zpm goodP
    rw [decide_eq_true (show 1≤(c.2.1.length:Int)∧(c.2.1.length:Int)≤7 by omega)]; rfl
  have hq:decide (7 < (c.2.1.length:Int))=false→d125 lots (c.2.1.length:Int)=some (permB (c.2.1.length:Int) lots):=fun h2=>by
    have h2:=of_decide_eq_false h2
    unfold d125 permB
    by_cases h:(lots.length:Int)=(c.2.1.length:Int)
    · rw [decide_eq_true h,cond_true,d165_eq (by omega) hl]; rfl
    · rw [decide_eq_false h]; rfl
  unfold d66 fitE
  cases he2:decide (m=2) <;> cases hg1:decide (1≤c.2.2.2.2.2.1) <;> simp only [he2,hg1,Bool.not_true,Bool.not_false,cond_true,cond_false,Bool.true_or,Bool.false_or,Bool.or_true,Bool.or_false,Bool.true_and,Bool.false_and,Option.bind_some]
  all_goals
    rw [zay]
    cases ha1:decide (m < 1)
    case true=>simp only [ha1,zay,Bool.not_true,Bool.not_false,cond_true,cond_false,Bool.true_or,Bool.false_or,Bool.or_true,Bool.or_false,Bool.true_and,Bool.false_and,Option.bind_some]
    try simp only [ha1,Bool.not_true,Bool.not_false,cond_true,cond_false,Bool.true_or,Bool.false_or,Bool.or_true,Bool.or_false,Bool.true_and,Bool.false_and,Option.bind_some]
    cases ha2:decide (3 < m)
    case true=>simp only [ha2,zay,Bool.not_true,Bool.not_false,cond_true,cond_false,Bool.true_or,Bool.false_or,Bool.or_true,Bool.or_false,Bool.true_and,Bool.false_and,Option.bind_some]
    try simp only [ha2,Bool.not_true,Bool.not_false,cond_true,cond_false,Bool.true_or,Bool.false_or,Bool.or_true,Bool.or_false,Bool.true_and,Bool.false_and,Option.bind_some]
    cases ha3:decide (c.2.2.1=m)
    case false=>simp only [ha3,zay,Bool.not_true,Bool.not_false,cond_true,cond_false,Bool.true_or,Bool.false_or,Bool.or_true,Bool.or_false,Bool.true_and,Bool.false_and,Option.bind_some]
    try simp only [ha3,Bool.not_true,Bool.not_false,cond_true,cond_false,Bool.true_or,Bool.false_or,Bool.or_true,Bool.or_false,Bool.true_and,Bool.false_and,Option.bind_some]
    rw [zay]
    try simp only [Bool.not_true,Bool.not_false,cond_true,cond_false,Bool.true_or,Bool.false_or,Bool.or_true,Bool.or_false,Bool.true_and,Bool.false_and,Option.bind_some]
    cases hn1:decide ((c.2.1.length:Int) < 1)
    case true=>simp only [hn1,zay,Bool.not_true,Bool.not_false,cond_true,cond_false,Bool.true_or,Bool.false_or,Bool.or_true,Bool.or_false,Bool.true_and,Bool.false_and,Option.bind_some]
    try simp only [hn1,Bool.not_true,Bool.not_false,cond_true,cond_false,Bool.true_or,Bool.false_or,Bool.or_true,Bool.or_false,Bool.true_and,Bool.false_and,Option.bind_some]
    cases hn2:decide (7 < (c.2.1.length:Int))
    case true=>simp only [hn2,zay,Bool.not_true,Bool.not_false,cond_true,cond_false,Bool.true_or,Bool.false_or,Bool.or_true,Bool.or_false,Bool.true_and,Bool.false_and,Option.bind_some]
    try simp only [hn2,Bool.not_true,Bool.not_false,cond_true,cond_false,Bool.true_or,Bool.false_or,Bool.or_true,Bool.or_false,Bool.true_and,Bool.false_and,Option.bind_some]
    simp only [zay,hp hn1 hn2,hq hn2,Bool.not_true,Bool.not_false,cond_true,cond_false,Bool.true_or,Bool.false_or,Bool.or_true,Bool.or_false,Bool.true_and,Bool.false_and,Option.bind_some]
    cases hs1:decide (c.2.2.2.1 < 1)
    case true=>simp only [hs1,zay,Bool.not_true,Bool.not_false,cond_true,cond_false,Bool.true_or,Bool.false_or,Bool.or_true,Bool.or_false,Bool.true_and,Bool.false_and,Option.bind_some]
    try simp only [hs1,Bool.not_true,Bool.not_false,cond_true,cond_false,Bool.true_or,Bool.false_or,Bool.or_true,Bool.or_false,Bool.true_and,Bool.false_and,Option.bind_some]
    cases hs2:decide (5 < c.2.2.2.1)
    case true=>simp only [hs2,zay,Bool.not_true,Bool.not_false,cond_true,cond_false,Bool.true_or,Bool.false_or,Bool.or_true,Bool.or_false,Bool.true_and,Bool.false_and,Option.bind_some]
    try simp only [hs2,Bool.not_true,Bool.not_false,cond_true,cond_false,Bool.true_or,Bool.false_or,Bool.or_true,Bool.or_false,Bool.true_and,Bool.false_and,Option.bind_some]
    cases hm1:decide (m=1) <;> cases hso:decide (c.2.2.2.1=1) <;> simp only [hm1,hso,Bool.not_true,Bool.not_false,cond_true,cond_false,Bool.true_or,Bool.false_or,Bool.or_true,Bool.or_false,Bool.true_and,Bool.false_and,Option.bind_some]
    all_goals (try (cases hg2:decide (c.2.2.2.2.2.1≤6) <;> simp only [hg2,Bool.not_true,Bool.not_false,cond_true,cond_false,Bool.true_or,Bool.false_or,Bool.or_true,Bool.or_false,Bool.true_and,Bool.false_and,Option.bind_some]))
    all_goals (try (cases hg0:decide (c.2.2.2.2.2.1=0) <;> simp only [hg0,Bool.not_true,Bool.not_false,cond_true,cond_false,Bool.true_or,Bool.false_or,Bool.or_true,Bool.or_false,Bool.true_and,Bool.false_and,Option.bind_some]))
    all_goals (try (cases ht1:decide (c.2.2.2.2.2.2.1 < 1) <;> simp only [ht1,Bool.not_true,Bool.not_false,cond_true,cond_false,Bool.true_or,Bool.false_or,Bool.or_true,Bool.or_false,Bool.true_and,Bool.false_and,Option.bind_some]))
    all_goals (try (cases ht2:decide (3 < c.2.2.2.2.2.2.1) <;> simp only [ht2,Bool.not_true,Bool.not_false,cond_true,cond_false,Bool.true_or,Bool.false_or,Bool.or_true,Bool.or_false,Bool.true_and,Bool.false_and,Option.bind_some]))
    all_goals (try (cases zpm (c.2.1.length:Int) gs <;> simp only [Bool.not_true,Bool.not_false,cond_true,cond_false,Bool.true_or,Bool.false_or,Bool.or_true,Bool.or_false,Bool.true_and,Bool.false_and,Option.bind_some]))
    all_goals (try (cases permB (c.2.1.length:Int) lots <;> simp only [Bool.not_true,Bool.not_false,cond_true,cond_false,Bool.true_or,Bool.false_or,Bool.or_true,Bool.or_false,Bool.true_and,Bool.false_and,Option.bind_some]))
theorem fitE_zero {m:Int} {c:CT} {gs:List Grp} {lots:List Int} (h:fitE m c gs lots=0):1≤m∧m≤3∧c.2.2.1=m∧1≤c.2.1.length∧c.2.1.length≤7∧1≤c.2.2.2.1∧c.2.2.2.1≤5∧(m=1→c.2.2.2.1=1)∧(m=2→1≤c.2.2.2.2.2.1∧c.2.2.2.2.2.1≤6)∧(m ≠ 2→c.2.2.2.2.2.1=0)∧1≤c.2.2.2.2.2.2.1∧c.2.2.2.2.2.2.1≤3∧PileOK (c.2.1.length:Int) gs (wsum (fun _=>1) gs)∧lots.length=c.2.1.length∧isB (c.2.1.length:Int) lots:=by
  unfold fitE at h
  by_cases h1:(decide (m < 1) || (decide (3 < m) || !decide (c.2.2.1=m)))=true
  · rw [h1] at h; exact absurd h (by show ¬ (5:Int)=0; omega)
  have h1:(decide (m < 1) || (decide (3 < m) || !decide (c.2.2.1=m)))=false:=by simpa using h1
  rw [h1,cond_false] at h
  cases h2:(decide ((c.2.1.length:Int) < 1) || (decide (7 < (c.2.1.length:Int)) || (decide (c.2.2.2.1 < 1) || (decide (5 < c.2.2.2.1) || ((decide (m=1) && !decide (c.2.2.2.1=1)) || (!(bif decide (m=2) then decide (1≤c.2.2.2.2.2.1) && decide (c.2.2.2.2.2.1≤6) else decide (c.2.2.2.2.2.1=0)) || (decide (c.2.2.2.2.2.2.1 < 1) || decide (3 < c.2.2.2.2.2.2.1))))))))
  case true=>rw [h2] at h; exact absurd h (by show ¬ (4:Int)=0; omega)
  rw [h2,cond_false] at h
  cases h3:zpm (c.2.1.length:Int) gs
  case false=>rw [h3] at h; exact absurd h (by show ¬ (8:Int)=0; omega)
  rw [h3,Bool.not_true,cond_false] at h
  cases h4:permB (c.2.1.length:Int) lots
  case false=>rw [h4] at h; exact absurd h (by show ¬ (13:Int)=0; omega)
  simp only [Bool.or_eq_false_iff,decide_eq_false_iff_not,Bool.not_eq_false',decide_eq_true_eq] at h1 h2
  obtain ⟨a1,a2,a3⟩:=h1
  obtain ⟨b1,b2,b3,b4,b5,b6,b7,b8⟩:=h2
  unfold permB at h4
  simp only [Bool.and_eq_true,decide_eq_true_eq] at h4
  refine ⟨by omega,by omega,a3,by omega,by omega,by omega,by omega,fun hm=>?_,fun hm=>?_,fun hm=>?_,by omega,by omega,(pileB_ok h3).2.2,by omega,h4.2⟩
  · rw [decide_eq_true hm,Bool.true_and,Bool.not_eq_false',decide_eq_true_eq] at b5
    exact b5
  · rw [decide_eq_true hm,cond_true,Bool.and_eq_true,decide_eq_true_eq,decide_eq_true_eq] at b6
    exact b6
  · rw [decide_eq_false hm,cond_false,decide_eq_true_eq] at b6
    exact b6
theorem d30_eq {b s:Int} (h0:0≤b) (h1:b≤100000) (h2:1≤s) (h3:s≤5):d30 b s=some (b / (s+1)+1):=by
  have e:w (s+1)=s+1:=zbr (by omega) (by omega)
  have hd:Int.tdiv b (s+1)=b / (s+1):=Int.tdiv_eq_ediv_of_nonneg h0
  have hle:b / (s+1)≤b:=Int.ediv_le_self _ h0
  have hge:0≤b / (s+1):=Int.ediv_nonneg h0 (by omega)
  unfold d30
  rw [zay]
  simp only [decide_eq_false (show ¬ b < 0 by omega),decide_eq_false (show ¬ 100000 < b by omega),decide_eq_false (show ¬ s < 1 by omega),decide_eq_false (show ¬ 5 < s by omega),Bool.not_false,cond_true,cond_false,e,decide_eq_false (show ¬ s+1=0 by omega),hd]
  rw [zbr (n:=b / (s+1)) (by omega) (by omega),zbr (by omega) (by omega)]
theorem PileOK.d67 {n:Int} {gs:List Grp} {N:Int} (h:PileOK n gs N) (hn:n≤7):d67 gs=some (wsum (fun _=>1) gs):=by
  obtain ⟨hl,hg⟩:=h.sizes hn
  have hf:∀ p:List Int,0≤(1:Int)∧(1:Int)≤1:=fun p=>by omega
  unfold Go.Proofs.YtmipjomnjkmdbaaGreat.d67
  rw [h.d100 hn]
  simp only [Option.bind_some,Bool.not_true,cond_false]
  have:d104 gs (fun a=>d126 a)=some (wsum (fun _=>1) gs):=by
    unfold d104
    refine zaf (b:=wsum (fun _=>1) gs) (fun i=>((fun a=>d126 a),wsum (fun _=>1) (gs.take i),gs,(gs.length:Int),(i:Int))) gs.length rfl (fun i hi=>?_) ?_ rfl
    · have h1:=h.part hf (i+1)
      rw [zdc _ gs hi] at h1
      simp only [dlt hi,d0le,Bool.and_self,cond_true,tn,d126,Option.bind_some,zcb (show i < 9223372036854775807 by omega)]
      rw [zbr (by omega) (by omega),zdc _ gs hi,Int.mul_one]
    · simp only [nlt (Nat.le_refl gs.length),cond_false,List.take_length]
  rw [this]; rfl
def gpOf (c:CT) (gs:List Grp) (lots:List Int):GP :=
  { gs:=gs,n:=c.2.1.length,seats:=c.2.2.2.1.toNat,q:=(wsum zar gs / (c.2.2.2.1+1)+1).toNat,tot:=(wsum (fun _=>1) gs).toNat,ties:=c.2.2.2.2.2.2.1,lots:=lots }
theorem zlh {n:Int} {gs:List Grp} {N:Int} (h:PileOK n gs N) (b:List Int→Bool) (c:CT) (lots:List Int):∀ m,m≤gs.length→wsum (fun p=>if b p then 1 else 0) (gs.take m)=((sumN (fun g=>if b ((gpOf c gs lots).p g) then (gpOf c gs lots).k g else 0) m:Nat):Int)
  | 0,_=>rfl
  | m+1,hm=>by
    have hb:=(h.ballots _ (zcv (l:=gs) (d:=([],0)) (i:=m) (by omega))).2
    rw [zdc _ gs (by omega),zlh h b c lots m (by omega),sumN,Int.natCast_add]
    congr 1
    show _ * (if b (gs.getD m ([],0)).1 then 1 else 0)=((if b (gs.getD m ([],0)).1 then (gs.getD m ([],0)).2.toNat else 0:Nat):Int)
    split
    · rw [Int.mul_one]; omega
    · rw [Int.mul_zero]; rfl
theorem quo_lt {m s:Nat} (h1:1≤s) (h5:s≤5):m < (m / (s+1)+1) * (s+1):=by
  have:s=1∨s=2∨s=3∨s=4∨s=5:=by omega
  rcases this with rfl | rfl | rfl | rfl | rfl <;> omega
theorem gpOf_ok {c:CT} {gs:List Grp} {lots:List Int} (h:fitE 3 c gs lots=0):(gpOf c gs lots).OK∧(gpOf c gs lots).G≤1000000∧c.2.2.2.1=((gpOf c gs lots).seats:Int)∧d67 gs=some ((gpOf c gs lots).tot:Int)∧d52 gs=some (wsum zar gs)∧d30 (wsum zar gs) c.2.2.2.1=some ((gpOf c gs lots).q:Int):=by
  obtain ⟨_,_,_,n1,n7,s1,s5,_,_,_,t1,t3,hp,ll,hB⟩:=fitE_zero h
  obtain ⟨hl,hg⟩:=hp.sizes (by omega)
  have hmk:=hp.part (f:=zar) (fun p=>by unfold zar; split <;> omega) gs.length
  have hto:=hp.part (f:=fun _=>1) (fun p=>by omega) gs.length
  rw [List.take_length] at hmk hto
  have hS:c.2.2.2.1=(c.2.2.2.1.toNat:Int):=by omega
  have e1:wsum (fun _=>1) gs=((sumN (gpOf c gs lots).k gs.length:Nat):Int):=by
    have:=zlh hp (fun _=>true) c lots gs.length (Nat.le_refl _)
    rw [List.take_length] at this
    simpa using this
  have e2:wsum zar gs=(((gpOf c gs lots).mkd:Nat):Int):=by
    have:=zlh hp (fun p=>decide (p ≠ [])) c lots gs.length (Nat.le_refl _)
    rw [List.take_length] at this
    have hf:(fun p:List Int=>if decide (p ≠ [])=true then (1:Int) else 0)=zar:=by
      funext p; unfold zar; by_cases hp:p=[] <;> simp [hp]
    rw [hf] at this
    rw [this]
    congr 1
    unfold GP.mkd
    refine zaw fun g hg=>?_
    by_cases hp:(gpOf c gs lots).p g=[] <;> simp [hp]
  obtain ⟨S,hSS⟩:∃ S,c.2.2.2.1.toNat=S:=⟨_,rfl⟩
  have hq:(gpOf c gs lots).q=(gpOf c gs lots).mkd / (S+1)+1:=by
    show (wsum zar gs / (c.2.2.2.1+1)+1).toNat=_
    rw [e2,hS,hSS]
    rfl
  have hm5:(gpOf c gs lots).mkd≤100000:=by omega
  have hdiv:=Nat.div_le_self (gpOf c gs lots).mkd (S+1)
  have hq1:1≤(gpOf c gs lots).q∧(gpOf c gs lots).q≤100001:=by
    rw [hq]
    generalize (gpOf c gs lots).mkd / (S+1)=Q at hdiv ⊢
    omega
  refine ⟨⟨n1,n7,by show 1≤c.2.2.2.1.toNat; omega,by show c.2.2.2.1.toNat≤5; omega,fun g hgl x hx=>?_,fun g hgl=>?_,?_,by show (wsum (fun _=>1) gs).toNat≤_; omega,hq1.1,hq1.2,?_,t1,t3,ll,fun x hx=>?_,hB.1⟩,by show gs.length≤_; omega,?_,?_,hp.d52 (by omega),?_⟩
  · have:=(hp.ballots _ (zcv (l:=gs) (d:=([],0)) (i:=g) hgl)).1.2 x hx
    exact ⟨x.toNat,by omega,by show x.toNat < c.2.1.length; omega⟩
  · exact (hg _ (zcv (l:=gs) (d:=([],0)) (i:=g) hgl)).1
  · show sumN (gpOf c gs lots).k gs.length=(wsum (fun _=>1) gs).toNat
    omega
  · rw [hq]
    show _ < _ * (c.2.2.2.1.toNat+1)
    rw [hSS]
    exact quo_lt (by omega) (by omega)
  · have:=hB.2 x hx
    exact ⟨x.toNat,by omega,by show x.toNat < c.2.1.length; omega⟩
  · exact hS
  · rw [hp.d67 (by omega)]
    congr 1
    show _=((wsum (fun _=>1) gs).toNat:Int)
    omega
  · rw [d30_eq hmk.1 hmk.2 s1 s5]
    congr 1
    show _=((wsum zar gs / (c.2.2.2.1+1)+1).toNat:Int)
    have:0≤wsum zar gs / (c.2.2.2.1+1):=Int.ediv_nonneg hmk.1 (by omega)
    omega
variable {P:GP} {s:GS}
theorem RsOK.next (hP:P.OK) (hI:GI P s) {rs:List Rd} (hR:RsOK P s rs) (hl:rs.length+1≤7) {s':GS} (hk:∀ i,i < P.n→Bz eB (s'.keep i)) {r:Rd} (hv:r.votes=(s.rd0 P).votes) (he:r.el.length≤7):RsOK P s' (rs++[r]):=by
  refine ⟨fun x hx=>?_,by simp; omega,hk⟩
  rcases List.mem_append.1 hx with hx | hx
  · exact hR.rnd x hx
  · rw [List.mem_singleton] at hx
    subst hx
    rw [hv]
    exact ⟨votes_rnd hP hI,he⟩
theorem el_len (hP:P.OK):(selI (s.el1 P) P.n).length≤7:=by rw [zbs]; have:=zcf (s.el1 P) P.n; have:=hP.n7; omega
theorem fl_next {x y:Nat} (hx:x < P.n) (hy:(s.st1 P x=1∧y=2)∨(s.st1 P x=0∧y=3)) {st:Nat→Nat} (hst:st=upd (s.st1 P) x y):s.e1 P+s.e2 P=cntN (fun i=>decide (st i=1)) P.n+cntN (fun i=>decide (st i=2)) P.n:=by
  subst hst
  unfold GS.e1 GS.e2 cntN
  rw [← zcq,← zcq]
  refine zaw fun i hi=>?_
  by_cases h:i=x
  · subst h
    rcases hy with ⟨h1,rfl⟩ | ⟨h1,rfl⟩ <;> simp [h1,zcg]
  · simp [upd,h]
theorem trans_keep (hP:P.OK) (hI:GI P s) (hf:s.fin P=false) (hm:s.most P=true) (earlier:List (List Rat)) (hk:∀ i,i < P.n→Bz eB (s.keep i)):∀ i,i < P.n→Bz eB ((s.trans P earlier).keep i):=by
  intro i hi
  obtain ⟨x,x1,x2,x3⟩:=zel hP hI hf earlier
  have hv:=zos hP hI x2
  unfold GS.trans
  simp only [x1,Int.toNat_natCast]
  show Bz eB (upd s.keep x _ i)
  unfold upd
  split
  · exact zjw (zha hP hI (by omega)) (zha hP hI hv) (by decide)
  · exact hk i hi
theorem excl_keep (earlier:List (List Rat)) (hk:∀ i,i < P.n→Bz eB (s.keep i)):∀ i,i < P.n→Bz eB ((s.excl P earlier).keep i):=by
  intro i hi
  unfold GS.excl
  show Bz eB (upd s.keep _ 0 i)
  unfold upd
  split
  · exact bz_zero
  · exact hk i hi
theorem grun_fin {k:Nat} {rs:List Rd} (hf:s.fin P=true):grun P (k+1) rs s=rs++[s.done P]:=by
  unfold grun gstep; rw [if_pos hf]
theorem grun_trans {k:Nat} {rs:List Rd} (hf:s.fin P=false) (hm:s.most P=true):grun P (k+1) rs s=grun P k (rs++[{ s.rd0 P with ti:=s.tiedR P }]) (s.trans P (rs.map Rd.votes)):=by
  rw [grun]; unfold gstep; rw [if_neg (by rw [hf]; simp),if_pos hm]
theorem grun_excl {k:Nat} {rs:List Rd} (hf:s.fin P=false) (hm:s.most P=false):grun P (k+1) rs s=grun P k (rs++[{ s.rd0 P with ti:=s.tiedR P,ex:=[s.pick P (rs.map Rd.votes)] }]) (s.excl P (rs.map Rd.votes)):=by
  rw [grun]; unfold gstep; rw [if_neg (by rw [hf]; simp),if_neg (by rw [hm]; simp)]
structure Run (P:GP) (s:GS) (rs:List Rd):Prop where
  inv:GI P s
  ok:RsOK P s rs
  len:rs.length+s.meas P≤P.n
  run:grun P (P.n+1 - rs.length) rs s=zbz P
  one:∀ i,i < P.n→s.st i=0∨s.st i=1→s.keep i=1
theorem keep_one {x y:Nat} (hy:y=2∨y=3) {k:Rat} {a b:Nat} (h:∀ i,i < P.n→s.st i=0∨s.st i=1→s.keep i=1):∀ i,i < P.n→(s.move P (upd (s.st1 P) x y) (upd s.keep x k) x a b).st i=0∨(s.move P (upd (s.st1 P) x y) (upd s.keep x k) x a b).st i=1→(s.move P (upd (s.st1 P) x y) (upd s.keep x k) x a b).keep i=1:=by
  intro i hi hs
  have hs':upd (s.st1 P) x y i=0∨upd (s.st1 P) x y i=1:=hs
  show upd s.keep x k i=1
  by_cases hix:i=x
  · subst hix
    rw [zcg] at hs'
    omega
  · rw [zet _ _ hix] at hs' ⊢
    refine h i hi ?_
    rcases zbn (P:=P) (s:=s) i with ⟨h0,h1,h2,_⟩ | ⟨h0,h2⟩ <;> omega
theorem Run.start (hP:P.OK):Run P g0 []:=⟨g0_inv hP,⟨fun r hr=>by simp at hr,by simp,fun i _=>by
  have:=bz_nat (n:=1) (by decide)
  exact this⟩,by simp; exact meas_le _,rfl,fun i _ _=>rfl⟩
theorem Run.trans (hP:P.OK) {rs:List Rd} (h:Run P s rs) (hf:s.fin P=false) (hm:s.most P=true):Run P (s.trans P (rs.map Rd.votes)) (rs++[{ s.rd0 P with ti:=s.tiedR P }]):=by
  have hme:=zjf hP h.inv hf hm (rs.map Rd.votes)
  have hl:=h.len
  have hn:=hP.n7
  refine ⟨trans_inv hP h.inv hf hm _,h.ok.next hP h.inv (by omega) (trans_keep hP h.inv hf hm _ h.ok.keep) rfl (el_len hP),by simp; omega,?_,keep_one (.inl rfl) h.one⟩
  have hr:=h.run
  rw [show P.n+1 - rs.length=P.n - rs.length+1 by omega,grun_trans hf hm] at hr
  rw [← hr]
  congr 1
  simp
theorem Run.excl (hP:P.OK) {rs:List Rd} (h:Run P s rs) (hf:s.fin P=false) (hm:s.most P=false):Run P (s.excl P (rs.map Rd.votes)) (rs++[{ s.rd0 P with ti:=s.tiedR P,ex:=[s.pick P (rs.map Rd.votes)] }]):=by
  have hme:=zmr hP h.inv hf hm (rs.map Rd.votes)
  have hl:=h.len
  have hn:=hP.n7
  refine ⟨excl_inv hP h.inv hf hm _,h.ok.next hP h.inv (by omega) (excl_keep _ h.ok.keep) rfl (el_len hP),by simp; omega,?_,keep_one (.inr rfl) h.one⟩
  have hr:=h.run
  rw [show P.n+1 - rs.length=P.n - rs.length+1 by omega,grun_excl hf hm] at hr
  rw [← hr]
  congr 1
  simp
theorem Run.fin {rs:List Rd} (h:Run P s rs) (hf:s.fin P=true):rs++[s.done P]=zbz P:=by
  have hl:=h.len
  have hr:=h.run
  rw [show P.n+1 - rs.length=P.n - rs.length+1 by omega,grun_fin hf] at hr
  exact hr
def trT (P:GP):Int × (Int × (Int × (Int × (List RD × List Int)))):=(3,(P.seats:Int),0,(P.n:Int),(zbz P).map rdT,(zbz P).flatMap Rd.el)
set_option maxHeartbeats 1000000 in
theorem d22_eq {c:CT} {gs:List Grp} {lots:List Int} (hg:GsOK gs) (hl:lots.length≤281474976710656):d22 c gs lots=some (if fitE 3 c gs lots=0 then (trT (gpOf c gs lots),0) else ((0,0,0,0,[],[]),fitE 3 c gs lots)):=by
  unfold d22
  rw [d66_eq 3 c hg hl,Option.bind_some]
  by_cases hfit:¬ fitE 3 c gs lots=0
  · rw [if_neg hfit,decide_eq_false hfit]; rfl
  have hfit:=Decidable.not_not.1 hfit
  rw [if_pos hfit,decide_eq_true hfit,Bool.not_true,cond_false]
  obtain ⟨hP,hG,hs,h67,h52,h30⟩:=gpOf_ok hfit
  have hgs:(gpOf c gs lots).gs=gs:=rfl
  have hn:c.2.1.length=(gpOf c gs lots).n:=rfl
  have hlo:(gpOf c gs lots).lots=lots:=rfl
  have hti:c.2.2.2.2.2.2.1=(gpOf c gs lots).ties:=rfl
  have hGl:gs.length=(gpOf c gs lots).G:=rfl
  have hpar:∀ i,parc (gpOf c gs lots) g0 i=((gs.getD i ([],0)).1,((gs.getD i ([],0)).2.toNat:Int),0,rr (frac 1 1)):=fun i=>rfl
  have hpos:∀ i,i < gs.length→((gs.getD i ([],0)).2.toNat:Int)=(gs.getD i ([],0)).2:=fun i hi=>by
    obtain ⟨_,_,_,_,_,_,_,_,_,_,_,_,hp,_,_⟩:=fitE_zero hfit
    have:=(hp.ballots _ (zcv (l:=gs) (d:=([],0)) (i:=i) hi)).2
    omega
  rw [h67,h52,Option.bind_some,Option.bind_some,h30,Option.bind_some]
  generalize hPP:gpOf c gs lots=P at *
  have hn7:=hP.n7
  have hz1:d68 1=some (rr 1):=zoh (n:=1) (by omega) (by omega)
  have hone:rr (frac 1 1)=rr (1:Rat):=by rw [zlb]; rfl
  rw [hn]
  simp only [decide_true,d0le,zbx (n:=P.n) (by omega),Bool.and_self,cond_true,tn,hs]
  refine zaf (fun i=>(gs,(0,0,0,0,[],[]),(c,lots,(P.tot:Int),(P.q:Int),[],List.replicate P.n 0,lst (fun _=>rr 1) i,0,[],3,(P.seats:Int),0,(P.n:Int),[],[]),(P.n:Int),(i:Int))) P.n rfl (fun i hi=>?_) (b:=(gs,(0,0,0,0,[],[]),(c,lots,(P.tot:Int),(P.q:Int),[],List.replicate P.n 0,lst (fun _=>rr 1) P.n,0,[],3,(P.seats:Int),0,(P.n:Int),[],[]))) ?_ ?_
  · have hl:=zdi (l:=lst (fun _=>rr (1:Rat)) i) (d:=rr 1) (by rw [zaz]; omega)
    simp only [dlt hi,cond_true,hz1,Option.bind_some,hl,zcb (show i < 9223372036854775807 by omega),← zhe]
  · simp only [nlt (Nat.le_refl P.n),cond_false]
  simp only
  refine zaf (fun i=>((0,0,0,0,[],[]),(c,lots,(P.tot:Int),(P.q:Int),lst (parc P g0) i,List.replicate P.n 0,lst (fun _=>rr 1) P.n,0,[],3,(P.seats:Int),0,(P.n:Int),[],[]),gs,(gs.length:Int),(i:Int))) gs.length rfl (fun i hi=>?_) (b:=((0,0,0,0,[],[]),(c,lots,(P.tot:Int),(P.q:Int),lst (parc P g0) gs.length,List.replicate P.n 0,lst (fun _=>rr 1) P.n,0,[],3,(P.seats:Int),0,(P.n:Int),[],[]))) ?_ ?_
  · have hl:=zdi (l:=lst (parc P g0) i) (d:=((gs.getD i ([],0)).1,(gs.getD i ([],0)).2,0,rr 1)) (by rw [zaz]; omega)
    simp only [dlt hi,d0le,Bool.and_self,cond_true,tn,hz1,Option.bind_some,hl,zcb (show i < 9223372036854775807 by omega),zhe,hpar,hpos i hi,hone]
  · simp only [nlt (Nat.le_refl gs.length),cond_false]
  simp only
  have hK0:(c,lots,(P.tot:Int),(P.q:Int),lst (parc P g0) gs.length,List.replicate P.n 0,lst (fun _=>rr 1) P.n,0,[],3,(P.seats:Int),0,(P.n:Int),[],[])=KTof P c g0 g0.st 0 []:=by
    unfold KTof
    rw [hlo,hGl,lst_rep]
    rfl
  rw [hK0]
  refine zes (Q:=fun r=>r=some (trT P,0)) (fun (M:Nat) (st:(Int × (Int × (Int × (Int × (List RD × List Int))))) × KT)=>∃ (s:GS) (rs:List Rd) (fl:Nat),st=((0,0,0,0,[],[]),KTof P c s s.st fl rs)∧Run P s rs∧fl=cntN (fun i=>decide (s.st i=1)) P.n+cntN (fun i=>decide (s.st i=2)) P.n∧M=s.meas P) (g0.meas P) ⟨g0,[],0,rfl,Run.start hP,?_,rfl⟩ ?_
  · have e1:cntN (fun i=>decide (g0.st i=1)) P.n=0:=by unfold cntN; exact zde _
    have e2:cntN (fun i=>decide (g0.st i=2)) P.n=0:=by unfold cntN; exact zde _
    rw [e1,e2]
  · rintro M st ⟨s,rs,fl,rfl,hR,hfl,rfl⟩
    rcases d69_eq hP hR.inv hG hR.ok hti hs hfl with ⟨hf,st',fl',he⟩ | ⟨hf,hm,he⟩ | ⟨hf,hm,he⟩
    · refine .inr ⟨((0,0,0,0,[],[]),KTof P c s st' fl' (rs++[s.done P])),by simp only [he,Option.bind_some,cond_false],?_⟩
      show some ((3,(P.seats:Int),0,(P.n:Int),(rs++[s.done P]).map rdT,(rs++[s.done P]).flatMap Rd.el),0)=some (trT P,0)
      rw [hR.fin hf]; rfl
    · have hme:=zjf hP hR.inv hf hm (rs.map Rd.votes)
      obtain ⟨x,x1,x2,x3⟩:=zel hP hR.inv hf (rs.map Rd.votes)
      rw [hm,if_pos rfl] at x3
      exact .inl ⟨_,(s.trans P (rs.map Rd.votes)).meas P,by simp only [he,Option.bind_some,cond_true],by omega,_,_,_,rfl,hR.trans hP hf hm,fl_next x2 (.inl ⟨x3,rfl⟩) (by unfold GS.trans; simp only [x1,Int.toNat_natCast]; rfl),rfl⟩
    · have hme:=zmr hP hR.inv hf hm (rs.map Rd.votes)
      obtain ⟨x,x1,x2,x3⟩:=zel hP hR.inv hf (rs.map Rd.votes)
      rw [hm] at x3
      have x3':s.st1 P x=0:=by simpa using x3
      exact .inl ⟨_,(s.excl P (rs.map Rd.votes)).meas P,by simp only [he,Option.bind_some,cond_true],by omega,_,_,_,rfl,hR.excl hP hf hm,fl_next x2 (.inr ⟨x3',rfl⟩) (by unfold GS.excl; simp only [x1,Int.toNat_natCast]; rfl),rfl⟩
end Go.Proofs.YtmipjomnjkmdbaaGreat
set_option linter.unusedSimpArgs false
set_option linter.unusedVariables false
namespace Go.Proofs.YtmipjomnjkmdbaaGreat
open Go Go.X
theorem d122_eq (a b:Nat) (ha:a≤4611686018427387904) (hb:b≤4611686018427387904):d122 (a:Int) (b:Int)=some ((Nat.gcd a b:Nat):Int):=by
  unfold d122
  refine zes (Q:=fun r=>r=some ((Nat.gcd a b:Nat):Int)) (fun (M:Nat) (st:Int × Int)=>∃ x:Nat,st=((x:Int),(M:Int))∧x≤4611686018427387904∧M≤4611686018427387904∧Nat.gcd x M=Nat.gcd a b) b ⟨a,rfl,ha,hb,rfl⟩ ?_
  rintro M st ⟨x,rfl,h1,h2,h3⟩
  rcases Nat.eq_zero_or_pos M with h0 | h0
  · subst h0
    rw [Nat.gcd_zero_right] at h3
    exact .inr ⟨(x:Int),rfl,by rw [h3]⟩
  · have hm:=Nat.mod_lt x h0
    have e:w (Int.tmod (x:Int) (M:Int))=((x % M:Nat):Int):=by rw [tmodN,zbr (by omega) (by omega)]
    refine .inl ⟨((M:Int),((x % M:Nat):Int)),x % M,?_,hm,M,rfl,h2,by omega,?_⟩
    · simp only [decide_eq_true (show (0:Int) < (M:Int) by omega),decide_eq_false (show ¬ (M:Int)=0 by omega),Bool.not_false,cond_true,e]
    · rw [← h3,Nat.gcd_comm x M,Nat.gcd_rec M x,Nat.gcd_comm]
theorem d123_eq (n:Nat) (h:n≤4611686018427387904):d123 (n:Int)=some (zak n):=by
  unfold d123
  rw [zaq (by omega)]
  refine zes (Q:=fun r=>r=some (zak n)) (fun (M:Nat) (st:(List Int) × Int)=>∃ l:List Int,st=(l,(M:Int))∧M≤n∧l.length≤n - M∧l.length≤1000000∧l++zak M=zak n∧(l.length+(zak M).length=(zak n).length)) n ⟨[],rfl,Nat.le_refl _,by simp,by simp,rfl,by simp⟩ ?_
  rintro M st ⟨l,rfl,h1,h2,h3,h4,h5⟩
  have hln:(zak n).length≤2:=zhs (by omega)
  rcases Nat.eq_zero_or_pos M with h0 | h0
  · subst h0
    rw [zbv,List.append_nil] at h4
    exact .inr ⟨l,rfl,by rw [h4]⟩
  · have hp:=zfh (n:=M) (by omega)
    have hl:=congrArg List.length hp
    rw [List.length_cons] at hl
    refine .inl ⟨(l++[((M % 4294967296:Nat):Int)],((M / 4294967296:Nat):Int)),M / 4294967296,?_,by omega,_,rfl,by omega,by simp; omega,by simp; omega,?_,by simp; omega⟩
    · simp only [decide_eq_true (show (0:Int) < (M:Int) by omega),cond_true,zcp,zdi (l:=l) (d:=((M % 4294967296:Nat):Int)) (by omega),shr32,zaq (show M / 4294967296 < 18446744073709551616 by omega)]
    · rw [List.append_assoc,List.singleton_append,← hp,h4]
theorem d65_eq {a b:Nat} (ha:a≤4611686018427387904) (hb:b≤4611686018427387904) (hb0:0 < b):d65 (a:Int) (b:Int)=some (rr (frac a b)):=by
  have hg:0 < Nat.gcd a b:=Nat.gcd_pos_of_pos_right a hb0
  unfold d65
  rw [d122_eq a b ha hb,Option.bind_some,decide_eq_false (show ¬ ((Nat.gcd a b:Nat):Int)=0 by omega)]
  have h1:a / Nat.gcd a b≤a:=Nat.div_le_self _ _
  have h2:b / Nat.gcd a b≤b:=Nat.div_le_self _ _
  have wN:∀ A:Nat,A≤4611686018427387904→w (A:Int)=(A:Int):=fun A hA=>zbr (by omega) (by omega)
  have e1:w (Int.tdiv (a:Int) ((Nat.gcd a b:Nat):Int))=((a / Nat.gcd a b:Nat):Int):=by rw [tdivN,wN _ (Nat.le_trans h1 ha)]
  have e2:w (Int.tdiv (b:Int) ((Nat.gcd a b:Nat):Int))=((b / Nat.gcd a b:Nat):Int):=by rw [tdivN,wN _ (Nat.le_trans h2 hb)]
  simp only [Bool.not_false,cond_true,e1,e2,d123_eq _ (Nat.le_trans h1 ha),d123_eq _ (Nat.le_trans h2 hb),Option.bind_some]
  congr 1
  rcases Nat.eq_zero_or_pos a with h0 | h0
  · subst h0
    have:frac 0 b=0:=by unfold frac; rw [Rat.div_def]; simp
    rw [this,zpd,Nat.gcd_zero_left,Nat.zero_div,Nat.div_self hb0,zbv,zfh (n:=1) (by omega)]
    simp [zbv]
  · have h:=rr_make false (a:=a) (b:=b) (by omega) (by omega)
    have e:frac a b=mkRat (sgnN false a) b:=by
      unfold frac
      show _=mkRat (a:Int) b
      rw [Rat.mkRat_eq_div]
      rfl
    rw [e,h]
theorem d39_eq {a:Nat} (ha:a≤4611686018427387904):d39 (a:Int)=some (rr (a:Rat)):=by
  unfold d39
  have:=d65_eq (b:=1) ha (by omega) (by omega)
  rw [zlb] at this
  rw [show d65 (a:Int) 1=some (rr (a:Rat)) from this]; rfl
theorem d20_eq (l:List (List Int)) (hl:l.length≤281474976710656):d20 l=some (decide (∀ x∈l,x.length≤12) && decide (l.length≤16)):=by
  unfold d20
  by_cases h:∀ x∈l,x.length≤12
  · refine zaf (b:=.inl l) (fun i=>(l,(i:Int))) l.length rfl (fun i hi=>?_) ?_ ?_
    · have:=h _ (zcv (d:=[]) hi)
      simp only [dlt hi,d0le,Bool.and_self,cond_true,tn,decide_eq_false (show ¬ (12:Int) < ((l.getD i []).length:Int) by omega),cond_false,zcb (show i < 9223372036854775807 by omega)]
    · simp only [nlt (Nat.le_refl l.length),cond_false]
    · rw [decide_eq_true h,Bool.true_and]
      exact congrArg some (decide_eq_decide.2 (by omega))
  · rw [decide_eq_false h,Bool.false_and]
    refine zes (Q:=fun r=>r=some false) (fun (M:Nat) (st:(List (List Int)) × Int)=>∃ i:Nat,st=(l,(i:Int))∧i+M=l.length∧∀ j,j < i→(l.getD j []).length≤12) l.length ⟨0,rfl,by omega,fun j hj=>by omega⟩ ?_
    rintro M st ⟨i,rfl,h1,h2⟩
    rcases Nat.eq_zero_or_pos M with h0 | h0
    · exfalso
      refine h fun x hx=>?_
      obtain ⟨k,hk,rfl⟩:=List.getElem_of_mem hx
      have:=h2 k (by omega)
      rw [List.getD_eq_getElem?_getD,List.getElem?_eq_getElem hk] at this
      exact this
    · have hi:i < l.length:=by omega
      simp only [dlt hi,d0le,Bool.and_self,cond_true,tn]
      by_cases hc:12 < (l.getD i []).length
      · refine .inr ⟨.inr false,by rw [decide_eq_true (show (12:Int) < ((l.getD i []).length:Int) by omega),cond_true],rfl⟩
      · refine .inl ⟨_,M - 1,by rw [decide_eq_false (show ¬ (12:Int) < ((l.getD i []).length:Int) by omega),cond_false],by omega,i+1,by rw [zcb (by omega)],by omega,fun j hj=>?_⟩
        by_cases hji:j=i
        · rw [hji]; omega
        · exact h2 j (by omega)
theorem d72_eq {n:Nat} (hn:n≤1000):∃ l,d72 (n:Int)=some l∧l.length=n:=by
  unfold d72
  refine ⟨lst (fun i=>[wu8 (w (97+(i:Int)))]) n,?_,zaz _ _⟩
  refine zaf (fun i=>((n:Int),lst (fun i=>[wu8 (w (97+(i:Int)))]) i,(i:Int))) n rfl (fun i hi=>?_) ?_ rfl
  · simp only [dlt hi,cond_true,zdi (l:=lst (fun i=>[wu8 (w (97+(i:Int)))]) i) (d:=[wu8 (w (97+(i:Int)))]) (by rw [zaz]; omega),zcb (show i < 9223372036854775807 by omega),zhe]
  · simp only [nlt (Nat.le_refl n),cond_false]
structure ConOK (c:CT) (n:Nat) (m:Int):Prop where
  names:c.2.1.length=n
  method:c.2.2.1=m
  seats1:1≤c.2.2.2.1
  seats5:c.2.2.2.1≤5
  seat:m=1→c.2.2.2.1=1
  digits:m=2→1≤c.2.2.2.2.2.1∧c.2.2.2.2.2.1≤6
  nodigits:m ≠ 2→c.2.2.2.2.2.1=0
  ties1:1≤c.2.2.2.2.2.2.1
  ties3:c.2.2.2.2.2.2.1≤3
theorem d25_eq {n:Nat} (hn:n≤1000) {m seats digits ties:Int} (hm:WT (.int .i64) m) (hs:WT (.int .i64) seats) (hd:WT (.int .i64) digits) (ht:WT (.int .i64) ties):∃ c:CT,d25 m (n:Int) seats digits ties=some c∧ConOK c n (1+m % 3)∧c.2.2.2.1=(if 1+m % 3=1 then 1 else 1+seats % 5)∧c.2.2.2.2.2.2.1=1+ties % 3:=by
  obtain ⟨l,l1,l2⟩:=d72_eq (n:=n) hn
  unfold d25
  rw [l1,zmv hm (by omega) (by omega),zmv hs (by omega) (by omega),zmv ht (by omega) (by omega),zmv hd (by omega) (by omega)]
  simp only [Option.bind_some,zay]
  have w1:w (1+m % 3)=1+m % 3:=zbr (by omega) (by omega)
  have w2:w (1+seats % 5)=1+seats % 5:=zbr (by omega) (by omega)
  have w3:w (1+ties % 3)=1+ties % 3:=zbr (by omega) (by omega)
  have w4:w (1+digits % 6)=1+digits % 6:=zbr (by omega) (by omega)
  simp only [w1,w2,w3,w4]
  have hm3:1+m % 3=1∨1+m % 3=2∨1+m % 3=3:=by omega
  rcases hm3 with h | h | h
  · rw [h]
    exact ⟨_,rfl,⟨l2,rfl,by show (1:Int)≤1; omega,by show (1:Int)≤5; omega,fun _=>rfl,fun h=>absurd h (by omega),fun _=>rfl,by show 1≤1+ties % 3; omega,by show 1+ties % 3≤3; omega⟩,rfl,rfl⟩
  · rw [h]
    exact ⟨_,rfl,⟨l2,rfl,by show 1≤1+seats % 5; omega,by show 1+seats % 5≤5; omega,fun h=>absurd h (by omega),fun _=>by show 1≤1+digits % 6∧1+digits % 6≤6; omega,fun h=>absurd rfl h,by show 1≤1+ties % 3; omega,by show 1+ties % 3≤3; omega⟩,rfl,rfl⟩
  · rw [h]
    exact ⟨_,rfl,⟨l2,rfl,by show 1≤1+seats % 5; omega,by show 1+seats % 5≤5; omega,fun h=>absurd h (by omega),fun h=>absurd h (by omega),fun _=>rfl,by show 1≤1+ties % 3; omega,by show 1+ties % 3≤3; omega⟩,rfl,rfl⟩
theorem d27_eq {n:Nat} (hn:n≤1000) {code:Int} (hc:WT (.int .i64) code):∃ l,d27 (n:Int) code=some l∧l.length=n∧isB (n:Int) l:=by
  have hwt:∀ x:Int,WT (.int .i64) x→-9223372036854775808≤x∧x≤9223372036854775807:=fun x hx=>wt_int hx
  unfold d27
  refine zck (Q:=fun r=>∃ l,r=some l∧l.length=n∧isB (n:Int) l) (fun (i:Nat) (st:Int × Int × (List Int) × Int)=>∃ (cd:Int) (out:List Int),st=((n:Int),cd,out,(i:Int))∧WT (.int .i64) cd∧out.length=i∧isB (i:Int) out) n ?_ ?_ ?_
  · exact ⟨code,[],rfl,hc,rfl,List.nodup_nil,fun x hx=>by simp at hx⟩
  · rintro i st hi ⟨cd,out,rfl,hcd,hlen,hb⟩
    have hcb:=hwt cd hcd
    have b:=zjs cd (n:=((i+1:Nat):Int)) (by omega)
    obtain ⟨r,hr⟩:∃ r:Nat,cd % ((i+1:Nat):Int)=(r:Int):=⟨(cd % ((i+1:Nat):Int)).toNat,by omega⟩
    have hri:r≤i:=by omega
    have c1:zdb 0 (r:Int) out.length=true:=by
      unfold zdb
      simp only [Bool.and_eq_true,decide_eq_true_eq]
      omega
    have c2:zdb (r:Int) (out.length:Int) out.length=true:=by
      unfold zdb
      simp only [Bool.and_eq_true,decide_eq_true_eq]
      omega
    have hq:-9223372036854775808≤Int.tdiv cd ((i+1:Nat):Int)∧Int.tdiv cd ((i+1:Nat):Int)≤9223372036854775807:=by
      have h1:=Int.natAbs_tdiv_le_natAbs cd ((i+1:Nat):Int)
      by_cases h0:cd=-9223372036854775808
      · subst h0
        have h2:Int.tdiv (-9223372036854775808) ((i+1:Nat):Int)=-(Int.tdiv 9223372036854775808 ((i+1:Nat):Int)):=by rw [← Int.neg_tdiv]
        have h3:0≤Int.tdiv 9223372036854775808 ((i+1:Nat):Int):=Int.tdiv_nonneg (by omega) (by omega)
        omega
      · omega
    have hne:decide (((i+1:Nat):Int)=0)=false:=decide_eq_false (by omega)
    have ht:(out.take r).length=r:=by rw [List.length_take]; omega
    have l1:decide ((([]:List Int).length:Int)+((out.take r).length:Int)≤LIM)=true:=zmj (by rw [ht]; simp; omega)
    have l2:=zdi (l:=out.take r) (d:=(i:Int)) (by omega)
    have l3:decide (((out.take r++[(i:Int)]).length:Int)+((out.drop r).length:Int)≤LIM)=true:=zmj (by simp; omega)
    simp only [dlt hi,cond_true,zcb (show i < 9223372036854775807 by omega),zmv hcd (show (0:Int) < ((i+1:Nat):Int) by omega) (by omega),hr,Option.bind_some,hne,Bool.not_false,c1,c2,List.drop_zero,tn,List.take_length,l1,l2,l3]
    refine ⟨_,rfl,_,_,rfl,?_,by simp; omega,?_,fun x hx=>?_⟩
    · rw [zbr hq.1 hq.2]
      exact zbr hq.1 hq.2
    · have hp:(out.take r++[(i:Int)]++out.drop r).Perm ((i:Int)::out):=by
        have h1:(out.take r++[(i:Int)]++out.drop r).Perm ([(i:Int)]++out.take r++out.drop r):=List.Perm.append_right _ List.perm_append_comm
        have h2:[(i:Int)]++out.take r++out.drop r=(i:Int)::out:=by rw [List.append_assoc,List.take_append_drop]; rfl
        rwa [h2] at h1
      refine hp.nodup_iff.2 (List.nodup_cons.2 ⟨fun hm=>?_,hb.1⟩)
      have:=hb.2 _ hm
      omega
    · simp only [List.mem_append,List.mem_singleton] at hx
      rcases hx with (hx | hx) | hx
      · have:=hb.2 x (List.mem_of_mem_take hx); omega
      · omega
      · have:=hb.2 x (List.mem_of_mem_drop hx); omega
  · rintro st ⟨cd,out,rfl,hcd,hlen,hb⟩
    exact ⟨out,by simp only [nlt (Nat.le_refl n),cond_false],out,rfl,hlen,hb⟩
theorem fitE_made {c:CT} {n:Nat} {m:Int} {gs:List Grp} {lots:List Int} {N:Int} (hc:ConOK c n m) (hm:1≤m) (hm3:m≤3) (h1:1≤n) (h7:n≤7) (hp:PileOK (n:Int) gs N) (hl:lots.length=n) (hb:isB (n:Int) lots):fitE m c gs lots=0:=by
  have hn:=hc.names
  have hpb:zpm (n:Int) gs=true:=by
    unfold zpm goodP
    rw [decide_eq_true hp.good,decide_eq_true (show 1≤(n:Int)∧(n:Int)≤7 by omega)]; rfl
  have hqb:permB (n:Int) lots=true:=by
    unfold permB
    rw [decide_eq_true hb,decide_eq_true (by omega)]; rfl
  have:=hc.seats1
  have:=hc.seats5
  have:=hc.ties1
  have:=hc.ties3
  unfold fitE
  rw [hn,hpb,hqb]
  simp only [decide_eq_false (show ¬ m < 1 by omega),decide_eq_false (show ¬ 3 < m by omega),decide_eq_true hc.method,decide_eq_false (show ¬ (n:Int) < 1 by omega),decide_eq_false (show ¬ 7 < (n:Int) by omega),decide_eq_false (show ¬ c.2.2.2.1 < 1 by omega),decide_eq_false (show ¬ 5 < c.2.2.2.1 by omega),decide_eq_false (show ¬ c.2.2.2.2.2.2.1 < 1 by omega),decide_eq_false (show ¬ 3 < c.2.2.2.2.2.2.1 by omega),Bool.not_true,Bool.or_false,Bool.false_or,cond_false]
  have h1:(decide (m=1) && !decide (c.2.2.2.1=1))=false:=by
    by_cases h:m=1
    · rw [decide_eq_true (hc.seat h)]; simp
    · rw [decide_eq_false h]; rfl
  have h2:(bif decide (m=2) then decide (1≤c.2.2.2.2.2.1) && decide (c.2.2.2.2.2.1≤6) else decide (c.2.2.2.2.2.1=0))=true:=by
    by_cases h:m=2
    · rw [decide_eq_true h,cond_true,decide_eq_true (hc.digits h).1,decide_eq_true (hc.digits h).2]; rfl
    · rw [decide_eq_false h,cond_false,decide_eq_true (hc.nodigits h)]
  rw [h1,h2]
  rfl
def awG:GP:={ gs:=[([0,1],6),([2],3)],n:=3,seats:=2,q:=4,tot:=9,ties:=3,lots:=[0,1,2] }
theorem aw_pile:zdt [[0,1],[0,1],[0,1],[0,1],[0,1],[0,1],[2],[2],[2]]=[([0,1],6),([2],3)]:=by decide +kernel
theorem aw_count:(zbz awG).map (fun r=>(r.keep,r.exh,r.el))=[([1,1,1],0,[0]),([mkRat 1 3,1,1],0,[]),([mkRat 1 3,0,1],2,[2])]:=by decide +kernel
theorem aw_gp {c:CT} (h1:c.2.1.length=3) (h2:c.2.2.2.1=2) (h3:c.2.2.2.2.2.2.1=3):gpOf c [([0,1],6),([2],3)] [0,1,2]=awG:=by
  unfold gpOf awG
  rw [h1,h2,h3]
  have e1:(wsum zar [([0,1],6),([2],3)] / (2+1)+1).toNat=4:=by decide +kernel
  have e2:(wsum (fun _=>1) [([0,1],6),([2],3)]).toNat=9:=by decide +kernel
  rw [e1,e2]
  rfl
theorem d21_eq:d21=some true:=by
  have k:∀ x:Int,-9223372036854775808≤x→x≤9223372036854775807→WT (.int .i64) x:=fun x h0 h1=>zbr h0 h1
  obtain ⟨c,c1,c2,c3,c4⟩:=d25_eq (n:=3) (by omega) (k 2 (by omega) (by omega)) (k 1 (by omega) (by omega)) (k 0 (by omega) (by omega)) (k 2 (by omega) (by omega))
  have c3':c.2.2.2.1=2:=by rw [c3]; rfl
  have c4':c.2.2.2.2.2.2.1=3:=by rw [c4]; rfl
  have hb:∀ b∈[[0,1],[0,1],[0,1],[0,1],[0,1],[0,1],[2],[2],[2]],isB 3 b:=by decide +kernel
  have h48:=d48_eq (n:=3) (by omega) (by omega) hb (by simp)
  have hp:=(zmh (n:=3) _ hb (by simp)).1
  rw [aw_pile] at h48 hp
  have hfit:fitE 3 c [([0,1],6),([2],3)] [0,1,2]=0:=fitE_made (n:=3) (m:=3) c2 (by omega) (by omega) (by omega) (by omega) hp rfl (by decide +kernel)
  have h22:=d22_eq (c:=c) (lots:=[0,1,2]) (hp.gs (by omega)) (by simp)
  rw [if_pos hfit,aw_gp c2.names c3' c4'] at h22
  unfold d21
  have c1':d25 2 3 1 0 2=some c:=c1
  rw [h48,Option.bind_some,c1',Option.bind_some,h22,Option.bind_some]
  have hL:(zbz awG).length=3:=by have:=congrArg List.length aw_count; simpa using this
  obtain ⟨r0,r1,r2,hr⟩:∃ r0 r1 r2,zbz awG=[r0,r1,r2]:=by
    match h:zbz awG,hL with
    | [a,b,c],_=>exact ⟨a,b,c,rfl⟩
  have hc:=aw_count
  rw [hr] at hc
  simp only [List.map_cons,List.map_nil,List.cons.injEq,Prod.mk.injEq,and_true] at hc
  obtain ⟨⟨a1,a2,a3⟩,⟨b1,b2,b3⟩,⟨e1,e2,e3⟩⟩:=hc
  have hT:trT awG=(3,2,0,3,[rdT r0,rdT r1,rdT r2],[0,2]):=by
    unfold trT
    rw [hr]
    simp only [List.map_cons,List.map_nil,List.flatMap_cons,List.flatMap_nil,a3,b3,e3]
    rfl
  rw [hT,zay]
  have f38:d38 [0,2] [0,2]=some true:=by rw [d38_eq (by simp) (by simp)]; rfl
  have f65:d65 1 3=some (rr (mkRat 1 3)):=by
    have:=d65_eq (a:=1) (b:=3) (by omega) (by omega) (by omega)
    rw [show frac 1 3=mkRat 1 3 by decide +kernel] at this
    exact this
  have f39:d39 2=some (rr 2):=d39_eq (a:=2) (by omega)
  have f30:d30 9 2=some 4:=by rw [d30_eq (by omega) (by omega) (by omega) (by omega)]; rfl
  have hk:(rdT r1).2.1=[rr (mkRat 1 3),rr 1,rr 1]:=by
    show r1.keep.map rr=_
    rw [b1]; rfl
  have hx:(rdT r2).2.2.2.1=rr 2:=by
    show rr r2.exh=_
    rw [e2]
  have g1:d37 (rr (mkRat 1 3)) (rr (mkRat 1 3))=some true:=by
    rw [d37_rr (Bz.sz2 ⟨Nat.lt_of_le_of_lt (show (mkRat 1 3).num.natAbs≤1 by decide +kernel) (Nat.one_lt_two_pow (by decide)),Nat.lt_of_le_of_lt (show (mkRat 1 3).den≤2 ^ 2 by decide +kernel) (Nat.pow_lt_pow_right (by decide) (by decide))⟩),decide_eq_true rfl]
  have g2:d37 (rr 2) (rr 2)=some true:=by
    have h:=d37_rr (x:=((2:Nat):Rat)) (y:=((2:Nat):Rat)) (bz_nat (n:=2) (by decide)).sz2
    rw [decide_eq_true rfl] at h
    exact h
  simp only [f38,f65,f39,f30,List.getD_cons_succ,List.getD_cons_zero,hk,hx,g1,g2,Option.bind_some,List.length_cons,List.length_nil]
  rfl
end Go.Proofs.YtmipjomnjkmdbaaGreat
set_option linter.unusedSimpArgs false
set_option linter.unusedVariables false
namespace Go.Proofs.YtmipjomnjkmdbaaGreat
open Go Go.X
inductive Tr (P:GP):GS→List Rd→List Rd→Prop
  | fin {s:GS} {rs:List Rd}:Run P s rs→s.fin P=true→Tr P s rs [s.done P]
  | trans {s:GS} {rs rest:List Rd}:Run P s rs→s.fin P=false→s.most P=true→Tr P (s.trans P (rs.map Rd.votes)) (rs++[{ s.rd0 P with ti:=s.tiedR P }]) rest→Tr P s rs ({ s.rd0 P with ti:=s.tiedR P }::rest)
  | excl {s:GS} {rs rest:List Rd}:Run P s rs→s.fin P=false→s.most P=false→Tr P (s.excl P (rs.map Rd.votes)) (rs++[{ s.rd0 P with ti:=s.tiedR P,ex:=[s.pick P (rs.map Rd.votes)] }]) rest→Tr P s rs ({ s.rd0 P with ti:=s.tiedR P,ex:=[s.pick P (rs.map Rd.votes)] }::rest)
theorem tr_ex {P:GP} (hP:P.OK):∀ (m:Nat) {s:GS} {rs:List Rd},s.meas P < m→Run P s rs→∃ rest,Tr P s rs rest∧rs++rest=zbz P
  | 0,_,_,h,_=>by omega
  | m+1,s,rs,h,hR=>by
    cases hf:s.fin P with
    | true=>exact ⟨_,.fin hR hf,hR.fin hf⟩
    | false =>
      cases hm:s.most P with
      | true =>
        have hme:=zjf hP hR.inv hf hm (rs.map Rd.votes)
        obtain ⟨rest,h1,h2⟩:=tr_ex hP m (by omega) (hR.trans hP hf hm)
        exact ⟨_,.trans hR hf hm h1,by rw [← h2,List.append_assoc]; rfl⟩
      | false =>
        have hme:=zmr hP hR.inv hf hm (rs.map Rd.votes)
        obtain ⟨rest,h1,h2⟩:=tr_ex hP m (by omega) (hR.excl hP hf hm)
        exact ⟨_,.excl hR hf hm h1,by rw [← h2,List.append_assoc]; rfl⟩
theorem zml {P:GP} (hP:P.OK):Tr P g0 [] (zbz P):=by
  obtain ⟨rest,h1,h2⟩:=tr_ex hP (g0.meas P+1) (by omega) (Run.start hP)
  rw [List.nil_append] at h2
  rwa [h2] at h1
variable {P:GP} {s:GS}
theorem Tr.ne {rs rest:List Rd} (h:Tr P s rs rest):rest ≠ []:=by
  cases h <;> simp
def GS.act (P:GP) (s:GS):Nat:=cntN (fun i=>decide (s.st i ≠ 3)) P.n
theorem act_split (hI:GI P s):s.e1 P+s.e2 P+s.e0 P=s.act P:=by
  unfold GS.e1 GS.e2 GS.e0 GS.act cntN
  rw [← zcq,← zcq]
  refine zaw fun i hi=>?_
  have h3:=hI.st3 i
  rcases zbn (P:=P) (s:=s) i with ⟨h0,h1,h2,_⟩ | ⟨h0,h2⟩
  · simp [h1,h2]
  · have:s.st i=0∨s.st i=1∨s.st i=2∨s.st i=3:=by omega
    rcases this with h | h | h | h <;> simp [h,h2]
theorem el1_hop {i:Nat} (h:s.el1 P i=true):s.st i=0:=by
  unfold GS.el1 at h
  rw [Bool.and_eq_true,decide_eq_true_eq] at h
  exact h.1
theorem trans_st (hP:P.OK) (hI:GI P s) (hf:s.fin P=false) (hm:s.most P=true) (E:List (List Rat)):∃ x,x < P.n∧s.st1 P x=1∧s.pick P E=(x:Int)∧s.trans P E=s.move P (upd (s.st1 P) x 2) (upd s.keep x (frac (s.vt P x - s.bar P) (s.vt P x))) x (s.vt P x - s.bar P) (s.vt P x):=by
  obtain ⟨x,x1,x2,x3⟩:=zel hP hI hf E
  rw [hm,if_pos rfl] at x3
  exact ⟨x,x2,x3,x1,by unfold GS.trans; simp only [x1,Int.toNat_natCast]⟩
theorem excl_st (hP:P.OK) (hI:GI P s) (hf:s.fin P=false) (hm:s.most P=false) (E:List (List Rat)):∃ x,x < P.n∧s.st1 P x=0∧s.pick P E=(x:Int)∧s.excl P E=s.move P (upd (s.st1 P) x 3) (upd s.keep x 0) x 1 1:=by
  obtain ⟨x,x1,x2,x3⟩:=zel hP hI hf E
  rw [hm] at x3
  exact ⟨x,x2,by simpa using x3,x1,by unfold GS.excl; simp only [x1,Int.toNat_natCast]⟩
theorem next_hop {x y:Nat} (hy:y ≠ 0) {keep:Nat→Rat} {a b i:Nat} (h:(s.move P (upd (s.st1 P) x y) keep x a b).st i=0):s.st i=0∧s.el1 P i=false:=by
  have h':upd (s.st1 P) x y i=0:=h
  unfold upd at h'
  split at h'
  · omega
  · rcases zbn (P:=P) (s:=s) i with ⟨h0,h1,h2,_⟩ | ⟨h0,h2⟩
    · omega
    · exact ⟨by omega,h0⟩
structure WinOK (P:GP) (s:GS) (l:List Int):Prop where
  nodup:l.Nodup
  within:∀ c∈l,∃ i:Nat,c=(i:Int)∧i < P.n∧s.st i=0
  num:l.length+cntN (fun i=>decide (s.st i=1)) P.n+cntN (fun i=>decide (s.st i=2)) P.n=min P.seats P.n
theorem zfe (p:Nat→Bool) (n:Nat):(selI p n).Nodup:=(zdm p n).imp fun h=>by omega
theorem WinOK.cons (hI:GI P s) {x y:Nat} (hx:x < P.n) (hy:(s.st1 P x=1∧y=2)∨(s.st1 P x=0∧y=3)) {keep:Nat→Rat} {a b:Nat} {l:List Int} (h:WinOK P (s.move P (upd (s.st1 P) x y) keep x a b) l):WinOK P s (selI (s.el1 P) P.n++l):=by
  refine ⟨List.nodup_append.2 ⟨zfe _ _,h.nodup,fun c hc d hd hcd=>?_⟩,fun c hc=>?_,?_⟩
  · subst hcd
    obtain ⟨i,rfl,h1,h2⟩:=zbk.1 hc
    obtain ⟨j,h3,h4,h5⟩:=h.within _ hd
    have:=(next_hop (by omega) h5).2
    rw [← Int.ofNat_inj.1 h3,h2] at this
    cases this
  · rcases List.mem_append.1 hc with hc | hc
    · obtain ⟨i,rfl,h1,h2⟩:=zbk.1 hc
      exact ⟨i,rfl,h1,el1_hop h2⟩
    · obtain ⟨j,h3,h4,h5⟩:=h.within _ hc
      exact ⟨j,h3,h4,(next_hop (by omega) h5).1⟩
  · have h1:=h.num
    have h2:=fl_next (P:=P) (s:=s) hx hy (st:=(s.move P (upd (s.st1 P) x y) keep x a b).st) rfl
    have h3:=zmz hI
    rw [List.length_append,zbs]
    omega
theorem act_move {x y:Nat} (hx:x < P.n) (hy:(s.st1 P x=1∧y=2)∨(s.st1 P x=0∧y=3)) {keep:Nat→Rat} {a b:Nat}:(s.move P (upd (s.st1 P) x y) keep x a b).act P+(if y=3 then 1 else 0)=s.act P:=by
  unfold GS.act
  show cntN (fun i=>decide (upd (s.st1 P) x y i ≠ 3)) P.n+_=_
  have e:∀ i,decide (s.st1 P i ≠ 3)=decide (s.st i ≠ 3):=fun i=>by
    refine decide_eq_decide.2 ?_
    rcases zbn (P:=P) (s:=s) i with ⟨h0,h1,h2,_⟩ | ⟨h0,h2⟩ <;> omega
  rcases hy with ⟨h1,rfl⟩ | ⟨h1,rfl⟩
  · rw [if_neg (by omega),Nat.add_zero]
    refine zkb fun i hi=>?_
    by_cases h:i=x
    · subst h
      rw [zcg,← e,h1]; rfl
    · rw [zet _ _ h,e]
  · rw [if_pos rfl]
    refine (cnt_upd (p:=fun i=>decide (s.st i ≠ 3)) hx (fun i hi hne=>?_) ?_ ?_).symm
    · rw [zet _ _ hne,e]
    · rw [zcg]; rfl
    · rw [← e,h1]; rfl
theorem fin_win (hP:P.OK) (hI:GI P s) (hf:s.fin P=true) (hact:min P.seats P.n≤s.act P):WinOK P s (s.done P).el:=by
  have hs:=act_split hI
  have hc:=zmz hI
  have helec:=zjy hP hI
  have hactn:s.act P≤P.n:=zcf _ _
  unfold GS.done
  show WinOK P s (if s.e1 P+s.e2 P < P.seats then selI (fun i=>s.el1 P i || decide (s.st1 P i=0)) P.n else selI (s.el1 P) P.n)
  by_cases h:s.e1 P+s.e2 P < P.seats
  · rw [if_pos h]
    have hq:s.e1 P+s.e2 P+s.e0 P≤P.seats:=by
      unfold GS.fin at hf
      rw [Bool.or_eq_true,decide_eq_true_eq,decide_eq_true_eq] at hf
      rcases hf with h1 | h1
      · have:s.e1 P+s.e2 P=P.seats:=h1
        omega
      · exact h1
    refine ⟨zfe _ _,fun c hc=>?_,?_⟩
    · obtain ⟨i,rfl,h1,h2⟩:=zbk.1 hc
      refine ⟨i,rfl,h1,?_⟩
      rcases zbn (P:=P) (s:=s) i with ⟨h0,k1,k2,_⟩ | ⟨h0,k2⟩
      · exact k1
      · rw [h0,Bool.false_or,decide_eq_true_eq] at h2
        omega
    · rw [zbs]
      have e:cntN (fun i=>s.el1 P i || decide (s.st1 P i=0)) P.n=cntN (s.el1 P) P.n+s.e0 P:=by
        unfold GS.e0 cntN
        rw [← zcq]
        refine zaw fun i hi=>?_
        rcases zbn (P:=P) (s:=s) i with ⟨h0,k1,k2,_⟩ | ⟨h0,k2⟩
        · simp [h0,k2]
        · simp [h0]
      rw [e]
      omega
  · rw [if_neg h]
    refine ⟨zfe _ _,fun c hc=>?_,?_⟩
    · obtain ⟨i,rfl,h1,h2⟩:=zbk.1 hc
      exact ⟨i,rfl,h1,el1_hop h2⟩
    · rw [zbs]
      have:s.e1 P+s.e2 P≤P.n:=by omega
      omega
theorem win_tr (hP:P.OK) {rs rest:List Rd} (h:Tr P s rs rest):min P.seats P.n≤s.act P→WinOK P s (rest.flatMap Rd.el):=by
  induction h with
  | fin hR hf =>
    intro hact
    rw [List.flatMap_cons,List.flatMap_nil,List.append_nil]
    exact fin_win hP hR.inv hf hact
  | @trans s rs rest hR hf hm h ih =>
    intro hact
    obtain ⟨x,x1,x2,x3,x4⟩:=trans_st hP hR.inv hf hm (rs.map Rd.votes)
    rw [x4] at ih
    have ha:=act_move (P:=P) (s:=s) (y:=2) x1 (.inl ⟨x2,rfl⟩) (keep:=upd s.keep x (frac (s.vt P x - s.bar P) (s.vt P x))) (a:=s.vt P x - s.bar P) (b:=s.vt P x)
    rw [if_neg (by omega),Nat.add_zero] at ha
    rw [List.flatMap_cons]
    exact WinOK.cons hR.inv x1 (.inl ⟨x2,rfl⟩) (ih (by rw [ha]; exact hact))
  | @excl s rs rest hR hf hm h ih =>
    intro hact
    obtain ⟨x,x1,x2,x3,x4⟩:=excl_st hP hR.inv hf hm (rs.map Rd.votes)
    rw [x4] at ih
    have ha:=act_move (P:=P) (s:=s) (y:=3) x1 (.inr ⟨x2,rfl⟩) (keep:=upd s.keep x 0) (a:=1) (b:=1)
    rw [if_pos rfl] at ha
    have hs:=act_split hR.inv
    have hff:=fin_false hP hR.inv hf
    rw [List.flatMap_cons]
    exact WinOK.cons hR.inv x1 (.inr ⟨x2,rfl⟩) (ih (by omega))
theorem win_ok (hP:P.OK):WinOK P g0 ((zbz P).flatMap Rd.el):=by
  refine win_tr hP (zml hP) ?_
  have:g0.act P=P.n:=by
    unfold GS.act cntN
    have key:∀ n,sumN (fun _=>1) n=n:=fun n=>by
      induction n with
      | zero=>rfl
      | succ n ih=>rw [sumN,ih]
    exact (zaw (g:=fun _=>1) fun i _=>rfl).trans (key _)
  rw [this]
  exact Nat.min_le_right _ _
theorem win_len (hP:P.OK):((zbz P).flatMap Rd.el).length=min P.seats P.n:=by
  have h:=(win_ok hP).num
  have e1:cntN (fun i=>decide (g0.st i=1)) P.n=0:=by unfold cntN; exact zde _
  have e2:cntN (fun i=>decide (g0.st i=2)) P.n=0:=by unfold cntN; exact zde _
  rw [e1,e2] at h
  exact h
theorem win_isB (hP:P.OK):isB (P.n:Int) ((zbz P).flatMap Rd.el):=⟨(win_ok hP).nodup,fun c hc=>by
  obtain ⟨i,rfl,h,_⟩:=(win_ok hP).within c hc
  omega⟩
theorem gcount_ne (hP:P.OK):zbz P ≠ []:=(zml hP).ne
end Go.Proofs.YtmipjomnjkmdbaaGreat
set_option linter.unusedSimpArgs false
set_option linter.unusedVariables false
namespace Go.Proofs.YtmipjomnjkmdbaaGreat
open Go Go.X
structure Bij (n:Nat) (ρ:Nat→Nat):Prop where
  lt:∀ i,i < n→ρ i < n
  inj:∀ i j,i < n→j < n→ρ i=ρ j→i=j
theorem zjr {α:Type} [DecidableEq α]:∀ {l l':List α},l.Nodup→(∀ x∈l,x∈l')→l'.length≤l.length→l.Perm l'
  | [],l',_,_,h=>by
    have:l'=[]:=List.length_eq_zero_iff.1 (Nat.le_zero.1 h)
    rw [this]
  | x::l,l',hn,hs,h=>by
    obtain ⟨h1,h2⟩:=List.nodup_cons.1 hn
    have hx:=hs x (by simp)
    have hp:=List.perm_cons_erase hx
    refine List.Perm.trans (List.Perm.cons x (zjr (l':=l'.erase x) h2 (fun y hy=>?_) ?_)) hp.symm
    · exact (List.mem_erase_of_ne (fun e:y=x=>h1 (by rw [← e]; exact hy))).2 (hs y (List.mem_cons_of_mem _ hy))
    · rw [List.length_erase_of_mem hx]
      simp only [List.length_cons] at h
      omega
inductive All2 {α β:Type} (R:α→β→Prop):List α→List β→Prop
  | nil:All2 R [] []
  | cons {a:α} {b:β} {l:List α} {l':List β}:R a b→All2 R l l'→All2 R (a::l) (b::l')
theorem Bij.perm {n:Nat} {ρ:Nat→Nat} (h:Bij n ρ):((List.range n).map ρ).Perm (List.range n):=by
  have hnd:((List.range n).map ρ).Nodup:=by
    rw [List.nodup_iff_pairwise_ne,List.pairwise_map]
    exact (List.nodup_iff_pairwise_ne.1 List.nodup_range).imp_of_mem fun {a b} ha hb hne e=>hne (h.inj a b (List.mem_range.1 ha) (List.mem_range.1 hb) e)
  have hsub:∀ x∈(List.range n).map ρ,x∈List.range n:=fun x hx=>by
    obtain ⟨i,hi,rfl⟩:=List.mem_map.1 hx
    exact List.mem_range.2 (h.lt i (List.mem_range.1 hi))
  exact zjr hnd hsub (by simp)
theorem Bij.onto {n:Nat} {ρ:Nat→Nat} (h:Bij n ρ) {j:Nat} (hj:j < n):∃ i,i < n∧ρ i=j:=by
  have:=h.perm.mem_iff.2 (List.mem_range.2 hj)
  obtain ⟨i,hi,e⟩:=List.mem_map.1 this
  exact ⟨i,List.mem_range.1 hi,e⟩
theorem zlo (f:Nat→Nat):∀ n:Nat,sumN f n=((List.range n).map f).sum
  | 0=>rfl
  | n+1=>by rw [sumN,List.range_succ,List.map_append,List.sum_append,zlo f n]; simp
theorem Bij.sum {n:Nat} {ρ:Nat→Nat} (h:Bij n ρ) {f f':Nat→Nat} (hf:∀ i,i < n→f' (ρ i)=f i):sumN f' n=sumN f n:=by
  rw [zlo,zlo,← (h.perm.map f').sum_nat,List.map_map]
  congr 1
  exact List.map_congr_left fun i hi=>hf i (List.mem_range.1 hi)
theorem Bij.cnt {n:Nat} {ρ:Nat→Nat} (h:Bij n ρ) {f f':Nat→Bool} (hf:∀ i,i < n→f' (ρ i)=f i):cntN f' n=cntN f n:=h.sum fun i hi=>by rw [hf i hi]
def rI (ρ:Nat→Nat) (c:Int):Int:=((ρ c.toNat:Nat):Int)
structure Ren (n:Nat) (ρ:Nat→Nat) (l l':List Int):Prop where
  mem:∀ i,i < n→((i:Int)∈l↔((ρ i:Nat):Int)∈l')
  len:l.length=l'.length
  ins:∀ c∈l,∃ i:Nat,c=(i:Int)∧i < n
  ins':∀ c∈l',∃ i:Nat,c=(i:Int)∧i < n
theorem Ren.sel {n:Nat} {ρ:Nat→Nat} (h:Bij n ρ) {f f':Nat→Bool} (hf:∀ i,i < n→f' (ρ i)=f i):Ren n ρ (selI f n) (selI f' n):=by
  refine ⟨fun i hi=>?_,by rw [zbs,zbs,h.cnt hf],fun c hc=>?_,fun c hc=>?_⟩
  · rw [zbk,zbk]
    constructor
    · rintro ⟨k,e,h1,h2⟩
      obtain rfl:=Int.ofNat_inj.1 e
      exact ⟨ρ i,rfl,h.lt i hi,by rw [hf i hi]; exact h2⟩
    · rintro ⟨k,e,h1,h2⟩
      obtain rfl:=Int.ofNat_inj.1 e
      exact ⟨i,rfl,hi,by rw [← hf i hi]; exact h2⟩
  · obtain ⟨k,e,h1,_⟩:=zbk.1 hc
    exact ⟨k,e,h1⟩
  · obtain ⟨k,e,h1,_⟩:=zbk.1 hc
    exact ⟨k,e,h1⟩
theorem Ren.filter {n:Nat} {ρ:Nat→Nat} (h:Bij n ρ) {l l':List Int} (hn:l.Nodup) (hn':l'.Nodup) (hl:Ren n ρ l l') {p p':Int→Bool} (hp:∀ i,i < n→p' ((ρ i:Nat):Int)=p (i:Int)):Ren n ρ (l.filter p) (l'.filter p'):=by
  refine ⟨fun i hi=>by rw [List.mem_filter,List.mem_filter,hp i hi,hl.mem i hi],?_,fun c hc=>hl.ins c (List.mem_filter.1 hc).1,fun c hc=>hl.ins' c (List.mem_filter.1 hc).1⟩
  have hmap:(l.map (rI ρ)).Nodup:=by
    rw [List.nodup_iff_pairwise_ne,List.pairwise_map]
    refine (List.nodup_iff_pairwise_ne.1 hn).imp_of_mem fun {a b} ha hb hne e=>hne ?_
    obtain ⟨i,rfl,hi⟩:=hl.ins a ha
    obtain ⟨j,rfl,hj⟩:=hl.ins b hb
    unfold rI at e
    rw [Int.toNat_natCast,Int.toNat_natCast] at e
    rw [h.inj i j hi hj (Int.ofNat_inj.1 e)]
  have hsub:∀ x∈l.map (rI ρ),x∈l':=fun x hx=>by
    obtain ⟨c,hc,rfl⟩:=List.mem_map.1 hx
    obtain ⟨i,rfl,hi⟩:=hl.ins c hc
    exact (hl.mem i hi).1 hc
  have hperm:(l.map (rI ρ)).Perm l':=zjr hmap hsub (by rw [List.length_map,hl.len]; exact Nat.le_refl _)
  rw [← (hperm.filter p').length_eq,List.filter_map,List.length_map]
  congr 1
  refine List.filter_congr fun c hc=>?_
  obtain ⟨i,rfl,hi⟩:=hl.ins c hc
  show p (i:Int)=p' (rI ρ (i:Int))
  rw [← hp i hi]; rfl
theorem Ren.all {n:Nat} {ρ:Nat→Nat} (h:Bij n ρ) {l l':List Int} (hl:Ren n ρ l l') {p p':Int→Bool} (hp:∀ i,i < n→p' ((ρ i:Nat):Int)=p (i:Int)):l'.all p'=l.all p:=by
  rw [Bool.eq_iff_iff,List.all_eq_true,List.all_eq_true]
  constructor
  · intro hh c hc
    obtain ⟨i,rfl,hi⟩:=hl.ins c hc
    rw [← hp i hi]
    exact hh _ ((hl.mem i hi).1 hc)
  · intro hh c hc
    obtain ⟨k,rfl,hk⟩:=hl.ins' c hc
    obtain ⟨i,hi,rfl⟩:=h.onto hk
    rw [hp i hi]
    exact hh _ ((hl.mem i hi).2 hc)
def RenV (n:Nat) (ρ:Nat→Nat) (r r':List Rat):Prop:=∀ i,i < n→r'.getD (ρ i) 0=r.getD i 0
theorem Ren.extr {n:Nat} {ρ:Nat→Nat} (h:Bij n ρ) {l l':List Int} (hn:l.Nodup) (hn':l'.Nodup) (hl:Ren n ρ l l') {r r':List Rat} (hr:RenV n ρ r r') (least:Bool):Ren n ρ (extr least (zbf r) l) (extr least (zbf r') l'):=by
  unfold Go.Proofs.YtmipjomnjkmdbaaGreat.extr
  have hv:∀ i,i < n→zbf r' ((ρ i:Nat):Int)=zbf r (i:Int):=fun i hi=>hr i hi
  refine hl.filter h hn hn' fun i hi=>?_
  refine Ren.all h hl fun k hk=>?_
  rw [hv i hi,hv k hk]
theorem zod {least:Bool} {r:Int→Rat} {l:List Int} (h:l.Nodup):(extr least r l).Nodup:=h.filter _
theorem Ren.tieL {n:Nat} {ρ:Nat→Nat} (h:Bij n ρ) (least:Bool):∀ {E E':List (List Rat)} {l l':List Int},l.Nodup→l'.Nodup→Ren n ρ l l'→All2 (RenV n ρ) E E'→Ren n ρ (tieL least E l) (tieL least E' l')∧(Go.Proofs.YtmipjomnjkmdbaaGreat.tieL least E l).Nodup∧(Go.Proofs.YtmipjomnjkmdbaaGreat.tieL least E' l').Nodup
  | _,_,l,l',hn,hn',hl,.nil=>⟨hl,hn,hn'⟩
  | _,_,l,l',hn,hn',hl,@All2.cons _ _ _ r r' E E' hr hE=>by
    show Ren n ρ (Go.Proofs.YtmipjomnjkmdbaaGreat.tieL least E (if 1 < l.length then Go.Proofs.YtmipjomnjkmdbaaGreat.extr least (zbf r) l else l)) (Go.Proofs.YtmipjomnjkmdbaaGreat.tieL least E' (if 1 < l'.length then Go.Proofs.YtmipjomnjkmdbaaGreat.extr least (zbf r') l' else l'))∧(Go.Proofs.YtmipjomnjkmdbaaGreat.tieL least E (if 1 < l.length then Go.Proofs.YtmipjomnjkmdbaaGreat.extr least (zbf r) l else l)).Nodup∧(Go.Proofs.YtmipjomnjkmdbaaGreat.tieL least E' (if 1 < l'.length then Go.Proofs.YtmipjomnjkmdbaaGreat.extr least (zbf r') l' else l')).Nodup
    rw [← hl.len]
    by_cases h1:1 < l.length
    · rw [if_pos h1,if_pos h1]
      exact Ren.tieL h least (zod hn) (zod hn') (hl.extr h hn hn' hr least) hE
    · rw [if_neg h1,if_neg h1]
      exact Ren.tieL h least hn hn' hl hE
theorem forall2_rev {α β:Type} {R:α→β→Prop}:∀ {l:List α} {l':List β},All2 R l l'→All2 R l.reverse l'.reverse:=by
  have happ:∀ {l:List α} {l':List β} {m:List α} {m':List β},All2 R l l'→All2 R m m'→All2 R (l++m) (l'++m'):=by
    intro l l' m m' h h'
    induction h with
    | nil=>exact h'
    | cons a _ ih=>exact .cons a ih
  intro l l' h
  induction h with
  | nil=>exact .nil
  | cons a _ ih =>
    rw [List.reverse_cons,List.reverse_cons]
    exact happ ih (.cons a .nil)
theorem zkj {α β:Type} {R:α→β→Prop} {l:List α} {l':List β} {a:α} {b:β} (h:All2 R l l') (hab:R a b):All2 R (l++[a]) (l'++[b]):=by
  induction h with
  | nil=>exact .cons hab .nil
  | cons x _ ih=>exact .cons x ih
theorem byLot_ext (lots:List Int) (least:Bool) {l:List Int} (h:l ≠ []):∀ k∈l,if least then zav lots k≤zav lots (byLot lots least l) else zav lots (byLot lots least l)≤zav lots k:=by
  cases l with
  | nil=>exact absurd rfl h
  | cons x l =>
    unfold byLot
    simp only [List.tail_cons,List.headD_cons]
    clear h
    have key:∀ (l:List Int) (x:Int),let m:=l.foldl (fun m c=>if least then (if zav lots m < zav lots c then c else m) else (if zav lots c < zav lots m then c else m)) x
        ∀ k,(k=x∨k∈l)→if least then zav lots k≤zav lots m else zav lots m≤zav lots k:=by
      intro l
      induction l with
      | nil =>
        intro x m k hk
        rcases hk with rfl | hk
        · cases least <;> exact Nat.le_refl _
        · cases hk
      | cons y l ih =>
        intro x m k hk
        have ih':=ih (if least then (if zav lots x < zav lots y then y else x) else (if zav lots y < zav lots x then y else x))
        have h0:=ih' _ (.inl rfl)
        have hm:m=l.foldl (fun m c=>if least then (if zav lots m < zav lots c then c else m) else (if zav lots c < zav lots m then c else m)) (if least then (if zav lots x < zav lots y then y else x) else (if zav lots y < zav lots x then y else x)):=rfl
        rw [← hm] at h0 ih'
        have hxy:(k=x∨k=y)→if least then zav lots k≤zav lots m else zav lots m≤zav lots k:=by
          intro hk
          cases least
          · simp only [Bool.false_eq_true,if_false] at h0 ⊢
            split at h0 <;> rcases hk with rfl | rfl <;> omega
          · simp only [if_true] at h0 ⊢
            split at h0 <;> rcases hk with rfl | rfl <;> omega
        rcases hk with rfl | hk
        · exact hxy (.inl rfl)
        · rcases List.mem_cons.1 hk with rfl | hk
          · exact hxy (.inr rfl)
          · exact ih' k (.inr hk)
    intro k hk
    exact key l x k (List.mem_cons.1 hk)
theorem place_inj {lots:List Int} {a b:Int} (ha:a∈lots) (h:zav lots a=zav lots b):a=b:=by
  unfold zav at h
  have h1:lots.idxOf a < lots.length:=List.idxOf_lt_length_of_mem ha
  have e1:=List.getElem_idxOf h1
  have h2:lots.idxOf b < lots.length:=by rw [← h]; exact h1
  have e2:=List.getElem_idxOf h2
  rw [← e1,← e2]
  congr 1
theorem idxOf_map {ρ:Int→Int} {c:Int}:∀ {l:List Int},(∀ x∈l,ρ x=ρ c→x=c)→(l.map ρ).idxOf (ρ c)=l.idxOf c
  | [],_=>rfl
  | x::l,h=>by
    rw [List.map_cons,List.idxOf_cons,List.idxOf_cons,idxOf_map fun y hy=>h y (List.mem_cons_of_mem _ hy)]
    by_cases e:x=c
    · subst e; simp
    · have:¬ ρ x=ρ c:=fun h'=>e (h x (by simp) h')
      have e1:(ρ x == ρ c)=false:=by simpa using this
      have e2:(x == c)=false:=by simpa using e
      rw [e1,e2]
theorem Ren.byLot {n:Nat} {ρ:Nat→Nat} (h:Bij n ρ) {lots l l':List Int} (hlots:∀ c∈lots,∃ i:Nat,c=(i:Int)∧i < n) (hall:∀ i,i < n→(i:Int)∈lots) (hl:Ren n ρ l l') (least:Bool) (hne:l ≠ []):byLot (lots.map (rI ρ)) least l'=rI ρ (byLot lots least l):=by
  have hne':l' ≠ []:=by
    intro e
    have:=hl.len
    rw [e] at this
    exact hne (List.length_eq_zero_iff.1 this)
  have hm:=znc (lots:=lots) (least:=least) hne
  have hm':=znc (lots:=lots.map (rI ρ)) (least:=least) hne'
  have hx:=byLot_ext lots least hne
  have hx':=byLot_ext (lots.map (rI ρ)) least hne'
  generalize Go.Proofs.YtmipjomnjkmdbaaGreat.byLot lots least l=a at hm hx ⊢
  generalize Go.Proofs.YtmipjomnjkmdbaaGreat.byLot (lots.map (rI ρ)) least l'=b at hm' hx' ⊢
  obtain ⟨i,rfl,hi⟩:=hl.ins a hm
  obtain ⟨k,rfl,hk⟩:=hl.ins' b hm'
  obtain ⟨j,hj,rfl⟩:=h.onto hk
  have hpl:∀ i,i < n→zav (lots.map (rI ρ)) ((ρ i:Nat):Int)=zav lots (i:Int):=fun i hi=>by
    unfold zav
    refine idxOf_map (ρ:=rI ρ) (c:=(i:Int)) fun x hx e=>?_
    obtain ⟨m,rfl,hm⟩:=hlots x hx
    unfold rI at e
    rw [Int.toNat_natCast,Int.toNat_natCast] at e
    rw [h.inj m i hm hi (Int.ofNat_inj.1 e)]
  have h1:=hx _ ((hl.mem j hj).2 hm')
  have h2:=hx' _ ((hl.mem i hi).1 hm)
  rw [hpl i hi,hpl j hj] at h2
  have:(i:Int)=(j:Int):=by
    refine place_inj (hall i hi) ?_
    cases least
    · simp only [Bool.false_eq_true,if_false] at h1 h2; omega
    · simp only [if_true] at h1 h2; omega
  have:i=j:=Int.ofNat_inj.1 this
  subst this
  rfl
theorem Ren.head {n:Nat} {ρ:Nat→Nat} (h:Bij n ρ) {l l':List Int} (hl:Ren n ρ l l') (h1:l.length=1):l'.headD 0=rI ρ (l.headD 0):=by
  obtain ⟨a,rfl⟩:=List.length_eq_one_iff.1 h1
  have h2:=hl.len
  rw [h1] at h2
  obtain ⟨b,rfl⟩:=List.length_eq_one_iff.1 h2.symm
  obtain ⟨i,rfl,hi⟩:=hl.ins a (by simp)
  have:=(hl.mem i hi).1 (by simp)
  simp only [List.mem_singleton] at this
  simp only [List.headD_cons,← this]; rfl
theorem Ren.tie {n:Nat} {ρ:Nat→Nat} (h:Bij n ρ) {ties:Int} {E E':List (List Rat)} {lots l l':List Int} (hlots:∀ c∈lots,∃ i:Nat,c=(i:Int)∧i < n) (hall:∀ i,i < n→(i:Int)∈lots) (hn:l.Nodup) (hn':l'.Nodup) (hl:Ren n ρ l l') (hE:All2 (RenV n ρ) E E') (least:Bool) (hne:l ≠ []):tieB ties E' l' (lots.map (rI ρ)) least=rI ρ (tieB ties E l lots least):=by
  unfold tieB
  have hR:All2 (RenV n ρ) (zam ties E) (zam ties E'):=by
    unfold zam
    split
    · exact .nil
    · split
      · exact forall2_rev hE
      · exact hE
  obtain ⟨h1,h2,h3⟩:=Ren.tieL h least hn hn' hl hR
  have hne2:=zou (least:=least) (rounds:=zam ties E) hne
  simp only
  rw [← h1.len]
  by_cases h4:(Go.Proofs.YtmipjomnjkmdbaaGreat.tieL least (zam ties E) l).length=1
  · rw [if_pos h4,if_pos h4]
    exact h1.head h h4
  · rw [if_neg h4,if_neg h4]
    exact h1.byLot h hlots hall least hne2
end Go.Proofs.YtmipjomnjkmdbaaGreat
set_option linter.unusedSimpArgs false
set_option linter.unusedVariables false
namespace Go.Proofs.YtmipjomnjkmdbaaGreat
open Go Go.X
theorem getD_mapI {σ:Int→Int} {p:List Int} {i:Nat} (h:i < p.length):(p.map σ).getD i 0=σ (p.getD i 0):=by
  rw [List.getD_eq_getElem?_getD,List.getElem?_map,List.getD_eq_getElem?_getD,List.getElem?_eq_getElem h]; rfl
theorem zhm {α:Type} {p q:α→Bool}:∀ {l:List α},(∀ x∈l,p x=q x)→l.takeWhile p=l.takeWhile q
  | [],_=>rfl
  | x::l,h=>by
    rw [List.takeWhile_cons,List.takeWhile_cons,h x (by simp),zhm fun y hy=>h y (List.mem_cons_of_mem _ hy)]
theorem nxt_map {σ:Int→Int} {st st':Nat→Nat} {p:List Int} (h:∀ c∈p,st' (σ c).toNat=st c.toNat) (k:Nat):nxt (p.map σ) st' k=nxt p st k:=by
  unfold nxt
  rw [← List.map_drop,List.takeWhile_map,List.length_map]
  congr 2
  refine zhm fun c hc=>?_
  show decide (st' (σ c).toNat ≠ 0)=decide (st c.toNat ≠ 0)
  rw [h c (List.mem_of_mem_drop hc)]
structure RN (P P':GP) (ρ:Nat→Nat):Prop where
  bij:Bij P.n ρ
  n:P'.n=P.n
  seats:P'.seats=P.seats
  q:P'.q=P.q
  tot:P'.tot=P.tot
  ties:P'.ties=P.ties
  lots:P'.lots=P.lots.map (rI ρ)
  sum:∀ f:List Int→Nat,sumN (fun g=>P'.k g * f (P'.p g)) P'.G=sumN (fun g=>P.k g * f ((P.p g).map (rI ρ))) P.G
structure RS (P P':GP) (ρ:Nat→Nat) (s s':GS):Prop where
  D:s'.D=s.D
  st:∀ i,i < P.n→s'.st (ρ i)=s.st i
  keep:∀ i,i < P.n→s'.keep (ρ i)=s.keep i
  ex:∃ F A F' A':List Int→Nat,(∀ g,g < P.G→s.num g=F (P.p g)∧s.at_ g=A (P.p g))∧(∀ g,g < P'.G→s'.num g=F' (P'.p g)∧s'.at_ g=A' (P'.p g))∧∀ g,g < P.G→F' ((P.p g).map (rI ρ))=F (P.p g)∧A' ((P.p g).map (rI ρ))=A (P.p g)
def onp (A:List Int→Nat) (c:Nat) (p:List Int):Bool:=decide (A p < p.length) && decide (p.getD (A p) 0=(c:Int))
theorem RS.bar {P P':GP} {ρ:Nat→Nat} {s s':GS} (h:RS P P' ρ s s') (hR:RN P P' ρ):s'.bar P'=s.bar P:=by
  unfold GS.bar
  rw [hR.q,h.D]
theorem tops_ren {P P':GP} {ρ:Nat→Nat} (hR:RN P P' ρ) {v v' st st':Nat→Nat} (hv:∀ i,i < P.n→v' (ρ i)=v i) (hst:∀ i,i < P.n→st' (ρ i)=st i) (c:Nat) (most:Bool) {i:Nat} (hi:i < P.n):zng P' v' st' c most (ρ i)=zng P v st c most i:=by
  unfold zng
  rw [hst i hi,hv i hi,hR.n]
  congr 1
  rw [Bool.eq_iff_iff,List.all_eq_true,List.all_eq_true]
  constructor
  · intro hh k hk
    have:=hh (ρ k) (List.mem_range.2 (hR.bij.lt k (List.mem_range.1 hk)))
    rw [hst k (List.mem_range.1 hk),hv k (List.mem_range.1 hk)] at this
    exact this
  · intro hh k hk
    obtain ⟨j,hj,rfl⟩:=hR.bij.onto (List.mem_range.1 hk)
    rw [hst j hj,hv j hj]
    exact hh j (List.mem_range.2 hj)
section
variable {P P':GP} {ρ:Nat→Nat} {s s':GS} (hR:RN P P' ρ) (hP:P.OK) (hP':P'.OK)
include hR hP
theorem rI_of {c:Int} {x:Nat} {g:Nat} (hg:g < P.G) (hc:c∈P.p g) (hx:x < P.n):rI ρ c=((ρ x:Nat):Int)↔c=(x:Int):=by
  obtain ⟨i,rfl,hi⟩:=hP.prefs g hg c hc
  unfold rI
  rw [Int.toNat_natCast]
  constructor
  · intro e
    rw [hR.bij.inj i x hi hx (Int.ofNat_inj.1 e)]
  · intro e
    rw [Int.ofNat_inj.1 e]
theorem onp_ren {A A':List Int→Nat} {g:Nat} (hg:g < P.G) (hA:A' ((P.p g).map (rI ρ))=A (P.p g)) {x:Nat} (hx:x < P.n):onp A' (ρ x) ((P.p g).map (rI ρ))=onp A x (P.p g):=by
  unfold onp
  rw [hA,List.length_map]
  by_cases h:A (P.p g) < (P.p g).length
  · rw [decide_eq_true h,Bool.true_and,Bool.true_and,getD_mapI h]
    exact decide_eq_decide.2 (rI_of hR hP hg (zdk h) hx)
  · rw [decide_eq_false h]; rfl
theorem RS.lie (h:RS P P' ρ s s') {c:Nat} (hc:c < P.n):s'.lie P' (ρ c)=s.lie P c:=by
  obtain ⟨F,A,F',A',h1,h2,h3⟩:=h.ex
  have e1:s.lie P c=sumN (fun g=>P.k g * (if onp A c (P.p g) then F (P.p g) else 0)) P.G:=by
    unfold GS.lie
    refine zaw fun g hg=>?_
    have:s.on P g c=onp A c (P.p g):=by
      unfold GS.on onp
      rw [(h1 g hg).2]
    rw [this,(h1 g hg).1]
    split <;> simp
  have e2:s'.lie P' (ρ c)=sumN (fun g=>P'.k g * (if onp A' (ρ c) (P'.p g) then F' (P'.p g) else 0)) P'.G:=by
    unfold GS.lie
    refine zaw fun g hg=>?_
    have:s'.on P' g (ρ c)=onp A' (ρ c) (P'.p g):=by
      unfold GS.on onp
      rw [(h2 g hg).2]
    rw [this,(h2 g hg).1]
    split <;> simp
  rw [e1,e2,hR.sum fun p=>if onp A' (ρ c) p then F' p else 0]
  refine zaw fun g hg=>?_
  rw [onp_ren hR hP hg (h3 g hg).2 hc,(h3 g hg).1]
theorem RS.vt (h:RS P P' ρ s s') {c:Nat} (hc:c < P.n):s'.vt P' (ρ c)=s.vt P c:=by
  unfold GS.vt
  rw [h.st c hc,h.bar hR,h.lie hR hP hc]
theorem RS.el1 (h:RS P P' ρ s s') {c:Nat} (hc:c < P.n):s'.el1 P' (ρ c)=s.el1 P c:=by
  unfold GS.el1
  rw [h.st c hc,h.bar hR,h.vt hR hP hc]
theorem RS.st1 (h:RS P P' ρ s s') {c:Nat} (hc:c < P.n):s'.st1 P' (ρ c)=s.st1 P c:=by
  unfold GS.st1
  rw [h.el1 hR hP hc,h.st c hc]
theorem RS.cnt1 (h:RS P P' ρ s s') (k:Nat):cntN (fun i=>decide (s'.st1 P' i=k)) P'.n=cntN (fun i=>decide (s.st1 P i=k)) P.n:=by
  rw [hR.n]
  exact hR.bij.cnt fun i hi=>by rw [h.st1 hR hP hi]
theorem RS.fin (h:RS P P' ρ s s'):s'.fin P'=s.fin P:=by
  unfold GS.fin
  rw [h.cnt1 hR hP,h.cnt1 hR hP,h.cnt1 hR hP,hR.seats]
theorem RS.most (h:RS P P' ρ s s'):s'.most P'=s.most P:=by
  unfold GS.most
  rw [h.cnt1 hR hP]
theorem RS.tied (h:RS P P' ρ s s'):Go.Proofs.YtmipjomnjkmdbaaGreat.Ren P.n ρ (s.tied P) (s'.tied P'):=by
  unfold GS.tied
  rw [h.most hR hP,hR.n]
  exact Ren.sel hR.bij fun i hi=>tops_ren hR (fun i hi=>h.vt hR hP hi) (fun i hi=>h.st1 hR hP hi) _ _ hi
theorem RS.pick (h:RS P P' ρ s s') {E E':List (List Rat)} (hE:All2 (RenV P.n ρ) E E') (hne:s.tied P ≠ []):s'.pick P' E'=rI ρ (s.pick P E):=by
  have ht:=h.tied hR hP
  unfold GS.pick
  rw [← ht.len,h.most hR hP,hR.ties,hR.lots]
  by_cases h1:(s.tied P).length=1
  · rw [if_pos h1,if_pos h1]
    exact ht.head hR.bij h1
  · rw [if_neg h1,if_neg h1]
    exact ht.tie hR.bij hP.lots (fun i hi=>(lotsOK hP).mem hi) (zfe _ _) (zfe _ _) hE _ hne
theorem RS.move (h:RS P P' ρ s s') {x y a b:Nat} (hx:x < P.n) {keep keep':Nat→Rat} (hk:∀ i,i < P.n→keep' (ρ i)=keep i):RS P P' ρ (s.move P (upd (s.st1 P) x y) keep x a b) (s'.move P' (upd (s'.st1 P') (ρ x) y) keep' (ρ x) a b):=by
  have hst:∀ i,i < P.n→upd (s'.st1 P') (ρ x) y (ρ i)=upd (s.st1 P) x y i:=fun i hi=>by
    unfold upd
    by_cases e:i=x
    · subst e; rw [if_pos rfl,if_pos rfl]
    · rw [if_neg e,if_neg fun e'=>e (hR.bij.inj i x hi hx e'),h.st1 hR hP hi]
  refine ⟨by show s'.D * b=s.D * b; rw [h.D],hst,hk,?_⟩
  obtain ⟨F,A,F',A',h1,h2,h3⟩:=h.ex
  refine ⟨fun p=>if onp A x p then F p * a else F p * b,fun p=>if onp A x p then nxt p (upd (s.st1 P) x y) (A p+1) else A p,fun p=>if onp A' (ρ x) p then F' p * a else F' p * b,fun p=>if onp A' (ρ x) p then nxt p (upd (s'.st1 P') (ρ x) y) (A' p+1) else A' p,fun g hg=>?_,fun g hg=>?_,fun g hg=>?_⟩
  · have:s.on P g x=onp A x (P.p g):=by
      unfold GS.on onp
      rw [(h1 g hg).2]
    unfold GS.move
    simp only [this,(h1 g hg).1,(h1 g hg).2,and_self]
  · have:s'.on P' g (ρ x)=onp A' (ρ x) (P'.p g):=by
      unfold GS.on onp
      rw [(h2 g hg).2]
    unfold GS.move
    simp only [this,(h2 g hg).1,(h2 g hg).2,and_self]
  · simp only [onp_ren hR hP hg (h3 g hg).2 hx,(h3 g hg).1,(h3 g hg).2,true_and]
    split
    · refine nxt_map (fun c hc=>?_) _
      obtain ⟨i,rfl,hi⟩:=hP.prefs g hg c hc
      unfold rI
      rw [Int.toNat_natCast,Int.toNat_natCast]
      exact hst i hi
    · rfl
structure RRd (n:Nat) (ρ:Nat→Nat) (r r':Rd):Prop where
  votes:RenV n ρ r.votes r'.votes
  el:Go.Proofs.YtmipjomnjkmdbaaGreat.Ren n ρ r.el r'.el
theorem RS.votes (h:RS P P' ρ s s'):RenV P.n ρ (lst (fun i=>frac (s.vt P i) s.D) P.n) (lst (fun i=>frac (s'.vt P' i) s'.D) P'.n):=fun i hi=>by
  rw [hR.n,zbi _ (hR.bij.lt i hi),zbi _ hi,h.D,h.vt hR hP hi]
theorem RS.rd0 (h:RS P P' ρ s s') {r r':Rd} (e1:r.votes=(s.rd0 P).votes) (e2:r.el=(s.rd0 P).el) (e1':r'.votes=(s'.rd0 P').votes) (e2':r'.el=(s'.rd0 P').el):RRd P.n ρ r r':=by
  refine ⟨by rw [e1,e1']; exact h.votes hR hP,?_⟩
  rw [e2,e2']
  show Go.Proofs.YtmipjomnjkmdbaaGreat.Ren P.n ρ (selI (s.el1 P) P.n) (selI (s'.el1 P') P'.n)
  rw [hR.n]
  exact Ren.sel hR.bij fun i hi=>h.el1 hR hP hi
theorem RS.done (h:RS P P' ρ s s'):RRd P.n ρ (s.done P) (s'.done P'):=by
  refine ⟨h.votes hR hP,?_⟩
  unfold GS.done
  simp only
  rw [h.cnt1 hR hP,h.cnt1 hR hP,hR.seats,hR.n]
  split
  · exact Ren.sel hR.bij fun i hi=>by rw [h.el1 hR hP hi,h.st1 hR hP hi]
  · exact Ren.sel hR.bij fun i hi=>h.el1 hR hP hi
theorem RS.trans (h:RS P P' ρ s s') (hI:GI P s) (hf:s.fin P=false) (hm:s.most P=true) {E E':List (List Rat)} (hE:All2 (RenV P.n ρ) E E'):RS P P' ρ (s.trans P E) (s'.trans P' E'):=by
  obtain ⟨x,x1,x2,x3,x4⟩:=trans_st hP hI hf hm E
  have hp:=h.pick hR hP hE (tied_ne hP hI hf)
  rw [x3] at hp
  have hx':(s'.pick P' E').toNat=ρ x:=by rw [hp]; rfl
  rw [x4]
  unfold GS.trans
  simp only [hx']
  rw [h.vt hR hP x1,h.bar hR]
  refine h.move hR hP x1 fun i hi=>?_
  unfold upd
  by_cases e:i=x
  · subst e; rw [if_pos rfl,if_pos rfl]
  · rw [if_neg e,if_neg fun e'=>e (hR.bij.inj i x hi x1 e'),h.keep i hi]
theorem RS.excl (h:RS P P' ρ s s') (hI:GI P s) (hf:s.fin P=false) (hm:s.most P=false) {E E':List (List Rat)} (hE:All2 (RenV P.n ρ) E E'):RS P P' ρ (s.excl P E) (s'.excl P' E'):=by
  obtain ⟨x,x1,x2,x3,x4⟩:=excl_st hP hI hf hm E
  have hp:=h.pick hR hP hE (tied_ne hP hI hf)
  rw [x3] at hp
  have hx':(s'.pick P' E').toNat=ρ x:=by rw [hp]; rfl
  rw [x4]
  unfold GS.excl
  simp only [hx']
  refine h.move hR hP x1 fun i hi=>?_
  unfold upd
  by_cases e:i=x
  · subst e; rw [if_pos rfl,if_pos rfl]
  · rw [if_neg e,if_neg fun e'=>e (hR.bij.inj i x hi x1 e'),h.keep i hi]
end
theorem zkw {α β:Type} (f:α→β) (l:List α) (x:α):(l++[x]).map f=l.map f++[f x]:=by rw [List.map_append]; rfl
theorem ren_tr {P P':GP} {ρ:Nat→Nat} (hR:RN P P' ρ) (hP:P.OK) (hP':P'.OK) {s:GS} {rs rest:List Rd} (h:Tr P s rs rest):∀ {s':GS} {rs':List Rd},Run P' s' rs'→RS P P' ρ s s'→All2 (RenV P.n ρ) (rs.map Rd.votes) (rs'.map Rd.votes)→∃ rest',Tr P' s' rs' rest'∧All2 (RRd P.n ρ) rest rest':=by
  induction h with
  | @fin s rs hr hf =>
    intro s' rs' hr' hS hE
    exact ⟨_,.fin hr' (by rw [hS.fin hR hP]; exact hf),.cons (hS.done hR hP) .nil⟩
  | @trans s rs rest hr hf hm h ih =>
    intro s' rs' hr' hS hE
    have hf':s'.fin P'=false:=by rw [hS.fin hR hP]; exact hf
    have hm':s'.most P'=true:=by rw [hS.most hR hP]; exact hm
    have hrd:=hS.rd0 hR hP (r:={ s.rd0 P with ti:=s.tiedR P }) (r':={ s'.rd0 P' with ti:=s'.tiedR P' }) rfl rfl rfl rfl
    obtain ⟨rest',h1,h2⟩:=ih (hr'.trans hP' hf' hm') (hS.trans hR hP hr.inv hf hm hE) (by
      rw [zkw,zkw]
      exact zkj hE hrd.votes)
    exact ⟨_,.trans hr' hf' hm' h1,.cons hrd h2⟩
  | @excl s rs rest hr hf hm h ih =>
    intro s' rs' hr' hS hE
    have hf':s'.fin P'=false:=by rw [hS.fin hR hP]; exact hf
    have hm':s'.most P'=false:=by rw [hS.most hR hP]; exact hm
    have hrd:=hS.rd0 hR hP (r:={ s.rd0 P with ti:=s.tiedR P,ex:=[s.pick P (rs.map Rd.votes)] }) (r':={ s'.rd0 P' with ti:=s'.tiedR P',ex:=[s'.pick P' (rs'.map Rd.votes)] }) rfl rfl rfl rfl
    obtain ⟨rest',h1,h2⟩:=ih (hr'.excl hP' hf' hm') (hS.excl hR hP hr.inv hf hm hE) (by
      rw [zkw,zkw]
      exact zkj hE hrd.votes)
    exact ⟨_,.excl hr' hf' hm' h1,.cons hrd h2⟩
theorem tr_gcount {P:GP} {s:GS} {rs rest:List Rd} (h:Tr P s rs rest):rs++rest=zbz P:=by
  induction h with
  | fin hr hf=>exact hr.fin hf
  | trans hr hf hm h ih=>rw [← ih,List.append_assoc]; rfl
  | excl hr hf hm h ih=>rw [← ih,List.append_assoc]; rfl
theorem RS.start (P P':GP) (ρ:Nat→Nat):RS P P' ρ g0 g0:=⟨rfl,fun _ _=>rfl,fun _ _=>rfl,fun _=>1,fun _=>0,fun _=>1,fun _=>0,fun _ _=>⟨rfl,rfl⟩,fun _ _=>⟨rfl,rfl⟩,fun _ _=>⟨rfl,rfl⟩⟩
theorem all2_len {α β:Type} {R:α→β→Prop} {l:List α} {l':List β} (h:All2 R l l'):l.length=l'.length:=by
  induction h with
  | nil=>rfl
  | cons _ _ ih=>rw [List.length_cons,List.length_cons,ih]
theorem rrd_el {n:Nat} {ρ:Nat→Nat} {l l':List Rd} (h:All2 (RRd n ρ) l l') {i:Nat} (hi:i < n):(i:Int)∈l.flatMap Rd.el↔((ρ i:Nat):Int)∈l'.flatMap Rd.el:=by
  induction h with
  | nil=>simp
  | cons a _ ih=>rw [List.flatMap_cons,List.flatMap_cons,List.mem_append,List.mem_append,a.el.mem i hi,ih]
theorem ren_count {P P':GP} {ρ:Nat→Nat} (hR:RN P P' ρ) (hP:P.OK) (hP':P'.OK):(zbz P).length=(zbz P').length∧∀ i,i < P.n→((i:Int)∈(zbz P).flatMap Rd.el↔((ρ i:Nat):Int)∈(zbz P').flatMap Rd.el):=by
  obtain ⟨rest',h1,h2⟩:=ren_tr hR hP hP' (zml hP) (Run.start hP') (RS.start P P' ρ) .nil
  have:=tr_gcount h1
  rw [List.nil_append] at this
  subst this
  exact ⟨all2_len h2,fun i hi=>rrd_el h2 hi⟩
end Go.Proofs.YtmipjomnjkmdbaaGreat
set_option linter.unusedSimpArgs false
set_option linter.unusedVariables false
namespace Go.Proofs.YtmipjomnjkmdbaaGreat
open Go Go.X
structure Cnt (n:Nat) (c:CT) (gs:List Grp) (lots:List Int) (N:Int):Prop where
  con:ConOK c n 3
  n1:1≤n
  n7:n≤7
  pile:PileOK (n:Int) gs N
  len:lots.length=n
  perm:isB (n:Int) lots
  fit:fitE 3 c gs lots=0
  ok:(gpOf c gs lots).OK
  cands:(gpOf c gs lots).n=n
  seats:c.2.2.2.1=((gpOf c gs lots).seats:Int)
  tot:((gpOf c gs lots).tot:Int)=N
theorem Cnt.mk' {n:Nat} {c:CT} {gs:List Grp} {lots:List Int} {N:Int} (hc:ConOK c n 3) (h1:1≤n) (h7:n≤7) (hp:PileOK (n:Int) gs N) (hl:lots.length=n) (hb:isB (n:Int) lots):Cnt n c gs lots N:=by
  have hf:=fitE_made hc (by omega) (by omega) h1 h7 hp hl hb
  obtain ⟨k1,k2,k3,k4,_,_⟩:=gpOf_ok hf
  refine ⟨hc,h1,h7,hp,hl,hb,hf,k1,hc.names,k3,?_⟩
  have h67:=hp.d67 (by omega)
  rw [h67] at k4
  have:=Option.some.inj k4
  rw [← this]; exact hp.total
theorem Cnt.d22 {n:Nat} {c:CT} {gs:List Grp} {lots:List Int} {N:Int} (h:Cnt n c gs lots N):d22 c gs lots=some (trT (gpOf c gs lots),0):=by
  have hl:=h.len
  have h7:=h.n7
  rw [d22_eq (h.pile.gs (by omega)) (by omega),if_pos h.fit]
theorem d31_eq {n:Nat} (h1:1≤n) (h7:n≤7) {seats ties code:Int} {l:List (List Int)} (hs:WT (.int .i64) seats) (ht:WT (.int .i64) ties) (hc:WT (.int .i64) code) (hl:l.length≤281474976710656) (hw:∀ x∈l,WT (.slice (.int .i64)) x) :
    ∃ c lots,d31 (n:Int) seats ties code l=some (c,zdt (bals (n:Int) l 16),trT (gpOf c (zdt (bals (n:Int) l 16)) lots),0)∧Cnt n c (zdt (bals (n:Int) l 16)) lots ((bals (n:Int) l 16).length:Int)∧d27 (n:Int) code=some lots∧c.2.2.2.1=1+seats % 5∧c.2.2.2.2.2.2.1=1+ties % 3∧d25 2 (n:Int) seats 0 ties=some c:=by
  have k:∀ x:Int,-9223372036854775808≤x→x≤9223372036854775807→WT (.int .i64) x:=fun x h0 h1=>zbr h0 h1
  obtain ⟨c,c1,c2,c3,c4⟩:=d25_eq (n:=n) (by omega) (k 2 (by omega) (by omega)) hs (k 0 (by omega) (by omega)) ht
  obtain ⟨lots,l1,l2,l3⟩:=d27_eq (n:=n) (by omega) hc
  have hpl:=zmh (n:=(n:Int)) (bals (n:Int) l 16) (bals_isB (n:=(n:Int)) (by omega) (l:=l) (most:=16)) (by have:=@bals_len (n:Int) l 16; omega)
  have hC:=Cnt.mk' (c:=c) c2 h1 h7 hpl.1 l2 l3
  refine ⟨c,lots,?_,hC,l1,by rw [c3]; rfl,c4,c1⟩
  unfold d31
  rw [c1,Option.bind_some,show d26 (n:Int) l 16=some (zdt (bals (n:Int) l 16)) from d26_eq (n:=(n:Int)) (by omega) (by omega) hl hw (most:=16) (by omega),Option.bind_some,l1,Option.bind_some,hC.d22]
  rfl
variable {P:GP} {s:GS}
def rd0:Rd:=⟨[],[],0,0,0,[],[],[]⟩
end Go.Proofs.YtmipjomnjkmdbaaGreat
set_option linter.unusedSimpArgs false
set_option linter.unusedVariables false
namespace Go.Proofs.YtmipjomnjkmdbaaGreat
open Go Go.X
theorem d44_eq {l:List Int} (hl:l.length≤281474976710656):d44 l=some (selI (fun i=>decide ((i:Int)∈l)) 12):=by
  unfold d44
  refine zaf (fun i=>(l,selI (fun i=>decide ((i:Int)∈l)) i,(i:Int))) 12 rfl (fun i hi=>?_) (b:=selI (fun i=>decide ((i:Int)∈l)) 12) ?_ rfl
  · have hc:=zcf (fun i=>decide ((i:Int)∈l)) i
    simp only [decide_eq_true (show (i:Int) < 12 by omega),cond_true,zay,d49_eq (i:Int) hl,Option.bind_some,zcb (show i < 9223372036854775807 by omega),zfd]
    cases decide ((i:Int)∈l)
    · simp
    · simp only [cond_true,if_true,zdi (l:=selI (fun i=>decide ((i:Int)∈l)) i) (d:=(i:Int)) (by rw [zbs]; omega)]
  · rfl
end Go.Proofs.YtmipjomnjkmdbaaGreat
set_option linter.unusedSimpArgs false
set_option linter.unusedVariables false
namespace Go.Proofs.YtmipjomnjkmdbaaGreat
open Go Go.X
def ren (to:List Int) (c:Int):Int:=to.getD c.toNat 0
theorem ren_in {n:Nat} {to:List Int} (ht:isB (n:Int) to) (hl:to.length=n) {c:Int} (hc:0≤c∧c < (n:Int)):0≤ren to c∧ren to c < (n:Int):=by
  unfold ren
  rw [zbd to 0 (by omega)]
  exact ht.2 _ (List.getElem_mem _)
theorem ren_inj {n:Nat} {to:List Int} (ht:isB (n:Int) to) (hl:to.length=n) {c d:Int} (hc:0≤c∧c < (n:Int)) (hd:0≤d∧d < (n:Int)) (h:ren to c=ren to d):c=d:=by
  unfold ren at h
  rw [zbd to 0 (by omega),zbd to 0 (by omega)] at h
  have hpw:=List.pairwise_iff_getElem.1 (List.nodup_iff_pairwise_ne.1 ht.1)
  rcases Nat.lt_trichotomy c.toNat d.toNat with hlt | heq | hgt
  · exact absurd h (hpw _ _ (by omega) (by omega) hlt)
  · omega
  · exact absurd h.symm (hpw _ _ (by omega) (by omega) hgt)
theorem ren_isB {n:Nat} {to:List Int} (ht:isB (n:Int) to) (hl:to.length=n) {p:List Int} (hp:isB (n:Int) p):isB (n:Int) (p.map (ren to)):=by
  refine ⟨?_,fun x hx=>?_⟩
  · rw [List.nodup_iff_pairwise_ne,List.pairwise_map]
    exact (List.nodup_iff_pairwise_ne.1 hp.1).imp_of_mem fun {a b} ha hb hne e=>hne (ren_inj ht hl (hp.2 a ha) (hp.2 b hb) e)
  · obtain ⟨c,hc,rfl⟩:=List.mem_map.1 hx
    exact ren_in ht hl (hp.2 c hc)
theorem d43_eq {n:Nat} (hn:n≤7) {to:List Int} (ht:isB (n:Int) to) (hl:to.length=n) {p:List Int} (hp:isB (n:Int) p):d43 p to=some (p.map (ren to)):=by
  have hpl:=zht hp (by omega)
  unfold d43
  refine zaf (b:=p.map (ren to)) (fun i=>(p,to,(p.take i).map (ren to),(i:Int))) p.length rfl (fun i hi=>?_) ?_ (by simp)
  · have e1:(i:Int) < (p.length:Int):=by omega
    have e2:w ((i:Int)+1)=((i+1:Nat):Int):=by rw [w_id (by omega) (by omega)]; omega
    have e3:(0:Int)≤(i:Int):=by omega
    have hb:=hp.2 (p.getD i 0) (by rw [zbd p 0 hi]; exact List.getElem_mem hi)
    have e4:p.getD i 0 < (to.length:Int):=by omega
    have l1:=lim_small ((p.take i).map (ren to)) (to.getD (p.getD i 0).toNat 0) (by simp; omega)
    have htk:(p.take (i+1)).map (ren to)=(p.take i).map (ren to)++[to.getD (p.getD i 0).toNat 0]:=by
      rw [zft p 0 hi,List.map_append]; rfl
    simp only [e1,e2,e3,e4,hb.1,l1,htk,decide_true,Bool.and_self,cond_true,Int.toNat_natCast]
  · have:¬ ((p.length:Int) < (p.length:Int)):=by omega
    simp only [this,decide_false,cond_false,List.take_length]
def renG (to:List Int) (gs:List Grp) (i:Nat):List Grp:=(gs.take i).foldl (fun out g=>addG out (g.1.map (ren to)) g.2) []
theorem renG_succ (to:List Int) (gs:List Grp) {i:Nat} (hi:i < gs.length):renG to gs (i+1)=addG (renG to gs i) ((gs.getD i ([],0)).1.map (ren to)) (gs.getD i ([],0)).2:=by
  unfold renG
  rw [zft gs ([],0) hi,List.foldl_append]; rfl
theorem renG_ok {n:Nat} {to:List Int} (ht:isB (n:Int) to) (hl:to.length=n) {gs:List Grp} {N:Int} (hp:PileOK (n:Int) gs N):∀ i,i≤gs.length→(∀ g∈renG to gs i,isB (n:Int) g.1∧1≤g.2)∧zhr (renG to gs i)∧(∀ f,wsum f (renG to gs i)=wsum (fun p=>f (p.map (ren to))) (gs.take i))∧(renG to gs i).length≤i
  | 0,_=>⟨fun g hg=>by simp [renG] at hg,by simp [renG,zhr],fun f=>by simp [renG,wsum],by simp [renG]⟩
  | i+1,hi=>by
    obtain ⟨h1,h2,h3,h4⟩:=renG_ok ht hl hp i (by omega)
    rw [renG_succ to gs (by omega)]
    have hg:=hp.ballots (gs.getD i ([],0)) (by rw [zbd gs _ (by omega)]; exact List.getElem_mem _)
    refine ⟨fun g hgm=>?_,zhy _ _ h2,fun f=>?_,Nat.le_trans (zqh _ _ _) (by omega)⟩
    · rcases zlg hgm with ⟨e1,e2⟩ | h
      · refine ⟨by rw [e1]; exact ren_isB ht hl hg.1,?_⟩
        rcases e2 with e2 | ⟨h,hh,_,e2⟩
        · rw [e2]; exact hg.2
        · have:=(h1 h hh).2; omega
      · exact h1 g h
    · rw [zib,h3,zdc (fun p=>f (p.map (ren to))) gs (by omega)]
theorem mem_le {gs:List Grp} (h:∀ g∈gs,1≤g.2):0≤wsum (fun _=>1) gs∧∀ g∈gs,g.2≤wsum (fun _=>1) gs:=by
  induction gs with
  | nil=>exact ⟨by simp [wsum],fun g hg=>by cases hg⟩
  | cons a r ih =>
    obtain ⟨h1,h2⟩:=ih fun g hg=>h g (List.mem_cons_of_mem _ hg)
    have ha:=h a (by simp)
    have e:wsum (fun _=>1) (a::r)=a.2 * 1+wsum (fun _=>1) r:=rfl
    rw [e]
    refine ⟨by omega,fun g hg=>?_⟩
    rcases List.mem_cons.1 hg with rfl | hg
    · omega
    · have:=h2 g hg; omega
theorem d42_eq {n:Nat} (hn:n≤7) {to:List Int} (ht:isB (n:Int) to) (hl:to.length=n) {gs:List Grp} {N:Int} (hp:PileOK (n:Int) gs N):d42 gs to=some (renG to gs gs.length):=by
  have hgl:=(hp.gs (by omega)).1
  have hsz:=(hp.sizes (by omega)).1
  unfold d42
  refine zaf (b:=renG to gs gs.length) (fun i=>(gs,to,renG to gs i,(i:Int))) gs.length rfl (fun i hi=>?_) ?_ rfl
  · have e1:(i:Int) < (gs.length:Int):=by omega
    have e2:w ((i:Int)+1)=((i+1:Nat):Int):=by rw [w_id (by omega) (by omega)]; omega
    have e3:(0:Int)≤(i:Int):=by omega
    have hg:=hp.ballots (gs.getD i ([],0)) (by rw [zbd gs _ hi]; exact List.getElem_mem _)
    obtain ⟨h1,h2,h3,h4⟩:=renG_ok ht hl hp i (by omega)
    have hb:=hp.part (f:=fun _=>(1:Int)) (fun _=>by omega) i
    have hm:=mem_le fun g hg=>(h1 g hg).2
    have hm2:=mem_le fun g hg=>(hp.ballots g hg).2
    have hgk:=hm2.2 (gs.getD i ([],0)) (by rw [zbd gs _ hi]; exact List.getElem_mem _)
    have htot:=hp.total
    have hmost:=hp.most
    rw [h3] at hm
    have h43:=d43_eq hn ht hl hg.1
    have h98:=d98_eq (gs:=renG to gs i) (p:=(gs.getD i ([],0)).1.map (ren to)) (k:=(gs.getD i ([],0)).2) (by omega) (by have:=zht hg.1 (by omega); rw [List.length_map]; omega) ⟨by omega,by omega⟩ fun g hg=>⟨by have:=zht (h1 g hg).1 (by omega); omega,by have:=(h1 g hg).2; omega,by have:=hm.2 g hg; omega⟩
    simp only [e1,e2,e3,h43,h98,renG_succ to gs hi,decide_true,Bool.and_self,cond_true,Int.toNat_natCast,Option.bind_some]
  · have:¬ ((gs.length:Int) < (gs.length:Int)):=by omega
    simp only [this,decide_false,cond_false]
theorem ren_pile {n:Nat} {to:List Int} (ht:isB (n:Int) to) (hl:to.length=n) {gs:List Grp} {N:Int} (hp:PileOK (n:Int) gs N):PileOK (n:Int) (renG to gs gs.length) N∧∀ f,wsum f (renG to gs gs.length)=wsum (fun p=>f (p.map (ren to))) gs:=by
  obtain ⟨h1,h2,h3,_⟩:=renG_ok ht hl hp gs.length (Nat.le_refl _)
  rw [List.take_length] at h3
  exact ⟨⟨h1,h2,(h3 _).trans hp.total,hp.most⟩,h3⟩
theorem zor {n:Int} {gs:List Grp} {N:Int} (h:PileOK n gs N) (f:List Int→Nat) (c:CT) (lots:List Int):∀ m,m≤gs.length→wsum (fun p=>(f p:Int)) (gs.take m)=((sumN (fun g=>(gpOf c gs lots).k g * f ((gpOf c gs lots).p g)) m:Nat):Int)
  | 0,_=>by simp [wsum,sumN]
  | m+1,hm=>by
    have hg:=(h.ballots _ (zcv (l:=gs) (d:=([],0)) (i:=m) (by omega))).2
    rw [zdc _ gs (by omega),zor h f c lots m (by omega),sumN]
    have e1:(gpOf c gs lots).p m=(gs.getD m ([],0)).1:=rfl
    have e2:(((gpOf c gs lots).k m:Nat):Int)=(gs.getD m ([],0)).2:=by
      show ((gs.getD m ([],0)).2.toNat:Int)=_
      omega
    rw [e1,Int.natCast_add,Int.natCast_mul,e2]
def ρof (to:List Int) (i:Nat):Nat:=(to.getD i 0).toNat
theorem ρof_ren {n:Nat} {to:List Int} (ht:isB (n:Int) to) (hl:to.length=n) {c:Int} (hc:0≤c∧c < (n:Int)):rI (ρof to) c=ren to c:=by
  have:=ren_in ht hl hc
  unfold rI ρof
  unfold ren at this ⊢
  omega
theorem ρof_bij {n:Nat} {to:List Int} (ht:isB (n:Int) to) (hl:to.length=n):Bij n (ρof to):=by
  refine ⟨fun i hi=>?_,fun i j hi hj e=>?_⟩
  · have:=ren_in ht hl (c:=(i:Int)) (by omega)
    unfold ren at this
    rw [Int.toNat_natCast] at this
    unfold ρof
    omega
  · have h1:=ren_in ht hl (c:=(i:Int)) (by omega)
    have h2:=ren_in ht hl (c:=(j:Int)) (by omega)
    have h3:=ren_inj ht hl (c:=(i:Int)) (d:=(j:Int)) (by omega) (by omega)
    unfold ren at h1 h2 h3
    rw [Int.toNat_natCast] at h1 h2 h3
    rw [Int.toNat_natCast] at h3
    unfold ρof at e
    have:=h3 (by omega)
    omega
theorem zpf {n:Nat} {to:List Int} (ht:isB (n:Int) to) (hl:to.length=n) {p:List Int} (hp:isB (n:Int) p):p.map (rI (ρof to))=p.map (ren to):=List.map_congr_left fun c hc=>ρof_ren ht hl (hp.2 c hc)
theorem rn_of {n:Nat} (h7:n≤7) {to:List Int} (ht:isB (n:Int) to) (hl:to.length=n) {c:CT} (hc:c.2.1.length=n) {gs:List Grp} {N:Int} (hp:PileOK (n:Int) gs N) {lots:List Int} (hlo:isB (n:Int) lots):RN (gpOf c gs lots) (gpOf c (renG to gs gs.length) (lots.map (ren to))) (ρof to):=by
  obtain ⟨hp',hw⟩:=ren_pile ht hl hp
  have hn:(gpOf c gs lots).n=n:=hc
  refine ⟨by rw [hn]; exact ρof_bij ht hl,rfl,rfl,?_,?_,rfl,?_,fun f=>?_⟩
  · show (wsum zar (renG to gs gs.length) / (c.2.2.2.1+1)+1).toNat=(wsum zar gs / (c.2.2.2.1+1)+1).toNat
    rw [hw]
    have:wsum (fun p=>zar (p.map (ren to))) gs=wsum zar gs:=znl fun g hg=>by
      unfold zar
      cases g.1 <;> simp
    rw [this]
  · show (wsum (fun _=>1) (renG to gs gs.length)).toNat=(wsum (fun _=>1) gs).toNat
    rw [hw]
  · show lots.map (ren to)=lots.map (rI (ρof to))
    exact (zpf ht hl hlo).symm
  · have h1:=zor hp' f c (lots.map (ren to)) _ (Nat.le_refl _)
    have h2:=zor hp (fun p=>f (p.map (ren to))) c lots _ (Nat.le_refl _)
    rw [List.take_length] at h1 h2
    rw [hw,h2] at h1
    have h1:=Int.ofNat_inj.1 h1
    refine h1.symm.trans (zaw fun g hg=>?_)
    have hb:isB (n:Int) ((gpOf c gs lots).p g):=(hp.ballots _ (zcv (l:=gs) (d:=([],0)) (i:=g) hg)).1
    rw [zpf ht hl hb]
theorem znh {a b:List Int} (h:∀ i:Nat,(i:Int)∈a↔(i:Int)∈b) (n:Nat):selI (fun i=>decide ((i:Int)∈a)) n=selI (fun i=>decide ((i:Int)∈b)) n:=zjl fun i _=>decide_eq_decide.2 (h i)
theorem d7_true {p0 p1 p2 p3 p4:Int} {p5:List (List Int)} (h0:WT (.int .i64) p0) (h1:WT (.int .i64) p1) (h2:WT (.int .i64) p2) (h3:WT (.int .i64) p3) (h4:WT (.int .i64) p4) (hl:p5.length≤281474976710656) (hw:∀ x∈p5,WT (.slice (.int .i64)) x):d7 p0 p1 p2 p3 p4 p5=some true:=by
  unfold d7
  rw [d20_eq p5 hl,Option.bind_some]
  cases hfew:(decide (∀ x∈p5,x.length≤12) && decide (p5.length≤16))
  · rw [d21_eq]; rfl
  rw [Bool.not_true,cond_false,zmv h0 (by omega) (by omega),Option.bind_some]
  have b:=zjs p0 (n:=7) (by omega)
  obtain ⟨n,hn⟩:∃ n:Nat,1+p0 % 7=(n:Int):=⟨(1+p0 % 7).toNat,by omega⟩
  have hw1:w (1+p0 % 7)=(n:Int):=by rw [zbr (by omega) (by omega)]; exact hn
  rw [hw1]
  obtain ⟨c,lots,e31,hC,e27,cs,ct,_⟩:=d31_eq (n:=n) (by omega) (by omega) h1 h2 h3 hl hw
  obtain ⟨to,t1,t2,t3⟩:=d27_eq (n:=n) (by omega) h4
  rw [e31,Option.bind_some,t1,Option.bind_some]
  generalize zdt (bals (n:Int) p5 16)=gs at hC ⊢
  have h7:=hC.n7
  have hll:=hC.len
  obtain ⟨hp',_⟩:=ren_pile t3 t2 hC.pile
  have hrl:isB (n:Int) (lots.map (ren to)):=ren_isB t3 t2 hC.perm
  have hC':Cnt n c (renG to gs gs.length) (lots.map (ren to)) _:=Cnt.mk' hC.con hC.n1 h7 hp' (by rw [List.length_map,hll]) hrl
  simp only [d42_eq h7 t3 t2 hC.pile,e27,Option.bind_some,d43_eq h7 t3 t2 hC.perm,hC'.d22,zay]
  have hRN:=rn_of h7 t3 t2 hC.cands hC.pile hC.perm
  have hP:=hC.ok
  have hP':=hC'.ok
  have hPn:=hC.cands
  generalize gpOf c gs lots=P at hRN hP hPn ⊢
  generalize gpOf c (renG to gs gs.length) (lots.map (ren to))=P' at hRN hP' ⊢
  obtain ⟨hlen,hmem⟩:=ren_count hRN hP hP'
  have hwl:=win_len hP
  have hwb:=win_isB hP
  have hwl':=win_len hP'
  have hwb':=win_isB hP'
  have hne:=List.length_pos_iff.2 (gcount_ne hP)
  have hs5:=hP.seats5
  have hs5':=hP'.seats5
  have hTr:(trT P).2.2.2.2.1.length=(zbz P).length:=List.length_map ..
  have hTr':(trT P').2.2.2.2.1.length=(zbz P).length:=by rw [hlen]; exact List.length_map ..
  have hTw:(trT P).2.2.2.2.2=(zbz P).flatMap Rd.el:=rfl
  have hTw':(trT P').2.2.2.2.2=(zbz P').flatMap Rd.el:=rfl
  rw [hPn] at hwb hmem
  have hPn':P'.n=n:=by rw [hRN.n,hPn]
  rw [hPn'] at hwb'
  generalize (zbz P).flatMap Rd.el=W at hwl hwb hmem hTw
  generalize (zbz P').flatMap Rd.el=W' at hwl' hwb' hmem hTw'
  have hset:selI (fun i=>decide ((i:Int)∈W')) 12=selI (fun i=>decide ((i:Int)∈W.map (ren to))) 12:=znh (fun i=>by
    rw [← zpf t3 t2 hwb]
    constructor
    · intro h
      have hi:=hwb'.2 _ h
      obtain ⟨j,hj,rfl⟩:=(ρof_bij t3 t2).onto (show i < n by omega)
      exact List.mem_map.2 ⟨(j:Int),(hmem j hj).2 h,rfl⟩
    · intro h
      obtain ⟨x,hx,e⟩:=List.mem_map.1 h
      have hb:=hwb.2 x hx
      obtain ⟨j,rfl⟩:∃ j:Nat,x=(j:Int):=⟨x.toNat,by omega⟩
      rw [← e]
      exact (hmem j (by omega)).1 hx) 12
  have hWl:W.length≤100:=by omega
  have hWl':W'.length≤100:=by omega
  have hcn:=zcf (fun i=>decide ((i:Int)∈W.map (ren to))) 12
  have hsl:(selI (fun i=>decide ((i:Int)∈W.map (ren to))) 12).length≤281474976710656:=by rw [zbs]; omega
  simp only [hTr,hTr',hTw,hTw',decide_true,Bool.not_true,Bool.not_false,cond_true,d32_eq (n:Int) (show W.length≤281474976710656 by omega),decide_eq_true hwb,Option.bind_some,decide_eq_false (show ¬ (((zbz P).length:Nat):Int)=0 by omega),cond_false,d21_eq,d44_eq (show W'.length≤281474976710656 by omega),d43_eq h7 t3 t2 hwb,d44_eq (l:=W.map (ren to)) (by rw [List.length_map]; omega),hset,d38_eq hsl hsl]
end Go.Proofs.YtmipjomnjkmdbaaGreat
