/- Part 14 of what stands below the statement. -/
import Derived.Test.YtmipjomnjkmdbaaGreatQ13
set_option linter.unusedSimpArgs false
set_option linter.unusedVariables false
namespace Go.Proofs.YtmipjomnjkmdbaaGreat
open Go Go.X
theorem zow {α:Type} (l:List α) (x:α) {i:Nat} (h:i < l.length):(l.set i x).take (i+1)=l.take i++[x]:=by
  refine List.ext_getElem? fun j=>?_
  by_cases hj:j < i+1
  · rw [List.getElem?_take_of_lt hj]
    by_cases h2:i=j
    · subst h2
      rw [List.getElem?_set_self h,List.getElem?_append_right (by rw [List.length_take]; omega),List.length_take,Nat.min_eq_left (by omega),Nat.sub_self]; rfl
    · rw [List.getElem?_set_ne h2,List.getElem?_append_left (by rw [List.length_take]; omega),List.getElem?_take_of_lt (by omega)]
  · rw [List.getElem?_eq_none (by rw [List.length_take,List.length_set]; omega),List.getElem?_eq_none (by rw [List.length_append,List.length_take]; simp; omega)]
theorem zci (g:Int→Bool) (s:List Int) {j:Nat} (h:j < s.length):(s.take (j+1)).filter g=(s.take j).filter g++(if g (s.getD j 0) then [s.getD j 0] else []):=by
  rw [zbl s 0 h,List.filter_append]
  congr 1
  rw [List.filter_cons]
  cases hg:g (s.getD j 0) <;> rfl
theorem getD_of_drop {s t:List Int} {j:Nat} (h:s.drop j=t.drop j):s.getD j 0=t.getD j 0:=by
  have h1:=ziw s j 0 0
  have h2:=ziw t j 0 0
  rw [Nat.add_zero] at h1 h2
  rw [← h1,← h2,h]
theorem zko {s t:List Int} {j:Nat} (h:s.drop j=t.drop j):s.drop (j+1)=t.drop (j+1):=by
  rw [← List.drop_drop,← List.drop_drop,h]
theorem d134_eq {s:List Int} {f:Int→Option Bool} {g:Int→Bool} (hf:∀ c∈s,f c=some (g c)) (hs:s.length≤1000000):d134 s f=some (s.filter fun c=>!g c):=by
  unfold d134
  rw [d101_on hf (by omega)]
  have hle:=zfk g s
  by_cases h:zaq g s < s.length
  · rw [if_pos h,Option.bind_some,decide_eq_false (show ¬ ((zaq g s:Nat):Int)=-1 by omega),cond_false]
    obtain ⟨i0,hi0⟩:∃ i0,zaq g s=i0:=⟨_,rfl⟩
    have hat:=zfl g s h
    have hlt:=zdd g s
    rw [hi0] at h hat hlt
    rw [hi0,zbo (by omega)]
    refine zbv (Q:=fun r=>r=some (s.filter fun c=>!g c)) (fun (m:Nat) (st:(List Int) × (Int→Option Bool) × Int × Int)=>∃ (s':List Int) (i:Nat),st=(s',f,(i:Int),((i0+1+m:Nat):Int))∧s'.length=s.length∧i≤i0+m∧i0+1+m≤s.length∧s'.take i=(s.take (i0+1+m)).filter (fun c=>!g c)∧s'.drop (i0+1+m)=s.drop (i0+1+m)) (s.length - (i0+1)) ?_ ?_ ?_
    · refine ⟨s,i0,rfl,rfl,by omega,by omega,?_,rfl⟩
      rw [zci _ s h,hat,show (!true)=false from rfl]
      simp only [Bool.false_eq_true,if_false,List.append_nil]
      refine (List.filter_eq_self.2 fun x hx=>?_).symm
      obtain ⟨k,hk,hkx⟩:=List.getElem_of_mem hx
      rw [List.length_take] at hk
      have:=hlt k (by omega)
      rw [List.getD_eq_getElem?_getD,List.getElem?_eq_getElem (by omega)] at this
      rw [List.getElem_take] at hkx
      rw [← hkx]
      simpa using this
    · rintro m st hm ⟨s',i,rfl,hl,hi,hmle,ht,hd⟩
      have hj:i0+1+m < s.length:=by omega
      have hgd:=getD_of_drop hd
      have hmem:s.getD (i0+1+m) 0∈s:=zdp hj
      simp only [hl,dlt hj,d0le,Bool.and_self,cond_true,tn,zav,hgd,hf _ hmem,Option.bind_some]
      rw [show i0+1+(m+1)=i0+1+m+1 by omega]
      cases hg:g (s.getD (i0+1+m) 0) with
      | true =>
        refine ⟨_,by rw [Bool.not_true,cond_false,zbo (by omega)],s',i,rfl,hl,by omega,by omega,?_,zko hd⟩
        rw [zci _ s hj,hg,ht]; simp
      | false =>
        refine ⟨_,by simp only [Bool.not_false,cond_true,dlt (show i < s.length by omega),zbo (show i < 9223372036854775807 by omega),zbo (show i0+1+m < 9223372036854775807 by omega),Bool.and_self],s'.set i (s.getD (i0+1+m) 0),i+1,rfl,by simpa using hl,by omega,by omega,?_,?_⟩
        · rw [zow _ _ (by omega),zci _ s hj,hg,ht]; simp
        · rw [List.drop_set_of_lt (by omega)]; exact zko hd
    · rintro st ⟨s',i,rfl,hl,hi,hmle,ht,hd⟩
      have e:i0+1+(s.length - (i0+1))=s.length:=by omega
      rw [e] at ht hd ⊢
      rw [List.take_length] at ht
      refine ⟨(s',(i:Int)),by simp only [hl,nlt (Nat.le_refl s.length),cond_false],?_⟩
      have hil:i≤s'.length:=by omega
      have hlen:(List.take i s'++List.replicate (s'.length - i) 0).length=s'.length:=by simp; omega
      have c1:zcy (i:Int) (s'.length:Int) s'.length=true:=by
        unfold zcy
        simp only [Bool.and_eq_true,decide_eq_true_eq]
        omega
      have c2:zcy 0 (i:Int) s'.length=true:=by
        unfold zcy
        simp only [Bool.and_eq_true,decide_eq_true_eq]
        omega
      simp only [c1,cond_true,tn,hlen,c2]
      rw [List.take_append_of_le_length (by rw [List.length_take]; omega),List.take_take,Nat.min_self,ht]
  · rw [if_neg h,Option.bind_some]
    have hall:∀ x∈s,g x=false:=fun x hx=>by
      cases hg:g x
      · rfl
      · exact absurd ((zhx g s).2 ⟨x,hx,hg⟩) h
    rw [List.filter_eq_self.2 fun x hx=>by rw [hall x hx]; rfl]
    rfl
theorem d133_eq {c:CT} {lots:List Int} {tot q:Int} {pc:List (List Int × (Int × (Int × Rt)))} {st:Nat→Nat} {n:Nat} {kp:List Rt} {filled:Nat} {rest:List (List Rt) × (Int × (Int × (Int × (Int × (List RD × List Int)))))}
    {v kk:List Rt} {qu ex su:Rt} {el ex2 ti:List Int} {p:Nat→Bool} (hn:n≤7) (hf:filled≤1000) (hel:el.length≤1000) :
    d133 (c,lots,tot,q,pc,lst (fun i=>(st i:Int)) n,kp,(filled:Int),rest) (v,kk,qu,ex,su,el,ex2,ti) (selI p n)
      = some ((c,lots,tot,q,pc,lst (fun i=>((if p i then 1 else st i:Nat):Int)) n,kp,((filled+cntN p n:Nat):Int),rest),(v,kk,qu,ex,su,zea (el++selI p n),ex2,ti)):=by
  unfold d133
  obtain ⟨L,hL⟩:∃ L,selN p n=L:=⟨_,rfl⟩
  have hLi:(selI p n).length=L.length:=by rw [← hL,selI,List.length_map]
  have hLc:cntN p n=L.length:=by rw [← hL,zfw]
  have hLl:L.length≤7:=by rw [← hLc]; have:=zca p n; omega
  rw [hLi]
  refine zaf (fun j=>((c,lots,tot,q,pc,lst (fun i=>((zex st (L.take j) 1 i:Nat):Int)) n,kp,((filled+j:Nat):Int),rest),(v,kk,qu,ex,su,el++(selI p n).take j,ex2,ti),selI p n,(L.length:Int),(j:Int))) L.length ?_ (fun j hj=>?_) (b:=((c,lots,tot,q,pc,lst (fun i=>((zex st L 1 i:Nat):Int)) n,kp,((filled+L.length:Nat):Int),rest),(v,kk,qu,ex,su,el++selI p n,ex2,ti))) ?_ ?_
  · rw [List.take_zero,zno,List.take_zero,List.append_nil]; rfl
  · have hj':j < (selN p n).length:=by rw [hL]; exact hj
    have hg:=zgn hj'
    have hsg:=zmc hj'
    rw [hL] at hg hsg
    have hll:(el++(selI p n).take j).length+1≤4294967296:=by rw [List.length_append,List.length_take]; omega
    simp only [dlt hj,d0le,hLi,Bool.and_self,cond_true,tn,hsg,zaz,dlt hg.1,zcp hll,zbo (show j < 9223372036854775807 by omega),zbo (show filled+j < 9223372036854775807 by omega),zgu]
    have e:lst (upd (fun i=>((zex st (L.take j) 1 i:Nat):Int)) (L.getD j 0) 1) n=lst (fun i=>((zex st (L.take (j+1)) 1 i:Nat):Int)) n:=zcg fun i hi=>by
      rw [zbl L 0 hj,← zlo]
      unfold upd
      split <;> rfl
    rw [e,zbl (selI p n) 0 (by rw [hLi]; exact hj),hsg,List.append_assoc]
    rfl
  · simp only [nlt (Nat.le_refl L.length),cond_false,List.take_length]
    rw [← hLi,List.take_length]
  · have hd:d174 (el++selI p n)=some (zea (el++selI p n)):=by
      unfold d174
      rw [zcb (by rw [List.length_append]; omega)]; rfl
    simp only [hd,Option.bind_some,hLc]
    have e:lst (fun i=>((zex st L 1 i:Nat):Int)) n=lst (fun i=>((if p i then 1 else st i:Nat):Int)) n:=zcg fun i hi=>by
     unfold zex
     congr 1
     by_cases h:p i=true
     · rw [if_pos (by rw [← hL]; exact zdh.2 ⟨hi,h⟩),if_pos h]
     · rw [if_neg (by rw [← hL]; exact fun hm=>h (zdh.1 hm).2),if_neg h]
    rw [e]
theorem zdk (p:Nat→Bool):∀ n:Nat,(selI p n).Pairwise (· < ·)
  | 0=>List.Pairwise.nil
  | n+1=>by
    rw [zds,List.pairwise_append]
    refine ⟨zdk p n,by split <;> simp,fun x hx y hy=>?_⟩
    obtain ⟨i,rfl,h1,_⟩:=zbb.1 hx
    split at hy
    · simp at hy; subst hy; omega
    · simp at hy
theorem sortI_of {l m:List Int} (hp:l.Perm m) (hs:m.Pairwise (·≤·)):zea l=m:=by
  unfold zea
  have h1:=List.mergeSort_perm l fun x y=>decide (x≤y)
  have h2:(l.mergeSort fun x y=>decide (x≤y)).Pairwise (·≤·):=by
    have:=List.pairwise_mergeSort (le:=fun x y:Int=>decide (x≤y)) (fun a b c h1 h2=>decide_eq_true (Int.le_trans (of_decide_eq_true h1) (of_decide_eq_true h2))) (fun a b=>by simp only [Bool.or_eq_true,decide_eq_true_eq]; omega) l
    exact this.imp fun h=>of_decide_eq_true h
  exact (h1.trans hp).eq_of_pairwise (fun a b _ _ h3 h4=>Int.le_antisymm h3 h4) h2 hs
theorem sortI_selI (p:Nat→Bool) (n:Nat):zea (selI p n)=selI p n:=sortI_of (List.Perm.refl _) ((zdk p n).imp fun h=>Int.le_of_lt h)
theorem sel_perm {p q:Nat→Bool} (h:∀ i,p i=true→q i=false):∀ n:Nat,(selI p n++selI q n).Perm (selI (fun i=>p i || q i) n)
  | 0=>List.Perm.refl _
  | n+1=>by
    have ih:=sel_perm h n
    rw [zds,zds,zds]
    cases hp:p n
    · simp only [Bool.false_eq_true,if_false,List.append_nil,Bool.false_or]
      cases hq:q n
      · simp only [Bool.false_eq_true,if_false,List.append_nil]; exact ih
      · simp only [if_true]
        rw [← List.append_assoc]
        exact ih.append_right _
    · rw [h n hp]
      simp only [Bool.false_eq_true,if_false,List.append_nil,Bool.or_false,if_true]
      refine List.Perm.trans ?_ (ih.append_right [(n:Int)])
      rw [List.append_assoc,List.append_assoc]
      exact List.Perm.append_left _ List.perm_append_comm
theorem sortI_two {p q:Nat→Bool} (h:∀ i,p i=true→q i=false) (n:Nat):zea (selI p n++selI q n)=selI (fun i=>p i || q i) n :=
  sortI_of (sel_perm h n) ((zdk _ n).imp fun h=>Int.le_of_lt h)
def ext0 (ρ:Int→Rat) (l:List Int):List Int:=l.filter fun i=>l.all fun k=>decide (ρ i≤ρ k)
def sgR (least:Bool) (r:Int→Rat) (c:Int):Rat:=if least then r c else - r c
theorem extr_ext0 (least:Bool) (r:Int→Rat) (l:List Int):extr least r l=ext0 (sgR least r) l:=by
  unfold extr ext0 sgR
  refine List.filter_congr fun i _=>?_
  congr 1
  funext k
  cases least
  · simp only [Bool.false_eq_true,if_false]
    exact decide_eq_decide.2 ⟨fun h=>by grind,fun h=>by grind⟩
  · rfl
theorem zlg {ρ:Int→Rat} {l:List Int} {x:Int}:x∈ext0 ρ l↔x∈l∧∀ k∈l,ρ x≤ρ k:=by
  unfold ext0
  rw [List.mem_filter,List.all_eq_true]
  simp only [decide_eq_true_eq]
theorem ext0_ne {ρ:Int→Rat} {l:List Int} (h:l ≠ []):ext0 ρ l ≠ []:=by
  obtain ⟨i,h1,h2⟩:=zfb ρ h
  exact List.ne_nil_of_mem (zlg.2 ⟨h1,h2⟩)
theorem ext0_nil (ρ:Int→Rat):ext0 ρ []=[]:=rfl
theorem ext0_snoc (ρ:Int→Rat) {l:List Int} (x:Int) (hl:l ≠ []):ext0 ρ (l++[x])=if ρ x < ρ ((ext0 ρ l).headD 0) then [x] else if ρ x=ρ ((ext0 ρ l).headD 0) then ext0 ρ l++[x] else ext0 ρ l:=by
  have hy:=zgw (ext0_ne (ρ:=ρ) hl)
  generalize (ext0 ρ l).headD 0=y at hy ⊢
  obtain ⟨h1,h2⟩:=zlg.1 hy
  have e:ext0 ρ (l++[x])=l.filter (fun i=>(l.all fun k=>decide (ρ i≤ρ k)) && decide (ρ i≤ρ x))++if (l.all fun k=>decide (ρ x≤ρ k)) then [x] else []:=by
    unfold ext0
    rw [List.filter_append]
    congr 1
    · refine List.filter_congr fun i _=>?_
      rw [List.all_append]; simp
    · rw [List.filter_cons,List.all_append]
      have:ρ x≤ρ x:=Rat.le_refl
      simp [this]
  rw [e]
  by_cases c1:ρ x < ρ y
  · rw [if_pos c1]
    have a1:l.filter (fun i=>(l.all fun k=>decide (ρ i≤ρ k)) && decide (ρ i≤ρ x))=[]:=by
      refine List.filter_eq_nil_iff.2 fun i hi hc=>?_
      simp only [Bool.and_eq_true,decide_eq_true_eq] at hc
      have:=h2 i hi
      grind
    have a2:(l.all fun k=>decide (ρ x≤ρ k))=true:=List.all_eq_true.2 fun k hk=>decide_eq_true (by have:=h2 k hk; grind)
    rw [a1,a2]; rfl
  · rw [if_neg c1]
    have a1:l.filter (fun i=>(l.all fun k=>decide (ρ i≤ρ k)) && decide (ρ i≤ρ x))=ext0 ρ l:=by
      unfold ext0
      refine List.filter_congr fun i hi=>?_
      cases hall:(l.all fun k=>decide (ρ i≤ρ k))
      · rfl
      · have:=of_decide_eq_true (List.all_eq_true.1 hall y h1)
        rw [Bool.true_and]
        exact decide_eq_true (by grind)
    rw [a1]
    by_cases c2:ρ x=ρ y
    · rw [if_pos c2]
      have a2:(l.all fun k=>decide (ρ x≤ρ k))=true:=List.all_eq_true.2 fun k hk=>decide_eq_true (by have:=h2 k hk; grind)
      rw [a2]; rfl
    · rw [if_neg c2]
      have a2:(l.all fun k=>decide (ρ x≤ρ k))=false:=by
        rw [List.all_eq_false]
        exact ⟨y,h1,by simp only [decide_eq_true_eq]; grind⟩
      rw [a2]; simp
def ordQ (least:Bool) (a b:Rat):Int:=if least then cmpQ a b else 0 - cmpQ a b
theorem ordQ_lt (least:Bool) (r:Int→Rat) (x y:Int):decide (ordQ least (r x) (r y) < 0)=decide (sgR least r x < sgR least r y):=by
  refine decide_eq_decide.2 ?_
  unfold ordQ sgR cmpQ
  cases least <;> simp only [Bool.false_eq_true,if_false,if_true]
  · by_cases h1:r x < r y
    · rw [if_pos h1]; constructor
      · intro h; omega
      · intro h; grind
    · rw [if_neg h1]
      by_cases h2:r x=r y
      · rw [if_pos h2]; constructor
        · intro h; omega
        · intro h; grind
      · rw [if_neg h2]; constructor
        · intro _; grind
        · intro _; omega
  · by_cases h1:r x < r y
    · rw [if_pos h1]; constructor
      · intro h; exact h1
      · intro h; omega
    · rw [if_neg h1]; constructor
      · intro h; split at h <;> omega
      · intro h; exact absurd h h1
theorem ordQ_eq (least:Bool) (r:Int→Rat) (x y:Int):decide (ordQ least (r x) (r y)=0)=decide (sgR least r x=sgR least r y):=by
  refine decide_eq_decide.2 ?_
  unfold ordQ sgR cmpQ
  cases least <;> simp only [Bool.false_eq_true,if_false,if_true]
  · by_cases h1:r x < r y
    · rw [if_pos h1]; constructor
      · intro h; omega
      · intro h; grind
    · rw [if_neg h1]
      by_cases h2:r x=r y
      · rw [if_pos h2]; constructor
        · intro h; grind
        · intro h; omega
      · rw [if_neg h2]; constructor
        · intro _; omega
        · intro _; grind
  · by_cases h1:r x < r y
    · rw [if_pos h1]; constructor
      · intro h; omega
      · intro h; grind
    · rw [if_neg h1]; constructor
      · intro h; split at h
        · assumption
        · omega
      · intro h; rw [if_pos h]
theorem cmpQ_bounds (a b:Rat):-1≤cmpQ a b∧cmpQ a b≤1:=by
  unfold cmpQ; (repeat' split) <;> omega
end Go.Proofs.YtmipjomnjkmdbaaGreat
set_option linter.unusedSimpArgs false
set_option linter.unusedVariables false
namespace Go.Proofs.YtmipjomnjkmdbaaGreat
open Go Go.X
theorem zhy (v:Int):∀ l:List Int,zaq (fun x=>decide (v=x)) l=l.idxOf v
  | []=>rfl
  | x::l=>by
    unfold zaq
    rw [List.idxOf_cons,zhy v l]
    by_cases h:v=x
    · subst h; simp
    · have:(x == v)=false:=by simp; exact fun e=>h e.symm
      rw [this]; simp [h]
theorem d188_eq {lots:List Int} (hl:lots.length≤1000) {a b:Int} (ha:a∈lots) (hb:b∈lots):d188 a b lots=some ((zdt lots a:Int) - (zdt lots b:Int)):=by
  unfold d188
  have h1:=List.idxOf_lt_length_iff.2 ha
  have h2:=List.idxOf_lt_length_iff.2 hb
  rw [d189_eq a (by omega),d189_eq b (by omega),zhy,zhy,if_pos h1,if_pos h2]
  simp only [Option.bind_some]
  unfold zdt
  rw [zbk (by omega) (by omega)]
theorem d190_eq {x:List Int} {cmp:Int→Int→Option Int} {g:Int→Int→Int} (hx:x ≠ []) (hl:x.length≤1000) (hc:∀ a∈x,∀ b∈x,cmp a b=some (g a b)):d190 x cmp=some (x.tail.foldl (fun m c=>if 0 < g c m then c else m) (x.headD 0)):=by
  have hp:=List.length_pos_iff.2 hx
  unfold d190
  rw [decide_eq_false (show ¬ ((x.length:Int) < 1) by omega),cond_false,show (decide (0≤0) && decide ((0:Int) < (x.length:Int)))=true by rw [decide_eq_true (show (0:Int) < (x.length:Int) by omega)]; rfl,cond_true]
  have hmem:∀ i,(x.tail.take i).foldl (fun m c=>if 0 < g c m then c else m) (x.headD 0)∈x:=fun i=>by
    cases x with
    | nil=>exact absurd rfl hx
    | cons y x =>
      simp only [List.tail_cons,List.headD_cons]
      rcases ziz (fun m c=>if 0 < g c m then c else m) (fun a b=>by split <;> simp) (x.take i) y with h | h
      · rw [h]; simp
      · exact List.mem_cons_of_mem _ (List.mem_of_mem_take h)
  refine zaf (fun i=>(x,cmp,(x.tail.take i).foldl (fun m c=>if 0 < g c m then c else m) (x.headD 0),((i+1:Nat):Int))) (x.length - 1) ?_ (fun i hi=>?_) (b:=x.tail.foldl (fun m c=>if 0 < g c m then c else m) (x.headD 0)) ?_ rfl
  · rw [List.take_zero,List.foldl_nil]
    cases x with
    | nil=>exact absurd rfl hx
    | cons y x=>rfl
  · have hlt:i+1 < x.length:=by omega
    have hxm:x.getD (i+1) 0∈x:=zdp hlt
    have ht:x.tail.getD i 0=x.getD (i+1) 0:=by
      cases x with
      | nil=>exact absurd rfl hx
      | cons y x=>rfl
    have hs:x.tail.take (i+1)=x.tail.take i++[x.getD (i+1) 0]:=by rw [zbl x.tail 0 (by rw [List.length_tail]; omega),ht]
    simp only [dlt hlt,d0le,Bool.and_self,cond_true,tn,zav,hc _ hxm _ (hmem i),Option.bind_some,zbo (show i+1 < 9223372036854775807 by omega),hs,List.foldl_append,List.foldl_cons,List.foldl_nil]
    generalize (x.tail.take i).foldl (fun m c=>if 0 < g c m then c else m) (x.headD 0)=m
    by_cases h:0 < g (x.getD (i+1) 0) m
    · rw [decide_eq_true h,cond_true,if_pos h]
    · rw [decide_eq_false h,cond_false,if_neg h]
  · have e:x.length - 1+1=x.length:=by omega
    rw [e]
    simp only [nlt (Nat.le_refl x.length),cond_false]
    rw [List.take_of_length_le (by rw [List.length_tail]; omega)]
theorem d191_eq {x:List Int} {cmp:Int→Int→Option Int} {g:Int→Int→Int} (hx:x ≠ []) (hl:x.length≤1000) (hc:∀ a∈x,∀ b∈x,cmp a b=some (g a b)):d191 x cmp=some (x.tail.foldl (fun m c=>if g c m < 0 then c else m) (x.headD 0)):=by
  have hp:=List.length_pos_iff.2 hx
  unfold d191
  rw [decide_eq_false (show ¬ ((x.length:Int) < 1) by omega),cond_false,show (decide (0≤0) && decide ((0:Int) < (x.length:Int)))=true by rw [decide_eq_true (show (0:Int) < (x.length:Int) by omega)]; rfl,cond_true]
  have hmem:∀ i,(x.tail.take i).foldl (fun m c=>if g c m < 0 then c else m) (x.headD 0)∈x:=fun i=>by
    cases x with
    | nil=>exact absurd rfl hx
    | cons y x =>
      simp only [List.tail_cons,List.headD_cons]
      rcases ziz (fun m c=>if g c m < 0 then c else m) (fun a b=>by split <;> simp) (x.take i) y with h | h
      · rw [h]; simp
      · exact List.mem_cons_of_mem _ (List.mem_of_mem_take h)
  refine zaf (fun i=>(x,cmp,(x.tail.take i).foldl (fun m c=>if g c m < 0 then c else m) (x.headD 0),((i+1:Nat):Int))) (x.length - 1) ?_ (fun i hi=>?_) (b:=x.tail.foldl (fun m c=>if g c m < 0 then c else m) (x.headD 0)) ?_ rfl
  · rw [List.take_zero,List.foldl_nil]
    cases x with
    | nil=>exact absurd rfl hx
    | cons y x=>rfl
  · have hlt:i+1 < x.length:=by omega
    have hxm:x.getD (i+1) 0∈x:=zdp hlt
    have ht:x.tail.getD i 0=x.getD (i+1) 0:=by
      cases x with
      | nil=>exact absurd rfl hx
      | cons y x=>rfl
    have hs:x.tail.take (i+1)=x.tail.take i++[x.getD (i+1) 0]:=by rw [zbl x.tail 0 (by rw [List.length_tail]; omega),ht]
    simp only [dlt hlt,d0le,Bool.and_self,cond_true,tn,zav,hc _ hxm _ (hmem i),Option.bind_some,zbo (show i+1 < 9223372036854775807 by omega),hs,List.foldl_append,List.foldl_cons,List.foldl_nil]
    generalize (x.tail.take i).foldl (fun m c=>if g c m < 0 then c else m) (x.headD 0)=m
    by_cases h:g (x.getD (i+1) 0) m < 0
    · rw [decide_eq_true h,cond_true,if_pos h]
    · rw [decide_eq_false h,cond_false,if_neg h]
  · have e:x.length - 1+1=x.length:=by omega
    rw [e]
    simp only [nlt (Nat.le_refl x.length),cond_false]
    rw [List.take_of_length_le (by rw [List.length_tail]; omega)]
structure LotsOK (n:Nat) (lots:List Int):Prop where
  n1:1≤n
  n7:n≤7
  len:lots.length=n
  within:∀ c∈lots,∃ i:Nat,c=(i:Int)∧i < n
  nodup:lots.Nodup
theorem LotsOK.mem {n:Nat} {lots:List Int} (h:LotsOK n lots) {i:Nat} (hi:i < n):(i:Int)∈lots:=by
  refine Decidable.byContradiction fun hni=>?_
  have:=ziq (n:=n) ((i:Int)::lots) (List.nodup_cons.2 ⟨hni,h.nodup⟩) (fun x hx=>by
    rcases List.mem_cons.1 hx with rfl | hx
    · omega
    · obtain ⟨j,rfl,hj⟩:=h.within x hx; omega)
  rw [List.length_cons,h.len] at this
  omega
theorem d185_eq {n:Nat} {ties:Int} {tied lots:List Int} (h1:1≤ties) (h3:ties≤3) (hl:LotsOK n lots) (ht:tied ≠ []) (hts:tied.Pairwise (· < ·)) (htb:∀ c∈tied,∃ i:Nat,c=(i:Int)∧i < n) (htl:tied.length≤1000):d185 ties tied lots=some true:=by
  have hn1:=hl.n1
  have hn7:=hl.n7
  have hp:=List.length_pos_iff.2 ht
  unfold d185
  rw [zav]
  simp only [hl.len,decide_eq_false (show ¬ ties < 1 by omega),decide_eq_false (show ¬ 3 < ties by omega),decide_eq_false (show ¬ (n:Int) < 1 by omega),decide_eq_false (show ¬ 7 < (n:Int) by omega),decide_eq_false (show ¬ (tied.length:Int)=0 by omega),Bool.not_false,cond_true,cond_false]
  refine zaf (fun i=>(tied,(n:Int),lst (fun v=>decide ((v:Int)∈lots.take i)) 7,lots,(n:Int),(i:Int))) n ?_ (fun i hi=>?_) (b:=.inl (tied,(n:Int))) ?_ ?_
  · simp only [List.take_zero,List.not_mem_nil,decide_false]; rfl
  · have hil:i < lots.length:=by rw [hl.len]; exact hi
    obtain ⟨c,hc,hcn⟩:=hl.within _ (zdp hil)
    have hnot:decide ((c:Int)∈lots.take i)=false:=decide_eq_false fun hm=>by
      have:=hl.nodup.sublist (List.take_sublist (i+1) lots)
      rw [zbl lots 0 hil,hc,List.nodup_append] at this
      exact this.2.2 _ hm _ (by simp) rfl
    simp only [dlt hi,hl.len,d0le,Bool.and_self,cond_true,tn,zav,hc,decide_eq_false (show ¬ (c:Int) < 0 by omega),decide_eq_false (show ¬ (n:Int)≤(c:Int) by omega),Bool.not_false,show decide ((c:Int) < 7)=true from decide_eq_true (by omega),zbn (fun v=>decide ((v:Int)∈lots.take i)) (show c < 7 by omega),hnot,cond_false,zgu,zbo (show i < 9223372036854775807 by omega)]
    have e:lst (upd (fun v=>decide ((v:Int)∈lots.take i)) c true) 7=lst (fun v=>decide ((v:Int)∈lots.take (i+1))) 7:=zcg fun v hv=>by
      rw [zbl lots 0 hil,hc]
      unfold upd
      by_cases hvc:v=c
      · subst hvc; simp
      · rw [if_neg hvc]
        refine decide_eq_decide.2 ?_
        rw [List.mem_append,List.mem_singleton]
        exact ⟨.inl,fun hm=>hm.resolve_right fun e=>hvc (Int.ofNat_inj.1 e)⟩
    rw [e]
  · simp only [nlt (Nat.le_refl n),cond_false]
  · simp only
    refine zaf (fun i=>(tied,(n:Int),tied,(tied.length:Int),(i:Int))) tied.length rfl (fun i hi=>?_) (b:=.inl ()) ?_ rfl
    · obtain ⟨c,hc,hcn⟩:=htb _ (zdp hi)
      simp only [dlt hi,d0le,Bool.and_self,cond_true,tn,zav,hc,decide_eq_false (show ¬ (c:Int) < 0 by omega),decide_eq_false (show ¬ (n:Int)≤(c:Int) by omega),Bool.not_false,zbo (show i < 9223372036854775807 by omega)]
      cases i with
      | zero=>rfl
      | succ i =>
        have hlt:tied.getD i 0 < tied.getD (i+1) 0:=by
          rw [List.getD_eq_getElem?_getD,List.getElem?_eq_getElem (by omega),List.getD_eq_getElem?_getD,List.getElem?_eq_getElem hi]
          exact List.pairwise_iff_getElem.1 hts i (i+1) (by omega) hi (by omega)
        rw [hc] at hlt
        simp only [show decide ((0:Int) < ((i+1:Nat):Int))=true from decide_eq_true (by omega),cond_true,wpred (show i < 9223372036854775807 by omega),d0le,dlt (show i < tied.length by omega),Bool.and_self,tn,decide_eq_false (show ¬ (c:Int)≤tied.getD i 0 by omega),cond_false]
    · simp only [nlt (Nat.le_refl tied.length),cond_false]
def RndOK (n:Nat) (r:List Rat):Prop:=r.length=n∧∀ q∈r,Bz eB q
theorem map_getD_rr {r:List Rat} {c:Nat} (h:c < r.length):(r.map rr).getD c (false,[],[])=rr (r.getD c 0):=by
  rw [List.getD_eq_getElem?_getD,List.getElem?_map,List.getElem?_eq_getElem h,List.getD_eq_getElem?_getD,List.getElem?_eq_getElem h]; rfl
theorem zcq {α:Type} {l:List α} {d:α} {i:Nat} (h:i < l.length):l.getD i d∈l:=by
  rw [List.getD_eq_getElem?_getD,List.getElem?_eq_getElem h]
  exact List.getElem_mem h
theorem RndOK.bz {n:Nat} {r:List Rat} (h:RndOK n r) {c:Nat} (hc:c < n):Bz eB (zbu r (c:Int)):=h.2 _ (zcq (by rw [h.1]; exact hc))
theorem d213_eq {n:Nat} {r:List Rat} (h:RndOK n r) {c:Nat} (hc:c < n):d213 (r.map rr) (c:Int)=some (rr (zbu r (c:Int))):=by
  have hc':c < r.length:=by rw [h.1]; exact hc
  unfold d213
  rw [List.length_map,dlt hc']
  simp only [cond_true,d0le,Bool.and_self,tn,map_getD_rr hc']
  rfl
theorem w_ord (least:Bool) (a b:Rat):(bif !least then w (0 - cmpQ a b) else cmpQ a b)=ordQ least a b:=by
  have:=cmpQ_bounds a b
  unfold ordQ
  cases least
  · rw [Bool.not_false,cond_true,zbk (by omega) (by omega)]; rfl
  · rfl
theorem zhl (l:List Int):l.getD 0 0=l.headD 0:=by cases l <;> rfl
theorem ext0_len (ρ:Int→Rat) (l:List Int):(ext0 ρ l).length≤l.length:=List.length_filter_le _ _
theorem d187_eq {n:Nat} {r:List Rat} (h:RndOK n r) {l:List Int} (hl:∀ c∈l,∃ i:Nat,c=(i:Int)∧i < n) (hll:l.length≤1000) (least:Bool):d187 l (r.map rr) least=some (extr least (zbu r) l):=by
  rw [extr_ext0]
  unfold d187
  refine zaf (fun i=>(r.map rr,least,ext0 (sgR least (zbu r)) (l.take i),l,(l.length:Int),(i:Int))) l.length rfl (fun i hi=>?_) (b:=ext0 (sgR least (zbu r)) l) ?_ rfl
  · obtain ⟨c,hc,hcn⟩:=hl _ (zdp hi)
    have hol:=ext0_len (sgR least (zbu r)) (l.take i)
    rw [List.length_take] at hol
    simp only [dlt hi,d0le,Bool.and_self,cond_true,tn,zav,hc,zbo (show i < 9223372036854775807 by omega)]
    rw [zbl l 0 hi,hc]
    by_cases hi0:l.take i=[]
    · rw [hi0,ext0_nil]
      have e:ext0 (sgR least (zbu r)) ([]++[(c:Int)])=[(c:Int)]:=by
        have:sgR least (zbu r) (c:Int)≤sgR least (zbu r) (c:Int):=Rat.le_refl
        simp [ext0,List.filter_cons,this]
      rw [e]
      simp only [show decide ((0:Int) < (([]:List Int).length:Int))=false from rfl,cond_false,show decide ((-1:Int)≤0)=true from rfl,cond_true,zcp (l:=([]:List Int)) (d:=(c:Int)) (by simp)]
      rfl
    · have hne:=ext0_ne (ρ:=sgR least (zbu r)) hi0
      have hpos:=List.length_pos_iff.2 hne
      obtain ⟨y,hy⟩:∃ y,(ext0 (sgR least (zbu r)) (l.take i)).headD 0=y:=⟨_,rfl⟩
      have hym:y∈l:=by
        have:=zgw hne
        rw [hy] at this
        exact List.mem_of_mem_take (zlg.1 this).1
      obtain ⟨d,rfl,hdn⟩:=hl _ hym
      rw [ext0_snoc _ _ hi0,hy]
      generalize ext0 (sgR least (zbu r)) (l.take i)=out at *
      have hlt1:=ordQ_lt least (zbu r) (c:Int) (d:Int)
      have heq1:=ordQ_eq least (zbu r) (c:Int) (d:Int)
      have hg0:(decide (0≤0) && decide ((0:Int) < (out.length:Int)))=true:=by
        rw [decide_eq_true (show (0:Int) < (out.length:Int) by omega)]; rfl
      have hg1:decide ((0:Int) < (out.length:Int))=true:=decide_eq_true (by omega)
      have hcut:zcy 0 0 out.length=true:=by
        unfold zcy
        simp only [Bool.and_eq_true,decide_eq_true_eq]
        omega
      have hb:=w_ord least (zbu r (c:Int)) (zbu r (d:Int))
      rw [hg0]
      simp only [hg1,cond_true,zhl,hy,d213_eq h hcn,d213_eq h hdn,Option.bind_some,d137_rr (h.bz hcn).sz2 (h.bz hdn).sz2,hcut,List.take_zero]
      have hcl:decide ((([]:List Int).length:Int)+(([(c:Int)]:List Int).length:Int)≤LIM)=true:=zcp (l:=([]:List Int)) (d:=(c:Int)) (by simp)
      have hol2:=zcp (l:=out) (d:=(c:Int)) (by omega)
      have key:∀ o:Int,o=ordQ least (zbu r (c:Int)) (zbu r (d:Int))→(bif decide (o < 0) then
          bif decide (o≤0) then
            bif decide ((([]:List Int).length:Int)+(([(c:Int)]:List Int).length:Int)≤LIM) then (some (Sum.inl (r.map rr,least,([]:List Int)++[(c:Int)],l,(l.length:Int),((i+1:Nat):Int))):Option ((List Rt × Bool × List Int × List Int × Int × Int) ⊕ List Int)) else none
          else some (Sum.inl (r.map rr,least,([]:List Int),l,(l.length:Int),((i+1:Nat):Int)))
        else
          bif decide (o≤0) then
            bif decide ((out.length:Int)+(([(c:Int)]:List Int).length:Int)≤LIM) then some (Sum.inl (r.map rr,least,out++[(c:Int)],l,(l.length:Int),((i+1:Nat):Int))) else none
          else some (Sum.inl (r.map rr,least,out,l,(l.length:Int),((i+1:Nat):Int))))=some (.inl (r.map rr,least,if sgR least (zbu r) (c:Int) < sgR least (zbu r) (d:Int) then [(c:Int)] else if sgR least (zbu r) (c:Int)=sgR least (zbu r) (d:Int) then out++[(c:Int)] else out,l,(l.length:Int),((i+1:Nat):Int))):=by
        intro o ho
        rw [← ho] at hlt1 heq1
        rw [hcl,hol2]
        by_cases c1:o < 0
        · rw [decide_eq_true c1] at hlt1
          rw [if_pos (of_decide_eq_true hlt1.symm),decide_eq_true c1,decide_eq_true (show o≤0 by omega)]; rfl
        · rw [decide_eq_false c1] at hlt1
          rw [if_neg (of_decide_eq_false hlt1.symm),decide_eq_false c1]
          by_cases c2:o=0
          · rw [decide_eq_true c2] at heq1
            rw [if_pos (of_decide_eq_true heq1.symm),decide_eq_true (show o≤0 by omega)]; rfl
          · rw [decide_eq_false c2] at heq1
            rw [if_neg (of_decide_eq_false heq1.symm),decide_eq_false (show ¬ o≤0 by omega)]; rfl
      cases least
      · rw [Bool.not_false,cond_true] at hb ⊢
        exact key _ hb
      · rw [Bool.not_true,cond_false] at hb ⊢
        exact key _ hb
  · simp only [nlt (Nat.le_refl l.length),cond_false,List.take_length]
theorem znq:∀ {least:Bool} {rs:List (List Rat)} {l:List Int},l.length≤1→tieL least rs l=l
  | _,[],_,_=>rfl
  | least,r::rs,l,h=>by
    show tieL least rs (if 1 < l.length then extr least (zbu r) l else l)=l
    rw [if_neg (by omega)]
    exact znq h
theorem tieL_snoc (least:Bool) (rs:List (List Rat)) (r:List Rat) (l:List Int):tieL least (rs++[r]) l=if 1 < (tieL least rs l).length then extr least (zbu r) (tieL least rs l) else tieL least rs l:=by
  unfold tieL
  rw [List.foldl_append]; rfl
theorem tieL_append (least:Bool) (rs rs':List (List Rat)) (l:List Int):tieL least (rs++rs') l=tieL least rs' (tieL least rs l):=by
  unfold tieL
  rw [List.foldl_append]
theorem extr_len (least:Bool) (r:Int→Rat) (l:List Int):(extr least r l).length≤l.length:=List.length_filter_le _ _
theorem zov:∀ (least:Bool) (rs:List (List Rat)) (l:List Int),(tieL least rs l).length≤l.length
  | _,[],_=>Nat.le_refl _
  | least,r::rs,l=>by
    show (tieL least rs (if 1 < l.length then extr least (zbu r) l else l)).length≤_
    refine Nat.le_trans (zov least rs _) ?_
    split
    · exact extr_len _ _ _
    · exact Nat.le_refl _
theorem d155_eq {n:Nat} {ties:Int} {E:List (List Rat)} {tied lots:List Int} {least:Bool} (h1:1≤ties) (h3:ties≤3) (hl:LotsOK n lots) (hE:∀ r∈E,RndOK n r) (hEl:E.length≤1000000) (ht:tied ≠ []) (hts:tied.Pairwise (· < ·)) (htb:∀ c∈tied,∃ i:Nat,c=(i:Int)∧i < n) (htl:tied.length≤1000) :
    ∃ b,d155 ties (E.map (List.map rr)) tied lots least=some (tieB ties E tied lots least,b,E.map (List.map rr)):=by
  have hcl:d186 tied=some tied:=by unfold d186; rw [zcb (by omega)]; rfl
  unfold d155
  rw [d185_eq h1 h3 hl ht hts htb htl]
  simp only [Option.bind_some,Bool.not_true,cond_false,hcl]
  have hfin:∀ left:List Int,left=tieL least (zaw ties E) tied→∃ b,(bif (decide ((left.length:Int)=1)) then
      bif (decide (0≤0) && decide (0 < (left.length:Int))) then
        some ((List.getD left 0 0),false,E.map (List.map rr))
      else none
    else
      bif least then
        (d190 left (fun a a_1=>d188 a a_1 lots)).bind fun r_3 =>
        some (r_3,true,E.map (List.map rr))
      else
        (d191 left (fun a_2 a_3=>d188 a_2 a_3 lots)).bind fun r_4 =>
        some (r_4,true,E.map (List.map rr)))=some (tieB ties E tied lots least,b,E.map (List.map rr)):=by
    intro left hleft
    have hne:left ≠ []:=by rw [hleft]; exact tieL_ne ht
    have hlen:left.length≤tied.length:=by rw [hleft]; exact zov _ _ _
    have hlot:∀ a∈left,a∈lots:=fun a ha=>by
      rw [hleft] at ha
      obtain ⟨i,rfl,hi⟩:=htb _ (zig ha)
      exact hl.mem hi
    have hll:=hl.len
    have hn7:=hl.n7
    unfold tieB
    simp only [← hleft]
    by_cases hone:left.length=1
    · refine ⟨false,?_⟩
      rw [if_pos hone,hone,zhl]; rfl
    · refine ⟨true,?_⟩
      rw [if_neg hone,decide_eq_false (show ¬ (left.length:Int)=1 by omega),cond_false]
      have hc:∀ a∈left,∀ b∈left,d188 a b lots=some ((zdt lots a:Int) - (zdt lots b:Int)):=fun a ha b hb=>d188_eq (by omega) (hlot a ha) (hlot b hb)
      cases least
      · rw [cond_false,d191_eq hne (by omega) hc,Option.bind_some]
        unfold byLot
        simp only [Bool.false_eq_true,if_false]
        congr 3
        funext m c
        by_cases h:zdt lots c < zdt lots m
        · rw [if_pos h,if_pos (by omega)]
        · rw [if_neg h,if_neg (by omega)]
      · rw [cond_true,d190_eq hne (by omega) hc,Option.bind_some]
        unfold byLot
        simp only [if_true]
        congr 3
        funext m c
        by_cases h:zdt lots m < zdt lots c
        · rw [if_pos h,if_pos (by omega)]
        · rw [if_neg h,if_neg (by omega)]
  refine zew (Q:=fun r=>∃ b,r=some (tieB ties E tied lots least,b,E.map (List.map rr))) (fun (M:Nat) (st:Int × (List (List Rt)) × Bool × (List Int) × (List Int) × Int)=>∃ i:Nat,st=(ties,E.map (List.map rr),least,lots,tieL least ((zaw ties E).take i) tied,(i:Int))∧i+M=E.length) E.length ⟨0,by rw [List.take_zero]; rfl,by omega⟩ ?_
  rintro M st ⟨i,rfl,hM⟩
  have hsub:∀ c∈tieL least ((zaw ties E).take i) tied,∃ j:Nat,c=(j:Int)∧j < n:=fun c hc=>htb c (zig hc)
  have hlen:=zov least ((zaw ties E).take i) tied
  obtain ⟨left,hleft⟩:∃ left,tieL least ((zaw ties E).take i) tied=left:=⟨_,rfl⟩
  rw [hleft] at hsub hlen
  have hEm:(E.map (List.map rr)).length=E.length:=List.length_map ..
  simp only [hleft,hEm,zav]
  by_cases c3:ties=3
  · have hr:zaw ties E=[]:=by unfold zaw; rw [if_pos c3]
    have hq:left=tieL least (zaw ties E) tied:=by rw [← hleft,hr,List.take_nil]
    have hd3:(!decide (ties=3))=false:=by rw [decide_eq_true c3]; rfl
    refine .inr ⟨(E.map (List.map rr),least,lots,left),?_,hfin left hq⟩
    rw [hd3]
    simp only [cond_false]
    cases decide ((i:Int) < (E.length:Int)) <;> cases decide (1 < (left.length:Int)) <;> rfl
  · have hd3:(!decide (ties=3))=true:=by rw [decide_eq_false c3]; rfl
    have hrl:(zaw ties E).length=E.length:=by
      unfold zaw
      rw [if_neg c3]
      split
      · exact List.length_reverse
      · rfl
    rw [hd3]
    rcases Nat.eq_zero_or_pos M with h0 | h0
    · have hq:left=tieL least (zaw ties E) tied:=by rw [← hleft,List.take_of_length_le (by omega)]
      refine .inr ⟨(E.map (List.map rr),least,lots,left),?_,hfin left hq⟩
      simp only [nlt (show E.length≤i by omega),cond_false]
    · have hiE:i < E.length:=by omega
      by_cases hl1:1 < left.length
      · have hg:decide ((1:Int) < (left.length:Int))=true:=decide_eq_true (by omega)
        have key:∀ (r:List Rat) (z:List Rt),r∈E→(zaw ties E).getD i []=r→z=r.map rr→d187 left z least=some (tieL least ((zaw ties E).take (i+1)) tied):=by
          rintro r z hr hri rfl
          rw [d187_eq (hE r hr) hsub (by omega),zbl (zaw ties E) [] (by omega),tieL_snoc,hleft,hri,if_pos hl1]
        refine .inl ⟨(ties,E.map (List.map rr),least,lots,tieL least ((zaw ties E).take (i+1)) tied,((i+1:Nat):Int)),M - 1,?_,by omega,i+1,rfl,by omega⟩
        simp only [dlt hiE,hg,cond_true,d0le,Bool.and_self,tn,zbo (show i < 9223372036854775807 by omega)]
        by_cases c1:ties=1
        · have i1:w (w ((E.length:Int) - 1) - (i:Int))=((E.length - 1 - i:Nat):Int):=by
            rw [zbk (n:=(E.length:Int) - 1) (by omega) (by omega),zbk (by omega) (by omega)]; omega
          have hgr:(zaw ties E).getD i []=E.getD (E.length - 1 - i) []:=by
            unfold zaw
            rw [if_neg c3,if_pos c1]
            rw [List.getD_eq_getElem?_getD,List.getElem?_reverse hiE,List.getD_eq_getElem?_getD]
          have hz:(E.map (List.map rr)).getD (E.length - 1 - i) []=(E.getD (E.length - 1 - i) []).map rr:=by
            rw [List.getD_eq_getElem?_getD,List.getElem?_map,List.getElem?_eq_getElem (by omega),List.getD_eq_getElem?_getD,List.getElem?_eq_getElem (by omega)]; rfl
          simp only [decide_eq_true c1,cond_true,i1,d0le,dlt (show E.length - 1 - i < E.length by omega),Bool.and_self,tn]
          rw [key _ _ (zcq (by omega)) hgr hz]; rfl
        · have hgr:(zaw ties E).getD i []=E.getD i []:=by
            unfold zaw
            rw [if_neg c3,if_neg c1]
          have hz:(E.map (List.map rr)).getD i []=(E.getD i []).map rr:=by
            rw [List.getD_eq_getElem?_getD,List.getElem?_map,List.getElem?_eq_getElem hiE,List.getD_eq_getElem?_getD,List.getElem?_eq_getElem hiE]; rfl
          simp only [decide_eq_false c1,cond_false]
          rw [key _ _ (zcq (by omega)) hgr hz]; rfl
      · have hg:decide ((1:Int) < (left.length:Int))=false:=decide_eq_false (by omega)
        have hq:left=tieL least (zaw ties E) tied:=by
          have e:=tieL_append least ((zaw ties E).take i) ((zaw ties E).drop i) tied
          rw [List.take_append_drop,hleft,znq (l:=left) (by omega)] at e
          exact e.symm
        refine .inr ⟨(E.map (List.map rr),least,lots,left),?_,hfin left hq⟩
        simp only [dlt hiE,hg,cond_true,cond_false]
end Go.Proofs.YtmipjomnjkmdbaaGreat
set_option linter.unusedSimpArgs false
set_option linter.unusedVariables false
namespace Go.Proofs.YtmipjomnjkmdbaaGreat
open Go Go.X
set_option maxHeartbeats 1000000 in
theorem d178_eq {c:CT} {lots:List Int} {tot q:Int} {pc:List (List Int × (Int × (Int × Rt)))} {stl:List Int} {kp:List Rt} {filled:Int} {E:List (List Rat)} {rest:Int × (Int × (Int × (Int × (List RD × List Int))))}
    {n:Nat} {v:Nat→Rat} {kk:List Rt} {qu ex su:Rt} {el ex2 ti cls:List Int} {ties:Int} {least:Bool} (hties:c.2.2.2.2.2.2.1=ties) (h1:1≤ties) (h3:ties≤3) (hl:LotsOK n lots) (hE:∀ r∈E,RndOK n r) (hEl:E.length≤1000000)
    (hv:∀ i,i < n→Bz eB (v i)) (hcn:cls ≠ []) (hcs:cls.Pairwise (· < ·)) (hcb:∀ x∈cls,∃ i:Nat,x=(i:Int)∧i < n) (hcl:cls.length≤1000) :
    d178 (c,lots,tot,q,pc,stl,kp,filled,E.map (List.map rr),rest) (lst (fun i=>rr (v i)) n,kk,qu,ex,su,el,ex2,ti) cls least
      = some (if (extr least (fun x=>v x.toNat) cls).length=1 then (extr least (fun x=>v x.toNat) cls).headD 0 else tieB ties E (extr least (fun x=>v x.toNat) cls) lots least,(c,lots,tot,q,pc,stl,kp,filled,E.map (List.map rr),rest),(lst (fun i=>rr (v i)) n,kk,qu,ex,su,el,ex2,if (extr least (fun x=>v x.toNat) cls).length=1 then ti else extr least (fun x=>v x.toNat) cls)):=by
  unfold d178
  obtain ⟨K,hK⟩:∃ K:KT,(c,lots,tot,q,pc,stl,kp,filled,E.map (List.map rr),rest)=K:=⟨_,rfl⟩
  obtain ⟨R,hR⟩:∃ R:RD,(lst (fun i=>rr (v i)) n,kk,qu,ex,su,el,ex2,ti)=R:=⟨_,rfl⟩
  have hR1:R.1=lst (fun i=>rr (v i)) n:=by rw [← hR]
  rw [hK,hR]
  refine zaf (fun i=>(K,R,least,ext0 (sgR least (fun x=>v x.toNat)) (cls.take i),cls,(cls.length:Int),(i:Int))) cls.length rfl (fun i hi=>?_) (b:=(K,R,least,ext0 (sgR least (fun x=>v x.toNat)) cls)) ?_ ?_
  · obtain ⟨c,hc,hcn⟩:=hcb _ (zdp hi)
    have hol:=ext0_len (sgR least (fun x=>v x.toNat)) (cls.take i)
    rw [List.length_take] at hol
    simp only [dlt hi,d0le,Bool.and_self,cond_true,tn,zav,hc,zbo (show i < 9223372036854775807 by omega)]
    rw [zbl cls 0 hi,hc]
    by_cases hi0:cls.take i=[]
    · rw [hi0,ext0_nil]
      have e:ext0 (sgR least (fun x=>v x.toNat)) ([]++[(c:Int)])=[(c:Int)]:=by
        have:sgR least (fun x=>v x.toNat) (c:Int)≤sgR least (fun x=>v x.toNat) (c:Int):=Rat.le_refl
        simp [ext0,List.filter_cons,this]
      rw [e]
      rfl
    · have hne:=ext0_ne (ρ:=sgR least (fun x=>v x.toNat)) hi0
      have hpos:=List.length_pos_iff.2 hne
      obtain ⟨y,hy⟩:∃ y,(ext0 (sgR least (fun x=>v x.toNat)) (cls.take i)).headD 0=y:=⟨_,rfl⟩
      have hym:y∈cls:=by
        have:=zgw hne
        rw [hy] at this
        exact List.mem_of_mem_take (zlg.1 this).1
      obtain ⟨d,rfl,hdn⟩:=hcb _ hym
      rw [ext0_snoc _ _ hi0,hy]
      generalize ext0 (sgR least (fun x=>v x.toNat)) (cls.take i)=out at *
      have hlt1:ordQ least (v c) (v d) < 0↔sgR least (fun x=>v x.toNat) (c:Int) < sgR least (fun x=>v x.toNat) (d:Int):=decide_eq_decide.1 (ordQ_lt least (fun x=>v x.toNat) (c:Int) (d:Int))
      have heq1:ordQ least (v c) (v d)=0↔sgR least (fun x=>v x.toNat) (c:Int)=sgR least (fun x=>v x.toNat) (d:Int):=decide_eq_decide.1 (ordQ_eq least (fun x=>v x.toNat) (c:Int) (d:Int))
      have hg0:(decide (0≤0) && decide ((0:Int) < (out.length:Int)))=true:=by
        rw [decide_eq_true (show (0:Int) < (out.length:Int) by omega)]; rfl
      have hg1:decide ((0:Int) < (out.length:Int))=true:=decide_eq_true (by omega)
      have hb:=w_ord least (v c) (v d)
      rw [hg0]
      have hol2:=zcp (l:=out) (d:=(c:Int)) (by omega)
      simp only [hg1,cond_true,zhl,hy,d0le,tn,hR1,zaz,dlt hcn,dlt hdn,Bool.and_self,zbn (fun i=>rr (v i)) hcn,zbn (fun i=>rr (v i)) hdn,d137_rr (hv c hcn).sz2 (hv d hdn).sz2,Option.bind_some,hol2]
      have key:∀ o:Int,o=ordQ least (v c) (v d)→(bif decide (o < 0) then
          (some (Sum.inl (K,R,least,[(c:Int)],cls,(cls.length:Int),((i+1:Nat):Int))):Option ((KT × RD × Bool × List Int × List Int × Int × Int) ⊕ (KT × RD × Bool × List Int)))
        else
          bif decide (o=0) then some (Sum.inl (K,R,least,out++[(c:Int)],cls,(cls.length:Int),((i+1:Nat):Int)))
          else some (Sum.inl (K,R,least,out,cls,(cls.length:Int),((i+1:Nat):Int))))=some (.inl (K,R,least,if sgR least (fun x=>v x.toNat) (c:Int) < sgR least (fun x=>v x.toNat) (d:Int) then [(c:Int)] else if sgR least (fun x=>v x.toNat) (c:Int)=sgR least (fun x=>v x.toNat) (d:Int) then out++[(c:Int)] else out,cls,(cls.length:Int),((i+1:Nat):Int))):=by
        intro o ho
        rw [← ho] at hlt1 heq1
        by_cases c1:o < 0
        · rw [if_pos (hlt1.1 c1),decide_eq_true c1]; rfl
        · rw [if_neg fun h=>c1 (hlt1.2 h),decide_eq_false c1]
          by_cases c2:o=0
          · rw [if_pos (heq1.1 c2),decide_eq_true c2]; rfl
          · rw [if_neg fun h=>c2 (heq1.2 h),decide_eq_false c2]; rfl
      cases least
      · rw [Bool.not_false,cond_true] at hb ⊢
        exact key _ hb
      · rw [Bool.not_true,cond_false] at hb ⊢
        exact key _ hb
  · simp only [nlt (Nat.le_refl cls.length),cond_false,List.take_length]
  · rw [← extr_ext0]
    have htne:extr least (fun x=>v x.toNat) cls ≠ []:=extr_ne hcn
    have htl:=extr_len least (fun x=>v x.toNat) cls
    have hts:(extr least (fun x=>v x.toNat) cls).Pairwise (· < ·):=hcs.sublist List.filter_sublist
    have htb:∀ x∈extr least (fun x=>v x.toNat) cls,∃ i:Nat,x=(i:Int)∧i < n:=fun x hx=>hcb x (extr_sub hx)
    generalize extr least (fun x=>v x.toNat) cls=tied at *
    by_cases hone:tied.length=1
    · simp only [if_pos hone]
      rw [hone,zhl,← hR]; rfl
    · simp only [if_neg hone]
      rw [decide_eq_false (show ¬ (tied.length:Int)=1 by omega),cond_false]
      obtain ⟨b,hb⟩:=d155_eq (least:=least) h1 h3 hl hE hEl htne hts htb (by omega)
      simp only [← hK,← hR,hties,hb,Option.bind_some]
theorem ziy {a b c d:Nat} (hb:0 < b) (hd:0 < d):frac a b * frac c d=frac (a * c) (b * d):=by
  unfold frac
  have h1:(b:Rat) ≠ 0:=by
    have:(0:Rat) < (b:Rat):=by exact_mod_cast hb
    intro e
    rw [e] at this
    exact absurd this (by decide)
  have h2:(d:Rat) ≠ 0:=by
    have:(0:Rat) < (d:Rat):=by exact_mod_cast hd
    intro e
    rw [e] at this
    exact absurd this (by decide)
  rw [Rat.natCast_mul,Rat.natCast_mul]
  grind
theorem frac_cancel {a b c:Nat} (hb:0 < b) (hc:0 < c):frac (a * c) (b * c)=frac a b:=by
  rw [← ziy hb hc]
  have:frac c c=1:=by
    have:=zix (q:=1) hc
    rw [Nat.one_mul] at this
    exact this
  rw [this,Rat.mul_one]
theorem nxt_congr {p:List Int} {st st':Nat→Nat} (h:∀ i,st i=0↔st' i=0) (k:Nat):nxt p st k=nxt p st' k:=by
  unfold nxt
  congr 3
  funext c
  exact decide_eq_decide.2 (not_congr (h _))
theorem upd_upd {α:Type} (f:Nat→α) (i:Nat) (x y:α):upd (upd f i x) i y=upd f i y:=by
  funext j; unfold upd; split <;> rfl
variable {P:GP} {s:GS}
set_option maxHeartbeats 1000000 in
theorem d180_eq (hP:P.OK) (hI:GI P s) (hG:P.G≤1000000) {c:CT} {lots:List Int} {tot q:Int} {kp:List Rt} {filled:Int} {rest:List (List Rt) × (Int × (Int × (Int × (Int × (List RD × List Int)))))}
    {st st':Nat→Nat} {keep:Nat→Rat} {x a b:Nat} (hst:∀ i,st i=0↔st' i=0) (hb:0 < b) (hab:Bz eB (frac a b)) :
    d180 (c,lots,tot,q,lst (parc P s) P.G,lst (fun i=>(st i:Int)) P.n,kp,filled,rest) (x:Int) (rr (frac a b))
      = some (c,lots,tot,q,lst (parc P (s.move P st' keep x a b)) P.G,lst (fun i=>(st i:Int)) P.n,kp,filled,rest):=by
  unfold d180
  simp only [zaz]
  refine zaf (fun g=>((c,lots,tot,q,lst (fun j=>if j < g then parc P (s.move P st' keep x a b) j else parc P s j) P.G,lst (fun i=>(st i:Int)) P.n,kp,filled,rest),(x:Int),rr (frac a b),(P.G:Int),(g:Int))) P.G ?_ (fun g hg=>?_) (b:=(c,lots,tot,q,lst (parc P (s.move P st' keep x a b)) P.G,lst (fun i=>(st i:Int)) P.n,kp,filled,rest)) ?_ rfl
  · rfl
  · have hgF:(fun j=>if j < g then parc P (s.move P st' keep x a b) j else parc P s j) g=parc P s g:=by simp
    have hnext:upd (fun j=>if j < g then parc P (s.move P st' keep x a b) j else parc P s j) g (parc P (s.move P st' keep x a b) g)=fun j=>if j < g+1 then parc P (s.move P st' keep x a b) j else parc P s j:=by
      funext j
      unfold upd
      by_cases h:j=g
      · subst h; rw [if_pos rfl,if_pos (by omega)]
      · rw [if_neg h]
        show (if j < g then parc P (s.move P st' keep x a b) j else parc P s j)=_
        by_cases h2:j < g
        · rw [if_pos h2,if_pos (by omega)]
        · rw [if_neg h2,if_neg (by omega)]
    have hplen:=hP.plen g hg
    generalize (fun j=>if j < g then parc P (s.move P st' keep x a b) j else parc P s j)=F at hgF hnext ⊢
    have hw:w ((g:Int)+1)=((g+1:Nat):Int):=by rw [zbk (by omega) (by omega)]; omega
    have stay:s.on P g x=false→lst F P.G=lst (fun j=>if j < g+1 then parc P (s.move P st' keep x a b) j else parc P s j) P.G:=fun h=>by
      rw [← hnext]
      refine zcg fun i hi=>?_
      unfold upd
      by_cases hig:i=g
      · subst hig
        rw [if_pos rfl,hgF]
        unfold parc
        have e1:(s.move P st' keep x a b).at_ i=s.at_ i:=by
          show (if s.on P i x then _ else s.at_ i)=_
          rw [h]; rfl
        have e2:(s.move P st' keep x a b).num i=s.num i * b:=by
          show (if s.on P i x then _ else s.num i * b)=_
          rw [h]; rfl
        have e3:(s.move P st' keep x a b).D=s.D * b:=rfl
        rw [e1,e2,e3,frac_cancel hI.D0 hb]
      · rw [if_neg hig]
    simp only [dlt hg,d0le,zaz,Bool.and_self,cond_true,tn,zav,zbn F hg,hgF,parc,Int.toNat_natCast,hw]
    by_cases ha:s.at_ g < (P.p g).length
    · obtain ⟨d,d1,d2⟩:=GS.on_ex hP hg ha
      have d3:=GS.on_at d2
      rw [show decide (((P.p g).length:Int)≤(s.at_ g:Int))=false from decide_eq_false (by omega)]
      simp only [Bool.not_false,cond_true,dlt ha,d0le,Bool.and_self,d3,zqa,tn]
      by_cases hdx:d=x
      · subst hdx
        simp only [decide_true,Bool.not_true,cond_false]
        rw [d172_rr (num_small hP hI hg).sz2 hab.sz2,Option.bind_some,ziy hI.D0 hb]
        simp only [zgu,zbn (upd F g _) hg,zbf,upd_upd,zbo (show s.at_ g < 9223372036854775807 by omega)]
        have hn1:=nxt_ge (P.p g) st (s.at_ g+1)
        have hn2:=nxt_le st (show s.at_ g+1≤(P.p g).length by omega)
        refine zaf (fun m=>((c,lots,tot,q,lst (upd F g (P.p g,(P.k g:Int),((s.at_ g+1+m:Nat):Int),rr (frac (s.num g * a) (s.D * b)))) P.G,lst (fun i=>(st i:Int)) P.n,kp,filled,rest),(d:Int),rr (frac a b),(g:Int),(P.G:Int),(g:Int))) (nxt (P.p g) st (s.at_ g+1) - (s.at_ g+1)) ?_ (fun m hm=>?_) (b:=((c,lots,tot,q,lst (upd F g (P.p g,(P.k g:Int),((nxt (P.p g) st (s.at_ g+1):Nat):Int),rr (frac (s.num g * a) (s.D * b)))) P.G,lst (fun i=>(st i:Int)) P.n,kp,filled,rest),(d:Int),rr (frac a b),(P.G:Int),(g:Int))) ?_ ?_
        · rfl
        · have hlt:s.at_ g+1+m < (P.p g).length:=by omega
          obtain ⟨e,e1,e2⟩:=hP.prefs g hg _ (zdp hlt)
          have hbf:=zny (p:=P.p g) (st:=st) (k:=s.at_ g+1) (i:=s.at_ g+1+m) (by omega) (by omega)
          rw [e1,Int.toNat_natCast] at hbf
          have hd0:decide ((st e:Int)=0)=false:=decide_eq_false (by omega)
          simp only [zbn (upd F g _) hg,zbf,dlt hlt,d0le,Bool.and_self,cond_true,tn,e1,zaz,dlt e2,zbn (fun i=>(st i:Int)) e2,hd0,Bool.not_false,zgu,upd_upd,zbo (show s.at_ g+1+m < 9223372036854775807 by omega)]
          rfl
        · obtain ⟨N,hN⟩:∃ N,nxt (P.p g) st (s.at_ g+1)=N:=⟨_,rfl⟩
          rw [hN] at hn1 hn2 ⊢
          rw [show s.at_ g+1+(N - (s.at_ g+1))=N by omega]
          by_cases hlt:N < (P.p g).length
          · obtain ⟨e,e1,e2⟩:=hP.prefs g hg _ (zdp hlt)
            have hat:=nxt_at (p:=P.p g) (st:=st) (k:=s.at_ g+1) (by rw [hN]; exact hlt)
            rw [hN,e1,Int.toNat_natCast] at hat
            have hd0:decide ((st e:Int)=0)=true:=decide_eq_true (by omega)
            simp only [zbn (upd F g _) hg,zbf,dlt hlt,d0le,Bool.and_self,cond_true,cond_false,tn,e1,zaz,dlt e2,zbn (fun i=>(st i:Int)) e2,hd0,Bool.not_true]
          · simp only [zbn (upd F g _) hg,zbf,tn,nlt (show (P.p g).length≤N by omega),cond_false]
        · have e:(P.p g,(P.k g:Int),((nxt (P.p g) st (s.at_ g+1):Nat):Int),rr (frac (s.num g * a) (s.D * b)))=parc P (s.move P st' keep d a b) g:=by
            unfold parc
            have e1:(s.move P st' keep d a b).at_ g=nxt (P.p g) st (s.at_ g+1):=by
              show (if s.on P g d then _ else s.at_ g)=_
              rw [d2,nxt_congr hst]; rfl
            have e2:(s.move P st' keep d a b).num g=s.num g * a:=by
              show (if s.on P g d then s.num g * a else _)=_
              rw [d2]; rfl
            have e3:(s.move P st' keep d a b).D=s.D * b:=rfl
            rw [e1,e2,e3]
          rw [e,hnext]
          simp only [hw]
          rfl
      · have hoff:s.on P g x=false:=by
          cases h:s.on P g x
          · rfl
          · exact absurd (GS.on_uniq d2 h) hdx
        simp only [decide_eq_false hdx,Bool.not_false,cond_true]
        rw [stay hoff]
        rfl
    · have hoff:s.on P g x=false:=by
        cases h:s.on P g x
        · rfl
        · exact absurd (GS.on_lt h) ha
      rw [show decide (((P.p g).length:Int)≤(s.at_ g:Int))=true from decide_eq_true (by omega)]
      simp only [Bool.not_true,cond_false,cond_true]
      rw [stay hoff]
      rfl
  · have e:lst (fun j=>if j < P.G then parc P (s.move P st' keep x a b) j else parc P s j) P.G=lst (parc P (s.move P st' keep x a b)) P.G:=zcg fun i hi=>if_pos hi
    simp only [nlt (Nat.le_refl P.G),cond_false,e]
end Go.Proofs.YtmipjomnjkmdbaaGreat
set_option linter.unusedSimpArgs false
set_option linter.unusedVariables false
namespace Go.Proofs.YtmipjomnjkmdbaaGreat
open Go Go.X
def rdT (r:Rd):RD:=(r.votes.map rr,r.keep.map rr,rr r.quota,rr r.exh,rr r.sur,r.el,r.ex,r.ti)
def KTof (P:GP) (c:CT) (s:GS) (st:Nat→Nat) (fl:Nat) (rs:List Rd):KT :=
  (c,P.lots,(P.tot:Int),(P.q:Int),lst (parc P s) P.G,lst (fun i=>(st i:Int)) P.n,lst (fun i=>rr (s.keep i)) P.n,(fl:Int),(rs.map Rd.votes).map (List.map rr),3,(P.seats:Int),0,(P.n:Int),rs.map rdT,rs.flatMap Rd.el)
variable {P:GP} {s:GS}
theorem zmd (p:Nat→Bool) (g:Int→Bool) (n:Nat):(selI p n).filter g=selI (fun i=>p i && g (i:Int)) n:=by
  unfold selI
  rw [List.filter_map,← selN_filter]
  rfl
theorem sum_sel (p:Nat→Bool) (f:Nat→Nat):∀ n:Nat,((selN p n).map f).sum=sumN (fun i=>if p i then f i else 0) n
  | 0=>rfl
  | n+1=>by
    rw [zmb,List.map_append,List.sum_append,sum_sel p f n,sumN]
    congr 1
    cases p n <;> simp
theorem sum_take_le (l:List Nat) (j:Nat):(l.take j).sum≤l.sum:=by
  conv=>rhs; rw [← List.take_append_drop j l]
  rw [List.sum_append]
  omega
theorem znc (hI:GI P s):cntN (fun i=>decide (s.st i=1)) P.n+cntN (fun i=>decide (s.st i=2)) P.n+cntN (s.el1 P) P.n=s.e1 P+s.e2 P:=by
  unfold cntN GS.e1 GS.e2 cntN
  rw [← zbj,← zbj,← zbj]
  refine zan fun i hi=>?_
  rcases zax (P:=P) (s:=s) i with ⟨h0,h1,h2,_⟩ | ⟨h0,h2⟩
  · simp [h0,h1,h2]
  · simp [h2,h0]
theorem tied_eq (hI:GI P s) (st:Nat→Nat) (c:Nat) (most:Bool):extr (!most) (fun x=>frac (s.vt P x.toNat) s.D) (selI (fun i=>decide (st i=c)) P.n)=selI (topsP P (s.vt P) st c most) P.n:=by
  unfold extr
  rw [zmd]
  refine zjq fun i hi=>?_
  unfold topsP
  congr 1
  rw [Bool.eq_iff_iff,List.all_eq_true,List.all_eq_true]
  constructor
  · intro h k hk
    by_cases hc:st k=c
    · have:=h (k:Int) (zbb.2 ⟨k,rfl,List.mem_range.1 hk,decide_eq_true hc⟩)
      cases most
      · simpa [hc,zmq hI.D0] using this
      · simpa [hc,zmq hI.D0] using this
    · simp [hc]
  · intro h x hx
    obtain ⟨k,rfl,hk,hc⟩:=zbb.1 hx
    have:=h k (List.mem_range.2 hk)
    rw [hc] at this
    cases most
    · simpa [zmq hI.D0] using this
    · simpa [zmq hI.D0] using this
theorem frac_div (hD:0 < s.D) {a b:Nat} (hb:0 < b):frac a s.D / frac b s.D=frac a b:=by
  unfold frac
  have h1:(s.D:Rat) ≠ 0:=by
    have:(0:Rat) < (s.D:Rat):=by exact_mod_cast hD
    intro e
    rw [e] at this
    exact absurd this (by decide)
  have h2:(b:Rat) ≠ 0:=by
    have:(0:Rat) < (b:Rat):=by exact_mod_cast hb
    intro e
    rw [e] at this
    exact absurd this (by decide)
  grind
theorem frac_pos {a b:Nat} (ha:0 < a) (hb:0 < b):0 < frac a b:=by
  have:=(frac_lt (a:=0) (b:=a) hb).2 ha
  have e:frac 0 b=0:=by unfold frac; rw [Rat.div_def]; simp
  rwa [e] at this
structure RsOK (P:GP) (s:GS) (rs:List Rd):Prop where
  rnd:∀ r∈rs,RndOK P.n r.votes∧r.el.length≤7
  len:rs.length≤7
  keep:∀ i,i < P.n→Bz eB (s.keep i)
theorem lotsOK (hP:P.OK):LotsOK P.n P.lots:=⟨hP.n1,hP.n7,hP.lotn,hP.lots,hP.lotd⟩
theorem flat_len:∀ {rs:List Rd},(∀ r∈rs,r.el.length≤7)→(rs.flatMap Rd.el).length≤7 * rs.length
  | [],_=>by simp
  | r::rs,h=>by
    rw [List.flatMap_cons,List.length_append,List.length_cons]
    have:=flat_len (rs:=rs) fun x hx=>h x (List.mem_cons_of_mem _ hx)
    have:=h r (by simp)
    omega
theorem votes_rnd (hP:P.OK) (hI:GI P s):RndOK P.n (lst (fun i=>frac (s.vt P i) s.D) P.n):=⟨zaz _ _,fun q hq=>by
  obtain ⟨i,hi,rfl⟩:=mem_lst.1 hq
  exact zbe hP hI (zos hP hI hi)⟩
theorem bz_zero:Bz eB (0:Rat):=by
  have:=bz_nat (n:=0) (by decide)
  exact this
def zcl (P:GP) (s:GS) (el:List Int):RD:=(lst (fun i=>rr (frac (s.vt P i) s.D)) P.n,lst (fun i=>rr (s.keep i)) P.n,rr (P.q:Rat),rr (frac (P.tot * s.D - sumN (s.vt P) P.n) s.D),rr (frac (sumN (fun i=>if s.st1 P i=1 then s.vt P i - s.bar P else 0) P.n) s.D),el,[],[])
theorem sur_le (hP:P.OK) (hI:GI P s):sumN (fun i=>if s.st1 P i=1 then s.vt P i - s.bar P else 0) P.n≤P.tot * s.D :=
  Nat.le_trans (zdz fun i _=>by split <;> omega) (zjh hP hI)
theorem q_frac (hI:GI P s):(P.q:Rat)=frac (s.bar P) s.D:=(zix hI.D0).symm
theorem bar_le (hP:P.OK) (hI:GI P s):Bz eB (frac (s.bar P) s.D):=by rw [← q_frac hI]; exact zmh hP
theorem d136_eq (hP:P.OK) (hI:GI P s) {c:Nat} (hc:c < P.n) {r:RD} (h1:r.1=lst (fun i=>rr (frac (s.vt P i) s.D)) P.n) (h2:r.2.2.1=rr (P.q:Rat)):d136 (c:Int) r=some (decide (s.vt P c < s.bar P)):=by
  unfold d136
  simp only [h1,h2,zaz,d0le,dlt hc,Bool.and_self,cond_true,tn,zbn (fun i=>rr (frac (s.vt P i) s.D)) hc]
  rw [d137_rr (zbe hP hI (zos hP hI hc)).sz2 (zmh hP).sz2,Option.bind_some,q_frac hI]
  congr 1
  refine decide_eq_decide.2 ?_
  rw [← frac_lt hI.D0]
  unfold cmpQ
  by_cases h:frac (s.vt P c) s.D < frac (s.bar P) s.D
  · rw [if_pos h]; exact ⟨fun _=>h,fun _=>by omega⟩
  · rw [if_neg h]; exact ⟨fun hc=>by split at hc <;> omega,fun hc=>absurd hc h⟩
set_option maxHeartbeats 1000000 in
theorem d139_eq (hP:P.OK) (hI:GI P s) (hG:P.G≤1000000) {rs:List Rd} (hR:RsOK P s rs) {c:CT} (hc:c.2.2.2.2.2.2.1=P.ties) (fl:Nat) (hf:s.fin P=false) (hm:s.most P=true) (el:List Int) :
    d139 (KTof P c s (s.st1 P) fl rs) (zcl P s el)=some (KTof P c (s.trans P (rs.map Rd.votes)) (s.trans P (rs.map Rd.votes)).st fl rs,(zcl P s el).1,(zcl P s el).2.1,(zcl P s el).2.2.1,(zcl P s el).2.2.2.1,(zcl P s el).2.2.2.2.1,el,[],s.tiedR P):=by
  have hn7:=hP.n7
  have hq5:=hP.q5
  obtain ⟨x,x1,x2,x3⟩:=zep hP hI hf (rs.map Rd.votes)
  rw [hm,if_pos rfl] at x3
  obtain ⟨_,k2,k3⟩:=zhu hI x2 x3
  have hb:=bar_pos hP hI
  have hvx:=zos hP hI x2
  have htie:extr false (fun x=>frac (s.vt P x.toNat) s.D) (selI (fun i=>decide (s.st1 P i=1)) P.n)=s.tied P:=by
    have:=tied_eq hI (s.st1 P) 1 true
    unfold GS.tied
    rw [hm]
    exact this
  have hcls:selI (fun i=>decide (s.st1 P i=1)) P.n ≠ []:=List.ne_nil_of_mem (zbb.2 ⟨x,rfl,x2,decide_eq_true x3⟩)
  have hcl:(selI (fun i=>decide (s.st1 P i=1)) P.n).length≤1000:=by rw [zbg]; have:=zca (fun i=>decide (s.st1 P i=1)) P.n; omega
  unfold d139
  rw [show d135 (KTof P c s (s.st1 P) fl rs) 1=some (selI (fun i=>decide (s.st1 P i=1)) P.n) from zkd (k:=KTof P c s (s.st1 P) fl rs) rfl (by omega) 1]
  have hd:=d178_eq (c:=c) (lots:=P.lots) (tot:=(P.tot:Int)) (q:=(P.q:Int)) (pc:=lst (parc P s) P.G) (stl:=lst (fun i=>(s.st1 P i:Int)) P.n) (kp:=lst (fun i=>rr (s.keep i)) P.n) (filled:=(fl:Int)) (E:=rs.map Rd.votes) (rest:=(3,(P.seats:Int),0,(P.n:Int),rs.map rdT,rs.flatMap Rd.el)) (v:=fun i=>frac (s.vt P i) s.D) (kk:=(zcl P s el).2.1) (qu:=(zcl P s el).2.2.1) (ex:=(zcl P s el).2.2.2.1) (su:=(zcl P s el).2.2.2.2.1) (el:=el) (ex2:=[]) (ti:=[]) (least:=false) hc (by have:=hP.ties1; omega) hP.ties3 (lotsOK hP) (fun r hr=>by
      obtain ⟨r',h1,rfl⟩:=List.mem_map.1 hr
      exact (hR.rnd r' h1).1) (by rw [List.length_map]; have:=hR.len; omega) (fun i hi=>zbe hP hI (zos hP hI hi)) hcls (zdk _ _) (fun y hy=>by
      obtain ⟨i,h1,h2,_⟩:=zbb.1 hy
      exact ⟨i,h1,h2⟩) hcl
  rw [htie] at hd
  have hpick:(if (s.tied P).length=1 then (s.tied P).headD 0 else tieB P.ties (rs.map Rd.votes) (s.tied P) P.lots false)=(x:Int):=by
    rw [← x1]; unfold GS.pick; rw [hm]; rfl
  rw [hpick] at hd
  rw [Option.bind_some,show d178 (KTof P c s (s.st1 P) fl rs) (zcl P s el) (selI (fun i=>decide (s.st1 P i=1)) P.n) false=_ from hd,Option.bind_some]
  have hbz:Bz eB (frac (s.vt P x - s.bar P) (s.vt P x)):=zkb (zhc hP hI (by omega)) (zhc hP hI hvx) (by decide)
  have h180:=d180_eq (keep:=upd s.keep x (frac (s.vt P x - s.bar P) (s.vt P x))) hP hI hG (c:=c) (lots:=P.lots) (tot:=(P.tot:Int)) (q:=(P.q:Int)) (kp:=lst (fun i=>rr (s.keep i)) P.n) (filled:=(fl:Int)) (rest:=((rs.map Rd.votes).map (List.map rr),3,(P.seats:Int),0,(P.n:Int),rs.map rdT,rs.flatMap Rd.el)) (st:=s.st1 P) (st':=upd (s.st1 P) x 2) (x:=x) (a:=s.vt P x - s.bar P) (b:=s.vt P x) (fun i=>by
    unfold upd
    by_cases h:i=x
    · subst h; rw [if_pos rfl,x3]; omega
    · rw [if_neg h]) (by omega) hbz
  simp only [d0le,zaz,dlt x2,Bool.and_self,cond_true,tn,zbn (fun i=>rr (frac (s.vt P i) s.D)) x2,zmy (show P.q≤9223372036854775807 by omega),Option.bind_some,zmz (zbe hP hI hvx).sz2 (zmh hP).sz2,q_frac hI,zle hI.D0 k3]
  have hdiv:d179 (rr (frac (s.vt P x - s.bar P) s.D)) (rr (frac (s.vt P x) s.D))=some (rr (frac (s.vt P x - s.bar P) (s.vt P x)),true):=by
    rw [d179_rr (zbe hP hI (by omega)).sz2 (zbe hP hI hvx).sz2 (frac_pos (by omega) hI.D0),frac_div hI.D0 (by omega)]
  have hd132:d132 (rr (frac (s.vt P x) s.D)) (rr (frac (s.bar P) s.D))=some (rr (frac (s.vt P x - s.bar P) s.D)):=by
    rw [zmz (zbe hP hI hvx).sz2 (bar_le hP hI).sz2,zle hI.D0 k3]
  rw [hd132,Option.bind_some,hdiv,Option.bind_some]
  simp only [h180,Option.bind_some,zaz,dlt x2,cond_true,zgu]
  have hxn:(s.pick P (rs.map Rd.votes)).toNat=x:=by rw [x1]; rfl
  congr 1
  unfold KTof GS.trans GS.tiedR zcl
  simp only [hxn]
  have e1:lst (upd (fun i=>(s.st1 P i:Int)) x 2) P.n=lst (fun i=>((s.move P (upd (s.st1 P) x 2) (upd s.keep x (frac (s.vt P x - s.bar P) (s.vt P x))) x (s.vt P x - s.bar P) (s.vt P x)).st i:Int)) P.n:=zcg fun i hi=>by
    show upd (fun i=>(s.st1 P i:Int)) x 2 i=((upd (s.st1 P) x 2 i:Nat):Int)
    unfold upd; split <;> rfl
  have e2:lst (upd (fun i=>rr (s.keep i)) x (rr (frac (s.vt P x - s.bar P) (s.vt P x)))) P.n=lst (fun i=>rr ((s.move P (upd (s.st1 P) x 2) (upd s.keep x (frac (s.vt P x - s.bar P) (s.vt P x))) x (s.vt P x - s.bar P) (s.vt P x)).keep i)) P.n:=zcg fun i hi=>by
    show upd (fun i=>rr (s.keep i)) x _ i=rr (upd s.keep x _ i)
    unfold upd; split <;> rfl
  rw [e1,e2,q_frac hI]
  rfl
set_option maxHeartbeats 1000000 in
theorem d140_eq (hP:P.OK) (hI:GI P s) (hG:P.G≤1000000) {rs:List Rd} (hR:RsOK P s rs) {c:CT} (hc:c.2.2.2.2.2.2.1=P.ties) (fl:Nat) (hf:s.fin P=false) (hm:s.most P=false) (el:List Int) :
    d140 (KTof P c s (s.st1 P) fl rs) (zcl P s el)=some (KTof P c (s.excl P (rs.map Rd.votes)) (s.excl P (rs.map Rd.votes)).st fl rs,(zcl P s el).1,(zcl P s el).2.1,(zcl P s el).2.2.1,(zcl P s el).2.2.2.1,(zcl P s el).2.2.2.2.1,el,[s.pick P (rs.map Rd.votes)],s.tiedR P):=by
  have hn7:=hP.n7
  obtain ⟨x,x1,x2,x3⟩:=zep hP hI hf (rs.map Rd.votes)
  rw [hm] at x3
  have x3':s.st1 P x=0:=by simpa using x3
  have htie:extr true (fun x=>frac (s.vt P x.toNat) s.D) (selI (fun i=>decide (s.st1 P i=0)) P.n)=s.tied P:=by
    have:=tied_eq hI (s.st1 P) 0 false
    unfold GS.tied
    rw [hm]
    exact this
  have hcls:selI (fun i=>decide (s.st1 P i=0)) P.n ≠ []:=List.ne_nil_of_mem (zbb.2 ⟨x,rfl,x2,decide_eq_true x3'⟩)
  have hcl:(selI (fun i=>decide (s.st1 P i=0)) P.n).length≤1000:=by rw [zbg]; have:=zca (fun i=>decide (s.st1 P i=0)) P.n; omega
  unfold d140
  rw [show d135 (KTof P c s (s.st1 P) fl rs) 0=some (selI (fun i=>decide (s.st1 P i=0)) P.n) from zkd (k:=KTof P c s (s.st1 P) fl rs) rfl (by omega) 0]
  have hd:=d178_eq (c:=c) (lots:=P.lots) (tot:=(P.tot:Int)) (q:=(P.q:Int)) (pc:=lst (parc P s) P.G) (stl:=lst (fun i=>(s.st1 P i:Int)) P.n) (kp:=lst (fun i=>rr (s.keep i)) P.n) (filled:=(fl:Int)) (E:=rs.map Rd.votes) (rest:=(3,(P.seats:Int),0,(P.n:Int),rs.map rdT,rs.flatMap Rd.el)) (v:=fun i=>frac (s.vt P i) s.D) (kk:=(zcl P s el).2.1) (qu:=(zcl P s el).2.2.1) (ex:=(zcl P s el).2.2.2.1) (su:=(zcl P s el).2.2.2.2.1) (el:=el) (ex2:=[]) (ti:=[]) (least:=true) hc (by have:=hP.ties1; omega) hP.ties3 (lotsOK hP) (fun r hr=>by
      obtain ⟨r',h1,rfl⟩:=List.mem_map.1 hr
      exact (hR.rnd r' h1).1) (by rw [List.length_map]; have:=hR.len; omega) (fun i hi=>zbe hP hI (zos hP hI hi)) hcls (zdk _ _) (fun y hy=>by
      obtain ⟨i,h1,h2,_⟩:=zbb.1 hy
      exact ⟨i,h1,h2⟩) hcl
  rw [htie] at hd
  have hpick:(if (s.tied P).length=1 then (s.tied P).headD 0 else tieB P.ties (rs.map Rd.votes) (s.tied P) P.lots true)=(x:Int):=by
    rw [← x1]; unfold GS.pick; rw [hm]; rfl
  rw [hpick] at hd
  rw [Option.bind_some,show d178 (KTof P c s (s.st1 P) fl rs) (zcl P s el) (selI (fun i=>decide (s.st1 P i=0)) P.n) true=_ from hd,Option.bind_some]
  have h180:=d180_eq (keep:=upd s.keep x 0) hP hI hG (c:=c) (lots:=P.lots) (tot:=(P.tot:Int)) (q:=(P.q:Int)) (kp:=lst (fun i=>rr (upd s.keep x 0 i)) P.n) (filled:=(fl:Int)) (rest:=((rs.map Rd.votes).map (List.map rr),3,(P.seats:Int),0,(P.n:Int),rs.map rdT,rs.flatMap Rd.el)) (st:=upd (s.st1 P) x 3) (st':=upd (s.st1 P) x 3) (x:=x) (a:=1) (b:=1) (fun i=>Iff.rfl) (by omega) (zkb (Nat.one_lt_two_pow (by decide)) (Nat.one_lt_two_pow (by decide)) (by decide))
  have hone:rr (frac 1 1)=rr (1:Rat):=by rw [zlf]; rfl
  have e1:lst (upd (fun i=>(s.st1 P i:Int)) x 3) P.n=lst (fun i=>((upd (s.st1 P) x 3 i:Nat):Int)) P.n:=zcg fun i hi=>by
    unfold upd; split <;> rfl
  have e2:lst (upd (fun i=>rr (s.keep i)) x (rr 0)) P.n=lst (fun i=>rr (upd s.keep x 0 i)) P.n:=zcg fun i hi=>by
    unfold upd; split <;> rfl
  have hz0:d68 0=some (rr 0):=zoi (n:=0) (by omega) (by omega)
  have hz1:d68 1=some (rr 1):=zoi (n:=1) (by omega) (by omega)
  rw [hone] at h180
  simp only [d0le,zaz,dlt x2,Bool.and_self,cond_true,tn,hz0,hz1,Option.bind_some,zgu,e1,e2,h180]
  have hxn:(s.pick P (rs.map Rd.votes)).toNat=x:=by rw [x1]; rfl
  unfold KTof GS.excl GS.tiedR zcl
  simp only [hxn,x1]
  rfl
end Go.Proofs.YtmipjomnjkmdbaaGreat
set_option linter.unusedSimpArgs false
set_option linter.unusedVariables false
namespace Go.Proofs.YtmipjomnjkmdbaaGreat
open Go Go.X
variable {P:GP} {s:GS}
theorem zgv {α:Type} {l m:List α} (h:l.length+m.length≤4294967296):decide ((l.length:Int)+(m.length:Int)≤LIM)=true:=by
  rw [show (l.length:Int)+(m.length:Int)=((l.length+m.length:Nat):Int) by omega]; exact zcb h
theorem zpj {c:CT} {s:GS} {st:Nat→Nat} {fl:Nat} {rs:List Rd} {r:Rd} {T:RD} {b:Bool} (hT:T=rdT r) (hr:∀ x∈rs,x.el.length≤7) (hl:rs.length≤7) (he:r.el.length≤7) :
    (bif (decide (((KTof P c s st fl rs).2.2.2.2.2.2.2.2.1.length:Int)+(([T.1]:List (List Rt)).length:Int)≤LIM)) then
        bif (decide (((KTof P c s st fl rs).2.2.2.2.2.2.2.2.2.2.2.2.2.1.length:Int)+(([T]:List RD).length:Int)≤LIM)) then
          bif (decide (((KTof P c s st fl rs).2.2.2.2.2.2.2.2.2.2.2.2.2.2.length:Int)+(T.2.2.2.2.2.1.length:Int)≤LIM)) then
            some (!b,((KTof P c s st fl rs).1,(KTof P c s st fl rs).2.1,(KTof P c s st fl rs).2.2.1,(KTof P c s st fl rs).2.2.2.1,(KTof P c s st fl rs).2.2.2.2.1,(KTof P c s st fl rs).2.2.2.2.2.1,(KTof P c s st fl rs).2.2.2.2.2.2.1,(KTof P c s st fl rs).2.2.2.2.2.2.2.1,((KTof P c s st fl rs).2.2.2.2.2.2.2.2.1++[T.1]),(KTof P c s st fl rs).2.2.2.2.2.2.2.2.2.1,(KTof P c s st fl rs).2.2.2.2.2.2.2.2.2.2.1,(KTof P c s st fl rs).2.2.2.2.2.2.2.2.2.2.2.1,(KTof P c s st fl rs).2.2.2.2.2.2.2.2.2.2.2.2.1,((KTof P c s st fl rs).2.2.2.2.2.2.2.2.2.2.2.2.2.1++[T]),((KTof P c s st fl rs).2.2.2.2.2.2.2.2.2.2.2.2.2.2++T.2.2.2.2.2.1)))
          else none
        else none
      else none:Option (Bool × KT))=some (!b,KTof P c s st fl (rs++[r])):=by
  subst hT
  have h1:=flat_len hr
  have e1:(KTof P c s st fl rs).2.2.2.2.2.2.2.2.1.length=rs.length:=by simp [KTof]
  have e2:(KTof P c s st fl rs).2.2.2.2.2.2.2.2.2.2.2.2.2.1.length=rs.length:=by simp [KTof]
  have e3:(KTof P c s st fl rs).2.2.2.2.2.2.2.2.2.2.2.2.2.2.length=(rs.flatMap Rd.el).length:=rfl
  rw [zgv (by rw [e1]; simp; omega),zgv (by rw [e2]; simp; omega),zgv (by rw [e3]; show (rs.flatMap Rd.el).length+r.el.length≤_; omega)]
  simp only [cond_true,KTof,List.map_append,List.flatMap_append,List.map_cons,List.map_nil,List.flatMap_cons,List.flatMap_nil,List.append_nil]
  rfl
theorem zlj (P:GP) (s:GS) (el ex ti:List Int):((zcl P s el).1,(zcl P s el).2.1,(zcl P s el).2.2.1,(zcl P s el).2.2.2.1,(zcl P s el).2.2.2.2.1,el,ex,ti)=rdT { s.rd0 P with el:=el,ex:=ex,ti:=ti }:=by
  unfold zcl rdT GS.rd0
  simp only [lst_map]
set_option maxHeartbeats 2000000 in
theorem d69_eq (hP:P.OK) (hI:GI P s) (hG:P.G≤1000000) {rs:List Rd} (hR:RsOK P s rs) {c:CT} (hc:c.2.2.2.2.2.2.1=P.ties) (hcs:c.2.2.2.1=(P.seats:Int)) {fl:Nat} (hfl:fl=cntN (fun i=>decide (s.st i=1)) P.n+cntN (fun i=>decide (s.st i=2)) P.n) :
    (s.fin P=true∧∃ st' fl',d69 (KTof P c s s.st fl rs)=some (false,KTof P c s st' fl' (rs++[s.done P]))) ∨
    (s.fin P=false∧s.most P=true∧d69 (KTof P c s s.st fl rs)=some (true,KTof P c (s.trans P (rs.map Rd.votes)) (s.trans P (rs.map Rd.votes)).st (s.e1 P+s.e2 P) (rs++[{ s.rd0 P with ti:=s.tiedR P }]))) ∨
    (s.fin P=false∧s.most P=false∧d69 (KTof P c s s.st fl rs)=some (true,KTof P c (s.excl P (rs.map Rd.votes)) (s.excl P (rs.map Rd.votes)).st (s.e1 P+s.e2 P) (rs++[{ s.rd0 P with ti:=s.tiedR P,ex:=[s.pick P (rs.map Rd.votes)] }]))):=by
  have hn7:=hP.n7
  have hq5:=hP.q5
  have ht5:=hP.tot5
  have hs5:=hP.seats5
  have hsum:=zjh hP hI
  have hz0:d68 0=some (rr 0):=zoi (n:=0) (by omega) (by omega)
  unfold d69
  rw [d130_eq hP hI hG (k:=KTof P c s s.st fl rs) rfl rfl rfl,Option.bind_some,show d131 (KTof P c s s.st fl rs).2.2.2.2.2.2.1=some (lst (fun i=>rr (s.keep i)) P.n) from d131_eq (by omega) hR.keep,Option.bind_some,
    show d68 (KTof P c s s.st fl rs).2.2.2.1=some (rr (P.q:Rat)) from zmy (by omega),Option.bind_some,show d68 (KTof P c s s.st fl rs).2.2.1=some (rr (P.tot:Rat)) from zmy (by omega),Option.bind_some,zaz]
  obtain ⟨K,hK⟩:∃ K:KT,KTof P c s s.st fl rs=K:=⟨_,rfl⟩
  rw [hK]
  have partial_le:∀ i,i≤P.n→sumN (s.vt P) i≤sumN (s.vt P) P.n:=fun i hi=>by
    have key:∀ (f:Nat→Nat) (m n:Nat),m≤n→sumN f m≤sumN f n:=by
      intro f m n
      induction n with
      | zero=>intro h; rw [show m=0 by omega]; exact Nat.le_refl _
      | succ n ih =>
        intro h
        by_cases hm:m=n+1
        · rw [hm]; exact Nat.le_refl _
        · rw [sumN]; have:=ih (by omega); omega
    exact key _ _ _ hi
  have sumS:∀ i,sumN (s.vt P) (i+1)=sumN (s.vt P) i+s.vt P i:=fun i=>rfl
  obtain ⟨R0,hR0⟩:∃ R0:Nat→RD,(fun i=>((lst (fun i=>rr (frac (s.vt P i) s.D)) P.n,lst (fun i=>rr (s.keep i)) P.n,rr (P.q:Rat),rr (frac (P.tot * s.D - sumN (s.vt P) i) s.D),(false,[],[]),[],[],[]):RD))=R0:=⟨_,rfl⟩
  have goalA:∀ X:Option (Bool × KT)→Prop,∀ Kf:KT × RD→Option (Bool × KT),X (Kf (K,R0 P.n))→X ((zab (β:=(KT × RD)) (fun ((t0,t3,t29,t30,t31):KT × RD × (List Rt) × Int × Int) =>
      bif (decide (t31 < t30)) then
        bif (decide (0≤t31) && decide (t31 < (t29.length:Int))) then
          (d132 t3.2.2.2.1 (List.getD t29 (Int.toNat t31) (false,[],[]))).bind fun r_4 =>
          some (Sum.inl (t0,(t3.1,t3.2.1,t3.2.2.1,r_4,t3.2.2.2.2),t29,t30,(w (t31+1))))
        else none
      else
        some (Sum.inr (t0,t3))) (K,(lst (fun i=>rr (frac (s.vt P i) s.D)) P.n,lst (fun i=>rr (s.keep i)) P.n,rr (P.q:Rat),rr (P.tot:Rat),(false,[],[]),[],[],[]),lst (fun i=>rr (frac (s.vt P i) s.D)) P.n,(P.n:Int),0)).bind Kf):=by
    intro X Kf hX
    refine Eq.mpr (congrArg X ?_) hX
    refine zaf (fun i=>(K,R0 i,lst (fun i=>rr (frac (s.vt P i) s.D)) P.n,(P.n:Int),(i:Int))) P.n (b:=(K,R0 P.n)) ?_ (fun i hi=>?_) ?_ rfl
    · rw [← hR0]
      simp only [sumN,Nat.sub_zero,zix hI.D0]; rfl
    · have h1:=partial_le i (by omega)
      have h2:=partial_le (i+1) (by omega)
      rw [sumS] at h2
      have hv:=zos hP hI hi
      have hd:d132 (rr (frac (P.tot * s.D - sumN (s.vt P) i) s.D)) (rr (frac (s.vt P i) s.D))=some (rr (frac (P.tot * s.D - sumN (s.vt P) (i+1)) s.D)):=by
        rw [zmz (zbe hP hI (by omega)).sz2 (zbe hP hI hv).sz2,zle hI.D0 (by omega),sumS,Nat.sub_sub]
      rw [← hR0]
      simp only [dlt hi,d0le,zaz,Bool.and_self,cond_true,tn,zbn (fun i=>rr (frac (s.vt P i) s.D)) hi,hd,Option.bind_some,zbo (show i < 9223372036854775807 by omega)]
    · simp only [nlt (Nat.le_refl P.n),cond_false]
  refine goalA (fun z=>(s.fin P=true∧∃ st' fl',z=some (false,KTof P c s st' fl' (rs++[s.done P]))) ∨
    (s.fin P=false∧s.most P=true∧z=some (true,KTof P c (s.trans P (rs.map Rd.votes)) (s.trans P (rs.map Rd.votes)).st (s.e1 P+s.e2 P) (rs++[{ s.rd0 P with ti:=s.tiedR P }]))) ∨
    (s.fin P=false∧s.most P=false∧z=some (true,KTof P c (s.excl P (rs.map Rd.votes)) (s.excl P (rs.map Rd.votes)).st (s.e1 P+s.e2 P) (rs++[{ s.rd0 P with ti:=s.tiedR P,ex:=[s.pick P (rs.map Rd.votes)] }])))) _ ?_
  clear goalA
  simp only
  have h5:d135 K 0=some (selI (fun i=>decide (s.st i=0)) P.n):=zkd (k:=K) (by rw [← hK]; rfl) (by omega) 0
  rw [h5,Option.bind_some]
  have h6:d134 (selI (fun i=>decide (s.st i=0)) P.n) (fun a=>d136 a (R0 P.n))=some (selI (s.el1 P) P.n):=by
    have hl:(selI (fun i=>decide (s.st i=0)) P.n).length≤1000000:=by rw [zbg]; have:=zca (fun i=>decide (s.st i=0)) P.n; omega
    rw [d134_eq (g:=fun c=>decide (s.vt P c.toNat < s.bar P)) (fun x hx=>by
      obtain ⟨i,rfl,hi,_⟩:=zbb.1 hx
      exact d136_eq hP hI hi (by rw [← hR0]) (by rw [← hR0])) hl,zmd]
    congr 1
    refine zjq fun i hi=>?_
    unfold GS.el1
    simp only [Int.toNat_natCast]
    congr 1
    by_cases h:s.vt P i < s.bar P
    · rw [decide_eq_true h,decide_eq_false (by omega)]; rfl
    · rw [decide_eq_false h,decide_eq_true (by omega)]; rfl
  rw [h6,Option.bind_some]
  have hKfl:fl≤1000:=by
    have h1:=zca (fun i=>decide (s.st i=1)) P.n
    have h2:=zca (fun i=>decide (s.st i=2)) P.n
    omega
  have hcs2:=znc hI
  have h7:d133 K (R0 P.n) (selI (s.el1 P) P.n)=some (KTof P c s (s.st1 P) (s.e1 P+s.e2 P) rs,lst (fun i=>rr (frac (s.vt P i) s.D)) P.n,lst (fun i=>rr (s.keep i)) P.n,rr (P.q:Rat),rr (frac (P.tot * s.D - sumN (s.vt P) P.n) s.D),(false,[],[]),selI (s.el1 P) P.n,[],[]):=by
    rw [← hK,← hR0]
    unfold KTof
    simp only
    rw [d133_eq hn7 hKfl (by simp),List.nil_append,sortI_selI,hfl,hcs2]
    rfl
  rw [h7,Option.bind_some,hz0,Option.bind_some]
  simp only
  have h9:d135 (KTof P c s (s.st1 P) (s.e1 P+s.e2 P) rs) 1=some (selI (fun i=>decide (s.st1 P i=1)) P.n):=zkd (k:=KTof P c s (s.st1 P) (s.e1 P+s.e2 P) rs) rfl (by omega) 1
  have h10:d135 (KTof P c s (s.st1 P) (s.e1 P+s.e2 P) rs) 0=some (selI (fun i=>decide (s.st1 P i=0)) P.n):=zkd (k:=KTof P c s (s.st1 P) (s.e1 P+s.e2 P) rs) rfl (by omega) 0
  rw [h9,Option.bind_some]
  obtain ⟨L,hL⟩:∃ L,selN (fun i=>decide (s.st1 P i=1)) P.n=L:=⟨_,rfl⟩
  have hLi:(selI (fun i=>decide (s.st1 P i=1)) P.n).length=L.length:=by rw [← hL,selI,List.length_map]
  have hLl:L.length≤7:=by rw [← hL,zfw]; have:=zca (fun i=>decide (s.st1 P i=1)) P.n; omega
  have hLs:(L.map fun i=>s.vt P i - s.bar P).sum=sumN (fun i=>if s.st1 P i=1 then s.vt P i - s.bar P else 0) P.n:=by
    rw [← hL,sum_sel]
    refine zan fun i hi=>?_
    by_cases h:s.st1 P i=1
    · simp [h]
    · simp [h]
  have hLt:(L.map fun i=>s.vt P i - s.bar P).sum≤P.tot * s.D:=by rw [hLs]; exact sur_le hP hI
  rw [hLi]
  obtain ⟨K1,hK1⟩:∃ K1:KT,KTof P c s (s.st1 P) (s.e1 P+s.e2 P) rs=K1:=⟨_,rfl⟩
  rw [hK1]
  obtain ⟨T,hT⟩:∃ T:Nat→RD,(fun j=>((lst (fun i=>rr (frac (s.vt P i) s.D)) P.n,lst (fun i=>rr (s.keep i)) P.n,rr (P.q:Rat),rr (frac (P.tot * s.D - sumN (s.vt P) P.n) s.D),rr (frac ((L.take j).map fun i=>s.vt P i - s.bar P).sum s.D),selI (s.el1 P) P.n,[],[]):RD))=T:=⟨_,rfl⟩
  have hTb:T L.length=zcl P s (selI (s.el1 P) P.n):=by
    rw [← hT]
    simp only [List.take_length,hLs]
    rfl
  have goalB:∀ X:Option (Bool × KT)→Prop,∀ Kf:KT × RD→Option (Bool × KT),X (Kf (K1,zcl P s (selI (s.el1 P) P.n)))→X ((zab (β:=(KT × RD)) (fun ((t0_2,t3_2,t50,t51,t52):KT × RD × (List Int) × Int × Int) =>
      bif (decide (t52 < t51)) then
        bif (decide (0≤t52) && decide (t52 < (t50.length:Int))) then
          bif (decide (0≤(List.getD t50 (Int.toNat t52) 0)) && decide ((List.getD t50 (Int.toNat t52) 0) < (t3_2.1.length:Int))) then
            (d132 (List.getD t3_2.1 (Int.toNat (List.getD t50 (Int.toNat t52) 0)) (false,[],[])) t3_2.2.2.1).bind fun r_10 =>
            (d138 t3_2.2.2.2.2.1 r_10).bind fun r_11 =>
            some (Sum.inl (t0_2,(t3_2.1,t3_2.2.1,t3_2.2.2.1,t3_2.2.2.2.1,r_11,t3_2.2.2.2.2.2),t50,t51,(w (t52+1))))
          else none
        else none
      else
        some (Sum.inr (t0_2,t3_2))) (K1,(lst (fun i=>rr (frac (s.vt P i) s.D)) P.n,lst (fun i=>rr (s.keep i)) P.n,rr (P.q:Rat),rr (frac (P.tot * s.D - sumN (s.vt P) P.n) s.D),rr 0,selI (s.el1 P) P.n,[],[]),selI (fun i=>decide (s.st1 P i=1)) P.n,(L.length:Int),0)).bind Kf):=by
    intro X Kf hX
    refine Eq.mpr (congrArg X ?_) hX
    refine zaf (fun j=>(K1,T j,selI (fun i=>decide (s.st1 P i=1)) P.n,(L.length:Int),(j:Int))) L.length (b:=(K1,zcl P s (selI (s.el1 P) P.n))) ?_ (fun j hj=>?_) ?_ rfl
    · rw [← hT]
      simp only [List.take_zero,List.map_nil,List.sum_nil]
      have:frac 0 s.D=0:=by unfold frac; rw [Rat.div_def]; simp
      rw [this]; rfl
    · have hj':j < (selN (fun i=>decide (s.st1 P i=1)) P.n).length:=by rw [hL]; exact hj
      have hg:=zgn hj'
      have hsg:=zmc hj'
      rw [hL] at hg hsg
      obtain ⟨x,hx⟩:∃ x,L.getD j 0=x:=⟨_,rfl⟩
      rw [hx] at hg hsg
      obtain ⟨_,_,k3⟩:=zhu hI hg.1 (of_decide_eq_true hg.2)
      have hv:=zos hP hI hg.1
      have hd1:d132 (rr (frac (s.vt P x) s.D)) (rr (P.q:Rat))=some (rr (frac (s.vt P x - s.bar P) s.D)):=by
        rw [q_frac hI,zmz (zbe hP hI hv).sz2 (bar_le hP hI).sz2,zle hI.D0 k3]
      have hst:((L.take (j+1)).map fun i=>s.vt P i - s.bar P).sum=((L.take j).map fun i=>s.vt P i - s.bar P).sum+(s.vt P x - s.bar P):=by
        rw [zbl L 0 hj,hx,List.map_append,List.sum_append]; simp
      have hle1:((L.take j).map fun i=>s.vt P i - s.bar P).sum≤P.tot * s.D:=by
        rw [List.map_take]; exact Nat.le_trans (sum_take_le _ _) hLt
      have hd2:d138 (rr (frac ((L.take j).map fun i=>s.vt P i - s.bar P).sum s.D)) (rr (frac (s.vt P x - s.bar P) s.D))=some (rr (frac ((L.take (j+1)).map fun i=>s.vt P i - s.bar P).sum s.D)):=by
        rw [d138_rr (zbe hP hI hle1).sz2 (zbe hP hI (by omega)).sz2,zpu hI.D0,hst]
      rw [← hT]
      simp only [dlt hj,d0le,hLi,Bool.and_self,cond_true,tn,hsg,zaz,dlt hg.1,zbn (fun i=>rr (frac (s.vt P i) s.D)) hg.1,hd1,hd2,Option.bind_some,zbo (show j < 9223372036854775807 by omega)]
    · simp only [nlt (Nat.le_refl L.length),cond_false,hTb]
  refine goalB (fun z=>(s.fin P=true∧∃ st' fl',z=some (false,KTof P c s st' fl' (rs++[s.done P]))) ∨
    (s.fin P=false∧s.most P=true∧z=some (true,KTof P c (s.trans P (rs.map Rd.votes)) (s.trans P (rs.map Rd.votes)).st (s.e1 P+s.e2 P) (rs++[{ s.rd0 P with ti:=s.tiedR P }]))) ∨
    (s.fin P=false∧s.most P=false∧z=some (true,KTof P c (s.excl P (rs.map Rd.votes)) (s.excl P (rs.map Rd.votes)).st (s.e1 P+s.e2 P) (rs++[{ s.rd0 P with ti:=s.tiedR P,ex:=[s.pick P (rs.map Rd.votes)] }])))) _ ?_
  clear goalB hT hTb
  subst hK1
  clear hK h5 h6 h7
  have hel:(selI (s.el1 P) P.n).length≤7:=by rw [zbg]; have:=zca (s.el1 P) P.n; omega
  have hrl:=hR.len
  have hre:∀ x∈rs,x.el.length≤7:=fun x hx=>(hR.rnd x hx).2
  simp only [zav]
  have hfs:(KTof P c s (s.st1 P) (s.e1 P+s.e2 P) rs).2.2.2.2.2.2.2.1=((s.e1 P+s.e2 P:Nat):Int):=rfl
  have hss:(KTof P c s (s.st1 P) (s.e1 P+s.e2 P) rs).1.2.2.2.1=(P.seats:Int):=hcs
  have helec:=zhn hP hI
  simp only [hfs,hss,zqa]
  by_cases hq:s.e1 P+s.e2 P=P.seats
  · have hfin:s.fin P=true:=by
      unfold GS.fin
      rw [Bool.or_eq_true]
      exact .inl (decide_eq_true hq)
    refine .inl ⟨hfin,s.st1 P,s.e1 P+s.e2 P,?_⟩
    simp only [decide_eq_true hq,cond_true]
    have hdone:s.done P={ s.rd0 P with el:=selI (s.el1 P) P.n,ex:=[],ti:=[] }:=by
      unfold GS.done
      have h':¬ (cntN (fun i=>decide (s.st1 P i=1)) P.n+cntN (fun i=>decide (s.st1 P i=2)) P.n < P.seats):=by
        show ¬ (s.e1 P+s.e2 P < P.seats); omega
      simp only [if_neg h']
      rfl
    rw [hdone]
    exact zpj (b:=true) (zlj P s (selI (s.el1 P) P.n) [] []) hre (by omega) hel
  · simp only [decide_eq_false hq,cond_false,h10,Option.bind_some]
    have hlen0:(selI (fun i=>decide (s.st1 P i=0)) P.n).length=s.e0 P:=zbg _ _
    have he0:s.e0 P≤7:=by unfold GS.e0; have:=zca (fun i=>decide (s.st1 P i=0)) P.n; omega
    rw [hlen0,wadd (by omega)]
    by_cases hq2:s.e1 P+s.e2 P+s.e0 P≤P.seats
    · have hfin:s.fin P=true:=by
        unfold GS.fin
        rw [Bool.or_eq_true]
        exact .inr (decide_eq_true hq2)
      rw [show decide (((s.e1 P+s.e2 P+s.e0 P:Nat):Int)≤(P.seats:Int))=true from decide_eq_true (by omega),cond_true]
      have h14:d133 (KTof P c s (s.st1 P) (s.e1 P+s.e2 P) rs) (zcl P s (selI (s.el1 P) P.n)) (selI (fun i=>decide (s.st1 P i=0)) P.n)=some (KTof P c s (fun i=>if decide (s.st1 P i=0) then 1 else s.st1 P i) (s.e1 P+s.e2 P+s.e0 P) rs,zcl P s (selI (fun i=>s.el1 P i || decide (s.st1 P i=0)) P.n)):=by
        unfold KTof zcl
        rw [d133_eq (st:=s.st1 P) hn7 (by omega) (by omega),sortI_two fun i hi=>?_]
        · rfl
        · rcases zax (P:=P) (s:=s) i with ⟨_,_,h2,_⟩ | ⟨h0,_⟩
          · rw [h2]; rfl
          · rw [h0] at hi; cases hi
      rw [h14,Option.bind_some]
      refine .inl ⟨hfin,fun i=>if decide (s.st1 P i=0) then 1 else s.st1 P i,s.e1 P+s.e2 P+s.e0 P,?_⟩
      have hdone:s.done P={ s.rd0 P with el:=selI (fun i=>s.el1 P i || decide (s.st1 P i=0)) P.n,ex:=[],ti:=[] }:=by
        unfold GS.done
        have h':cntN (fun i=>decide (s.st1 P i=1)) P.n+cntN (fun i=>decide (s.st1 P i=2)) P.n < P.seats:=by
          show s.e1 P+s.e2 P < P.seats; omega
        simp only [if_pos h']
        rfl
      rw [hdone]
      exact zpj (b:=true) (zlj P s (selI (fun i=>s.el1 P i || decide (s.st1 P i=0)) P.n) [] []) hre (by omega) (by
        show (selI _ _).length≤7
        rw [zbg]; have:=zca (fun i=>s.el1 P i || decide (s.st1 P i=0)) P.n; omega)
    · have hfin:s.fin P=false:=by
        unfold GS.fin
        rw [Bool.or_eq_false_iff]
        exact ⟨decide_eq_false hq,decide_eq_false hq2⟩
      rw [show decide (((s.e1 P+s.e2 P+s.e0 P:Nat):Int)≤(P.seats:Int))=false from decide_eq_false (by omega),cond_false,h9,Option.bind_some]
      have hlen1:(selI (fun i=>decide (s.st1 P i=1)) P.n).length=s.e1 P:=zbg _ _
      rw [hlen1]
      refine .inr ?_
      cases hm:s.most P with
      | true =>
        refine .inl ⟨hfin,rfl,?_⟩
        have h0:0 < s.e1 P:=of_decide_eq_true hm
        rw [show decide ((0:Int) < (s.e1 P:Int))=true from decide_eq_true (by omega),cond_true,d139_eq hP hI hG hR hc _ hfin hm,Option.bind_some]
        exact zpj (b:=false) (zlj P s (selI (s.el1 P) P.n) [] (s.tiedR P)) hre (by omega) hel
      | false =>
        refine .inr ⟨hfin,rfl,?_⟩
        have h0:¬ 0 < s.e1 P:=of_decide_eq_false hm
        rw [show decide ((0:Int) < (s.e1 P:Int))=false from decide_eq_false (by omega),cond_false,d140_eq hP hI hG hR hc _ hfin hm,Option.bind_some]
        exact zpj (b:=false) (zlj P s (selI (s.el1 P) P.n) [s.pick P (rs.map Rd.votes)] (s.tiedR P)) hre (by omega) hel
end Go.Proofs.YtmipjomnjkmdbaaGreat
set_option linter.unusedSimpArgs false
set_option linter.unusedVariables false
namespace Go.Proofs.YtmipjomnjkmdbaaGreat
open Go Go.X
def permB (n:Int) (lots:List Int):Bool:=decide ((lots.length:Int)=n) && decide (isB n lots)
def fitE (m:Int) (c:CT) (gs:List Grp) (lots:List Int):Int :=
  bif decide (m < 1) || (decide (3 < m) || !decide (c.2.2.1=m)) then 5
  else bif decide ((c.2.1.length:Int) < 1) || (decide (7 < (c.2.1.length:Int)) || (decide (c.2.2.2.1 < 1) || (decide (5 < c.2.2.2.1) || ((decide (m=1) && !decide (c.2.2.2.1=1)) || (!(bif decide (m=2) then decide (1≤c.2.2.2.2.2.1) && decide (c.2.2.2.2.2.1≤6) else decide (c.2.2.2.2.2.1=0)) || (decide (c.2.2.2.2.2.2.1 < 1) || decide (3 < c.2.2.2.2.2.2.1))))))) then 4
  else bif !zpm (c.2.1.length:Int) gs then 8
  else bif !permB (c.2.1.length:Int) lots then 13
  else 0
set_option maxHeartbeats 2000000 in
theorem d66_eq (m:Int) (c:CT) {gs:List Grp} {lots:List Int} (hg:GsOK gs) (hl:lots.length≤281474976710656):d66 m c gs lots=some (fitE m c gs lots):=by
  have hp:decide ((c.2.1.length:Int) < 1)=false→decide (7 < (c.2.1.length:Int))=false→d124 (c.2.1.length:Int) gs=some (zpm (c.2.1.length:Int) gs):=fun h1 h2=>by
    have h1:=of_decide_eq_false h1
    have h2:=of_decide_eq_false h2
    rw [d124_eq (by omega) hg.1 hg.2]
    unfold zpm goodP
    rw [decide_eq_true (show 1≤(c.2.1.length:Int)∧(c.2.1.length:Int)≤7 by omega)]; rfl
  have hq:decide (7 < (c.2.1.length:Int))=false→d125 lots (c.2.1.length:Int)=some (permB (c.2.1.length:Int) lots):=fun h2=>by
    have h2:=of_decide_eq_false h2
    unfold d125 permB
    by_cases h:(lots.length:Int)=(c.2.1.length:Int)
    · rw [decide_eq_true h,cond_true,d165_eq (by omega) hl]; rfl
    · rw [decide_eq_false h]; rfl
  unfold d66 fitE
  cases he2:decide (m=2) <;> cases hg1:decide (1≤c.2.2.2.2.2.1) <;> simp only [he2,hg1,Bool.not_true,Bool.not_false,cond_true,cond_false,Bool.true_or,Bool.false_or,Bool.or_true,Bool.or_false,Bool.true_and,Bool.false_and,Option.bind_some]
  all_goals
    rw [zav]
    cases ha1:decide (m < 1)
    case true=>simp only [ha1,zav,Bool.not_true,Bool.not_false,cond_true,cond_false,Bool.true_or,Bool.false_or,Bool.or_true,Bool.or_false,Bool.true_and,Bool.false_and,Option.bind_some]
    try simp only [ha1,Bool.not_true,Bool.not_false,cond_true,cond_false,Bool.true_or,Bool.false_or,Bool.or_true,Bool.or_false,Bool.true_and,Bool.false_and,Option.bind_some]
    cases ha2:decide (3 < m)
    case true=>simp only [ha2,zav,Bool.not_true,Bool.not_false,cond_true,cond_false,Bool.true_or,Bool.false_or,Bool.or_true,Bool.or_false,Bool.true_and,Bool.false_and,Option.bind_some]
    try simp only [ha2,Bool.not_true,Bool.not_false,cond_true,cond_false,Bool.true_or,Bool.false_or,Bool.or_true,Bool.or_false,Bool.true_and,Bool.false_and,Option.bind_some]
    cases ha3:decide (c.2.2.1=m)
    case false=>simp only [ha3,zav,Bool.not_true,Bool.not_false,cond_true,cond_false,Bool.true_or,Bool.false_or,Bool.or_true,Bool.or_false,Bool.true_and,Bool.false_and,Option.bind_some]
    try simp only [ha3,Bool.not_true,Bool.not_false,cond_true,cond_false,Bool.true_or,Bool.false_or,Bool.or_true,Bool.or_false,Bool.true_and,Bool.false_and,Option.bind_some]
    rw [zav]
    try simp only [Bool.not_true,Bool.not_false,cond_true,cond_false,Bool.true_or,Bool.false_or,Bool.or_true,Bool.or_false,Bool.true_and,Bool.false_and,Option.bind_some]
    cases hn1:decide ((c.2.1.length:Int) < 1)
    case true=>simp only [hn1,zav,Bool.not_true,Bool.not_false,cond_true,cond_false,Bool.true_or,Bool.false_or,Bool.or_true,Bool.or_false,Bool.true_and,Bool.false_and,Option.bind_some]
    try simp only [hn1,Bool.not_true,Bool.not_false,cond_true,cond_false,Bool.true_or,Bool.false_or,Bool.or_true,Bool.or_false,Bool.true_and,Bool.false_and,Option.bind_some]
    cases hn2:decide (7 < (c.2.1.length:Int))
    case true=>simp only [hn2,zav,Bool.not_true,Bool.not_false,cond_true,cond_false,Bool.true_or,Bool.false_or,Bool.or_true,Bool.or_false,Bool.true_and,Bool.false_and,Option.bind_some]
    try simp only [hn2,Bool.not_true,Bool.not_false,cond_true,cond_false,Bool.true_or,Bool.false_or,Bool.or_true,Bool.or_false,Bool.true_and,Bool.false_and,Option.bind_some]
    simp only [zav,hp hn1 hn2,hq hn2,Bool.not_true,Bool.not_false,cond_true,cond_false,Bool.true_or,Bool.false_or,Bool.or_true,Bool.or_false,Bool.true_and,Bool.false_and,Option.bind_some]
    cases hs1:decide (c.2.2.2.1 < 1)
    case true=>simp only [hs1,zav,Bool.not_true,Bool.not_false,cond_true,cond_false,Bool.true_or,Bool.false_or,Bool.or_true,Bool.or_false,Bool.true_and,Bool.false_and,Option.bind_some]
    try simp only [hs1,Bool.not_true,Bool.not_false,cond_true,cond_false,Bool.true_or,Bool.false_or,Bool.or_true,Bool.or_false,Bool.true_and,Bool.false_and,Option.bind_some]
    cases hs2:decide (5 < c.2.2.2.1)
    case true=>simp only [hs2,zav,Bool.not_true,Bool.not_false,cond_true,cond_false,Bool.true_or,Bool.false_or,Bool.or_true,Bool.or_false,Bool.true_and,Bool.false_and,Option.bind_some]
    try simp only [hs2,Bool.not_true,Bool.not_false,cond_true,cond_false,Bool.true_or,Bool.false_or,Bool.or_true,Bool.or_false,Bool.true_and,Bool.false_and,Option.bind_some]
    cases hm1:decide (m=1) <;> cases hso:decide (c.2.2.2.1=1) <;> simp only [hm1,hso,Bool.not_true,Bool.not_false,cond_true,cond_false,Bool.true_or,Bool.false_or,Bool.or_true,Bool.or_false,Bool.true_and,Bool.false_and,Option.bind_some]
    all_goals (try (cases hg2:decide (c.2.2.2.2.2.1≤6) <;> simp only [hg2,Bool.not_true,Bool.not_false,cond_true,cond_false,Bool.true_or,Bool.false_or,Bool.or_true,Bool.or_false,Bool.true_and,Bool.false_and,Option.bind_some]))
    all_goals (try (cases hg0:decide (c.2.2.2.2.2.1=0) <;> simp only [hg0,Bool.not_true,Bool.not_false,cond_true,cond_false,Bool.true_or,Bool.false_or,Bool.or_true,Bool.or_false,Bool.true_and,Bool.false_and,Option.bind_some]))
    all_goals (try (cases ht1:decide (c.2.2.2.2.2.2.1 < 1) <;> simp only [ht1,Bool.not_true,Bool.not_false,cond_true,cond_false,Bool.true_or,Bool.false_or,Bool.or_true,Bool.or_false,Bool.true_and,Bool.false_and,Option.bind_some]))
    all_goals (try (cases ht2:decide (3 < c.2.2.2.2.2.2.1) <;> simp only [ht2,Bool.not_true,Bool.not_false,cond_true,cond_false,Bool.true_or,Bool.false_or,Bool.or_true,Bool.or_false,Bool.true_and,Bool.false_and,Option.bind_some]))
    all_goals (try (cases zpm (c.2.1.length:Int) gs <;> simp only [Bool.not_true,Bool.not_false,cond_true,cond_false,Bool.true_or,Bool.false_or,Bool.or_true,Bool.or_false,Bool.true_and,Bool.false_and,Option.bind_some]))
    all_goals (try (cases permB (c.2.1.length:Int) lots <;> simp only [Bool.not_true,Bool.not_false,cond_true,cond_false,Bool.true_or,Bool.false_or,Bool.or_true,Bool.or_false,Bool.true_and,Bool.false_and,Option.bind_some]))
theorem fitE_zero {m:Int} {c:CT} {gs:List Grp} {lots:List Int} (h:fitE m c gs lots=0):1≤m∧m≤3∧c.2.2.1=m∧1≤c.2.1.length∧c.2.1.length≤7∧1≤c.2.2.2.1∧c.2.2.2.1≤5∧(m=1→c.2.2.2.1=1)∧(m=2→1≤c.2.2.2.2.2.1∧c.2.2.2.2.2.1≤6)∧(m ≠ 2→c.2.2.2.2.2.1=0)∧1≤c.2.2.2.2.2.2.1∧c.2.2.2.2.2.2.1≤3∧PileOK (c.2.1.length:Int) gs (wsum (fun _=>1) gs)∧lots.length=c.2.1.length∧isB (c.2.1.length:Int) lots:=by
  unfold fitE at h
  by_cases h1:(decide (m < 1) || (decide (3 < m) || !decide (c.2.2.1=m)))=true
  · rw [h1] at h; exact absurd h (by show ¬ (5:Int)=0; omega)
  have h1:(decide (m < 1) || (decide (3 < m) || !decide (c.2.2.1=m)))=false:=by simpa using h1
  rw [h1,cond_false] at h
  cases h2:(decide ((c.2.1.length:Int) < 1) || (decide (7 < (c.2.1.length:Int)) || (decide (c.2.2.2.1 < 1) || (decide (5 < c.2.2.2.1) || ((decide (m=1) && !decide (c.2.2.2.1=1)) || (!(bif decide (m=2) then decide (1≤c.2.2.2.2.2.1) && decide (c.2.2.2.2.2.1≤6) else decide (c.2.2.2.2.2.1=0)) || (decide (c.2.2.2.2.2.2.1 < 1) || decide (3 < c.2.2.2.2.2.2.1))))))))
  case true=>rw [h2] at h; exact absurd h (by show ¬ (4:Int)=0; omega)
  rw [h2,cond_false] at h
  cases h3:zpm (c.2.1.length:Int) gs
  case false=>rw [h3] at h; exact absurd h (by show ¬ (8:Int)=0; omega)
  rw [h3,Bool.not_true,cond_false] at h
  cases h4:permB (c.2.1.length:Int) lots
  case false=>rw [h4] at h; exact absurd h (by show ¬ (13:Int)=0; omega)
  simp only [Bool.or_eq_false_iff,decide_eq_false_iff_not,Bool.not_eq_false',decide_eq_true_eq] at h1 h2
  obtain ⟨a1,a2,a3⟩:=h1
  obtain ⟨b1,b2,b3,b4,b5,b6,b7,b8⟩:=h2
  unfold permB at h4
  simp only [Bool.and_eq_true,decide_eq_true_eq] at h4
  refine ⟨by omega,by omega,a3,by omega,by omega,by omega,by omega,fun hm=>?_,fun hm=>?_,fun hm=>?_,by omega,by omega,(pileB_ok h3).2.2,by omega,h4.2⟩
  · rw [decide_eq_true hm,Bool.true_and,Bool.not_eq_false',decide_eq_true_eq] at b5
    exact b5
  · rw [decide_eq_true hm,cond_true,Bool.and_eq_true,decide_eq_true_eq,decide_eq_true_eq] at b6
    exact b6
  · rw [decide_eq_false hm,cond_false,decide_eq_true_eq] at b6
    exact b6
theorem d30_eq {b s:Int} (h0:0≤b) (h1:b≤100000) (h2:1≤s) (h3:s≤5):d30 b s=some (b / (s+1)+1):=by
  have e:w (s+1)=s+1:=zbk (by omega) (by omega)
  have hd:Int.tdiv b (s+1)=b / (s+1):=Int.tdiv_eq_ediv_of_nonneg h0
  have hle:b / (s+1)≤b:=Int.ediv_le_self _ h0
  have hge:0≤b / (s+1):=Int.ediv_nonneg h0 (by omega)
  unfold d30
  rw [zav]
  simp only [decide_eq_false (show ¬ b < 0 by omega),decide_eq_false (show ¬ 100000 < b by omega),decide_eq_false (show ¬ s < 1 by omega),decide_eq_false (show ¬ 5 < s by omega),Bool.not_false,cond_true,cond_false,e,decide_eq_false (show ¬ s+1=0 by omega),hd]
  rw [zbk (n:=b / (s+1)) (by omega) (by omega),zbk (by omega) (by omega)]
theorem PileOK.d67 {n:Int} {gs:List Grp} {N:Int} (h:PileOK n gs N) (hn:n≤7):d67 gs=some (wsum (fun _=>1) gs):=by
  obtain ⟨hl,hg⟩:=h.sizes hn
  have hf:∀ p:List Int,0≤(1:Int)∧(1:Int)≤1:=fun p=>by omega
  unfold Go.Proofs.YtmipjomnjkmdbaaGreat.d67
  rw [h.d100 hn]
  simp only [Option.bind_some,Bool.not_true,cond_false]
  have:d104 gs (fun a=>d126 a)=some (wsum (fun _=>1) gs):=by
    unfold d104
    refine zaf (b:=wsum (fun _=>1) gs) (fun i=>((fun a=>d126 a),wsum (fun _=>1) (gs.take i),gs,(gs.length:Int),(i:Int))) gs.length rfl (fun i hi=>?_) ?_ rfl
    · have h1:=h.part hf (i+1)
      rw [zem _ gs hi] at h1
      simp only [dlt hi,d0le,Bool.and_self,cond_true,tn,d126,Option.bind_some,zbo (show i < 9223372036854775807 by omega)]
      rw [zbk (by omega) (by omega),zem _ gs hi,Int.mul_one]
    · simp only [nlt (Nat.le_refl gs.length),cond_false,List.take_length]
  rw [this]; rfl
def gpOf (c:CT) (gs:List Grp) (lots:List Int):GP :=
  { gs:=gs,n:=c.2.1.length,seats:=c.2.2.2.1.toNat,q:=(wsum zak gs / (c.2.2.2.1+1)+1).toNat,tot:=(wsum (fun _=>1) gs).toNat,ties:=c.2.2.2.2.2.2.1,lots:=lots }
theorem zid {n:Int} {gs:List Grp} {N:Int} (h:PileOK n gs N) (b:List Int→Bool) (c:CT) (lots:List Int):∀ m,m≤gs.length→wsum (fun p=>if b p then 1 else 0) (gs.take m)=((sumN (fun g=>if b ((gpOf c gs lots).p g) then (gpOf c gs lots).k g else 0) m:Nat):Int)
  | 0,_=>rfl
  | m+1,hm=>by
    have hb:=(h.ballots _ (zcq (l:=gs) (d:=([],0)) (i:=m) (by omega))).2
    rw [zem _ gs (by omega),zid h b c lots m (by omega),sumN,Int.natCast_add]
    congr 1
    show _ * (if b (gs.getD m ([],0)).1 then 1 else 0)=((if b (gs.getD m ([],0)).1 then (gs.getD m ([],0)).2.toNat else 0:Nat):Int)
    split
    · rw [Int.mul_one]; omega
    · rw [Int.mul_zero]; rfl
theorem quo_lt {m s:Nat} (h1:1≤s) (h5:s≤5):m < (m / (s+1)+1) * (s+1):=by
  have:s=1∨s=2∨s=3∨s=4∨s=5:=by omega
  rcases this with rfl | rfl | rfl | rfl | rfl <;> omega
theorem gpOf_ok {c:CT} {gs:List Grp} {lots:List Int} (h:fitE 3 c gs lots=0):(gpOf c gs lots).OK∧(gpOf c gs lots).G≤1000000∧c.2.2.2.1=((gpOf c gs lots).seats:Int)∧d67 gs=some ((gpOf c gs lots).tot:Int)∧d52 gs=some (wsum zak gs)∧d30 (wsum zak gs) c.2.2.2.1=some ((gpOf c gs lots).q:Int):=by
  obtain ⟨_,_,_,n1,n7,s1,s5,_,_,_,t1,t3,hp,ll,hB⟩:=fitE_zero h
  obtain ⟨hl,hg⟩:=hp.sizes (by omega)
  have hmk:=hp.part (f:=zak) (fun p=>by unfold zak; split <;> omega) gs.length
  have hto:=hp.part (f:=fun _=>1) (fun p=>by omega) gs.length
  rw [List.take_length] at hmk hto
  have hS:c.2.2.2.1=(c.2.2.2.1.toNat:Int):=by omega
  have e1:wsum (fun _=>1) gs=((sumN (gpOf c gs lots).k gs.length:Nat):Int):=by
    have:=zid hp (fun _=>true) c lots gs.length (Nat.le_refl _)
    rw [List.take_length] at this
    simpa using this
  have e2:wsum zak gs=(((gpOf c gs lots).mkd:Nat):Int):=by
    have:=zid hp (fun p=>decide (p ≠ [])) c lots gs.length (Nat.le_refl _)
    rw [List.take_length] at this
    have hf:(fun p:List Int=>if decide (p ≠ [])=true then (1:Int) else 0)=zak:=by
      funext p; unfold zak; by_cases hp:p=[] <;> simp [hp]
    rw [hf] at this
    rw [this]
    congr 1
    unfold GP.mkd
    refine zan fun g hg=>?_
    by_cases hp:(gpOf c gs lots).p g=[] <;> simp [hp]
  obtain ⟨S,hSS⟩:∃ S,c.2.2.2.1.toNat=S:=⟨_,rfl⟩
  have hq:(gpOf c gs lots).q=(gpOf c gs lots).mkd / (S+1)+1:=by
    show (wsum zak gs / (c.2.2.2.1+1)+1).toNat=_
    rw [e2,hS,hSS]
    rfl
  have hm5:(gpOf c gs lots).mkd≤100000:=by omega
  have hdiv:=Nat.div_le_self (gpOf c gs lots).mkd (S+1)
  have hq1:1≤(gpOf c gs lots).q∧(gpOf c gs lots).q≤100001:=by
    rw [hq]
    generalize (gpOf c gs lots).mkd / (S+1)=Q at hdiv ⊢
    omega
  refine ⟨⟨n1,n7,by show 1≤c.2.2.2.1.toNat; omega,by show c.2.2.2.1.toNat≤5; omega,fun g hgl x hx=>?_,fun g hgl=>?_,?_,by show (wsum (fun _=>1) gs).toNat≤_; omega,hq1.1,hq1.2,?_,t1,t3,ll,fun x hx=>?_,hB.1⟩,by show gs.length≤_; omega,?_,?_,hp.d52 (by omega),?_⟩
  · have:=(hp.ballots _ (zcq (l:=gs) (d:=([],0)) (i:=g) hgl)).1.2 x hx
    exact ⟨x.toNat,by omega,by show x.toNat < c.2.1.length; omega⟩
  · exact (hg _ (zcq (l:=gs) (d:=([],0)) (i:=g) hgl)).1
  · show sumN (gpOf c gs lots).k gs.length=(wsum (fun _=>1) gs).toNat
    omega
  · rw [hq]
    show _ < _ * (c.2.2.2.1.toNat+1)
    rw [hSS]
    exact quo_lt (by omega) (by omega)
  · have:=hB.2 x hx
    exact ⟨x.toNat,by omega,by show x.toNat < c.2.1.length; omega⟩
  · exact hS
  · rw [hp.d67 (by omega)]
    congr 1
    show _=((wsum (fun _=>1) gs).toNat:Int)
    omega
  · rw [d30_eq hmk.1 hmk.2 s1 s5]
    congr 1
    show _=((wsum zak gs / (c.2.2.2.1+1)+1).toNat:Int)
    have:0≤wsum zak gs / (c.2.2.2.1+1):=Int.ediv_nonneg hmk.1 (by omega)
    omega
variable {P:GP} {s:GS}
theorem RsOK.next (hP:P.OK) (hI:GI P s) {rs:List Rd} (hR:RsOK P s rs) (hl:rs.length+1≤7) {s':GS} (hk:∀ i,i < P.n→Bz eB (s'.keep i)) {r:Rd} (hv:r.votes=(s.rd0 P).votes) (he:r.el.length≤7):RsOK P s' (rs++[r]):=by
  refine ⟨fun x hx=>?_,by simp; omega,hk⟩
  rcases List.mem_append.1 hx with hx | hx
  · exact hR.rnd x hx
  · rw [List.mem_singleton] at hx
    subst hx
    rw [hv]
    exact ⟨votes_rnd hP hI,he⟩
theorem el_len (hP:P.OK):(selI (s.el1 P) P.n).length≤7:=by rw [zbg]; have:=zca (s.el1 P) P.n; have:=hP.n7; omega
theorem fl_next {x y:Nat} (hx:x < P.n) (hy:(s.st1 P x=1∧y=2)∨(s.st1 P x=0∧y=3)) {st:Nat→Nat} (hst:st=upd (s.st1 P) x y):s.e1 P+s.e2 P=cntN (fun i=>decide (st i=1)) P.n+cntN (fun i=>decide (st i=2)) P.n:=by
  subst hst
  unfold GS.e1 GS.e2 cntN
  rw [← zbj,← zbj]
  refine zan fun i hi=>?_
  by_cases h:i=x
  · subst h
    rcases hy with ⟨h1,rfl⟩ | ⟨h1,rfl⟩ <;> simp [h1,zbf]
  · simp [upd,h]
theorem trans_keep (hP:P.OK) (hI:GI P s) (hf:s.fin P=false) (hm:s.most P=true) (earlier:List (List Rat)) (hk:∀ i,i < P.n→Bz eB (s.keep i)):∀ i,i < P.n→Bz eB ((s.trans P earlier).keep i):=by
  intro i hi
  obtain ⟨x,x1,x2,x3⟩:=zep hP hI hf earlier
  have hv:=zos hP hI x2
  unfold GS.trans
  simp only [x1,Int.toNat_natCast]
  show Bz eB (upd s.keep x _ i)
  unfold upd
  split
  · exact zkb (zhc hP hI (by omega)) (zhc hP hI hv) (by decide)
  · exact hk i hi
theorem excl_keep (earlier:List (List Rat)) (hk:∀ i,i < P.n→Bz eB (s.keep i)):∀ i,i < P.n→Bz eB ((s.excl P earlier).keep i):=by
  intro i hi
  unfold GS.excl
  show Bz eB (upd s.keep _ 0 i)
  unfold upd
  split
  · exact bz_zero
  · exact hk i hi
theorem grun_fin {k:Nat} {rs:List Rd} (hf:s.fin P=true):grun P (k+1) rs s=rs++[s.done P]:=by
  unfold grun gstep; rw [if_pos hf]
theorem grun_trans {k:Nat} {rs:List Rd} (hf:s.fin P=false) (hm:s.most P=true):grun P (k+1) rs s=grun P k (rs++[{ s.rd0 P with ti:=s.tiedR P }]) (s.trans P (rs.map Rd.votes)):=by
  rw [grun]; unfold gstep; rw [if_neg (by rw [hf]; simp),if_pos hm]
theorem grun_excl {k:Nat} {rs:List Rd} (hf:s.fin P=false) (hm:s.most P=false):grun P (k+1) rs s=grun P k (rs++[{ s.rd0 P with ti:=s.tiedR P,ex:=[s.pick P (rs.map Rd.votes)] }]) (s.excl P (rs.map Rd.votes)):=by
  rw [grun]; unfold gstep; rw [if_neg (by rw [hf]; simp),if_neg (by rw [hm]; simp)]
structure Run (P:GP) (s:GS) (rs:List Rd):Prop where
  inv:GI P s
  ok:RsOK P s rs
  len:rs.length+s.meas P≤P.n
  run:grun P (P.n+1 - rs.length) rs s=zee P
  one:∀ i,i < P.n→s.st i=0∨s.st i=1→s.keep i=1
theorem keep_one {x y:Nat} (hy:y=2∨y=3) {k:Rat} {a b:Nat} (h:∀ i,i < P.n→s.st i=0∨s.st i=1→s.keep i=1):∀ i,i < P.n→(s.move P (upd (s.st1 P) x y) (upd s.keep x k) x a b).st i=0∨(s.move P (upd (s.st1 P) x y) (upd s.keep x k) x a b).st i=1→(s.move P (upd (s.st1 P) x y) (upd s.keep x k) x a b).keep i=1:=by
  intro i hi hs
  have hs':upd (s.st1 P) x y i=0∨upd (s.st1 P) x y i=1:=hs
  show upd s.keep x k i=1
  by_cases hix:i=x
  · subst hix
    rw [zbf] at hs'
    omega
  · rw [zcx _ _ hix] at hs' ⊢
    refine h i hi ?_
    rcases zax (P:=P) (s:=s) i with ⟨h0,h1,h2,_⟩ | ⟨h0,h2⟩ <;> omega
theorem Run.start (hP:P.OK):Run P g0 []:=⟨g0_inv hP,⟨fun r hr=>by simp at hr,by simp,fun i _=>by
  have:=bz_nat (n:=1) (by decide)
  exact this⟩,by simp; exact meas_le _,rfl,fun i _ _=>rfl⟩
theorem Run.trans (hP:P.OK) {rs:List Rd} (h:Run P s rs) (hf:s.fin P=false) (hm:s.most P=true):Run P (s.trans P (rs.map Rd.votes)) (rs++[{ s.rd0 P with ti:=s.tiedR P }]):=by
  have hme:=zjk hP h.inv hf hm (rs.map Rd.votes)
  have hl:=h.len
  have hn:=hP.n7
  refine ⟨trans_inv hP h.inv hf hm _,h.ok.next hP h.inv (by omega) (trans_keep hP h.inv hf hm _ h.ok.keep) rfl (el_len hP),by simp; omega,?_,keep_one (.inl rfl) h.one⟩
  have hr:=h.run
  rw [show P.n+1 - rs.length=P.n - rs.length+1 by omega,grun_trans hf hm] at hr
  rw [← hr]
  congr 1
  simp
theorem Run.excl (hP:P.OK) {rs:List Rd} (h:Run P s rs) (hf:s.fin P=false) (hm:s.most P=false):Run P (s.excl P (rs.map Rd.votes)) (rs++[{ s.rd0 P with ti:=s.tiedR P,ex:=[s.pick P (rs.map Rd.votes)] }]):=by
  have hme:=zmv hP h.inv hf hm (rs.map Rd.votes)
  have hl:=h.len
  have hn:=hP.n7
  refine ⟨excl_inv hP h.inv hf hm _,h.ok.next hP h.inv (by omega) (excl_keep _ h.ok.keep) rfl (el_len hP),by simp; omega,?_,keep_one (.inr rfl) h.one⟩
  have hr:=h.run
  rw [show P.n+1 - rs.length=P.n - rs.length+1 by omega,grun_excl hf hm] at hr
  rw [← hr]
  congr 1
  simp
theorem Run.fin {rs:List Rd} (h:Run P s rs) (hf:s.fin P=true):rs++[s.done P]=zee P:=by
  have hl:=h.len
  have hr:=h.run
  rw [show P.n+1 - rs.length=P.n - rs.length+1 by omega,grun_fin hf] at hr
  exact hr
def trT (P:GP):Int × (Int × (Int × (Int × (List RD × List Int)))):=(3,(P.seats:Int),0,(P.n:Int),(zee P).map rdT,(zee P).flatMap Rd.el)
set_option maxHeartbeats 1000000 in
theorem d22_eq {c:CT} {gs:List Grp} {lots:List Int} (hg:GsOK gs) (hl:lots.length≤281474976710656):d22 c gs lots=some (if fitE 3 c gs lots=0 then (trT (gpOf c gs lots),0) else ((0,0,0,0,[],[]),fitE 3 c gs lots)):=by
  unfold d22
  rw [d66_eq 3 c hg hl,Option.bind_some]
  by_cases hfit:¬ fitE 3 c gs lots=0
  · rw [if_neg hfit,decide_eq_false hfit]; rfl
  have hfit:=Decidable.not_not.1 hfit
  rw [if_pos hfit,decide_eq_true hfit,Bool.not_true,cond_false]
  obtain ⟨hP,hG,hs,h67,h52,h30⟩:=gpOf_ok hfit
  have hgs:(gpOf c gs lots).gs=gs:=rfl
  have hn:c.2.1.length=(gpOf c gs lots).n:=rfl
  have hlo:(gpOf c gs lots).lots=lots:=rfl
  have hti:c.2.2.2.2.2.2.1=(gpOf c gs lots).ties:=rfl
  have hGl:gs.length=(gpOf c gs lots).G:=rfl
  have hpar:∀ i,parc (gpOf c gs lots) g0 i=((gs.getD i ([],0)).1,((gs.getD i ([],0)).2.toNat:Int),0,rr (frac 1 1)):=fun i=>rfl
  have hpos:∀ i,i < gs.length→((gs.getD i ([],0)).2.toNat:Int)=(gs.getD i ([],0)).2:=fun i hi=>by
    obtain ⟨_,_,_,_,_,_,_,_,_,_,_,_,hp,_,_⟩:=fitE_zero hfit
    have:=(hp.ballots _ (zcq (l:=gs) (d:=([],0)) (i:=i) hi)).2
    omega
  rw [h67,h52,Option.bind_some,Option.bind_some,h30,Option.bind_some]
  generalize hPP:gpOf c gs lots=P at *
  have hn7:=hP.n7
  have hz1:d68 1=some (rr 1):=zoi (n:=1) (by omega) (by omega)
  have hone:rr (frac 1 1)=rr (1:Rat):=by rw [zlf]; rfl
  rw [hn]
  simp only [decide_true,d0le,zcb (n:=P.n) (by omega),Bool.and_self,cond_true,tn,hs]
  refine zaf (fun i=>(gs,(0,0,0,0,[],[]),(c,lots,(P.tot:Int),(P.q:Int),[],List.replicate P.n 0,lst (fun _=>rr 1) i,0,[],3,(P.seats:Int),0,(P.n:Int),[],[]),(P.n:Int),(i:Int))) P.n rfl (fun i hi=>?_) (b:=(gs,(0,0,0,0,[],[]),(c,lots,(P.tot:Int),(P.q:Int),[],List.replicate P.n 0,lst (fun _=>rr 1) P.n,0,[],3,(P.seats:Int),0,(P.n:Int),[],[]))) ?_ ?_
  · have hl:=zcp (l:=lst (fun _=>rr (1:Rat)) i) (d:=rr 1) (by rw [zaz]; omega)
    simp only [dlt hi,cond_true,hz1,Option.bind_some,hl,zbo (show i < 9223372036854775807 by omega),← zhh]
  · simp only [nlt (Nat.le_refl P.n),cond_false]
  simp only
  refine zaf (fun i=>((0,0,0,0,[],[]),(c,lots,(P.tot:Int),(P.q:Int),lst (parc P g0) i,List.replicate P.n 0,lst (fun _=>rr 1) P.n,0,[],3,(P.seats:Int),0,(P.n:Int),[],[]),gs,(gs.length:Int),(i:Int))) gs.length rfl (fun i hi=>?_) (b:=((0,0,0,0,[],[]),(c,lots,(P.tot:Int),(P.q:Int),lst (parc P g0) gs.length,List.replicate P.n 0,lst (fun _=>rr 1) P.n,0,[],3,(P.seats:Int),0,(P.n:Int),[],[]))) ?_ ?_
  · have hl:=zcp (l:=lst (parc P g0) i) (d:=((gs.getD i ([],0)).1,(gs.getD i ([],0)).2,0,rr 1)) (by rw [zaz]; omega)
    simp only [dlt hi,d0le,Bool.and_self,cond_true,tn,hz1,Option.bind_some,hl,zbo (show i < 9223372036854775807 by omega),zhh,hpar,hpos i hi,hone]
  · simp only [nlt (Nat.le_refl gs.length),cond_false]
  simp only
  have hK0:(c,lots,(P.tot:Int),(P.q:Int),lst (parc P g0) gs.length,List.replicate P.n 0,lst (fun _=>rr 1) P.n,0,[],3,(P.seats:Int),0,(P.n:Int),[],[])=KTof P c g0 g0.st 0 []:=by
    unfold KTof
    rw [hlo,hGl,lst_rep]
    rfl
  rw [hK0]
  refine zew (Q:=fun r=>r=some (trT P,0)) (fun (M:Nat) (st:(Int × (Int × (Int × (Int × (List RD × List Int))))) × KT)=>∃ (s:GS) (rs:List Rd) (fl:Nat),st=((0,0,0,0,[],[]),KTof P c s s.st fl rs)∧Run P s rs∧fl=cntN (fun i=>decide (s.st i=1)) P.n+cntN (fun i=>decide (s.st i=2)) P.n∧M=s.meas P) (g0.meas P) ⟨g0,[],0,rfl,Run.start hP,?_,rfl⟩ ?_
  · have e1:cntN (fun i=>decide (g0.st i=1)) P.n=0:=by unfold cntN; exact zcf _
    have e2:cntN (fun i=>decide (g0.st i=2)) P.n=0:=by unfold cntN; exact zcf _
    rw [e1,e2]
  · rintro M st ⟨s,rs,fl,rfl,hR,hfl,rfl⟩
    rcases d69_eq hP hR.inv hG hR.ok hti hs hfl with ⟨hf,st',fl',he⟩ | ⟨hf,hm,he⟩ | ⟨hf,hm,he⟩
    · refine .inr ⟨((0,0,0,0,[],[]),KTof P c s st' fl' (rs++[s.done P])),by simp only [he,Option.bind_some,cond_false],?_⟩
      show some ((3,(P.seats:Int),0,(P.n:Int),(rs++[s.done P]).map rdT,(rs++[s.done P]).flatMap Rd.el),0)=some (trT P,0)
      rw [hR.fin hf]; rfl
    · have hme:=zjk hP hR.inv hf hm (rs.map Rd.votes)
      obtain ⟨x,x1,x2,x3⟩:=zep hP hR.inv hf (rs.map Rd.votes)
      rw [hm,if_pos rfl] at x3
      exact .inl ⟨_,(s.trans P (rs.map Rd.votes)).meas P,by simp only [he,Option.bind_some,cond_true],by omega,_,_,_,rfl,hR.trans hP hf hm,fl_next x2 (.inl ⟨x3,rfl⟩) (by unfold GS.trans; simp only [x1,Int.toNat_natCast]; rfl),rfl⟩
    · have hme:=zmv hP hR.inv hf hm (rs.map Rd.votes)
      obtain ⟨x,x1,x2,x3⟩:=zep hP hR.inv hf (rs.map Rd.votes)
      rw [hm] at x3
      have x3':s.st1 P x=0:=by simpa using x3
      exact .inl ⟨_,(s.excl P (rs.map Rd.votes)).meas P,by simp only [he,Option.bind_some,cond_true],by omega,_,_,_,rfl,hR.excl hP hf hm,fl_next x2 (.inr ⟨x3',rfl⟩) (by unfold GS.excl; simp only [x1,Int.toNat_natCast]; rfl),rfl⟩
end Go.Proofs.YtmipjomnjkmdbaaGreat
set_option linter.unusedSimpArgs false
set_option linter.unusedVariables false
namespace Go.Proofs.YtmipjomnjkmdbaaGreat
open Go Go.X
theorem d122_eq (a b:Nat) (ha:a≤4611686018427387904) (hb:b≤4611686018427387904):d122 (a:Int) (b:Int)=some ((Nat.gcd a b:Nat):Int):=by
  unfold d122
  refine zew (Q:=fun r=>r=some ((Nat.gcd a b:Nat):Int)) (fun (M:Nat) (st:Int × Int)=>∃ x:Nat,st=((x:Int),(M:Int))∧x≤4611686018427387904∧M≤4611686018427387904∧Nat.gcd x M=Nat.gcd a b) b ⟨a,rfl,ha,hb,rfl⟩ ?_
  rintro M st ⟨x,rfl,h1,h2,h3⟩
  rcases Nat.eq_zero_or_pos M with h0 | h0
  · subst h0
    rw [Nat.gcd_zero_right] at h3
    exact .inr ⟨(x:Int),rfl,by rw [h3]⟩
  · have hm:=Nat.mod_lt x h0
    have e:w (Int.tmod (x:Int) (M:Int))=((x % M:Nat):Int):=by rw [tmodN,zbk (by omega) (by omega)]
    refine .inl ⟨((M:Int),((x % M:Nat):Int)),x % M,?_,hm,M,rfl,h2,by omega,?_⟩
    · simp only [decide_eq_true (show (0:Int) < (M:Int) by omega),decide_eq_false (show ¬ (M:Int)=0 by omega),Bool.not_false,cond_true,e]
    · rw [← h3,Nat.gcd_comm x M,Nat.gcd_rec M x,Nat.gcd_comm]
theorem d123_eq (n:Nat) (h:n≤4611686018427387904):d123 (n:Int)=some (zal n):=by
  unfold d123
  rw [zar (by omega)]
  refine zew (Q:=fun r=>r=some (zal n)) (fun (M:Nat) (st:(List Int) × Int)=>∃ l:List Int,st=(l,(M:Int))∧M≤n∧l.length≤n - M∧l.length≤1000000∧l++zal M=zal n∧(l.length+(zal M).length=(zal n).length)) n ⟨[],rfl,Nat.le_refl _,by simp,by simp,rfl,by simp⟩ ?_
  rintro M st ⟨l,rfl,h1,h2,h3,h4,h5⟩
  have hln:(zal n).length≤2:=zhv (by omega)
  rcases Nat.eq_zero_or_pos M with h0 | h0
  · subst h0
    rw [zby,List.append_nil] at h4
    exact .inr ⟨l,rfl,by rw [h4]⟩
  · have hp:=zfi (n:=M) (by omega)
    have hl:=congrArg List.length hp
    rw [List.length_cons] at hl
    refine .inl ⟨(l++[((M % 4294967296:Nat):Int)],((M / 4294967296:Nat):Int)),M / 4294967296,?_,by omega,_,rfl,by omega,by simp; omega,by simp; omega,?_,by simp; omega⟩
    · simp only [decide_eq_true (show (0:Int) < (M:Int) by omega),cond_true,zcs,zcp (l:=l) (d:=((M % 4294967296:Nat):Int)) (by omega),shr32,zar (show M / 4294967296 < 18446744073709551616 by omega)]
    · rw [List.append_assoc,List.singleton_append,← hp,h4]
theorem d65_eq {a b:Nat} (ha:a≤4611686018427387904) (hb:b≤4611686018427387904) (hb0:0 < b):d65 (a:Int) (b:Int)=some (rr (frac a b)):=by
  have hg:0 < Nat.gcd a b:=Nat.gcd_pos_of_pos_right a hb0
  unfold d65
  rw [d122_eq a b ha hb,Option.bind_some,decide_eq_false (show ¬ ((Nat.gcd a b:Nat):Int)=0 by omega)]
  have h1:a / Nat.gcd a b≤a:=Nat.div_le_self _ _
  have h2:b / Nat.gcd a b≤b:=Nat.div_le_self _ _
  have wN:∀ A:Nat,A≤4611686018427387904→w (A:Int)=(A:Int):=fun A hA=>zbk (by omega) (by omega)
  have e1:w (Int.tdiv (a:Int) ((Nat.gcd a b:Nat):Int))=((a / Nat.gcd a b:Nat):Int):=by rw [tdivN,wN _ (Nat.le_trans h1 ha)]
  have e2:w (Int.tdiv (b:Int) ((Nat.gcd a b:Nat):Int))=((b / Nat.gcd a b:Nat):Int):=by rw [tdivN,wN _ (Nat.le_trans h2 hb)]
  simp only [Bool.not_false,cond_true,e1,e2,d123_eq _ (Nat.le_trans h1 ha),d123_eq _ (Nat.le_trans h2 hb),Option.bind_some]
  congr 1
  rcases Nat.eq_zero_or_pos a with h0 | h0
  · subst h0
    have:frac 0 b=0:=by unfold frac; rw [Rat.div_def]; simp
    rw [this,zpe,Nat.gcd_zero_left,Nat.zero_div,Nat.div_self hb0,zby,zfi (n:=1) (by omega)]
    simp [zby]
  · have h:=rr_make false (a:=a) (b:=b) (by omega) (by omega)
    have e:frac a b=mkRat (sgnN false a) b:=by
      unfold frac
      show _=mkRat (a:Int) b
      rw [Rat.mkRat_eq_div]
      rfl
    rw [e,h]
theorem d39_eq {a:Nat} (ha:a≤4611686018427387904):d39 (a:Int)=some (rr (a:Rat)):=by
  unfold d39
  have:=d65_eq (b:=1) ha (by omega) (by omega)
  rw [zlf] at this
  rw [show d65 (a:Int) 1=some (rr (a:Rat)) from this]; rfl
theorem d20_eq (l:List (List Int)) (hl:l.length≤281474976710656):d20 l=some (decide (∀ x∈l,x.length≤12) && decide (l.length≤16)):=by
  unfold d20
  by_cases h:∀ x∈l,x.length≤12
  · refine zaf (b:=.inl l) (fun i=>(l,(i:Int))) l.length rfl (fun i hi=>?_) ?_ ?_
    · have:=h _ (zcq (d:=[]) hi)
      simp only [dlt hi,d0le,Bool.and_self,cond_true,tn,decide_eq_false (show ¬ (12:Int) < ((l.getD i []).length:Int) by omega),cond_false,zbo (show i < 9223372036854775807 by omega)]
    · simp only [nlt (Nat.le_refl l.length),cond_false]
    · rw [decide_eq_true h,Bool.true_and]
      exact congrArg some (decide_eq_decide.2 (by omega))
  · rw [decide_eq_false h,Bool.false_and]
    refine zew (Q:=fun r=>r=some false) (fun (M:Nat) (st:(List (List Int)) × Int)=>∃ i:Nat,st=(l,(i:Int))∧i+M=l.length∧∀ j,j < i→(l.getD j []).length≤12) l.length ⟨0,rfl,by omega,fun j hj=>by omega⟩ ?_
    rintro M st ⟨i,rfl,h1,h2⟩
    rcases Nat.eq_zero_or_pos M with h0 | h0
    · exfalso
      refine h fun x hx=>?_
      obtain ⟨k,hk,rfl⟩:=List.getElem_of_mem hx
      have:=h2 k (by omega)
      rw [List.getD_eq_getElem?_getD,List.getElem?_eq_getElem hk] at this
      exact this
    · have hi:i < l.length:=by omega
      simp only [dlt hi,d0le,Bool.and_self,cond_true,tn]
      by_cases hc:12 < (l.getD i []).length
      · refine .inr ⟨.inr false,by rw [decide_eq_true (show (12:Int) < ((l.getD i []).length:Int) by omega),cond_true],rfl⟩
      · refine .inl ⟨_,M - 1,by rw [decide_eq_false (show ¬ (12:Int) < ((l.getD i []).length:Int) by omega),cond_false],by omega,i+1,by rw [zbo (by omega)],by omega,fun j hj=>?_⟩
        by_cases hji:j=i
        · rw [hji]; omega
        · exact h2 j (by omega)
theorem d72_eq {n:Nat} (hn:n≤1000):∃ l,d72 (n:Int)=some l∧l.length=n:=by
  unfold d72
  refine ⟨lst (fun i=>[wu8 (w (97+(i:Int)))]) n,?_,zaz _ _⟩
  refine zaf (fun i=>((n:Int),lst (fun i=>[wu8 (w (97+(i:Int)))]) i,(i:Int))) n rfl (fun i hi=>?_) ?_ rfl
  · simp only [dlt hi,cond_true,zcp (l:=lst (fun i=>[wu8 (w (97+(i:Int)))]) i) (d:=[wu8 (w (97+(i:Int)))]) (by rw [zaz]; omega),zbo (show i < 9223372036854775807 by omega),zhh]
  · simp only [nlt (Nat.le_refl n),cond_false]
structure ConOK (c:CT) (n:Nat) (m:Int):Prop where
  names:c.2.1.length=n
  method:c.2.2.1=m
  seats1:1≤c.2.2.2.1
  seats5:c.2.2.2.1≤5
  seat:m=1→c.2.2.2.1=1
  digits:m=2→1≤c.2.2.2.2.2.1∧c.2.2.2.2.2.1≤6
  nodigits:m ≠ 2→c.2.2.2.2.2.1=0
  ties1:1≤c.2.2.2.2.2.2.1
  ties3:c.2.2.2.2.2.2.1≤3
theorem d25_eq {n:Nat} (hn:n≤1000) {m seats digits ties:Int} (hm:WT (.int .i64) m) (hs:WT (.int .i64) seats) (hd:WT (.int .i64) digits) (ht:WT (.int .i64) ties):∃ c:CT,d25 m (n:Int) seats digits ties=some c∧ConOK c n (1+m % 3)∧c.2.2.2.1=(if 1+m % 3=1 then 1 else 1+seats % 5)∧c.2.2.2.2.2.2.1=1+ties % 3:=by
  obtain ⟨l,l1,l2⟩:=d72_eq (n:=n) hn
  unfold d25
  rw [l1,zkp hm (by omega) (by omega),zkp hs (by omega) (by omega),zkp ht (by omega) (by omega),zkp hd (by omega) (by omega)]
  simp only [Option.bind_some,zav]
  have w1:w (1+m % 3)=1+m % 3:=zbk (by omega) (by omega)
  have w2:w (1+seats % 5)=1+seats % 5:=zbk (by omega) (by omega)
  have w3:w (1+ties % 3)=1+ties % 3:=zbk (by omega) (by omega)
  have w4:w (1+digits % 6)=1+digits % 6:=zbk (by omega) (by omega)
  simp only [w1,w2,w3,w4]
  have hm3:1+m % 3=1∨1+m % 3=2∨1+m % 3=3:=by omega
  rcases hm3 with h | h | h
  · rw [h]
    exact ⟨_,rfl,⟨l2,rfl,by show (1:Int)≤1; omega,by show (1:Int)≤5; omega,fun _=>rfl,fun h=>absurd h (by omega),fun _=>rfl,by show 1≤1+ties % 3; omega,by show 1+ties % 3≤3; omega⟩,rfl,rfl⟩
  · rw [h]
    exact ⟨_,rfl,⟨l2,rfl,by show 1≤1+seats % 5; omega,by show 1+seats % 5≤5; omega,fun h=>absurd h (by omega),fun _=>by show 1≤1+digits % 6∧1+digits % 6≤6; omega,fun h=>absurd rfl h,by show 1≤1+ties % 3; omega,by show 1+ties % 3≤3; omega⟩,rfl,rfl⟩
  · rw [h]
    exact ⟨_,rfl,⟨l2,rfl,by show 1≤1+seats % 5; omega,by show 1+seats % 5≤5; omega,fun h=>absurd h (by omega),fun h=>absurd h (by omega),fun _=>rfl,by show 1≤1+ties % 3; omega,by show 1+ties % 3≤3; omega⟩,rfl,rfl⟩
theorem d27_eq {n:Nat} (hn:n≤1000) {code:Int} (hc:WT (.int .i64) code):∃ l,d27 (n:Int) code=some l∧l.length=n∧isB (n:Int) l:=by
  have hwt:∀ x:Int,WT (.int .i64) x→-9223372036854775808≤x∧x≤9223372036854775807:=fun x hx=>wt_int hx
  unfold d27
  refine zbv (Q:=fun r=>∃ l,r=some l∧l.length=n∧isB (n:Int) l) (fun (i:Nat) (st:Int × Int × (List Int) × Int)=>∃ (cd:Int) (out:List Int),st=((n:Int),cd,out,(i:Int))∧WT (.int .i64) cd∧out.length=i∧isB (i:Int) out) n ?_ ?_ ?_
  · exact ⟨code,[],rfl,hc,rfl,List.nodup_nil,fun x hx=>by simp at hx⟩
  · rintro i st hi ⟨cd,out,rfl,hcd,hlen,hb⟩
    have hcb:=hwt cd hcd
    have b:=zjw cd (n:=((i+1:Nat):Int)) (by omega)
    obtain ⟨r,hr⟩:∃ r:Nat,cd % ((i+1:Nat):Int)=(r:Int):=⟨(cd % ((i+1:Nat):Int)).toNat,by omega⟩
    have hri:r≤i:=by omega
    have c1:zcy 0 (r:Int) out.length=true:=by
      unfold zcy
      simp only [Bool.and_eq_true,decide_eq_true_eq]
      omega
    have c2:zcy (r:Int) (out.length:Int) out.length=true:=by
      unfold zcy
      simp only [Bool.and_eq_true,decide_eq_true_eq]
      omega
    have hq:-9223372036854775808≤Int.tdiv cd ((i+1:Nat):Int)∧Int.tdiv cd ((i+1:Nat):Int)≤9223372036854775807:=by
      have h1:=Int.natAbs_tdiv_le_natAbs cd ((i+1:Nat):Int)
      by_cases h0:cd=-9223372036854775808
      · subst h0
        have h2:Int.tdiv (-9223372036854775808) ((i+1:Nat):Int)=-(Int.tdiv 9223372036854775808 ((i+1:Nat):Int)):=by rw [← Int.neg_tdiv]
        have h3:0≤Int.tdiv 9223372036854775808 ((i+1:Nat):Int):=Int.tdiv_nonneg (by omega) (by omega)
        omega
      · omega
    have hne:decide (((i+1:Nat):Int)=0)=false:=decide_eq_false (by omega)
    have ht:(out.take r).length=r:=by rw [List.length_take]; omega
    have l1:decide ((([]:List Int).length:Int)+((out.take r).length:Int)≤LIM)=true:=zgv (by rw [ht]; simp; omega)
    have l2:=zcp (l:=out.take r) (d:=(i:Int)) (by omega)
    have l3:decide (((out.take r++[(i:Int)]).length:Int)+((out.drop r).length:Int)≤LIM)=true:=zgv (by simp; omega)
    simp only [dlt hi,cond_true,zbo (show i < 9223372036854775807 by omega),zkp hcd (show (0:Int) < ((i+1:Nat):Int) by omega) (by omega),hr,Option.bind_some,hne,Bool.not_false,c1,c2,List.drop_zero,tn,List.take_length,l1,l2,l3]
    refine ⟨_,rfl,_,_,rfl,?_,by simp; omega,?_,fun x hx=>?_⟩
    · rw [zbk hq.1 hq.2]
      exact zbk hq.1 hq.2
    · have hp:(out.take r++[(i:Int)]++out.drop r).Perm ((i:Int)::out):=by
        have h1:(out.take r++[(i:Int)]++out.drop r).Perm ([(i:Int)]++out.take r++out.drop r):=List.Perm.append_right _ List.perm_append_comm
        have h2:[(i:Int)]++out.take r++out.drop r=(i:Int)::out:=by rw [List.append_assoc,List.take_append_drop]; rfl
        rwa [h2] at h1
      refine hp.nodup_iff.2 (List.nodup_cons.2 ⟨fun hm=>?_,hb.1⟩)
      have:=hb.2 _ hm
      omega
    · simp only [List.mem_append,List.mem_singleton] at hx
      rcases hx with (hx | hx) | hx
      · have:=hb.2 x (List.mem_of_mem_take hx); omega
      · omega
      · have:=hb.2 x (List.mem_of_mem_drop hx); omega
  · rintro st ⟨cd,out,rfl,hcd,hlen,hb⟩
    exact ⟨out,by simp only [nlt (Nat.le_refl n),cond_false],out,rfl,hlen,hb⟩
theorem fitE_made {c:CT} {n:Nat} {m:Int} {gs:List Grp} {lots:List Int} {N:Int} (hc:ConOK c n m) (hm:1≤m) (hm3:m≤3) (h1:1≤n) (h7:n≤7) (hp:PileOK (n:Int) gs N) (hl:lots.length=n) (hb:isB (n:Int) lots):fitE m c gs lots=0:=by
  have hn:=hc.names
  have hpb:zpm (n:Int) gs=true:=by
    unfold zpm goodP
    rw [decide_eq_true hp.good,decide_eq_true (show 1≤(n:Int)∧(n:Int)≤7 by omega)]; rfl
  have hqb:permB (n:Int) lots=true:=by
    unfold permB
    rw [decide_eq_true hb,decide_eq_true (by omega)]; rfl
  have:=hc.seats1
  have:=hc.seats5
  have:=hc.ties1
  have:=hc.ties3
  unfold fitE
  rw [hn,hpb,hqb]
  simp only [decide_eq_false (show ¬ m < 1 by omega),decide_eq_false (show ¬ 3 < m by omega),decide_eq_true hc.method,decide_eq_false (show ¬ (n:Int) < 1 by omega),decide_eq_false (show ¬ 7 < (n:Int) by omega),decide_eq_false (show ¬ c.2.2.2.1 < 1 by omega),decide_eq_false (show ¬ 5 < c.2.2.2.1 by omega),decide_eq_false (show ¬ c.2.2.2.2.2.2.1 < 1 by omega),decide_eq_false (show ¬ 3 < c.2.2.2.2.2.2.1 by omega),Bool.not_true,Bool.or_false,Bool.false_or,cond_false]
  have h1:(decide (m=1) && !decide (c.2.2.2.1=1))=false:=by
    by_cases h:m=1
    · rw [decide_eq_true (hc.seat h)]; simp
    · rw [decide_eq_false h]; rfl
  have h2:(bif decide (m=2) then decide (1≤c.2.2.2.2.2.1) && decide (c.2.2.2.2.2.1≤6) else decide (c.2.2.2.2.2.1=0))=true:=by
    by_cases h:m=2
    · rw [decide_eq_true h,cond_true,decide_eq_true (hc.digits h).1,decide_eq_true (hc.digits h).2]; rfl
    · rw [decide_eq_false h,cond_false,decide_eq_true (hc.nodigits h)]
  rw [h1,h2]
  rfl
def awG:GP:={ gs:=[([0,1],6),([2],3)],n:=3,seats:=2,q:=4,tot:=9,ties:=3,lots:=[0,1,2] }
theorem aw_pile:zed [[0,1],[0,1],[0,1],[0,1],[0,1],[0,1],[2],[2],[2]]=[([0,1],6),([2],3)]:=by decide +kernel
theorem aw_count:(zee awG).map (fun r=>(r.keep,r.exh,r.el))=[([1,1,1],0,[0]),([mkRat 1 3,1,1],0,[]),([mkRat 1 3,0,1],2,[2])]:=by decide +kernel
theorem aw_gp {c:CT} (h1:c.2.1.length=3) (h2:c.2.2.2.1=2) (h3:c.2.2.2.2.2.2.1=3):gpOf c [([0,1],6),([2],3)] [0,1,2]=awG:=by
  unfold gpOf awG
  rw [h1,h2,h3]
  have e1:(wsum zak [([0,1],6),([2],3)] / (2+1)+1).toNat=4:=by decide +kernel
  have e2:(wsum (fun _=>1) [([0,1],6),([2],3)]).toNat=9:=by decide +kernel
  rw [e1,e2]
  rfl
theorem d21_eq:d21=some true:=by
  have k:∀ x:Int,-9223372036854775808≤x→x≤9223372036854775807→WT (.int .i64) x:=fun x h0 h1=>zbk h0 h1
  obtain ⟨c,c1,c2,c3,c4⟩:=d25_eq (n:=3) (by omega) (k 2 (by omega) (by omega)) (k 1 (by omega) (by omega)) (k 0 (by omega) (by omega)) (k 2 (by omega) (by omega))
  have c3':c.2.2.2.1=2:=by rw [c3]; rfl
  have c4':c.2.2.2.2.2.2.1=3:=by rw [c4]; rfl
  have hb:∀ b∈[[0,1],[0,1],[0,1],[0,1],[0,1],[0,1],[2],[2],[2]],isB 3 b:=by decide +kernel
  have h48:=d48_eq (n:=3) (by omega) (by omega) hb (by simp)
  have hp:=(zmm (n:=3) _ hb (by simp)).1
  rw [aw_pile] at h48 hp
  have hfit:fitE 3 c [([0,1],6),([2],3)] [0,1,2]=0:=fitE_made (n:=3) (m:=3) c2 (by omega) (by omega) (by omega) (by omega) hp rfl (by decide +kernel)
  have h22:=d22_eq (c:=c) (lots:=[0,1,2]) (hp.gs (by omega)) (by simp)
  rw [if_pos hfit,aw_gp c2.names c3' c4'] at h22
  unfold d21
  have c1':d25 2 3 1 0 2=some c:=c1
  rw [h48,Option.bind_some,c1',Option.bind_some,h22,Option.bind_some]
  have hL:(zee awG).length=3:=by have:=congrArg List.length aw_count; simpa using this
  obtain ⟨r0,r1,r2,hr⟩:∃ r0 r1 r2,zee awG=[r0,r1,r2]:=by
    match h:zee awG,hL with
    | [a,b,c],_=>exact ⟨a,b,c,rfl⟩
  have hc:=aw_count
  rw [hr] at hc
  simp only [List.map_cons,List.map_nil,List.cons.injEq,Prod.mk.injEq,and_true] at hc
  obtain ⟨⟨a1,a2,a3⟩,⟨b1,b2,b3⟩,⟨e1,e2,e3⟩⟩:=hc
  have hT:trT awG=(3,2,0,3,[rdT r0,rdT r1,rdT r2],[0,2]):=by
    unfold trT
    rw [hr]
    simp only [List.map_cons,List.map_nil,List.flatMap_cons,List.flatMap_nil,a3,b3,e3]
    rfl
  rw [hT,zav]
  have f38:d38 [0,2] [0,2]=some true:=by rw [d38_eq (by simp) (by simp)]; rfl
  have f65:d65 1 3=some (rr (mkRat 1 3)):=by
    have:=d65_eq (a:=1) (b:=3) (by omega) (by omega) (by omega)
    rw [show frac 1 3=mkRat 1 3 by decide +kernel] at this
    exact this
  have f39:d39 2=some (rr 2):=d39_eq (a:=2) (by omega)
  have f30:d30 9 2=some 4:=by rw [d30_eq (by omega) (by omega) (by omega) (by omega)]; rfl
  have hk:(rdT r1).2.1=[rr (mkRat 1 3),rr 1,rr 1]:=by
    show r1.keep.map rr=_
    rw [b1]; rfl
  have hx:(rdT r2).2.2.2.1=rr 2:=by
    show rr r2.exh=_
    rw [e2]
  have g1:d37 (rr (mkRat 1 3)) (rr (mkRat 1 3))=some true:=by
    rw [d37_rr (Bz.sz2 ⟨Nat.lt_of_le_of_lt (show (mkRat 1 3).num.natAbs≤1 by decide +kernel) (Nat.one_lt_two_pow (by decide)),Nat.lt_of_le_of_lt (show (mkRat 1 3).den≤2 ^ 2 by decide +kernel) (Nat.pow_lt_pow_right (by decide) (by decide))⟩),decide_eq_true rfl]
  have g2:d37 (rr 2) (rr 2)=some true:=by
    have h:=d37_rr (x:=((2:Nat):Rat)) (y:=((2:Nat):Rat)) (bz_nat (n:=2) (by decide)).sz2
    rw [decide_eq_true rfl] at h
    exact h
  simp only [f38,f65,f39,f30,List.getD_cons_succ,List.getD_cons_zero,hk,hx,g1,g2,Option.bind_some,List.length_cons,List.length_nil]
  rfl
end Go.Proofs.YtmipjomnjkmdbaaGreat
set_option linter.unusedSimpArgs false
set_option linter.unusedVariables false
namespace Go.Proofs.YtmipjomnjkmdbaaGreat
open Go Go.X
inductive Tr (P:GP):GS→List Rd→List Rd→Prop
  | fin {s:GS} {rs:List Rd}:Run P s rs→s.fin P=true→Tr P s rs [s.done P]
  | trans {s:GS} {rs rest:List Rd}:Run P s rs→s.fin P=false→s.most P=true→Tr P (s.trans P (rs.map Rd.votes)) (rs++[{ s.rd0 P with ti:=s.tiedR P }]) rest→Tr P s rs ({ s.rd0 P with ti:=s.tiedR P }::rest)
  | excl {s:GS} {rs rest:List Rd}:Run P s rs→s.fin P=false→s.most P=false→Tr P (s.excl P (rs.map Rd.votes)) (rs++[{ s.rd0 P with ti:=s.tiedR P,ex:=[s.pick P (rs.map Rd.votes)] }]) rest→Tr P s rs ({ s.rd0 P with ti:=s.tiedR P,ex:=[s.pick P (rs.map Rd.votes)] }::rest)
theorem tr_ex {P:GP} (hP:P.OK):∀ (m:Nat) {s:GS} {rs:List Rd},s.meas P < m→Run P s rs→∃ rest,Tr P s rs rest∧rs++rest=zee P
  | 0,_,_,h,_=>by omega
  | m+1,s,rs,h,hR=>by
    cases hf:s.fin P with
    | true=>exact ⟨_,.fin hR hf,hR.fin hf⟩
    | false =>
      cases hm:s.most P with
      | true =>
        have hme:=zjk hP hR.inv hf hm (rs.map Rd.votes)
        obtain ⟨rest,h1,h2⟩:=tr_ex hP m (by omega) (hR.trans hP hf hm)
        exact ⟨_,.trans hR hf hm h1,by rw [← h2,List.append_assoc]; rfl⟩
      | false =>
        have hme:=zmv hP hR.inv hf hm (rs.map Rd.votes)
        obtain ⟨rest,h1,h2⟩:=tr_ex hP m (by omega) (hR.excl hP hf hm)
        exact ⟨_,.excl hR hf hm h1,by rw [← h2,List.append_assoc]; rfl⟩
theorem gcount_tr {P:GP} (hP:P.OK):Tr P g0 [] (zee P):=by
  obtain ⟨rest,h1,h2⟩:=tr_ex hP (g0.meas P+1) (by omega) (Run.start hP)
  rw [List.nil_append] at h2
  rwa [h2] at h1
variable {P:GP} {s:GS}
def GS.act (P:GP) (s:GS):Nat:=cntN (fun i=>decide (s.st i ≠ 3)) P.n
theorem act_split (hI:GI P s):s.e1 P+s.e2 P+s.e0 P=s.act P:=by
  unfold GS.e1 GS.e2 GS.e0 GS.act cntN
  rw [← zbj,← zbj]
  refine zan fun i hi=>?_
  have h3:=hI.st3 i
  rcases zax (P:=P) (s:=s) i with ⟨h0,h1,h2,_⟩ | ⟨h0,h2⟩
  · simp [h1,h2]
  · have:s.st i=0∨s.st i=1∨s.st i=2∨s.st i=3:=by omega
    rcases this with h | h | h | h <;> simp [h,h2]
theorem el1_hop {i:Nat} (h:s.el1 P i=true):s.st i=0:=by
  unfold GS.el1 at h
  rw [Bool.and_eq_true,decide_eq_true_eq] at h
  exact h.1
theorem zot (hP:P.OK) (hI:GI P s) (hf:s.fin P=false) (hm:s.most P=true) (E:List (List Rat)):∃ x,x < P.n∧s.st1 P x=1∧s.pick P E=(x:Int)∧s.trans P E=s.move P (upd (s.st1 P) x 2) (upd s.keep x (frac (s.vt P x - s.bar P) (s.vt P x))) x (s.vt P x - s.bar P) (s.vt P x):=by
  obtain ⟨x,x1,x2,x3⟩:=zep hP hI hf E
  rw [hm,if_pos rfl] at x3
  exact ⟨x,x2,x3,x1,by unfold GS.trans; simp only [x1,Int.toNat_natCast]⟩
theorem excl_st (hP:P.OK) (hI:GI P s) (hf:s.fin P=false) (hm:s.most P=false) (E:List (List Rat)):∃ x,x < P.n∧s.st1 P x=0∧s.pick P E=(x:Int)∧s.excl P E=s.move P (upd (s.st1 P) x 3) (upd s.keep x 0) x 1 1:=by
  obtain ⟨x,x1,x2,x3⟩:=zep hP hI hf E
  rw [hm] at x3
  exact ⟨x,x2,by simpa using x3,x1,by unfold GS.excl; simp only [x1,Int.toNat_natCast]⟩
theorem next_hop {x y:Nat} (hy:y ≠ 0) {keep:Nat→Rat} {a b i:Nat} (h:(s.move P (upd (s.st1 P) x y) keep x a b).st i=0):s.st i=0∧s.el1 P i=false:=by
  have h':upd (s.st1 P) x y i=0:=h
  unfold upd at h'
  split at h'
  · omega
  · rcases zax (P:=P) (s:=s) i with ⟨h0,h1,h2,_⟩ | ⟨h0,h2⟩
    · omega
    · exact ⟨by omega,h0⟩
structure WinOK (P:GP) (s:GS) (l:List Int):Prop where
  nodup:l.Nodup
  within:∀ c∈l,∃ i:Nat,c=(i:Int)∧i < P.n∧s.st i=0
  num:l.length+cntN (fun i=>decide (s.st i=1)) P.n+cntN (fun i=>decide (s.st i=2)) P.n=min P.seats P.n
theorem zjp (p:Nat→Bool) (n:Nat):(selI p n).Nodup:=(zdk p n).imp fun h=>by omega
theorem WinOK.cons (hI:GI P s) {x y:Nat} (hx:x < P.n) (hy:(s.st1 P x=1∧y=2)∨(s.st1 P x=0∧y=3)) {keep:Nat→Rat} {a b:Nat} {l:List Int} (h:WinOK P (s.move P (upd (s.st1 P) x y) keep x a b) l):WinOK P s (selI (s.el1 P) P.n++l):=by
  refine ⟨List.nodup_append.2 ⟨zjp _ _,h.nodup,fun c hc d hd hcd=>?_⟩,fun c hc=>?_,?_⟩
  · subst hcd
    obtain ⟨i,rfl,h1,h2⟩:=zbb.1 hc
    obtain ⟨j,h3,h4,h5⟩:=h.within _ hd
    have:=(next_hop (by omega) h5).2
    rw [← Int.ofNat_inj.1 h3,h2] at this
    cases this
  · rcases List.mem_append.1 hc with hc | hc
    · obtain ⟨i,rfl,h1,h2⟩:=zbb.1 hc
      exact ⟨i,rfl,h1,el1_hop h2⟩
    · obtain ⟨j,h3,h4,h5⟩:=h.within _ hc
      exact ⟨j,h3,h4,(next_hop (by omega) h5).1⟩
  · have h1:=h.num
    have h2:=fl_next (P:=P) (s:=s) hx hy (st:=(s.move P (upd (s.st1 P) x y) keep x a b).st) rfl
    have h3:=znc hI
    rw [List.length_append,zbg]
    omega
theorem act_move {x y:Nat} (hx:x < P.n) (hy:(s.st1 P x=1∧y=2)∨(s.st1 P x=0∧y=3)) {keep:Nat→Rat} {a b:Nat}:(s.move P (upd (s.st1 P) x y) keep x a b).act P+(if y=3 then 1 else 0)=s.act P:=by
  unfold GS.act
  show cntN (fun i=>decide (upd (s.st1 P) x y i ≠ 3)) P.n+_=_
  have e:∀ i,decide (s.st1 P i ≠ 3)=decide (s.st i ≠ 3):=fun i=>by
    refine decide_eq_decide.2 ?_
    rcases zax (P:=P) (s:=s) i with ⟨h0,h1,h2,_⟩ | ⟨h0,h2⟩ <;> omega
  rcases hy with ⟨h1,rfl⟩ | ⟨h1,rfl⟩
  · rw [if_neg (by omega),Nat.add_zero]
    refine zfo fun i hi=>?_
    by_cases h:i=x
    · subst h
      rw [zbf,← e,h1]; rfl
    · rw [zcx _ _ h,e]
  · rw [if_pos rfl]
    refine (cnt_upd (p:=fun i=>decide (s.st i ≠ 3)) hx (fun i hi hne=>?_) ?_ ?_).symm
    · rw [zcx _ _ hne,e]
    · rw [zbf]; rfl
    · rw [← e,h1]; rfl
theorem fin_win (hP:P.OK) (hI:GI P s) (hf:s.fin P=true) (hact:min P.seats P.n≤s.act P):WinOK P s (s.done P).el:=by
  have hs:=act_split hI
  have hc:=znc hI
  have helec:=zhn hP hI
  have hactn:s.act P≤P.n:=zca _ _
  unfold GS.done
  show WinOK P s (if s.e1 P+s.e2 P < P.seats then selI (fun i=>s.el1 P i || decide (s.st1 P i=0)) P.n else selI (s.el1 P) P.n)
  by_cases h:s.e1 P+s.e2 P < P.seats
  · rw [if_pos h]
    have hq:s.e1 P+s.e2 P+s.e0 P≤P.seats:=by
      unfold GS.fin at hf
      rw [Bool.or_eq_true,decide_eq_true_eq,decide_eq_true_eq] at hf
      rcases hf with h1 | h1
      · have:s.e1 P+s.e2 P=P.seats:=h1
        omega
      · exact h1
    refine ⟨zjp _ _,fun c hc=>?_,?_⟩
    · obtain ⟨i,rfl,h1,h2⟩:=zbb.1 hc
      refine ⟨i,rfl,h1,?_⟩
      rcases zax (P:=P) (s:=s) i with ⟨h0,k1,k2,_⟩ | ⟨h0,k2⟩
      · exact k1
      · rw [h0,Bool.false_or,decide_eq_true_eq] at h2
        omega
    · rw [zbg]
      have e:cntN (fun i=>s.el1 P i || decide (s.st1 P i=0)) P.n=cntN (s.el1 P) P.n+s.e0 P:=by
        unfold GS.e0 cntN
        rw [← zbj]
        refine zan fun i hi=>?_
        rcases zax (P:=P) (s:=s) i with ⟨h0,k1,k2,_⟩ | ⟨h0,k2⟩
        · simp [h0,k2]
        · simp [h0]
      rw [e]
      omega
  · rw [if_neg h]
    refine ⟨zjp _ _,fun c hc=>?_,?_⟩
    · obtain ⟨i,rfl,h1,h2⟩:=zbb.1 hc
      exact ⟨i,rfl,h1,el1_hop h2⟩
    · rw [zbg]
      have:s.e1 P+s.e2 P≤P.n:=by omega
      omega
theorem win_tr (hP:P.OK) {rs rest:List Rd} (h:Tr P s rs rest):min P.seats P.n≤s.act P→WinOK P s (rest.flatMap Rd.el):=by
  induction h with
  | fin hR hf =>
    intro hact
    rw [List.flatMap_cons,List.flatMap_nil,List.append_nil]
    exact fin_win hP hR.inv hf hact
  | @trans s rs rest hR hf hm h ih =>
    intro hact
    obtain ⟨x,x1,x2,x3,x4⟩:=zot hP hR.inv hf hm (rs.map Rd.votes)
    rw [x4] at ih
    have ha:=act_move (P:=P) (s:=s) (y:=2) x1 (.inl ⟨x2,rfl⟩) (keep:=upd s.keep x (frac (s.vt P x - s.bar P) (s.vt P x))) (a:=s.vt P x - s.bar P) (b:=s.vt P x)
    rw [if_neg (by omega),Nat.add_zero] at ha
    rw [List.flatMap_cons]
    exact WinOK.cons hR.inv x1 (.inl ⟨x2,rfl⟩) (ih (by rw [ha]; exact hact))
  | @excl s rs rest hR hf hm h ih =>
    intro hact
    obtain ⟨x,x1,x2,x3,x4⟩:=excl_st hP hR.inv hf hm (rs.map Rd.votes)
    rw [x4] at ih
    have ha:=act_move (P:=P) (s:=s) (y:=3) x1 (.inr ⟨x2,rfl⟩) (keep:=upd s.keep x 0) (a:=1) (b:=1)
    rw [if_pos rfl] at ha
    have hs:=act_split hR.inv
    have hff:=fin_false hP hR.inv hf
    rw [List.flatMap_cons]
    exact WinOK.cons hR.inv x1 (.inr ⟨x2,rfl⟩) (ih (by omega))
theorem win_ok (hP:P.OK):WinOK P g0 ((zee P).flatMap Rd.el):=by
  refine win_tr hP (gcount_tr hP) ?_
  have:g0.act P=P.n:=by
    unfold GS.act cntN
    have key:∀ n,sumN (fun _=>1) n=n:=fun n=>by
      induction n with
      | zero=>rfl
      | succ n ih=>rw [sumN,ih]
    exact (zan (g:=fun _=>1) fun i _=>rfl).trans (key _)
  rw [this]
  exact Nat.min_le_right _ _
theorem win_len (hP:P.OK):((zee P).flatMap Rd.el).length=min P.seats P.n:=by
  have h:=(win_ok hP).num
  have e1:cntN (fun i=>decide (g0.st i=1)) P.n=0:=by unfold cntN; exact zcf _
  have e2:cntN (fun i=>decide (g0.st i=2)) P.n=0:=by unfold cntN; exact zcf _
  rw [e1,e2] at h
  exact h
theorem win_isB (hP:P.OK):isB (P.n:Int) ((zee P).flatMap Rd.el):=⟨(win_ok hP).nodup,fun c hc=>by
  obtain ⟨i,rfl,h,_⟩:=(win_ok hP).within c hc
  omega⟩
end Go.Proofs.YtmipjomnjkmdbaaGreat
set_option linter.unusedSimpArgs false
set_option linter.unusedVariables false
namespace Go.Proofs.YtmipjomnjkmdbaaGreat
open Go Go.X
variable {P:GP} {s:GS} {C sol:Nat→Bool} {m:Nat}
structure Coal (P:GP) (C sol:Nat→Bool) (m:Nat):Prop where
  head:∀ g,g < P.G→sol g=true→m≤(P.p g).length∧∀ j,j < m→∃ c:Nat,(P.p g).getD j 0=(c:Int)∧c < P.n∧C c=true
  all:∀ g,g < P.G→sol g=true→∀ c,c < P.n→C c=true→∃ j,j < m∧(P.p g).getD j 0=(c:Int)
def solK (P:GP) (sol:Nat→Bool):Nat:=sumN (fun g=>if sol g then P.k g else 0) P.G
def GS.solW (P:GP) (sol:Nat→Bool) (s:GS):Nat:=sumN (fun g=>if sol g then P.k g * s.num g else 0) P.G
def GS.set2 (P:GP) (C:Nat→Bool) (s:GS):Nat:=cntN (fun c=>C c && decide (s.st c=2)) P.n
def GS.hop (P:GP) (C:Nat→Bool) (s:GS):Prop:=∃ c,c < P.n∧C c=true∧s.st c=0
structure CI (P:GP) (C sol:Nat→Bool) (s:GS):Prop where
  before:∀ g,g < P.G→∀ j,j < s.at_ g→∀ c:Nat,(P.p g).getD j 0=(c:Int)→s.st c ≠ 0
  weight:s.hop P C→solK P sol * s.D≤s.solW P sol+s.bar P * s.set2 P C
theorem CI.start:CI P C sol g0:=by
  refine ⟨fun g hg j hj=>absurd hj (Nat.not_lt_zero _),fun _=>?_⟩
  have e:g0.solW P sol=solK P sol:=zan fun g hg=>by
    show (if sol g then P.k g * 1 else 0)=_
    rw [Nat.mul_one]
  rw [e]
  show solK P sol * 1≤_
  omega
theorem CI.lies (hC:Coal P C sol m) (h:CI P C sol s) (hP:P.OK) (hh:s.hop P C) {g:Nat} (hg:g < P.G) (hs:sol g=true):∃ d,d < P.n∧C d=true∧s.on P g d=true:=by
  obtain ⟨c,c1,c2,c3⟩:=hh
  obtain ⟨j,j1,j2⟩:=hC.all g hg hs c c1 c2
  have hlt:s.at_ g < m:=by
    by_cases hm:s.at_ g < m
    · exact hm
    · exact absurd c3 (h.before g hg j (by omega) c j2)
  obtain ⟨h1,h2⟩:=hC.head g hg hs
  obtain ⟨d,d1,d2,d3⟩:=h2 _ hlt
  refine ⟨d,d2,d3,?_⟩
  unfold GS.on
  rw [decide_eq_true (show s.at_ g < (P.p g).length by omega),decide_eq_true d1]; rfl
theorem solW_le (hC:Coal P C sol m) (h:CI P C sol s) (hP:P.OK) (hh:s.hop P C):s.solW P sol≤sumN (fun c=>if C c then s.lie P c else 0) P.n:=by
  have e:sumN (fun c=>if C c then s.lie P c else 0) P.n=sumN (fun g=>sumN (fun c=>if C c then (if s.on P g c then P.k g * s.num g else 0) else 0) P.n) P.G:=by
    rw [← zls (fun c g=>if C c then (if s.on P g c then P.k g * s.num g else 0) else 0)]
    refine zan fun c hc=>?_
    by_cases h:C c=true
    · rw [if_pos h]
      unfold GS.lie
      exact zan fun g hg=>by rw [if_pos h]
    · rw [if_neg h]
      exact ((zan fun g hg=>if_neg h).trans (zcf _)).symm
  rw [e]
  refine zdz fun g hg=>?_
  by_cases hs:sol g=true
  · obtain ⟨d,d1,d2,d3⟩:=h.lies hC hP hh hg hs
    rw [if_pos hs]
    have:=zlt (f:=fun c=>if C c then (if s.on P g c then P.k g * s.num g else 0) else 0) d1
    simp only [if_pos d2,if_pos d3] at this
    exact this
  · rw [if_neg hs]; exact Nat.zero_le _
theorem zpa {c:Nat} (h:s.st1 P c=0):s.st c=0:=by
  rcases zax (P:=P) (s:=s) c with ⟨_,h1,_,_⟩ | ⟨_,h2⟩ <;> omega
theorem zmn {x y:Nat} (hy:y ≠ 0) (h:CI P C sol s) {keep:Nat→Rat} {a b:Nat}:∀ g,g < P.G→∀ j,j < (s.move P (upd (s.st1 P) x y) keep x a b).at_ g→∀ c:Nat,(P.p g).getD j 0=(c:Int)→(s.move P (upd (s.st1 P) x y) keep x a b).st c ≠ 0:=by
  intro g hg j hj c hc h0
  have h0':upd (s.st1 P) x y c=0:=h0
  have hj':j < if s.on P g x then nxt (P.p g) (upd (s.st1 P) x y) (s.at_ g+1) else s.at_ g:=hj
  have hcx:c ≠ x:=fun e=>by rw [e,zbf] at h0'; exact hy h0'
  rw [zcx _ _ hcx] at h0'
  have hb:¬ j < s.at_ g:=fun hlt=>h.before g hg j hlt c hc (zpa h0')
  by_cases hon:s.on P g x=true
  · rw [if_pos hon] at hj'
    by_cases hj0:j=s.at_ g
    · subst hj0
      have:=GS.on_at hon
      omega
    · have:=zny (show s.at_ g+1≤j by omega) hj'
      rw [hc,Int.toNat_natCast,zcx _ _ hcx] at this
      exact this h0'
  · rw [if_neg hon] at hj'
    exact hb hj'
theorem move_W (hC:Coal P C sol m) (h:CI P C sol s) (hP:P.OK) (hh:s.hop P C) {st:Nat→Nat} {keep:Nat→Rat} {x a b:Nat} (hx:x < P.n) (hab:a≤b) :
    s.solW P sol * b≤(s.move P st keep x a b).solW P sol+if C x then (b - a) * s.lie P x else 0:=by
  have e:(if C x then (b - a) * s.lie P x else 0)=sumN (fun g=>if C x then (b - a) * (if s.on P g x then P.k g * s.num g else 0) else 0) P.G:=by
    by_cases hc:C x=true
    · simp only [if_pos hc]
      unfold GS.lie
      rw [Nat.mul_comm,← zhe]
      exact zan fun g _=>Nat.mul_comm _ _
    · simp only [if_neg hc,zcf]
  rw [e]
  unfold GS.solW
  rw [← zhe,← zbj]
  refine zdz fun g hg=>?_
  by_cases hs:sol g=true
  · rw [if_pos hs,if_pos hs]
    show P.k g * s.num g * b≤P.k g * (if s.on P g x then s.num g * a else s.num g * b)+_
    by_cases hon:s.on P g x=true
    · obtain ⟨d,d1,d2,d3⟩:=h.lies hC hP hh hg hs
      have hdx:=GS.on_uniq d3 hon
      subst hdx
      rw [if_pos hon,if_pos d2,if_pos hon,Nat.mul_comm (b - a),← Nat.mul_assoc,← Nat.mul_add]
      exact Nat.mul_le_mul_left _ (by omega)
    · rw [if_neg hon,← Nat.mul_assoc]; omega
  · rw [if_neg hs]; simp
theorem set2_move (hI:GI P s) {x y:Nat} (hx:x < P.n) (hy:(s.st1 P x=1∧y=2)∨(s.st1 P x=0∧y=3)) {keep:Nat→Rat} {a b:Nat} :
    (s.move P (upd (s.st1 P) x y) keep x a b).set2 P C=s.set2 P C+if y=2 then (if C x then 1 else 0) else 0:=by
  have e:∀ i,decide (s.st1 P i=2)=decide (s.st i=2):=fun i=>by
    refine decide_eq_decide.2 ?_
    rcases zax (P:=P) (s:=s) i with ⟨h0,h1,h2,_⟩ | ⟨h0,h2⟩ <;> omega
  have hx2:decide (s.st x=2)=false:=by
    rw [← e]
    exact decide_eq_false (by rcases hy with ⟨h,_⟩ | ⟨h,_⟩ <;> omega)
  unfold GS.set2
  show cntN (fun i=>C i && decide (upd (s.st1 P) x y i=2)) P.n=_
  unfold cntN
  have:=zkx (f:=fun i=>if (C i && decide (upd (s.st1 P) x y i=2))=true then 1 else 0) (g:=fun i=>if (C i && decide (s.st i=2))=true then 1 else 0) hx fun i hi hne=>by
    rw [zcx _ _ hne,e]
  simp only [zbf,hx2,Bool.and_false] at this
  rcases hy with ⟨_,rfl⟩ | ⟨_,rfl⟩
  · rw [if_pos rfl]
    cases hc:C x <;> simp [hc] at this ⊢ <;> omega
  · rw [if_neg (by omega)]
    simp at this ⊢
    omega
theorem hop_next {x y:Nat} (hy:y ≠ 0) {keep:Nat→Rat} {a b:Nat} (h:(s.move P (upd (s.st1 P) x y) keep x a b).hop P C):s.hop P C:=by
  obtain ⟨c,c1,c2,c3⟩:=h
  have h0:upd (s.st1 P) x y c=0:=c3
  by_cases hcx:c=x
  · rw [hcx,zbf] at h0; exact absurd h0 hy
  · rw [zcx _ _ hcx] at h0
    exact ⟨c,c1,c2,zpa h0⟩
theorem CI.trans (hC:Coal P C sol m) (h:CI P C sol s) (hP:P.OK) (hI:GI P s) (hf:s.fin P=false) (hm:s.most P=true) (E:List (List Rat)):CI P C sol (s.trans P E):=by
  obtain ⟨x,x1,x2,_,x4⟩:=zot hP hI hf hm E
  obtain ⟨_,k2,k3⟩:=zhu hI x1 x2
  rw [x4]
  refine ⟨zmn (by omega) h,fun hh=>?_⟩
  have hop:=hop_next (by omega) hh
  have hw:=h.weight hop
  have hW:=move_W hC h hP hop (st:=upd (s.st1 P) x 2) (keep:=upd s.keep x (frac (s.vt P x - s.bar P) (s.vt P x))) x1 (show s.vt P x - s.bar P≤s.vt P x by omega)
  rw [set2_move hI x1 (.inl ⟨x2,rfl⟩),if_pos rfl]
  have hbb:s.vt P x - (s.vt P x - s.bar P)=s.bar P:=by omega
  rw [hbb,← k2] at hW
  have hb':(s.move P (upd (s.st1 P) x 2) (upd s.keep x (frac (s.vt P x - s.bar P) (s.vt P x))) x (s.vt P x - s.bar P) (s.vt P x)).bar P=s.bar P * s.vt P x:=by
    show P.q * (s.D * s.vt P x)=P.q * s.D * s.vt P x
    rw [Nat.mul_assoc]
  rw [hb']
  show solK P sol * (s.D * s.vt P x)≤_
  have h1:=Nat.mul_le_mul_right (s.vt P x) hw
  rw [Nat.add_mul,Nat.mul_assoc] at h1
  have h2:s.bar P * s.set2 P C * s.vt P x=s.bar P * s.vt P x * s.set2 P C:=by rw [Nat.mul_assoc,Nat.mul_assoc,Nat.mul_comm (s.set2 P C)]
  rw [h2] at h1
  rw [Nat.mul_add]
  by_cases hc:C x=true
  · rw [if_pos hc] at hW ⊢
    rw [Nat.mul_one]
    omega
  · rw [if_neg hc] at hW ⊢
    rw [Nat.mul_zero]
    omega
theorem CI.excl (hC:Coal P C sol m) (h:CI P C sol s) (hP:P.OK) (hI:GI P s) (hf:s.fin P=false) (hm:s.most P=false) (E:List (List Rat)):CI P C sol (s.excl P E):=by
  obtain ⟨x,x1,x2,_,x4⟩:=excl_st hP hI hf hm E
  rw [x4]
  refine ⟨zmn (by omega) h,fun hh=>?_⟩
  have hop:=hop_next (by omega) hh
  have hw:=h.weight hop
  have hW:=move_W hC h hP hop (st:=upd (s.st1 P) x 3) (keep:=upd s.keep x 0) x1 (Nat.le_refl 1)
  rw [set2_move hI x1 (.inr ⟨x2,rfl⟩),if_neg (by omega)]
  have hb':(s.move P (upd (s.st1 P) x 3) (upd s.keep x 0) x 1 1).bar P=s.bar P:=by
    show P.q * (s.D * 1)=P.q * s.D
    rw [Nat.mul_one]
  rw [hb']
  show solK P sol * (s.D * 1)≤_
  rw [Nat.sub_self,Nat.zero_mul,Nat.mul_one] at hW
  rw [Nat.mul_one]
  rw [Nat.add_zero]
  by_cases hc:C x=true
  · rw [if_pos hc] at hW; omega
  · rw [if_neg hc] at hW; omega
end Go.Proofs.YtmipjomnjkmdbaaGreat
set_option linter.unusedSimpArgs false
set_option linter.unusedVariables false
namespace Go.Proofs.YtmipjomnjkmdbaaGreat
open Go Go.X
variable {P:GP} {s:GS} {C sol:Nat→Bool} {m:Nat}
def GS.actC (P:GP) (C:Nat→Bool) (s:GS):Nat:=cntN (fun c=>C c && decide (s.st c ≠ 3)) P.n
def wonC (P:GP) (C:Nat→Bool) (s:GS) (l:List Int):Nat:=cntN (fun c=>C c && (decide (s.st c=1) || decide (s.st c=2) || decide ((c:Int)∈l))) P.n
theorem zek {p q:Nat→Bool} {n:Nat} (h:∀ i,i < n→p i=true→q i=true):cntN p n≤cntN q n:=zdz fun i hi=>by
  by_cases hp:p i=true
  · rw [if_pos hp,if_pos (h i hi hp)]; exact Nat.le_refl _
  · rw [if_neg hp]; exact Nat.zero_le _
theorem zij (c:Nat):s.st1 P c=3↔s.st c=3:=by
  rcases zax (P:=P) (s:=s) c with ⟨_,h1,h2,_⟩ | ⟨_,h2⟩ <;> omega
theorem won_step {x y:Nat} (hy:(s.st1 P x=1∧y=2)∨(s.st1 P x=0∧y=3)) {keep:Nat→Rat} {a b:Nat} {l:List Int} :
    wonC P C (s.move P (upd (s.st1 P) x y) keep x a b) l≤wonC P C s (selI (s.el1 P) P.n++l):=by
  refine zek fun c hc h=>?_
  simp only [Bool.and_eq_true,Bool.or_eq_true,decide_eq_true_eq] at h ⊢
  obtain ⟨h1,h2⟩:=h
  refine ⟨h1,?_⟩
  have hm:∀ i,(s.move P (upd (s.st1 P) x y) keep x a b).st i=upd (s.st1 P) x y i:=fun _=>rfl
  rw [hm] at h2
  have key:s.st1 P c=1∨s.st1 P c=2→(s.st c=1∨s.st c=2)∨(c:Int)∈selI (s.el1 P) P.n++l:=fun h=>by
    rcases zax (P:=P) (s:=s) c with ⟨k0,k1,k2,_⟩ | ⟨k0,k2⟩
    · exact .inr (List.mem_append.2 (.inl (zbb.2 ⟨c,rfl,hc,k0⟩)))
    · exact .inl (by omega)
  rcases h2 with h2 | h2
  · refine key ?_
    by_cases hcx:c=x
    · subst hcx
      rw [zbf] at h2
      omega
    · rw [zcx _ _ hcx] at h2
      exact h2
  · exact .inr (List.mem_append.2 (.inr h2))
theorem actC_trans {x:Nat} (hx:s.st1 P x=1) {keep:Nat→Rat} {a b:Nat}:(s.move P (upd (s.st1 P) x 2) keep x a b).actC P C=s.actC P C:=by
  refine zfo fun c hc=>?_
  show (C c && decide (upd (s.st1 P) x 2 c ≠ 3))=(C c && decide (s.st c ≠ 3))
  congr 1
  refine decide_eq_decide.2 ?_
  have:=zij (P:=P) (s:=s) c
  by_cases hcx:c=x
  · subst hcx; rw [zbf]; omega
  · rw [zcx _ _ hcx]; omega
theorem actC_excl {x:Nat} (hx:x < P.n) (h0:s.st1 P x=0) {keep:Nat→Rat} {a b:Nat}:(s.move P (upd (s.st1 P) x 3) keep x a b).actC P C+(if C x then 1 else 0)=s.actC P C:=by
  have:=zkx (f:=fun c=>if (C c && decide (upd (s.st1 P) x 3 c ≠ 3))=true then 1 else 0) (g:=fun c=>if (C c && decide (s.st c ≠ 3))=true then 1 else 0) hx fun i hi hne=>by
    have:=zij (P:=P) (s:=s) i
    rw [zcx _ _ hne,show decide (s.st1 P i ≠ 3)=decide (s.st i ≠ 3) from decide_eq_decide.2 (by omega)]
  have h3:s.st x ≠ 3:=by have:=zij (P:=P) (s:=s) x; omega
  simp only [zbf,decide_eq_true h3,decide_eq_false (show ¬ ((3:Nat) ≠ 3) by omega),Bool.and_false,Bool.and_true] at this
  unfold GS.actC cntN
  show sumN (fun c=>if (C c && decide (upd (s.st1 P) x 3 c ≠ 3))=true then 1 else 0) P.n+_=_
  simp only [Bool.false_eq_true,if_false,Nat.add_zero] at this
  exact this
theorem excl_more (hC:Coal P C sol m) (h:CI P C sol s) (hP:P.OK) (hI:GI P s) (hm:s.most P=false) {x kk:Nat} (hx:x < P.n) (h0:s.st1 P x=0) (hcx:C x=true) (hkk:kk * P.q≤solK P sol):kk < s.actC P C∨s.actC P C < kk:=by
  rcases Nat.lt_trichotomy kk (s.actC P C) with h1 | h1 | h1
  · exact .inl h1
  · exfalso
    have hop:s.hop P C:=⟨x,hx,hcx,zpa h0⟩
    have hw:=h.weight hop
    have hW:=solW_le hC h hP hop
    have he1:cntN (fun i=>decide (s.st1 P i=1)) P.n=0:=by
      have:¬ 0 < cntN (fun i=>decide (s.st1 P i=1)) P.n:=by
        unfold GS.most at hm
        simpa using hm
      omega
    have hno:∀ c,c < P.n→s.st1 P c ≠ 1:=fun c hc e=>by
      have:0 < cntN (fun i=>decide (s.st1 P i=1)) P.n:=zqd.2 ⟨c,hc,decide_eq_true e⟩
      omega
    have hsp:s.actC P C=cntN (fun c=>C c && decide (s.st1 P c=0)) P.n+s.set2 P C:=by
      unfold GS.actC GS.set2 cntN
      rw [← zbj]
      refine zan fun c hc=>?_
      have h3:=hI.st3 c
      have hn:=hno c hc
      rcases zax (P:=P) (s:=s) c with ⟨k0,k1,k2,_⟩ | ⟨k0,k2⟩
      · exact absurd k2 hn
      · simp only [k2]
        have:s.st c=0∨s.st c=2∨s.st c=3:=by omega
        rcases this with h | h | h <;> by_cases hcc:C c=true <;> simp [h,hcc]
    have hlt:sumN (fun c=>if C c then s.lie P c else 0) P.n+cntN (fun c=>C c && decide (s.st1 P c=0)) P.n≤s.bar P * cntN (fun c=>C c && decide (s.st1 P c=0)) P.n:=by
      rw [← zia]
      unfold cntN
      rw [← zbj]
      refine zdz fun c hc=>?_
      have hn:=hno c hc
      have h3:=hI.st3 c
      show (if C c=true then s.lie P c else 0)+(if (C c && decide (s.st1 P c=0))=true then 1 else 0)≤(if (C c && decide (s.st1 P c=0))=true then s.bar P else 0)
      by_cases hcc:C c=true
      rotate_left
      · simp [hcc]
      · rw [hcc]; simp only [if_true,Bool.true_and,decide_eq_true_eq]
        rcases zax (P:=P) (s:=s) c with ⟨k0,k1,k2,_⟩ | ⟨k0,k2⟩
        · exact absurd k2 hn
        · by_cases hz:s.st1 P c=0
          · rw [if_pos hz,if_pos hz]
            have hvl:=vt_lie hI (c:=c) (by omega)
            have:¬ s.bar P≤s.vt P c:=fun hle=>by
              unfold GS.el1 at k0
              rw [decide_eq_true (show s.st c=0 by omega),decide_eq_true hle] at k0
              exact absurd k0 (by decide)
            omega
          · rw [if_neg hz,if_neg hz,zld hI (by omega)]
            exact Nat.le_refl _
    have hpos:0 < cntN (fun c=>C c && decide (s.st1 P c=0)) P.n:=zqd.2 ⟨x,hx,by rw [hcx,decide_eq_true h0]; rfl⟩
    have hk2:kk * s.bar P≤solK P sol * s.D:=by
      show kk * (P.q * s.D)≤_
      rw [← Nat.mul_assoc]
      exact Nat.mul_le_mul_right _ hkk
    rw [h1,hsp,Nat.add_mul,Nat.mul_comm _ (s.bar P),Nat.mul_comm _ (s.bar P)] at hk2
    omega
  · exact .inr h1
theorem full_due (hC:Coal P C sol m) (h:CI P C sol s) (hP:P.OK) (hI:GI P s) {kk:Nat} (hkk:kk * P.q≤solK P sol) (hop:s.hop P C) (hs:s.e1 P+s.e2 P=P.seats):kk≤cntN (fun c=>C c && (decide (s.st1 P c=1) || decide (s.st1 P c=2))) P.n:=by
  have hw:=h.weight hop
  have hW:=solW_le hC h hP hop
  have hsum:=zlm hP hI
  have hq:=hP.quota
  have hD:=hI.D0
  have hsp:cntN (fun c=>C c && (decide (s.st1 P c=1) || decide (s.st1 P c=2))) P.n+cntN (fun c=>!C c && (decide (s.st1 P c=1) || decide (s.st1 P c=2))) P.n=P.seats:=by
    rw [← hs]
    unfold GS.e1 GS.e2 cntN
    rw [← zbj,← zbj]
    refine zan fun c hc=>?_
    by_cases h1:s.st1 P c=1
    · by_cases hcc:C c=true <;> simp [h1,hcc]
    · by_cases h2:s.st1 P c=2
      · by_cases hcc:C c=true <;> simp [h2,hcc]
      · by_cases hcc:C c=true <;> simp [h1,h2,hcc]
  have hlow:sumN (fun c=>if C c then s.lie P c else 0) P.n+s.bar P * s.set2 P C+s.bar P * cntN (fun c=>!C c && (decide (s.st1 P c=1) || decide (s.st1 P c=2))) P.n≤sumN (s.vt P) P.n:=by
    unfold GS.set2
    rw [← zia,← zia,← zbj,← zbj]
    refine zdz fun c hc=>?_
    have hv:=vt_eq hI c
    show (if C c=true then s.lie P c else 0)+(if (C c && decide (s.st c=2))=true then s.bar P else 0)+(if (!C c && (decide (s.st1 P c=1) || decide (s.st1 P c=2)))=true then s.bar P else 0)≤s.vt P c
    by_cases hcc:C c=true
    rotate_left
    · have hcc:C c=false:=by simpa using hcc
      rw [hcc]
      simp only [Bool.false_eq_true,if_false,Bool.false_and,Bool.not_false,Bool.true_and,Nat.zero_add]
      by_cases h1:s.st1 P c=1
      · obtain ⟨_,_,k3⟩:=zhu hI hc h1
        rw [decide_eq_true h1,Bool.true_or,if_pos rfl]; exact k3
      · by_cases h2:s.st1 P c=2
        · have h2':s.st c=2:=by rcases zax (P:=P) (s:=s) c with ⟨_,_,k2,_⟩ | ⟨_,k2⟩ <;> omega
          rw [decide_eq_true h2,Bool.or_true,if_pos rfl]
          rw [decide_eq_true h2',if_pos rfl] at hv
          omega
        · rw [decide_eq_false h1,decide_eq_false h2]; exact Nat.zero_le _
    · rw [hcc]
      simp only [if_true,Bool.true_and,Bool.not_true,Bool.false_and,Bool.false_eq_true,if_false,Nat.add_zero]
      omega
  have hk2:kk * s.bar P≤solK P sol * s.D:=by
    show kk * (P.q * s.D)≤_
    rw [← Nat.mul_assoc]
    exact Nat.mul_le_mul_right _ hkk
  have hq2:P.mkd * s.D < s.bar P * (P.seats+1):=by
    have:=Nat.mul_lt_mul_of_pos_right hq hD
    have e:P.q * (P.seats+1) * s.D=s.bar P * (P.seats+1):=by
      show _=P.q * s.D * _
      rw [Nat.mul_assoc,Nat.mul_assoc,Nat.mul_comm (P.seats+1)]
    omega
  have hall:s.bar P * (kk+cntN (fun c=>!C c && (decide (s.st1 P c=1) || decide (s.st1 P c=2))) P.n) < s.bar P * (P.seats+1):=by
    rw [Nat.mul_add,Nat.mul_comm _ kk]
    omega
  have:=Nat.lt_of_mul_lt_mul_left hall
  omega
theorem coal_tr (hC:Coal P C sol m) (hP:P.OK) {kk:Nat} (hkk:kk * P.q≤solK P sol) {rs rest:List Rd} (h:Tr P s rs rest):CI P C sol s→kk≤s.actC P C→kk≤wonC P C s (rest.flatMap Rd.el):=by
  induction h with
  | @fin s rs hR hf =>
    intro hc ha
    have hI:=hR.inv
    have helec:=zhn hP hI
    rw [List.flatMap_cons,List.flatMap_nil,List.append_nil]
    have key:∀ l:List Int,(∀ c,c < P.n→s.el1 P c=true→(c:Int)∈l)→cntN (fun c=>C c && (decide (s.st1 P c=1) || decide (s.st1 P c=2))) P.n≤wonC P C s l:=fun l hl=>by
      refine zek fun c hc h=>?_
      simp only [Bool.and_eq_true,Bool.or_eq_true,decide_eq_true_eq] at h ⊢
      refine ⟨h.1,?_⟩
      rcases zax (P:=P) (s:=s) c with ⟨k0,k1,k2,_⟩ | ⟨k0,k2⟩
      · exact .inr (hl c hc k0)
      · exact .inl (by omega)
    show kk≤wonC P C s (if s.e1 P+s.e2 P < P.seats then selI (fun i=>s.el1 P i || decide (s.st1 P i=0)) P.n else selI (s.el1 P) P.n)
    by_cases hfl:s.e1 P+s.e2 P < P.seats
    · rw [if_pos hfl]
      refine Nat.le_trans ha (zek fun c hc h=>?_)
      simp only [Bool.and_eq_true,Bool.or_eq_true,decide_eq_true_eq] at h ⊢
      refine ⟨h.1,?_⟩
      have h3:=hI.st3 c
      rcases zax (P:=P) (s:=s) c with ⟨k0,k1,k2,_⟩ | ⟨k0,k2⟩
      · exact .inr (zbb.2 ⟨c,rfl,hc,by rw [k0]; rfl⟩)
      · by_cases hz:s.st c=0
        · exact .inr (zbb.2 ⟨c,rfl,hc,by rw [decide_eq_true (show s.st1 P c=0 by omega),Bool.or_true]⟩)
        · exact .inl (by omega)
    · rw [if_neg hfl]
      refine Nat.le_trans ?_ (key _ fun c hc h=>zbb.2 ⟨c,rfl,hc,h⟩)
      by_cases hop:∃ c,c < P.n∧C c=true∧s.st1 P c=0
      · obtain ⟨c,c1,c2,c3⟩:=hop
        exact full_due hC hc hP hI hkk ⟨c,c1,c2,zpa c3⟩ (by omega)
      · refine Nat.le_trans ha (zek fun c hc h=>?_)
        simp only [Bool.and_eq_true,Bool.or_eq_true,decide_eq_true_eq] at h ⊢
        refine ⟨h.1,?_⟩
        have h3:=hI.st3 c
        have hn0:s.st1 P c ≠ 0:=fun e=>hop ⟨c,hc,h.1,e⟩
        have:=zij (P:=P) (s:=s) c
        rcases zax (P:=P) (s:=s) c with ⟨k0,k1,k2,_⟩ | ⟨k0,k2⟩ <;> omega
  | @trans s rs rest hR hf hm h ih =>
    intro hc ha
    have hI:=hR.inv
    have hc':=hc.trans hC hP hI hf hm (rs.map Rd.votes)
    obtain ⟨x,x1,x2,_,x4⟩:=zot hP hI hf hm (rs.map Rd.votes)
    have ih:=ih hc' (by rw [x4,actC_trans x2]; exact ha)
    rw [x4] at ih
    exact Nat.le_trans ih (won_step (.inl ⟨x2,rfl⟩))
  | @excl s rs rest hR hf hm h ih =>
    intro hc ha
    have hI:=hR.inv
    have hc':=hc.excl hC hP hI hf hm (rs.map Rd.votes)
    obtain ⟨x,x1,x2,_,x4⟩:=excl_st hP hI hf hm (rs.map Rd.votes)
    have hact:kk≤(s.excl P (rs.map Rd.votes)).actC P C:=by
      rw [x4]
      have h1:=actC_excl (C:=C) x1 x2 (keep:=upd s.keep x 0) (a:=1) (b:=1)
      by_cases hcx:C x=true
      · have:=excl_more hC hc hP hI hm x1 x2 hcx hkk
        rw [if_pos hcx] at h1
        omega
      · rw [if_neg hcx] at h1
        omega
    have ih:=ih hc' hact
    rw [x4] at ih
    exact Nat.le_trans ih (won_step (.inr ⟨x2,rfl⟩))
theorem coal_won (hC:Coal P C sol m) (hP:P.OK) {kk:Nat} (hkk:kk * P.q≤solK P sol) (hk:kk≤cntN C P.n):kk≤cntN (fun c=>C c && decide ((c:Int)∈(zee P).flatMap Rd.el)) P.n:=by
  have h:=coal_tr hC hP hkk (gcount_tr hP) CI.start (by
    refine Nat.le_trans hk (zek fun c hc h=>?_)
    rw [h]; rfl)
  refine Nat.le_trans h (zek fun c hc h=>?_)
  simpa [g0] using h
end Go.Proofs.YtmipjomnjkmdbaaGreat
set_option linter.unusedSimpArgs false
set_option linter.unusedVariables false
namespace Go.Proofs.YtmipjomnjkmdbaaGreat
open Go Go.X
structure Cnt (n:Nat) (c:CT) (gs:List Grp) (lots:List Int) (N:Int):Prop where
  con:ConOK c n 3
  n1:1≤n
  n7:n≤7
  pile:PileOK (n:Int) gs N
  len:lots.length=n
  perm:isB (n:Int) lots
  fit:fitE 3 c gs lots=0
  ok:(gpOf c gs lots).OK
  cands:(gpOf c gs lots).n=n
  seats:c.2.2.2.1=((gpOf c gs lots).seats:Int)
  tot:((gpOf c gs lots).tot:Int)=N
theorem Cnt.mk' {n:Nat} {c:CT} {gs:List Grp} {lots:List Int} {N:Int} (hc:ConOK c n 3) (h1:1≤n) (h7:n≤7) (hp:PileOK (n:Int) gs N) (hl:lots.length=n) (hb:isB (n:Int) lots):Cnt n c gs lots N:=by
  have hf:=fitE_made hc (by omega) (by omega) h1 h7 hp hl hb
  obtain ⟨k1,k2,k3,k4,_,_⟩:=gpOf_ok hf
  refine ⟨hc,h1,h7,hp,hl,hb,hf,k1,hc.names,k3,?_⟩
  have h67:=hp.d67 (by omega)
  rw [h67] at k4
  have:=Option.some.inj k4
  rw [← this]; exact hp.total
theorem Cnt.d22 {n:Nat} {c:CT} {gs:List Grp} {lots:List Int} {N:Int} (h:Cnt n c gs lots N):d22 c gs lots=some (trT (gpOf c gs lots),0):=by
  have hl:=h.len
  have h7:=h.n7
  rw [d22_eq (h.pile.gs (by omega)) (by omega),if_pos h.fit]
variable {P:GP} {s:GS}
def rd0:Rd:=⟨[],[],0,0,0,[],[],[]⟩
end Go.Proofs.YtmipjomnjkmdbaaGreat
set_option linter.unusedSimpArgs false
set_option linter.unusedVariables false
namespace Go.Proofs.YtmipjomnjkmdbaaGreat
open Go Go.X
theorem d44_eq {l:List Int} (hl:l.length≤281474976710656):d44 l=some (selI (fun i=>decide ((i:Int)∈l)) 12):=by
  unfold d44
  refine zaf (fun i=>(l,selI (fun i=>decide ((i:Int)∈l)) i,(i:Int))) 12 rfl (fun i hi=>?_) (b:=selI (fun i=>decide ((i:Int)∈l)) 12) ?_ rfl
  · have hc:=zca (fun i=>decide ((i:Int)∈l)) i
    simp only [decide_eq_true (show (i:Int) < 12 by omega),cond_true,zav,d49_eq (i:Int) hl,Option.bind_some,zbo (show i < 9223372036854775807 by omega),zds]
    cases decide ((i:Int)∈l)
    · simp
    · simp only [cond_true,if_true,zcp (l:=selI (fun i=>decide ((i:Int)∈l)) i) (d:=(i:Int)) (by rw [zbg]; omega)]
  · rfl
theorem while_prp {α β γ:Type} {f:α→Option (α ⊕ β)} {k:β→Option γ} {a0:α} {b:β} {X:Option γ→Prop} (st:Nat→α) (n:Nat) (h0:st 0=a0) (hs:∀ i,i < n→f (st i)=some (.inl (st (i+1)))) (he:f (st n)=some (.inr b)) (hk:X (k b)):X ((zab f a0).bind k):=by
  rw [zaf st n h0 hs he rfl]; exact hk
theorem bif_prop {β:Type} {c:Bool} {x y:β} {Q:β→Prop} (h1:Q x) (h0:Q y):Q (bif c then x else y):=by
  cases c
  · exact h0
  · exact h1
theorem d45_ex {n:Nat} (h1:1≤n) (hn:n≤7) {bits:Int} (hb:WT (.int .i64) bits):∃ C:Nat→Bool,d45 (n:Int) bits=some (selI C n)∧0 < cntN C n:=by
  unfold d45
  refine zbv (Q:=fun r=>∃ C:Nat→Bool,r=some (selI C n)∧0 < cntN C n) (fun (i:Nat) (st:Int × Int × (List Int) × Int)=>∃ C:Nat→Bool,st=((n:Int),bits,selI C i,(i:Int))) n ⟨fun _=>false,rfl⟩ ?_ ?_
  · rintro i st hi ⟨C,rfl⟩
    have hw:wu64 (i:Int)=(i:Int):=zar (by omega)
    simp only [dlt hi,cond_true,zav,zkp hb (show (0:Int) < 128 by omega) (by omega),Option.bind_some,hw,d0le,zbo (show i < 9223372036854775807 by omega)]
    have hc:=zca C i
    have key:∀ b:Bool,selI C i++(if b=true then [(i:Int)] else [])=selI (upd C i b) (i+1):=fun b=>by
      rw [zds,zbf]
      congr 1
      exact zjq fun j hj=>(zcx _ _ (by omega)).symm
    refine bif_prop (Q:=fun z=>∃ a':Int × Int × (List Int) × Int,z=some (Sum.inl a')∧∃ C:Nat→Bool,a'=((n:Int),bits,selI C (i+1),((i+1:Nat):Int))) ?_ ?_
    · refine ⟨((n:Int),bits,selI C i++[(i:Int)],((i+1:Nat):Int)),by simp only [zcp (l:=selI C i) (d:=(i:Int)) (by rw [zbg]; omega),cond_true],upd C i true,?_⟩
      rw [← key true]; rfl
    · refine ⟨_,rfl,upd C i false,?_⟩
      rw [← key false]; simp
  · rintro st ⟨C,rfl⟩
    refine ⟨selI C n,by simp only [nlt (Nat.le_refl n),cond_false],?_⟩
    by_cases h0:cntN C n=0
    · refine ⟨fun i=>decide (i=0),?_,zqd.2 ⟨0,by omega,rfl⟩⟩
      rw [zbg,h0]
      have:∀ n,1≤n→selI (fun i=>decide (i=0)) n=[0]:=by
        intro n hn
        induction n with
        | zero=>omega
        | succ n ih =>
          rw [zds]
          by_cases h:n=0
          · subst h; rfl
          · rw [ih (by omega),decide_eq_false h]; rfl
      rw [this n h1]; rfl
    · refine ⟨C,?_,by omega⟩
      rw [zbg,decide_eq_false (by omega)]; rfl
theorem wt_small {n:Int} (hn:n≤1000) {l:List Int} (hl:l.length≤1000) (h:∀ x∈l,0≤x∧x < n):WT (.slice (.int .i64)) l:=⟨by show l.length≤281474976710656; omega,fun x hx=>by
  have:=h x hx
  exact zbk (by omega) (by omega)⟩
theorem d47_ex {n:Nat} (h1:1≤n) (hn:n≤7) {set:List Int} (hs:∀ x∈set,0≤x∧x < (n:Int)) (hsl:set.length≤7) {bs:List (List Int)} (hb:∀ b∈bs,isB (n:Int) b) (hbl:bs.length≤1000) :
    ∃ out,d47 (n:Int) set bs=some out∧out.length=bs.length∧∀ b∈out,isB (n:Int) b:=by
  unfold d47
  refine zbv (Q:=fun (r:Option (List (List Int)))=>∃ out:List (List Int),r=some out∧out.length=bs.length∧∀ b∈out,isB (n:Int) b) (fun (i:Nat) (st:Int × (List Int) × (List (List Int)) × (List (List Int)) × Int)=>∃ out:List (List Int),st=((n:Int),set,bs,out,(i:Int))∧out.length=i∧∀ b∈out,isB (n:Int) b) bs.length ⟨[],rfl,rfl,fun b hb=>by simp at hb⟩ ?_ ?_
  · rintro i st hi ⟨out,rfl,hol,hob⟩
    have hbi:=hb _ (zcq (d:=[]) hi)
    have hlen:=zjz hbi (by omega)
    obtain ⟨b,hbe⟩:∃ b,bs.getD i []=b:=⟨_,rfl⟩
    rw [hbe] at hbi hlen
    simp only [dlt hi,cond_true,zbo (show i < 9223372036854775807 by omega)]
    refine while_prp (X:=fun z=>∃ a':Int × (List Int) × (List (List Int)) × (List (List Int)) × Int,z=some (Sum.inl a')∧∃ out:List (List Int),a'=((n:Int),set,bs,out,((i+1:Nat):Int))∧out.length=i+1∧∀ b∈out,isB (n:Int) b) (fun k=>((n:Int),set,bs,out,(i:Int),(b.take k).filter (fun x=>decide (x∈set)),(k:Int))) b.length rfl (fun k hk=>?_) (b:=((n:Int),set,bs,out,(i:Int),b.filter (fun x=>decide (x∈set)))) ?_ ?_
    · have hfl:=List.length_filter_le (fun x=>decide (x∈set)) (b.take k)
      rw [List.length_take] at hfl
      rw [zci _ b hk]
      simp only [dlt hi,dlt hk,d0le,Bool.and_self,cond_true,tn,hbe,zav,d49_eq (b.getD k 0) (show set.length≤281474976710656 by omega),Option.bind_some,zbo (show k < 9223372036854775807 by omega)]
      cases decide (b.getD k 0∈set)
      · simp
      · simp only [cond_true,if_true,zcp (l:=(b.take k).filter (fun x=>decide (x∈set))) (d:=b.getD k 0) (by omega)]
    · simp only [dlt hi,d0le,Bool.and_self,cond_true,tn,hbe,nlt (Nat.le_refl b.length),cond_false,List.take_length]
    · have hfl:=List.length_filter_le (fun x=>decide (x∈set)) b
      have hw:WT (.slice (.int .i64)) ((b.filter (fun x=>decide (x∈set))++set)++b):=wt_small (n:=(n:Int)) (by omega) (by simp; omega) fun x hx=>by
        simp only [List.mem_append,List.mem_filter] at hx
        rcases hx with (hx | hx) | hx
        · exact hbi.2 x hx.1
        · exact hs x hx
        · exact hbi.2 x hx
      simp only [zgv (l:=b.filter (fun x=>decide (x∈set))) (m:=set) (by omega),cond_true,dlt hi,d0le,Bool.and_self,tn,hbe,zgv (l:=b.filter (fun x=>decide (x∈set))++set) (m:=b) (by simp; omega),d99_eq (n:=(n:Int)) (by omega) (by omega) hw,Option.bind_some]
      refine ⟨((n:Int),set,bs,out++[bal (n:Int) ((b.filter (fun x=>decide (x∈set))++set)++b)],((i+1:Nat):Int)),?_,_,rfl,by simp; omega,fun y hy=>?_⟩
      · rw [zcp (l:=out) (d:=bal (n:Int) ((b.filter (fun x=>decide (x∈set))++set)++b)) (by omega),cond_true,zbo (show i < 9223372036854775807 by omega)]
      · rcases List.mem_append.1 hy with hy | hy
        · exact hob y hy
        · rw [List.mem_singleton] at hy
          rw [hy]; exact bal_isB (by omega) _
  · rintro st ⟨out,rfl,hol,hob⟩
    exact ⟨out,by simp only [nlt (Nat.le_refl bs.length),cond_false],out,rfl,hol,hob⟩
end Go.Proofs.YtmipjomnjkmdbaaGreat
set_option linter.unusedSimpArgs false
set_option linter.unusedVariables false
namespace Go.Proofs.YtmipjomnjkmdbaaGreat
open Go Go.X
theorem wsum_sumG {n:Int} {gs:List Grp} {N:Int} (h:PileOK n gs N) (b:List Int→Bool) (f:List Int→Int) (hf:∀ p,f p=if b p then 1 else 0) (c:CT) (lots:List Int):wsum f gs=((sumN (fun g=>if b ((gpOf c gs lots).p g) then (gpOf c gs lots).k g else 0) gs.length:Nat):Int):=by
  have:=zid h b c lots gs.length (Nat.le_refl _)
  rw [List.take_length] at this
  rw [← this]
  congr 1
  funext p
  exact hf p
theorem znz {n:Int} {gs:List Grp} {N:Int} (h:PileOK n gs N) (c:CT) (lots:List Int):wsum zak gs=(((gpOf c gs lots).mkd:Nat):Int):=by
  rw [wsum_sumG h (fun p=>decide (p ≠ [])) zak (fun p=>by unfold zak; by_cases hp:p=[] <;> simp [hp]) c lots]
  congr 1
  unfold GP.mkd
  refine zan fun g hg=>?_
  by_cases hp:(gpOf c gs lots).p g=[] <;> simp [hp]
theorem quota_eq {c:CT} {gs:List Grp} {lots:List Int} {n:Int} {N:Int} (h:PileOK n gs N) (h1:1≤c.2.2.2.1):(gpOf c gs lots).q=(gpOf c gs lots).mkd / ((gpOf c gs lots).seats+1)+1:=by
  show (wsum zak gs / (c.2.2.2.1+1)+1).toNat=_ / (c.2.2.2.1.toNat+1)+1
  rw [znz h c lots]
  generalize hS:c.2.2.2.1.toNat=S
  have:c.2.2.2.1=(S:Int):=by omega
  rw [this]
  rfl
end Go.Proofs.YtmipjomnjkmdbaaGreat
set_option linter.unusedSimpArgs false
set_option linter.unusedVariables false
namespace Go.Proofs.YtmipjomnjkmdbaaGreat
open Go Go.X
def solB (set p:List Int):Bool:=decide (set.length≤p.length) && decide (selI (fun i=>decide ((i:Int)∈p.take set.length)) 12=set)
theorem solB_head {n:Nat} (hn:n≤7) {C:Nat→Bool} {p:List Int} (hp:isB (n:Int) p) (h:solB (selI C n) p=true):cntN C n≤p.length∧∀ j,j < cntN C n→∃ c:Nat,p.getD j 0=(c:Int)∧c < n∧C c=true:=by
  unfold solB at h
  rw [Bool.and_eq_true,decide_eq_true_eq,decide_eq_true_eq,zbg] at h
  obtain ⟨h1,h2⟩:=h
  refine ⟨h1,fun j hj=>?_⟩
  have hm:p.getD j 0∈p.take (cntN C n):=by
    rw [List.getD_eq_getElem?_getD,List.getElem?_eq_getElem (by omega),Option.getD_some]
    exact List.mem_take_iff_getElem.2 ⟨j,by omega,rfl⟩
  have hb:=hp.2 _ (List.mem_of_mem_take hm)
  obtain ⟨c,hc⟩:∃ c:Nat,p.getD j 0=(c:Int):=⟨(p.getD j 0).toNat,by omega⟩
  rw [hc] at hm hb ⊢
  have:(c:Int)∈selI (fun i=>decide ((i:Int)∈p.take (cntN C n))) 12:=zbb.2 ⟨c,rfl,by omega,decide_eq_true hm⟩
  rw [h2] at this
  obtain ⟨d,d1,d2,d3⟩:=zbb.1 this
  have:c=d:=by omega
  subst this
  exact ⟨c,rfl,d2,d3⟩
theorem solB_all {n:Nat} {C:Nat→Bool} {p:List Int} (h:solB (selI C n) p=true):∀ c,c < n→C c=true→∃ j,j < cntN C n∧p.getD j 0=(c:Int):=by
  intro c hc hC
  unfold solB at h
  rw [Bool.and_eq_true,decide_eq_true_eq,decide_eq_true_eq,zbg] at h
  obtain ⟨h1,h2⟩:=h
  have hm:(c:Int)∈selI C n:=zbb.2 ⟨c,rfl,hc,hC⟩
  rw [← h2] at hm
  obtain ⟨d,d1,_,d3⟩:=zbb.1 hm
  have hcd:c=d:=by omega
  subst hcd
  obtain ⟨j,hj,he⟩:=List.mem_take_iff_getElem.1 (of_decide_eq_true d3)
  refine ⟨j,by omega,?_⟩
  rw [List.getD_eq_getElem?_getD,List.getElem?_eq_getElem (by omega),Option.getD_some]
  exact he
theorem coal_of {n:Nat} (hn:n≤7) {c:CT} {gs:List Grp} {lots:List Int} {N:Int} (h:PileOK (n:Int) gs N) (hc:(gpOf c gs lots).n=n) {C:Nat→Bool}:Coal (gpOf c gs lots) C (fun g=>solB (selI C n) ((gpOf c gs lots).p g)) (cntN C n):=by
  have hb:∀ g,g < (gpOf c gs lots).G→isB (n:Int) ((gpOf c gs lots).p g):=fun g hg=>(h.ballots _ (zcq (l:=gs) (d:=([],0)) (i:=g) hg)).1
  refine ⟨fun g hg hs=>?_,fun g hg hs=>?_⟩
  · rw [hc]; exact solB_head hn (hb g hg) hs
  · rw [hc]; exact solB_all hs
theorem solK_of {n:Int} {gs:List Grp} {N:Int} (h:PileOK n gs N) (c:CT) (lots set:List Int):wsum (fun p=>if solB set p then 1 else 0) gs=((solK (gpOf c gs lots) (fun g=>solB set ((gpOf c gs lots).p g)):Nat):Int) :=
  wsum_sumG h (fun p=>solB set p) _ (fun p=>rfl) c lots
end Go.Proofs.YtmipjomnjkmdbaaGreat
set_option linter.unusedSimpArgs false
set_option linter.unusedVariables false
namespace Go.Proofs.YtmipjomnjkmdbaaGreat
open Go Go.X
theorem won_len {n:Nat} {C:Nat→Bool}:∀ {W:List Int},isB (n:Int) W→cntN (fun c=>C c && decide ((c:Int)∈W)) n=(W.filter (fun x=>decide (x∈selI C n))).length
  | [],_=>by
    have:cntN (fun c=>C c && decide ((c:Int)∈([]:List Int))) n=cntN (fun _=>false) n:=zfo fun c _=>by simp
    rw [this]
    unfold cntN
    exact zcf _
  | x::W,h=>by
    obtain ⟨h1,h2⟩:=h
    have hx:=h2 x List.mem_cons_self
    obtain ⟨i,rfl⟩:∃ i:Nat,x=(i:Int):=⟨x.toNat,by omega⟩
    have hi:i < n:=by omega
    obtain ⟨h3,h4⟩:=List.nodup_cons.1 h1
    have ih:=won_len (C:=C) (W:=W) ⟨h4,fun y hy=>h2 y (List.mem_cons_of_mem _ hy)⟩
    have hu:=zkx (f:=fun c=>if (C c && decide ((c:Int)∈((i:Int)::W)))=true then 1 else 0) (g:=fun c=>if (C c && decide ((c:Int)∈W))=true then 1 else 0) hi fun c hc hne=>by
      have:decide ((c:Int)∈(i:Int)::W)=decide ((c:Int)∈W):=decide_eq_decide.2 (by
        rw [List.mem_cons]
        exact ⟨fun h=>h.resolve_left (by omega),fun h=>.inr h⟩)
      rw [this]
    have hm:decide ((i:Int)∈selI C n)=C i:=by
      cases hc:C i
      · refine decide_eq_false fun hm=>?_
        obtain ⟨d,d1,_,d3⟩:=zbb.1 hm
        have:i=d:=by omega
        subst this
        rw [hc] at d3; exact absurd d3 (by decide)
      · exact decide_eq_true (zbb.2 ⟨i,rfl,hi,hc⟩)
    have e1:decide ((i:Int)∈(i:Int)::W)=true:=decide_eq_true List.mem_cons_self
    simp only [e1,decide_eq_false h3,Bool.and_true,Bool.and_false,Bool.false_eq_true,if_false,Nat.add_zero] at hu
    have hu2:cntN (fun c=>C c && decide ((c:Int)∈((i:Int)::W))) n=cntN (fun c=>C c && decide ((c:Int)∈W)) n+(if C i=true then 1 else 0):=hu
    rw [hu2,ih,List.filter_cons,hm]
    cases C i <;> simp
end Go.Proofs.YtmipjomnjkmdbaaGreat
set_option linter.unusedSimpArgs false
set_option linter.unusedVariables false
namespace Go.Proofs.YtmipjomnjkmdbaaGreat
open Go Go.X
theorem bsum_take (f:List Int→Int) (l:List (List Int)) {i:Nat} (h:i < l.length):bsum f (l.take (i+1))=bsum f (l.take i)+f (l.getD i []):=by
  rw [zbl l [] h,zqe]; simp [bsum]
theorem zkg {f:List Int→Int} (hf:∀ p,0≤f p∧f p≤1):∀ l:List (List Int),0≤bsum f l∧bsum f l≤(l.length:Int)
  | []=>by simp [bsum]
  | x::l=>by
    have:=zkg hf l
    have:=hf x
    simp only [bsum,List.length_cons]
    omega
def zhw (set p:List Int):Int:=if solB set p then 1 else 0
theorem isSol_01 (set p:List Int):0≤zhw set p∧zhw set p≤1:=by unfold zhw; split <;> omega
theorem isMarked_01 (p:List Int):0≤zak p∧zak p≤1:=by unfold zak; split <;> omega
set_option maxHeartbeats 1000000 in
theorem d8_true {p0 p1 p2 p3 p6:Int} {p4 p5:List (List Int)} (h0:WT (.int .i64) p0) (h1:WT (.int .i64) p1) (h2:WT (.int .i64) p2) (h3:WT (.int .i64) p3) (hl4:p4.length≤281474976710656) (hw4:∀ x∈p4,WT (.slice (.int .i64)) x) (hl5:p5.length≤281474976710656) (hw5:∀ x∈p5,WT (.slice (.int .i64)) x) (h6:WT (.int .i64) p6):d8 p0 p1 p2 p3 p4 p5 p6=some true:=by
  have k:∀ x:Int,-9223372036854775808≤x→x≤9223372036854775807→WT (.int .i64) x:=fun x h0 h1=>zbk h0 h1
  have b:=zjw p0 (n:=7) (by omega)
  obtain ⟨n,hn⟩:∃ n:Nat,1+p0 % 7=(n:Int):=⟨(1+p0 % 7).toNat,by omega⟩
  have hw1:w (1+p0 % 7)=(n:Int):=by rw [zbk (by omega) (by omega)]; exact hn
  obtain ⟨c,c1,c2,c3,c4⟩:=d25_eq (n:=n) (by omega) (k 2 (by omega) (by omega)) h1 (k 0 (by omega) (by omega)) h2
  obtain ⟨lots,l1,l2,l3⟩:=d27_eq (n:=n) (by omega) h3
  obtain ⟨C,e45,hC0⟩:=d45_ex (n:=n) (by omega) (by omega) h6
  have e4:d46 (n:Int) p4 8=some (bals (n:Int) p4 8):=d46_eq (n:=(n:Int)) (by omega) (by omega) hl4 hw4 (most:=8) (by omega)
  have e5:d46 (n:Int) p5 8=some (bals (n:Int) p5 8):=d46_eq (n:=(n:Int)) (by omega) (by omega) hl5 hw5 (most:=8) (by omega)
  have b4:=bals_isB (n:=(n:Int)) (by omega) (l:=p4) (most:=8)
  have b5:=bals_isB (n:=(n:Int)) (by omega) (l:=p5) (most:=8)
  have s4:=@bals_len (n:Int) p4 8
  have s5:=@bals_len (n:Int) p5 8
  have hcl:(selI C n).length≤7:=by rw [zbg]; have:=zca C n; omega
  obtain ⟨out,e47,ol,ob⟩:=d47_ex (n:=n) (by omega) (by omega) (set:=selI C n) (fun x hx=>by
    obtain ⟨i,rfl,hi,_⟩:=zbb.1 hx
    omega) hcl b5 (by omega)
  obtain ⟨l,hl⟩:∃ l,bals (n:Int) p4 8++out=l:=⟨_,rfl⟩
  have hll:l.length≤16:=by rw [← hl,List.length_append]; omega
  have hlb:∀ b∈l,isB (n:Int) b:=fun b hb=>by
    rw [← hl] at hb
    rcases List.mem_append.1 hb with hb | hb
    · exact b4 b hb
    · exact ob b hb
  obtain ⟨hpl,hbs⟩:=zmm (n:=(n:Int)) l hlb (by omega)
  have hCnt:=Cnt.mk' (c:=c) c2 (by omega) (by omega) hpl l2 l3
  have e48:d48 (n:Int) l=some (zed l,0):=d48_eq (n:=(n:Int)) (by omega) (by omega) hlb (by omega)
  unfold d8
  rw [zav,d20_eq p4 hl4,Option.bind_some]
  cases hf4:(decide (∀ x∈p4,x.length≤12) && decide (p4.length≤16))
  · simp only [Bool.not_false,Bool.not_true,cond_false,cond_true,d21_eq,Option.bind_some]
  simp only [Bool.not_true,Bool.not_false,cond_true]
  rw [d20_eq p5 hl5,Option.bind_some]
  cases hf5:(decide (∀ x∈p5,x.length≤12) && decide (p5.length≤16))
  · simp only [Bool.not_false,Bool.not_true,cond_false,cond_true,d21_eq,Option.bind_some]
  simp only [Bool.not_true,Bool.not_false,cond_false]
  rw [zkp h0 (by omega) (by omega),Option.bind_some,hw1,c1,Option.bind_some,e45,Option.bind_some,e4,Option.bind_some,e5,Option.bind_some,e47,Option.bind_some,zgv (by omega),cond_true,hl]
  refine zaf (fun i=>((n:Int),p3,c,selI C n,l,bsum (zhw (selI C n)) (l.take i),bsum zak (l.take i),(i:Int))) l.length rfl (fun i hi=>?_) (b:=((n:Int),p3,c,selI C n,l,bsum (zhw (selI C n)) l,bsum zak l)) ?_ ?_
  · have hbi:=hlb _ (zcq (d:=[]) hi)
    obtain ⟨bb,hbe⟩:∃ bb,l.getD i []=bb:=⟨_,rfl⟩
    rw [hbe] at hbi
    have hlen:=zjz hbi (by omega)
    have hB1:=zkg (isSol_01 (selI C n)) (l.take i)
    have hB2:=zkg isMarked_01 (l.take i)
    rw [List.length_take] at hB1 hB2
    have t1:=bsum_take (zhw (selI C n)) l hi
    have t2:=bsum_take zak l hi
    rw [hbe] at t1 t2
    have hw1:w (bsum (zhw (selI C n)) (l.take i)+1)=bsum (zhw (selI C n)) (l.take i)+1:=zbk (by omega) (by omega)
    have hw2:w (bsum zak (l.take i)+1)=bsum zak (l.take i)+1:=zbk (by omega) (by omega)
    have hmk:zak bb=if 0 < bb.length then 1 else 0:=by
      unfold zak
      cases bb <;> simp
    have h44:=d44_eq (l:=bb.take (selI C n).length) (by rw [List.length_take]; omega)
    have h38:=d38_eq (a:=selI (fun i=>decide ((i:Int)∈bb.take (selI C n).length)) 12) (b:=selI C n) (by rw [zbg]; have:=zca (fun i=>decide ((i:Int)∈bb.take (selI C n).length)) 12; omega) (by omega)
    simp only [zav,dlt hi,d0le,Bool.and_self,cond_true,tn,hbe,zbo (show i < 9223372036854775807 by omega),t1,t2,hmk]
    by_cases hle:(selI C n).length≤bb.length
    · have hcut:zcy 0 ((selI C n).length:Int) bb.length=true:=by
        unfold zcy
        simp only [Bool.and_eq_true,decide_eq_true_eq]
        omega
      have hle':decide (((selI C n).length:Int)≤(bb.length:Int))=true:=decide_eq_true (by omega)
      by_cases he:selI (fun i=>decide ((i:Int)∈bb.take (selI C n).length)) 12=selI C n
      · have hs:zhw (selI C n) bb=1:=by
          unfold zhw solB
          rw [decide_eq_true hle,decide_eq_true he]; rfl
        by_cases hm:0 < bb.length
        · simp only [decide_eq_true (show (0:Int) < (bb.length:Int) by omega),cond_true,hle',hcut,List.drop_zero,h44,Option.bind_some,h38,decide_eq_true he,hs,hw1,hw2,if_pos hm]
        · simp only [decide_eq_false (show ¬ (0:Int) < (bb.length:Int) by omega),cond_true,cond_false,hle',hcut,List.drop_zero,h44,Option.bind_some,h38,decide_eq_true he,hs,hw1,hw2,if_neg hm,Int.add_zero]
      · have hs:zhw (selI C n) bb=0:=by
          unfold zhw solB
          rw [decide_eq_false he,Bool.and_false]; rfl
        by_cases hm:0 < bb.length
        · simp only [decide_eq_true (show (0:Int) < (bb.length:Int) by omega),cond_true,cond_false,hle',hcut,List.drop_zero,h44,Option.bind_some,h38,decide_eq_false he,hs,hw1,hw2,if_pos hm,Int.add_zero]
        · simp only [decide_eq_false (show ¬ (0:Int) < (bb.length:Int) by omega),cond_true,cond_false,hle',hcut,List.drop_zero,h44,Option.bind_some,h38,decide_eq_false he,hs,hw1,hw2,if_neg hm,Int.add_zero]
    · have hle':decide (((selI C n).length:Int)≤(bb.length:Int))=false:=decide_eq_false (by omega)
      have hs:zhw (selI C n) bb=0:=by
        unfold zhw solB
        rw [decide_eq_false hle,Bool.false_and]; rfl
      by_cases hm:0 < bb.length
      · simp only [decide_eq_true (show (0:Int) < (bb.length:Int) by omega),cond_true,cond_false,hle',hs,hw1,hw2,if_pos hm,Int.add_zero]
      · simp only [decide_eq_false (show ¬ (0:Int) < (bb.length:Int) by omega),cond_true,cond_false,hle',hs,hw1,hw2,if_neg hm,Int.add_zero]
  · simp only [nlt (Nat.le_refl l.length),cond_false,List.take_length]
  simp only
  rw [e48,Option.bind_some,l1,Option.bind_some,hCnt.d22,Option.bind_some]
  have hP:=hCnt.ok
  have hPn:=hCnt.cands
  have hPs:=hCnt.seats
  have hmk:=znz hpl c lots
  have hso:bsum (zhw (selI C n)) l=((solK (gpOf c (zed l) lots) (fun g=>solB (selI C n) ((gpOf c (zed l) lots).p g)):Nat):Int):=by
    rw [← hbs]; exact solK_of hpl c lots (selI C n)
  rw [hbs] at hmk
  have hqe:=quota_eq (c:=c) (lots:=lots) hpl c2.seats1
  have hcoal:=coal_of (n:=n) (by omega) (c:=c) (lots:=lots) hpl hPn (C:=C)
  have hwon:=fun kk hkk hk=>coal_won hcoal hP (kk:=kk) hkk hk
  rw [hmk,hso]
  clear hcoal hso hmk hCnt hpl hbs
  generalize (fun g=>solB (selI C n) ((gpOf c (zed l) lots).p g))=sol at hwon ⊢
  generalize gpOf c (zed l) lots=P at *
  subst hPn
  have hn7:=hP.n7
  have hs5:=hP.seats5
  have hwl:=win_len hP
  have hwb:=win_isB hP
  have hmk5:P.mkd≤100000:=Nat.le_trans (mk_le hP) hP.tot5
  have hsk5:solK P sol≤100000:=by
    refine Nat.le_trans (Nat.le_trans (zdz (g:=P.k) fun g hg=>?_) (Nat.le_of_eq hP.total)) hP.tot5
    show (if sol g=true then P.k g else 0)≤_
    split <;> omega
  have hTw:(trT P).2.2.2.2.2=(zee P).flatMap Rd.el:=rfl
  have hcnt:=won_len (C:=C) hwb
  generalize (zee P).flatMap Rd.el=W at hwon hwl hwb hTw hcnt
  rw [zav]
  simp only [decide_true,Bool.not_true,Bool.not_false,cond_true,hTw,d32_eq (P.n:Int) (show W.length≤281474976710656 by omega),decide_eq_true hwb,Option.bind_some,cond_false]
  refine zaf (fun i=>((P.n:Int),c,selI C P.n,((solK P sol:Nat):Int),((P.mkd:Nat):Int),trT P,((((W.take i).filter (fun x=>decide (x∈selI C P.n))).length:Nat):Int),(i:Int))) W.length rfl (fun i hi=>?_) (b:=((P.n:Int),c,selI C P.n,((solK P sol:Nat):Int),((P.mkd:Nat):Int),trT P,(((W.filter (fun x=>decide (x∈selI C P.n))).length:Nat):Int))) ?_ ?_
  · have hfl:=List.length_filter_le (fun x=>decide (x∈selI C P.n)) (W.take i)
    rw [List.length_take] at hfl
    rw [zci _ W hi]
    simp only [zav,hTw,dlt hi,d0le,Bool.and_self,cond_true,tn,d49_eq (W.getD i 0) (show (selI C P.n).length≤281474976710656 by omega),Option.bind_some,zbo (show i < 9223372036854775807 by omega)]
    cases decide (W.getD i 0∈selI C P.n)
    · simp
    · simp only [cond_true,if_true,zbo (show ((W.take i).filter (fun x=>decide (x∈selI C P.n))).length < 9223372036854775807 by omega),List.length_append,List.length_cons,List.length_nil]
  · simp only [hTw,nlt (Nat.le_refl W.length),cond_false,List.take_length]
  · have hq1:=hP.q1
    have hq5:=hP.q5
    have hws:w (c.2.2.2.1+1)=((P.seats+1:Nat):Int):=by rw [hPs,zbk (by omega) (by omega)]; omega
    have hd1:Int.tdiv ((P.mkd:Nat):Int) ((P.seats+1:Nat):Int)=((P.mkd / (P.seats+1):Nat):Int):=by
      rw [Int.tdiv_eq_ediv_of_nonneg (by omega)]; rfl
    have hdl:=Nat.div_le_self P.mkd (P.seats+1)
    have hw1:w (w ((P.mkd / (P.seats+1):Nat):Int)+1)=((P.q:Nat):Int):=by
      rw [hqe]
      generalize P.mkd / (P.seats+1)=Q at hdl ⊢
      rw [zbk (n:=(Q:Int)) (by omega) (by omega),zbk (by omega) (by omega)]; omega
    have hd2:Int.tdiv ((solK P sol:Nat):Int) ((P.q:Nat):Int)=((solK P sol / P.q:Nat):Int):=by
      rw [Int.tdiv_eq_ediv_of_nonneg (by omega)]; rfl
    have hdl2:=Nat.div_le_self (solK P sol) P.q
    have hw2:w ((solK P sol / P.q:Nat):Int)=((solK P sol / P.q:Nat):Int):=by
      generalize solK P sol / P.q=Q at hdl2 ⊢
      exact zbk (by omega) (by omega)
    have hfin:=hwon (min (solK P sol / P.q) (cntN C P.n)) (Nat.le_trans (Nat.mul_le_mul_right _ (Nat.min_le_left _ _)) (Nat.div_mul_le_self _ _)) (Nat.min_le_right _ _)
    rw [hcnt] at hfin
    have hmin:(bif decide ((P.n:Int) < c.2.2.2.1) then (P.n:Int) else c.2.2.2.1)=((min P.seats P.n:Nat):Int):=by
      rw [hPs]
      by_cases h:(P.n:Int) < (P.seats:Int)
      · rw [decide_eq_true h,cond_true]; omega
      · rw [decide_eq_false h,cond_false]; omega
    have hne1:decide (((P.seats+1:Nat):Int)=0)=false:=decide_eq_false (by omega)
    have hne2:decide (((P.q:Nat):Int)=0)=false:=decide_eq_false (by omega)
    simp only [hTw,hws,hne1,Bool.not_false,cond_true,d21_eq,Option.bind_some,hmin,hwl,decide_true,hd1,hw1,hne2,hd2,hw2]
    have hres:(bif decide (((selI C P.n).length:Int) < ((solK P sol / P.q:Nat):Int)) then ((selI C P.n).length:Int) else ((solK P sol / P.q:Nat):Int))=((min (solK P sol / P.q) (cntN C P.n):Nat):Int):=by
      rw [zbg]
      by_cases h:((cntN C P.n:Nat):Int) < ((solK P sol / P.q:Nat):Int)
      · rw [decide_eq_true h,cond_true]; omega
      · rw [decide_eq_false h,cond_false]; omega
    rw [hres,decide_eq_true (by omega)]
end Go.Proofs.YtmipjomnjkmdbaaGreat
