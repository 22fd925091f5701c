/- Part 15 of what stands below the statement. -/
import Derived.Shelf.SlSortCmp.QuietGrown
import Derived.Test.YtieoleabnjdkfaaGreatQ14
set_option linter.unusedSimpArgs false
set_option linter.unusedVariables false
set_option linter.unnecessarySimpa false
namespace Go.Proofs.YtieoleabnjdkfaaGreat
open Go Go.Proofs Go.RowKit Go.X
attribute [local go_sem] Oper.semAt_some
theorem nan_ok (x:Int) (W:World):Calls Tryz.prog 103 #[.int .i64 x] W fun e w'=>e=.returned (.bool false)∧w'=W:=by
  refine (callsIn_wide (n:=0)).1 (callsIn_of_wp Tryz.func103 rfl trivial ?_ rfl)
  simp only [Tryz.ntmps103,List.size_toArray,List.length_cons,List.length_nil,Nat.reduceAdd,Nat.reduceSub,Array.replicate_succ,Array.replicate_zero,List.push_toArray,List.append_toArray,List.nil_append,List.cons_append]
  have fd:Fence.wide.depth=none:=rfl
  gi_wp2
  exact ⟨rfl,_,results_tmp (t:=2) rfl _ _ _,by simp,rfl⟩
theorem cI_ok (x y:Int) (W:World):Calls Tryz.prog 70 #[.int .i64 x,.int .i64 y] W fun e w'=>e=.returned (.int .i64 (cI x y))∧w'=W:=by
  refine (callsIn_wide (n:=0)).1 (callsIn_of_wp Tryz.func70 rfl trivial ?_ rfl)
  simp only [Tryz.ntmps70,List.size_toArray,List.length_cons,List.length_nil,Nat.reduceAdd,Nat.reduceSub,Array.replicate_succ,Array.replicate_zero,List.push_toArray,List.append_toArray,List.nil_append,List.cons_append]
  have fd:Fence.wide.depth=none:=rfl
  have f103:Fence.wide.fn 103:=trivial
  by_cases h1:x < y
  · have hc:cI x y=-1:=by unfold cI; rw [if_pos h1]
    gi_wp2_with (gi_at_call 103; refine (callsIn_wide.2 (nan_ok _ _)).mono ?_; rintro e w1 ⟨rfl,rfl⟩)
    exact ⟨rfl,_,results_tmp (t:=4) rfl _ _ _,(by first | rfl | (rw [hc]; rfl)),rfl⟩
  · by_cases h2:y < x
    · have hc:cI x y=1:=by unfold cI; rw [if_neg h1,if_pos h2]
      gi_wp2_with (gi_at_call 103; refine (callsIn_wide.2 (nan_ok _ _)).mono ?_; rintro e w1 ⟨rfl,rfl⟩)
      exact ⟨rfl,_,results_tmp (t:=4) rfl _ _ _,(by first | rfl | (rw [hc]; rfl)),rfl⟩
    · have hc:cI x y=0:=by unfold cI; rw [if_neg h1,if_neg h2]
      gi_wp2_with (gi_at_call 103; refine (callsIn_wide.2 (nan_ok _ _)).mono ?_; rintro e w1 ⟨rfl,rfl⟩)
      exact ⟨rfl,_,results_tmp (t:=4) rfl _ _ _,(by first | rfl | (rw [hc]; rfl)),rfl⟩
theorem cmpL_nil:cmpL [] []=0:=by decide
theorem cmpL_l (x:Int) (s:List Int):cmpL (x::s) []=1:=by unfold cmpL; rw [if_neg (by simp),if_pos (by simp)]
theorem cmpL_r (y:Int) (t:List Int):cmpL [] (y::t)=-1:=by unfold cmpL; rw [if_pos (by simp)]
theorem cmpL_cons (x y:Int) (s t:List Int):cmpL (x::s) (y::t)=if cI x y=0 then cmpL s t else cI x y:=by
  unfold cmpL cI
  simp only [List.cons_lt_cons_iff]
  rcases Int.lt_trichotomy x y with h | h | h
  · have h1:¬ y < x:=by omega
    simp [h]
  · subst h
    simp
  · have h1:¬ x < y:=by omega
    have h2:¬ x=y:=by omega
    simp [h,h1,h2]
def SO (W:World) (v:Value) (xs:List Int):Prop:=xs.length≤1000∧∃ A c,v=.slice A xs.length c∧∀ (i:Nat),i < xs.length→∃ b o,A=some ⟨b,o,none⟩∧W.cell? ⟨b,o+i,none⟩=some (.int .i64 (xs.getD i 0))
theorem SL.so {X:Nat→Prop} {w:World} {v:Value} {xs:List Int} (h:SL X w v xs):SO w v xs:=by
  rcases h with ⟨rfl,rfl⟩ | ⟨b,⟨h1,h2,cap,cur,rfl,h3,h4,h5⟩,_⟩
  · exact ⟨by simp,none,0,rfl,fun i hi=>by simp at hi⟩
  · exact ⟨h1,_,_,rfl,fun i hi=>⟨b,0,rfl,by have:=h5 i hi; rw [getD_get xs 0 hi]; simp [World.cell?,h4,this]⟩⟩
def FrK1 (av bv:Value) (ln i:Nat) (a:Act):Prop:=∃ (x2 x3 x4 x5 x6 x7 x8 x12 x13 x14 x15 x16 x17 x18 x19 x20 x21 x22 x23 x24 x25 x26 x27 x28 x29 x30 x31 x32 x33 x34 x35:Value),a={ tmps:=#[av,bv,x2,x3,x4,x5,x6,x7,x8,av,.int .i64 (ln:Int),.int .i64 (i:Int),x12,x13,x14,x15,x16,x17,x18,x19,x20,x21,x22,x23,x24,x25,x26,x27,x28,x29,x30,x31,x32,x33,x34,x35],defers:=[] }
theorem FrK1.mk {av bv:Value} {ln i:Nat} {x2 x3 x4 x5 x6 x7 x8 x12 x13 x14 x15 x16 x17 x18 x19 x20 x21 x22 x23 x24 x25 x26 x27 x28 x29 x30 x31 x32 x33 x34 x35:Value}:FrK1 av bv ln i { tmps:=#[av,bv,x2,x3,x4,x5,x6,x7,x8,av,.int .i64 (ln:Int),.int .i64 (i:Int),x12,x13,x14,x15,x16,x17,x18,x19,x20,x21,x22,x23,x24,x25,x26,x27,x28,x29,x30,x31,x32,x33,x34,x35],defers:=[] }:=⟨x2,x3,x4,x5,x6,x7,x8,x12,x13,x14,x15,x16,x17,x18,x19,x20,x21,x22,x23,x24,x25,x26,x27,x28,x29,x30,x31,x32,x33,x34,x35,rfl⟩
theorem FrK1.elim {av bv:Value} {ln i:Nat} {a:Act} {P:Prop} (h:FrK1 av bv ln i a) (k:∀ (x2 x3 x4 x5 x6 x7 x8 x12 x13 x14 x15 x16 x17 x18 x19 x20 x21 x22 x23 x24 x25 x26 x27 x28 x29 x30 x31 x32 x33 x34 x35:Value),a={ tmps:=#[av,bv,x2,x3,x4,x5,x6,x7,x8,av,.int .i64 (ln:Int),.int .i64 (i:Int),x12,x13,x14,x15,x16,x17,x18,x19,x20,x21,x22,x23,x24,x25,x26,x27,x28,x29,x30,x31,x32,x33,x34,x35],defers:=[] }→P):P:=by
  obtain ⟨x2,x3,x4,x5,x6,x7,x8,x12,x13,x14,x15,x16,x17,x18,x19,x20,x21,x22,x23,x24,x25,x26,x27,x28,x29,x30,x31,x32,x33,x34,x35,e⟩:=h
  exact k x2 x3 x4 x5 x6 x7 x8 x12 x13 x14 x15 x16 x17 x18 x19 x20 x21 x22 x23 x24 x25 x26 x27 x28 x29 x30 x31 x32 x33 x34 x35 e
def FrK2 (av:Value) (ln i:Nat) (a:Act):Prop:=∃ (x1 x2 x4 x5 x9 x10 x11 x12 x13 x14 x15 x16 x17:Value),a={ tmps:=#[av,x1,x2,.int .i64 0,x4,x5,av,.int .i64 (ln:Int),.int .i64 (i:Int),x9,x10,x11,x12,x13,x14,x15,x16,x17],defers:=[] }
theorem FrK2.mk {av:Value} {ln i:Nat} {x1 x2 x4 x5 x9 x10 x11 x12 x13 x14 x15 x16 x17:Value}:FrK2 av ln i { tmps:=#[av,x1,x2,.int .i64 0,x4,x5,av,.int .i64 (ln:Int),.int .i64 (i:Int),x9,x10,x11,x12,x13,x14,x15,x16,x17],defers:=[] }:=⟨x1,x2,x4,x5,x9,x10,x11,x12,x13,x14,x15,x16,x17,rfl⟩
theorem FrK2.elim {av:Value} {ln i:Nat} {a:Act} {P:Prop} (h:FrK2 av ln i a) (k:∀ (x1 x2 x4 x5 x9 x10 x11 x12 x13 x14 x15 x16 x17:Value),a={ tmps:=#[av,x1,x2,.int .i64 0,x4,x5,av,.int .i64 (ln:Int),.int .i64 (i:Int),x9,x10,x11,x12,x13,x14,x15,x16,x17],defers:=[] }→P):P:=by
  obtain ⟨x1,x2,x4,x5,x9,x10,x11,x12,x13,x14,x15,x16,x17,e⟩:=h
  exact k x1 x2 x4 x5 x9 x10 x11 x12 x13 x14 x15 x16 x17 e
set_option maxRecDepth 100000 in
set_option maxHeartbeats 4000000 in
theorem cmpL_ok {W:World} {av bv:Value} {s t:List Int} (hs:SO W av s) (ht:SO W bv t):Calls Tryz.prog 71 #[av,bv] W fun e w'=>e=.returned (.int .i64 (cmpL s t))∧w'=W:=by
  refine (callsIn_wide (n:=0)).1 (callsIn_of_wp Tryz.func71 rfl trivial ?_ rfl)
  simp only [Tryz.ntmps71,List.size_toArray,List.length_cons,List.length_nil,Nat.reduceAdd,Nat.reduceSub,Array.replicate_succ,Array.replicate_zero,List.push_toArray,List.append_toArray,List.nil_append,List.cons_append]
  have fd:Fence.wide.depth=none:=rfl
  have f70:Fence.wide.fn 70:=trivial
  have hin:∀ c:Int,0≤c→c≤1001→IntKind.i64.wrap c=c:=fun c h0 h1=>w_id (by omega) (by omega)
  obtain ⟨hl,A,ca,rfl,hA⟩:=hs
  obtain ⟨hl',A',cb,rfl,hB⟩:=ht
  gi_wp2
  refine wpIn_wide.2 (loop_inv (R:=fun m a w=>∃ i:Nat,i≤s.length∧i≤t.length∧m=s.length - i∧cmpL s t=cmpL (s.drop i) (t.drop i)∧w=W∧FrK1 (.slice A s.length ca) (.slice A' t.length cb) s.length i a) (m:=s.length) ?step1 ?init1)
  case init1=>exact ⟨0,by omega,by omega,by omega,rfl,rfl,FrK1.mk⟩
  case step1 =>
    rintro m a w ⟨i,hi,hi',rfl,hc,rfl,hfr⟩
    refine hfr.elim ?_
    intro x2 x3 x4 x5 x6 x7 x8 x12 x13 x14 x15 x16 x17 x18 x19 x20 x21 x22 x23 x24 x25 x26 x27 x28 x29 x30 x31 x32 x33 x34 x35 hfe
    subst hfe
    refine (wpIn_wide (n:=0)).1 ?_
    rcases Nat.lt_or_ge i s.length with hlt | hge
    · have hlt':(i:Int) < (s.length:Int):=by omega
      have hwi:IntKind.i64.wrap ((i:Int)+1)=((i+1:Nat):Int):=by rw [hin _ (by omega) (by omega)]; omega
      obtain ⟨b1,o1,rfl,hc1⟩:=hA i hlt
      rw [getD_get s 0 hlt] at hc1
      rcases Nat.lt_or_ge i t.length with hlt2 | hge2
      · have hlt2':(i:Int) < (t.length:Int):=by omega
        have hlt3':¬ (t.length:Int)≤(i:Int):=by omega
        obtain ⟨b2,o2,rfl,hc2⟩:=hB i hlt2
        rw [getD_get t 0 hlt2] at hc2
        rw [List.drop_eq_getElem_cons hlt,List.drop_eq_getElem_cons hlt2,cmpL_cons] at hc
        generalize s[i]=x at hc hc1
        generalize t[i]=y at hc hc2
        have c70:=cI_ok x y w
        by_cases hz:cI x y=0
        · rw [if_pos hz] at hc
          rw [hz] at c70
          gi_wp2_with (gi_at_call 70; refine (callsIn_wide.2 c70).mono ?_; rintro e w1 ⟨rfl,rfl⟩)
          exact ⟨s.length - (i+1),by omega,i+1,by omega,by omega,rfl,hc,trivial,FrK1.mk⟩
        · rw [if_neg hz] at hc
          gi_wp2_with (gi_at_call 70; refine (callsIn_wide.2 c70).mono ?_; rintro e w1 ⟨rfl,rfl⟩)
          exact ⟨rfl,_,results_tmp (t:=4) rfl _ _ _,(by first | rfl | (rw [hc]; rfl)),rfl⟩
      · obtain rfl:i=t.length:=by omega
        rw [List.drop_length,List.drop_eq_getElem_cons hlt,cmpL_l] at hc
        gi_wp2
        exact ⟨rfl,_,results_tmp (t:=4) rfl _ _ _,(by first | rfl | (rw [hc]; rfl)),rfl⟩
    · obtain rfl:i=s.length:=by omega
      have hge':¬ ((s.length:Nat):Int) < (s.length:Int):=by omega
      rw [List.drop_length] at hc
      rcases Nat.lt_or_ge s.length t.length with hlt2 | hge2
      · have hlt2':(s.length:Int) < (t.length:Int):=by omega
        rw [List.drop_eq_getElem_cons hlt2,cmpL_r] at hc
        gi_wp2
        exact ⟨rfl,_,results_tmp (t:=4) rfl _ _ _,(by first | rfl | (rw [hc]; rfl)),rfl⟩
      · have hlt2':¬ (s.length:Int) < (t.length:Int):=by omega
        rw [List.drop_eq_nil_of_le hge2,cmpL_nil] at hc
        gi_wp2
        exact ⟨rfl,_,results_tmp (t:=4) rfl _ _ _,(by first | rfl | (rw [hc]; rfl)),rfl⟩
theorem firstNZ_drop (l:List Int) {i:Nat} (hi:i < l.length):firstNZ (l.drop i)=if l.getD i 0=0 then firstNZ (l.drop (i+1)) else l.getD i 0:=by
  rw [List.drop_eq_getElem_cons hi,getD_get l 0 hi]
  show or2 l[i] (firstNZ (l.drop (i+1)))=_
  unfold or2
  by_cases h:l[i]=0 <;> simp [h]
set_option maxRecDepth 100000 in
set_option maxHeartbeats 4000000 in
theorem or_ok {W:World} {av:Value} {s:List Int} (hs:SO W av s):Calls Tryz.prog 69 #[av] W fun e w'=>e=.returned (.int .i64 (firstNZ s))∧w'=W:=by
  refine (callsIn_wide (n:=0)).1 (callsIn_of_wp Tryz.func69 rfl trivial ?_ rfl)
  simp only [Tryz.ntmps69,List.size_toArray,List.length_cons,List.length_nil,Nat.reduceAdd,Nat.reduceSub,Array.replicate_succ,Array.replicate_zero,List.push_toArray,List.append_toArray,List.nil_append,List.cons_append]
  have fd:Fence.wide.depth=none:=rfl
  have hin:∀ c:Int,0≤c→c≤1001→IntKind.i64.wrap c=c:=fun c h0 h1=>w_id (by omega) (by omega)
  obtain ⟨hl,A,ca,rfl,hA⟩:=hs
  gi_wp2
  refine wpIn_wide.2 (loop_inv (R:=fun m a w=>∃ i:Nat,i≤s.length∧m=s.length - i∧firstNZ s=firstNZ (s.drop i)∧w=W∧FrK2 (.slice A s.length ca) s.length i a) (m:=s.length) ?step1 ?init1)
  case init1=>exact ⟨0,by omega,by omega,rfl,rfl,FrK2.mk⟩
  case step1 =>
    rintro m a w ⟨i,hi,rfl,hc,rfl,hfr⟩
    refine hfr.elim ?_
    intro x1 x2 x4 x5 x9 x10 x11 x12 x13 x14 x15 x16 x17 hfe
    subst hfe
    refine (wpIn_wide (n:=0)).1 ?_
    rcases Nat.lt_or_ge i s.length with hlt | hge
    · have hlt':(i:Int) < (s.length:Int):=by omega
      have hwi:IntKind.i64.wrap ((i:Int)+1)=((i+1:Nat):Int):=by rw [hin _ (by omega) (by omega)]; omega
      obtain ⟨b1,o1,rfl,hc1⟩:=hA i hlt
      rw [firstNZ_drop s hlt] at hc
      generalize s.getD i 0=x at hc hc1
      by_cases hz:x=0
      · subst hz
        rw [if_pos rfl] at hc
        gi_wp2
        exact ⟨s.length - (i+1),by omega,i+1,by omega,rfl,hc,trivial,FrK2.mk⟩
      · rw [if_neg hz] at hc
        gi_wp2
        exact ⟨rfl,_,results_tmp (t:=2) rfl _ _ _,(by first | rfl | (rw [hc]; rfl)),rfl⟩
    · obtain rfl:i=s.length:=by omega
      have hge':¬ ((s.length:Nat):Int) < (s.length:Int):=by omega
      rw [List.drop_length] at hc
      gi_wp2
      exact ⟨rfl,_,results_tmp (t:=2) rfl _ _ _,(by first | rfl | (rw [hc]; rfl)),rfl⟩
end Go.Proofs.YtieoleabnjdkfaaGreat
set_option linter.unusedSimpArgs false
set_option linter.unusedVariables false
set_option linter.unnecessarySimpa false
namespace Go.Proofs.YtieoleabnjdkfaaGreat
open Go Go.Proofs Go.RowKit Go.X
attribute [local go_sem] Oper.semAt_some
theorem rep_no {D:Nat→Bool} {ys V:Nat→Value} {L d:Nat} {u:Value} (h:∀ k,D k=true→k < L→ys k=V k) (hu:L≤d):∀ k,D k=true→k < L→(if k=d then u else ys k)=V k:=by
  intro k hk hl
  rw [if_neg (by omega)]; exact h k hk hl
theorem SO.ext {W w:World} {v:Value} {xs:List Int} (h:SO W v xs) (he:Ext W w):SO w v xs:=by
  obtain ⟨h1,A,c,h2,h3⟩:=h
  refine ⟨h1,A,c,h2,fun i hi=>?_⟩
  obtain ⟨b,o,h4,h5⟩:=h3 i hi
  exact ⟨b,o,h4,(World.cell?_of_block (w:=W) (a:=⟨b,o+i,none⟩) (he.block b (World.block_lt_of_cell? W ⟨b,o+i,none⟩ h5))).trans h5⟩
theorem grow_alloc {W w:World} (h:∃ (q:Nat) (os:Array Obj),w=Go.Sort.grow (W.drewN q) os) (o:Obj):∃ (q:Nat) (os:Array Obj),w.alloc o=Go.Sort.grow (W.drewN q) os:=by
  obtain ⟨q,os,rfl⟩:=h
  exact ⟨q,os++#[o],by rw [Go.Sort.alloc_eq_grow,Go.Sort.grow_grow]⟩
theorem so_six {w:World} {b:Nat} {x0 x1 x2 x3 x4 x5:Int} (h:OwnB w b 3 [.int .i64 x0,.int .i64 x1,.int .i64 x2,.int .i64 x3,.int .i64 x4,.int .i64 x5]):SO w (.slice (some ⟨b,0,none⟩) 6 6) [x0,x1,x2,x3,x4,x5]:=by
  refine ⟨by simp,_,6,rfl,fun i hi=>⟨b,0,rfl,?_⟩⟩
  rw [Nat.zero_add]
  have hi':i < 6:=by simpa using hi
  have:=h.cell (i:=i) (by simpa using hi')
  rw [this]
  match i,hi' with
  | 0,_=>rfl
  | 1,_=>rfl
  | 2,_=>rfl
  | 3,_=>rfl
  | 4,_=>rfl
  | 5,_=>rfl
def FrQ1 (B:Nat) (y0 y1 y2 y3 y4 y5 y6 y7 y8 y9 y10 y11 y12 y13 y14 y15 y16 y17 y18 y19 y20 y21 y22 y23 y24 y25 y26 y27 y28 y29 y30 y31 y32 y33 y34:Value) (a:Act):Prop:=∃ (x0 x1:Value),a={ tmps:=#[x0,x1,.pointer (some ⟨B,0,none⟩),.pointer (some ⟨B+1,0,none⟩),y34,y0,y1,y2,y3,y4,y5,y6,y7,y8,y9,y10,y11,y12,y13,y14,y15,y16,y17,y18,y19,y20,y21,y22,y23,y24,y25,y26,y27,y28,y29,y30,y31,y32,y33],defers:=[] }
theorem FrQ1.mk {B:Nat} {y0 y1 y2 y3 y4 y5 y6 y7 y8 y9 y10 y11 y12 y13 y14 y15 y16 y17 y18 y19 y20 y21 y22 y23 y24 y25 y26 y27 y28 y29 y30 y31 y32 y33 y34:Value} {x0 x1:Value}:FrQ1 B y0 y1 y2 y3 y4 y5 y6 y7 y8 y9 y10 y11 y12 y13 y14 y15 y16 y17 y18 y19 y20 y21 y22 y23 y24 y25 y26 y27 y28 y29 y30 y31 y32 y33 y34 { tmps:=#[x0,x1,.pointer (some ⟨B,0,none⟩),.pointer (some ⟨B+1,0,none⟩),y34,y0,y1,y2,y3,y4,y5,y6,y7,y8,y9,y10,y11,y12,y13,y14,y15,y16,y17,y18,y19,y20,y21,y22,y23,y24,y25,y26,y27,y28,y29,y30,y31,y32,y33],defers:=[] }:=⟨x0,x1,rfl⟩
theorem FrQ1.elim {B:Nat} {y0 y1 y2 y3 y4 y5 y6 y7 y8 y9 y10 y11 y12 y13 y14 y15 y16 y17 y18 y19 y20 y21 y22 y23 y24 y25 y26 y27 y28 y29 y30 y31 y32 y33 y34:Value} {a:Act} {P:Prop} (h:FrQ1 B y0 y1 y2 y3 y4 y5 y6 y7 y8 y9 y10 y11 y12 y13 y14 y15 y16 y17 y18 y19 y20 y21 y22 y23 y24 y25 y26 y27 y28 y29 y30 y31 y32 y33 y34 a) (k:∀ (x0 x1:Value),a={ tmps:=#[x0,x1,.pointer (some ⟨B,0,none⟩),.pointer (some ⟨B+1,0,none⟩),y34,y0,y1,y2,y3,y4,y5,y6,y7,y8,y9,y10,y11,y12,y13,y14,y15,y16,y17,y18,y19,y20,y21,y22,y23,y24,y25,y26,y27,y28,y29,y30,y31,y32,y33],defers:=[] }→P):P:=by
  obtain ⟨x0,x1,e⟩:=h
  exact k x0 x1 e
set_option maxRecDepth 100000 in
set_option maxHeartbeats 8000000 in
theorem cmp_ok {W:World} {a b:Asn} {va vb:Value} (hsa:SO W va a.2.2.2.1) (hsb:SO W vb b.2.2.2.1) :
    Calls Tryz.prog 40 #[.agg #[.int .i64 a.1,.int .i64 a.2.1,.int .i64 a.2.2.1,va,.int .i64 a.2.2.2.2],.agg #[.int .i64 b.1,.int .i64 b.2.1,.int .i64 b.2.2.1,vb,.int .i64 b.2.2.2.2]] W fun e w'=>e=.returned (.int .i64 (cmpA a b))∧∃ (q:Nat) (os:Array Obj),w'=Go.Sort.grow (W.drewN q) os:=by
  refine (callsIn_wide (n:=0)).1 (callsIn_of_wp Tryz.func40 rfl trivial ?_ rfl)
  simp only [Tryz.ntmps40,List.size_toArray,List.length_cons,List.length_nil,Nat.reduceAdd,Nat.reduceSub,Array.replicate_succ,Array.replicate_zero,List.push_toArray,List.append_toArray,List.nil_append,List.cons_append]
  have fd:Fence.wide.depth=none:=rfl
  have hnz:=(cmpA_nz a b).symm
  obtain ⟨sa,al,ac,rfl,hal⟩:∃ sa al ac,va=.slice sa al ac∧a.2.2.2.1.length=al:=by obtain ⟨_,A,c,e,_⟩:=hsa; exact ⟨A,_,c,e,rfl⟩
  obtain ⟨sb,bl,bc,rfl,hbl⟩:∃ sb bl bc,vb=.slice sb bl bc∧b.2.2.2.1.length=bl:=by obtain ⟨_,A,c,e,_⟩:=hsb; exact ⟨A,_,c,e,rfl⟩
  rw [hal,hbl] at hnz
  have e1:=Ext.alloc W (.cells #[.int .i64 a.1,.int .i64 a.2.1,.int .i64 a.2.2.1,(.slice sa al ac),.int .i64 a.2.2.2.2] 49)
  have n1:=own_new W #[.int .i64 a.1,.int .i64 a.2.1,.int .i64 a.2.2.1,(.slice sa al ac),.int .i64 a.2.2.2.2] 49
  have hG0:∃ (q:Nat) (os:Array Obj),W=Go.Sort.grow (W.drewN q) os:=⟨0,#[],(Go.Sort.grow_empty W).symm⟩
  have hG1:=grow_alloc hG0 (.cells #[.int .i64 a.1,.int .i64 a.2.1,.int .i64 a.2.2.1,(.slice sa al ac),.int .i64 a.2.2.2.2] 49)
  have hz1:(W.alloc (.cells #[.int .i64 a.1,.int .i64 a.2.1,.int .i64 a.2.2.1,(.slice sa al ac),.int .i64 a.2.2.2.2] 49)).heap.size=W.heap.size+1:=by simp
  obtain ⟨w1,hw1⟩:∃ w1,W.alloc (.cells #[.int .i64 a.1,.int .i64 a.2.1,.int .i64 a.2.2.1,(.slice sa al ac),.int .i64 a.2.2.2.2] 49)=w1:=⟨_,rfl⟩
  rw [hw1] at e1 n1 hG1 hz1
  have e2:=Ext.alloc w1 (.cells #[.int .i64 b.1,.int .i64 b.2.1,.int .i64 b.2.2.1,(.slice sb bl bc),.int .i64 b.2.2.2.2] 49)
  have n2:=own_new w1 #[.int .i64 b.1,.int .i64 b.2.1,.int .i64 b.2.2.1,(.slice sb bl bc),.int .i64 b.2.2.2.2] 49
  have hG2:=grow_alloc hG1 (.cells #[.int .i64 b.1,.int .i64 b.2.1,.int .i64 b.2.2.1,(.slice sb bl bc),.int .i64 b.2.2.2.2] 49)
  obtain ⟨w2,hw2⟩:∃ w2,w1.alloc (.cells #[.int .i64 b.1,.int .i64 b.2.1,.int .i64 b.2.2.1,(.slice sb bl bc),.int .i64 b.2.2.2.2] 49)=w2:=⟨_,rfl⟩
  rw [hw2] at e2 n2 hG2
  rw [hz1] at n2
  have n1':=n1.ext e2
  have hE2:=e1.trans e2
  gi_wp2
  refine wpIn_wide.2 (region_inv mixd (J:=fun D a' w9=>Ext W w9∧(∃ (q:Nat) (os:Array Obj),w9=Go.Sort.grow (W.drewN q) os)∧OwnB w9 W.heap.size 49 (AC a (.slice sa al ac))∧OwnB w9 (W.heap.size+1) 49 (AC b (.slice sb bl bc))∧∃ ys:Nat→Value,(∀ k,D k=true→k < 32→ys k=([.pointer (some ⟨W.heap.size,0,none⟩),.int .i64 (a.1),.pointer (some ⟨W.heap.size+1,0,none⟩),.int .i64 (b.1),.int .i64 (cI a.1 b.1),.pointer (some ⟨W.heap.size,1,none⟩),.int .i64 (a.2.1),.pointer (some ⟨W.heap.size+1,1,none⟩),.int .i64 (b.2.1),.int .i64 (cI a.2.1 b.2.1),.pointer (some ⟨W.heap.size,2,none⟩),.int .i64 (a.2.2.1),.pointer (some ⟨W.heap.size+1,2,none⟩),.int .i64 (b.2.2.1),.int .i64 (cI a.2.2.1 b.2.2.1),.pointer (some ⟨W.heap.size,3,none⟩),(.slice sa al ac),.int .i64 ((al:Int)),.pointer (some ⟨W.heap.size+1,3,none⟩),(.slice sb bl bc),.int .i64 ((bl:Int)),.int .i64 (cI (al:Int) (bl:Int)),.pointer (some ⟨W.heap.size,3,none⟩),(.slice sa al ac),.pointer (some ⟨W.heap.size+1,3,none⟩),(.slice sb bl bc),.int .i64 (cmpL a.2.2.2.1 b.2.2.2.1),.pointer (some ⟨W.heap.size,4,none⟩),.int .i64 (a.2.2.2.2),.pointer (some ⟨W.heap.size+1,4,none⟩),.int .i64 (b.2.2.2.2),.int .i64 (cI a.2.2.2.2 b.2.2.2.2)]:List Value).getD k undef)∧(D 32=true→SO w9 (ys 32) [cI a.1 b.1,cI a.2.1 b.2.1,cI a.2.2.1 b.2.2.1,cI (al:Int) (bl:Int),cmpL a.2.2.2.1 b.2.2.2.1,cI a.2.2.2.2 b.2.2.2.2])∧(D 33=true→ys 33=.int .i64 (cmpA a b))∧(D 34=true→ys 34=.int .i64 (cmpA a b))∧FrQ1 W.heap.size (ys 0) (ys 1) (ys 2) (ys 3) (ys 4) (ys 5) (ys 6) (ys 7) (ys 8) (ys 9) (ys 10) (ys 11) (ys 12) (ys 13) (ys 14) (ys 15) (ys 16) (ys 17) (ys 18) (ys 19) (ys 20) (ys 21) (ys 22) (ys 23) (ys 24) (ys 25) (ys 26) (ys 27) (ys 28) (ys 29) (ys 30) (ys 31) (ys 32) (ys 33) (ys 34) a') ?hac ?st ?fin ?h0)
  case hac =>
    intro k o ho
    rcases k with _ | _ | _ | _ | _ | _ | _ | _ | _ | _ | _ | _ | _ | _ | _ | _ | _ | _ | _ | _ | _ | _ | _ | _ | _ | _ | _ | _ | _ | _ | _ | _ | _ | _ | _ | k <;> simp at ho <;> subst ho <;> simp
  case h0 =>
    refine ⟨hE2.trans (Ext.refl w2).drew,?_,n1'.ext (Ext.refl w2).drew,n2.ext (Ext.refl w2).drew,fun k=>if k=34 then .int .i64 0 else undef,(fun k h _=>by cases h),(fun h=>by cases h),(fun h=>by cases h),(fun h=>by cases h),?_⟩
    · obtain ⟨q,os,e⟩:=hG2
      exact ⟨q+1,os,by rw [e]; rfl⟩
    · exact FrQ1.mk
  case st =>
    rintro D j2 o a' w9 ho hDj hed ⟨hE,hG,q1,q2,ys,hys,h32,h33,h34,hfr⟩
    refine hfr.elim ?_
    intro x0 x1 hfe
    subst hfe
    have c0:=q1.cell (i:=0) (by simp [AC])
    have c1:=q1.cell (i:=1) (by simp [AC])
    have c2:=q1.cell (i:=2) (by simp [AC])
    have c3:=q1.cell (i:=3) (by simp [AC])
    have c4:=q1.cell (i:=4) (by simp [AC])
    have k0:=q2.cell (i:=0) (by simp [AC])
    have k1:=q2.cell (i:=1) (by simp [AC])
    have k2:=q2.cell (i:=2) (by simp [AC])
    have k3:=q2.cell (i:=3) (by simp [AC])
    have k4:=q2.cell (i:=4) (by simp [AC])
    simp [AC] at c0 c1 c2 c3 c4 k0 k1 k2 k3 k4
    rcases j2 with _ | _ | _ | _ | _ | _ | _ | _ | _ | _ | _ | _ | _ | _ | _ | _ | _ | _ | _ | _ | _ | _ | _ | _ | _ | _ | _ | _ | _ | _ | _ | _ | _ | _ | _ | j2 <;> simp at ho <;> subst ho
    · refine wpk fun K hK0=>?_
      go_simp
      exact hK0 _ _ ⟨hE,hG,q1,q2,fun k=>if k=0 then .pointer (some ⟨W.heap.size,0,none⟩) else (ys k),upd_ys (hys) rfl,(fun h=>h32 (by simpa using h)),(fun h=>h33 (by simpa using h)),(fun h=>h34 (by simpa using h)),FrQ1.mk⟩
    · have e0:ys 0=.pointer (some ⟨W.heap.size,0,none⟩):=hys 0 (hed ⟨0,.data⟩ (by simp) rfl) (by omega)
      simp only [e0]
      refine wpk fun K hK0=>?_
      go_simp
      exact hK0 _ _ ⟨hE,hG,q1,q2,fun k=>if k=1 then .int .i64 (a.1) else (if k=0 then .pointer (some ⟨W.heap.size,0,none⟩) else ys k),upd_ys (rep_ys (d:=0) (u:=.pointer (some ⟨W.heap.size,0,none⟩)) (hys) rfl) rfl,(fun h=>h32 (by simpa using h)),(fun h=>h33 (by simpa using h)),(fun h=>h34 (by simpa using h)),FrQ1.mk⟩
    · refine wpk fun K hK0=>?_
      go_simp
      exact hK0 _ _ ⟨hE,hG,q1,q2,fun k=>if k=2 then .pointer (some ⟨W.heap.size+1,0,none⟩) else (ys k),upd_ys (hys) rfl,(fun h=>h32 (by simpa using h)),(fun h=>h33 (by simpa using h)),(fun h=>h34 (by simpa using h)),FrQ1.mk⟩
    · have e2:ys 2=.pointer (some ⟨W.heap.size+1,0,none⟩):=hys 2 (hed ⟨2,.data⟩ (by simp) rfl) (by omega)
      simp only [e2]
      refine wpk fun K hK0=>?_
      go_simp
      exact hK0 _ _ ⟨hE,hG,q1,q2,fun k=>if k=3 then .int .i64 (b.1) else (if k=2 then .pointer (some ⟨W.heap.size+1,0,none⟩) else ys k),upd_ys (rep_ys (d:=2) (u:=.pointer (some ⟨W.heap.size+1,0,none⟩)) (hys) rfl) rfl,(fun h=>h32 (by simpa using h)),(fun h=>h33 (by simpa using h)),(fun h=>h34 (by simpa using h)),FrQ1.mk⟩
    · have e1:ys 1=.int .i64 (a.1):=hys 1 (hed ⟨1,.data⟩ (by simp) rfl) (by omega)
      have e3:ys 3=.int .i64 (b.1):=hys 3 (hed ⟨3,.data⟩ (by simp) rfl) (by omega)
      simp only [e1,e3]
      have cc:=cI_ok (a.1) (b.1) w9
      refine wpk fun K hK0=>?_
      go_simp
      refine cc.mono ?_
      rintro e w10 ⟨rfl,rfl⟩
      exact hK0 _ _ ⟨hE,hG,q1,q2,fun k=>if k=4 then .int .i64 (cI a.1 b.1) else (if k=3 then .int .i64 (b.1) else if k=1 then .int .i64 (a.1) else ys k),upd_ys (rep_ys (d:=3) (u:=.int .i64 (b.1)) (rep_ys (d:=1) (u:=.int .i64 (a.1)) (hys) rfl) rfl) rfl,(fun h=>h32 (by simpa using h)),(fun h=>h33 (by simpa using h)),(fun h=>h34 (by simpa using h)),FrQ1.mk⟩
    · refine wpk fun K hK0=>?_
      go_simp
      exact hK0 _ _ ⟨hE,hG,q1,q2,fun k=>if k=5 then .pointer (some ⟨W.heap.size,1,none⟩) else (ys k),upd_ys (hys) rfl,(fun h=>h32 (by simpa using h)),(fun h=>h33 (by simpa using h)),(fun h=>h34 (by simpa using h)),FrQ1.mk⟩
    · have e5:ys 5=.pointer (some ⟨W.heap.size,1,none⟩):=hys 5 (hed ⟨5,.data⟩ (by simp) rfl) (by omega)
      simp only [e5]
      refine wpk fun K hK0=>?_
      go_simp
      exact hK0 _ _ ⟨hE,hG,q1,q2,fun k=>if k=6 then .int .i64 (a.2.1) else (if k=5 then .pointer (some ⟨W.heap.size,1,none⟩) else ys k),upd_ys (rep_ys (d:=5) (u:=.pointer (some ⟨W.heap.size,1,none⟩)) (hys) rfl) rfl,(fun h=>h32 (by simpa using h)),(fun h=>h33 (by simpa using h)),(fun h=>h34 (by simpa using h)),FrQ1.mk⟩
    · refine wpk fun K hK0=>?_
      go_simp
      exact hK0 _ _ ⟨hE,hG,q1,q2,fun k=>if k=7 then .pointer (some ⟨W.heap.size+1,1,none⟩) else (ys k),upd_ys (hys) rfl,(fun h=>h32 (by simpa using h)),(fun h=>h33 (by simpa using h)),(fun h=>h34 (by simpa using h)),FrQ1.mk⟩
    · have e7:ys 7=.pointer (some ⟨W.heap.size+1,1,none⟩):=hys 7 (hed ⟨7,.data⟩ (by simp) rfl) (by omega)
      simp only [e7]
      refine wpk fun K hK0=>?_
      go_simp
      exact hK0 _ _ ⟨hE,hG,q1,q2,fun k=>if k=8 then .int .i64 (b.2.1) else (if k=7 then .pointer (some ⟨W.heap.size+1,1,none⟩) else ys k),upd_ys (rep_ys (d:=7) (u:=.pointer (some ⟨W.heap.size+1,1,none⟩)) (hys) rfl) rfl,(fun h=>h32 (by simpa using h)),(fun h=>h33 (by simpa using h)),(fun h=>h34 (by simpa using h)),FrQ1.mk⟩
    · have e6:ys 6=.int .i64 (a.2.1):=hys 6 (hed ⟨6,.data⟩ (by simp) rfl) (by omega)
      have e8:ys 8=.int .i64 (b.2.1):=hys 8 (hed ⟨8,.data⟩ (by simp) rfl) (by omega)
      simp only [e6,e8]
      have cc:=cI_ok (a.2.1) (b.2.1) w9
      refine wpk fun K hK0=>?_
      go_simp
      refine cc.mono ?_
      rintro e w10 ⟨rfl,rfl⟩
      exact hK0 _ _ ⟨hE,hG,q1,q2,fun k=>if k=9 then .int .i64 (cI a.2.1 b.2.1) else (if k=8 then .int .i64 (b.2.1) else if k=6 then .int .i64 (a.2.1) else ys k),upd_ys (rep_ys (d:=8) (u:=.int .i64 (b.2.1)) (rep_ys (d:=6) (u:=.int .i64 (a.2.1)) (hys) rfl) rfl) rfl,(fun h=>h32 (by simpa using h)),(fun h=>h33 (by simpa using h)),(fun h=>h34 (by simpa using h)),FrQ1.mk⟩
    · refine wpk fun K hK0=>?_
      go_simp
      exact hK0 _ _ ⟨hE,hG,q1,q2,fun k=>if k=10 then .pointer (some ⟨W.heap.size,2,none⟩) else (ys k),upd_ys (hys) rfl,(fun h=>h32 (by simpa using h)),(fun h=>h33 (by simpa using h)),(fun h=>h34 (by simpa using h)),FrQ1.mk⟩
    · have e10:ys 10=.pointer (some ⟨W.heap.size,2,none⟩):=hys 10 (hed ⟨10,.data⟩ (by simp) rfl) (by omega)
      simp only [e10]
      refine wpk fun K hK0=>?_
      go_simp
      exact hK0 _ _ ⟨hE,hG,q1,q2,fun k=>if k=11 then .int .i64 (a.2.2.1) else (if k=10 then .pointer (some ⟨W.heap.size,2,none⟩) else ys k),upd_ys (rep_ys (d:=10) (u:=.pointer (some ⟨W.heap.size,2,none⟩)) (hys) rfl) rfl,(fun h=>h32 (by simpa using h)),(fun h=>h33 (by simpa using h)),(fun h=>h34 (by simpa using h)),FrQ1.mk⟩
    · refine wpk fun K hK0=>?_
      go_simp
      exact hK0 _ _ ⟨hE,hG,q1,q2,fun k=>if k=12 then .pointer (some ⟨W.heap.size+1,2,none⟩) else (ys k),upd_ys (hys) rfl,(fun h=>h32 (by simpa using h)),(fun h=>h33 (by simpa using h)),(fun h=>h34 (by simpa using h)),FrQ1.mk⟩
    · have e12:ys 12=.pointer (some ⟨W.heap.size+1,2,none⟩):=hys 12 (hed ⟨12,.data⟩ (by simp) rfl) (by omega)
      simp only [e12]
      refine wpk fun K hK0=>?_
      go_simp
      exact hK0 _ _ ⟨hE,hG,q1,q2,fun k=>if k=13 then .int .i64 (b.2.2.1) else (if k=12 then .pointer (some ⟨W.heap.size+1,2,none⟩) else ys k),upd_ys (rep_ys (d:=12) (u:=.pointer (some ⟨W.heap.size+1,2,none⟩)) (hys) rfl) rfl,(fun h=>h32 (by simpa using h)),(fun h=>h33 (by simpa using h)),(fun h=>h34 (by simpa using h)),FrQ1.mk⟩
    · have e11:ys 11=.int .i64 (a.2.2.1):=hys 11 (hed ⟨11,.data⟩ (by simp) rfl) (by omega)
      have e13:ys 13=.int .i64 (b.2.2.1):=hys 13 (hed ⟨13,.data⟩ (by simp) rfl) (by omega)
      simp only [e11,e13]
      have cc:=cI_ok (a.2.2.1) (b.2.2.1) w9
      refine wpk fun K hK0=>?_
      go_simp
      refine cc.mono ?_
      rintro e w10 ⟨rfl,rfl⟩
      exact hK0 _ _ ⟨hE,hG,q1,q2,fun k=>if k=14 then .int .i64 (cI a.2.2.1 b.2.2.1) else (if k=13 then .int .i64 (b.2.2.1) else if k=11 then .int .i64 (a.2.2.1) else ys k),upd_ys (rep_ys (d:=13) (u:=.int .i64 (b.2.2.1)) (rep_ys (d:=11) (u:=.int .i64 (a.2.2.1)) (hys) rfl) rfl) rfl,(fun h=>h32 (by simpa using h)),(fun h=>h33 (by simpa using h)),(fun h=>h34 (by simpa using h)),FrQ1.mk⟩
    · refine wpk fun K hK0=>?_
      go_simp
      exact hK0 _ _ ⟨hE,hG,q1,q2,fun k=>if k=15 then .pointer (some ⟨W.heap.size,3,none⟩) else (ys k),upd_ys (hys) rfl,(fun h=>h32 (by simpa using h)),(fun h=>h33 (by simpa using h)),(fun h=>h34 (by simpa using h)),FrQ1.mk⟩
    · have e15:ys 15=.pointer (some ⟨W.heap.size,3,none⟩):=hys 15 (hed ⟨15,.data⟩ (by simp) rfl) (by omega)
      simp only [e15]
      refine wpk fun K hK0=>?_
      go_simp
      exact hK0 _ _ ⟨hE,hG,q1,q2,fun k=>if k=16 then (.slice sa al ac) else (if k=15 then .pointer (some ⟨W.heap.size,3,none⟩) else ys k),upd_ys (rep_ys (d:=15) (u:=.pointer (some ⟨W.heap.size,3,none⟩)) (hys) rfl) rfl,(fun h=>h32 (by simpa using h)),(fun h=>h33 (by simpa using h)),(fun h=>h34 (by simpa using h)),FrQ1.mk⟩
    · have e16:ys 16=(.slice sa al ac):=hys 16 (hed ⟨16,.data⟩ (by simp) rfl) (by omega)
      simp only [e16]
      refine wpk fun K hK0=>?_
      go_simp
      exact hK0 _ _ ⟨hE,hG,q1,q2,fun k=>if k=17 then .int .i64 ((al:Int)) else (if k=16 then (.slice sa al ac) else ys k),upd_ys (rep_ys (d:=16) (u:=(.slice sa al ac)) (hys) rfl) rfl,(fun h=>h32 (by simpa using h)),(fun h=>h33 (by simpa using h)),(fun h=>h34 (by simpa using h)),FrQ1.mk⟩
    · refine wpk fun K hK0=>?_
      go_simp
      exact hK0 _ _ ⟨hE,hG,q1,q2,fun k=>if k=18 then .pointer (some ⟨W.heap.size+1,3,none⟩) else (ys k),upd_ys (hys) rfl,(fun h=>h32 (by simpa using h)),(fun h=>h33 (by simpa using h)),(fun h=>h34 (by simpa using h)),FrQ1.mk⟩
    · have e18:ys 18=.pointer (some ⟨W.heap.size+1,3,none⟩):=hys 18 (hed ⟨18,.data⟩ (by simp) rfl) (by omega)
      simp only [e18]
      refine wpk fun K hK0=>?_
      go_simp
      exact hK0 _ _ ⟨hE,hG,q1,q2,fun k=>if k=19 then (.slice sb bl bc) else (if k=18 then .pointer (some ⟨W.heap.size+1,3,none⟩) else ys k),upd_ys (rep_ys (d:=18) (u:=.pointer (some ⟨W.heap.size+1,3,none⟩)) (hys) rfl) rfl,(fun h=>h32 (by simpa using h)),(fun h=>h33 (by simpa using h)),(fun h=>h34 (by simpa using h)),FrQ1.mk⟩
    · have e19:ys 19=(.slice sb bl bc):=hys 19 (hed ⟨19,.data⟩ (by simp) rfl) (by omega)
      simp only [e19]
      refine wpk fun K hK0=>?_
      go_simp
      exact hK0 _ _ ⟨hE,hG,q1,q2,fun k=>if k=20 then .int .i64 ((bl:Int)) else (if k=19 then (.slice sb bl bc) else ys k),upd_ys (rep_ys (d:=19) (u:=(.slice sb bl bc)) (hys) rfl) rfl,(fun h=>h32 (by simpa using h)),(fun h=>h33 (by simpa using h)),(fun h=>h34 (by simpa using h)),FrQ1.mk⟩
    · have e17:ys 17=.int .i64 ((al:Int)):=hys 17 (hed ⟨17,.data⟩ (by simp) rfl) (by omega)
      have e20:ys 20=.int .i64 ((bl:Int)):=hys 20 (hed ⟨20,.data⟩ (by simp) rfl) (by omega)
      simp only [e17,e20]
      have cc:=cI_ok ((al:Int)) ((bl:Int)) w9
      refine wpk fun K hK0=>?_
      go_simp
      refine cc.mono ?_
      rintro e w10 ⟨rfl,rfl⟩
      exact hK0 _ _ ⟨hE,hG,q1,q2,fun k=>if k=21 then .int .i64 (cI (al:Int) (bl:Int)) else (if k=20 then .int .i64 ((bl:Int)) else if k=17 then .int .i64 ((al:Int)) else ys k),upd_ys (rep_ys (d:=20) (u:=.int .i64 ((bl:Int))) (rep_ys (d:=17) (u:=.int .i64 ((al:Int))) (hys) rfl) rfl) rfl,(fun h=>h32 (by simpa using h)),(fun h=>h33 (by simpa using h)),(fun h=>h34 (by simpa using h)),FrQ1.mk⟩
    · refine wpk fun K hK0=>?_
      go_simp
      exact hK0 _ _ ⟨hE,hG,q1,q2,fun k=>if k=22 then .pointer (some ⟨W.heap.size,3,none⟩) else (ys k),upd_ys (hys) rfl,(fun h=>h32 (by simpa using h)),(fun h=>h33 (by simpa using h)),(fun h=>h34 (by simpa using h)),FrQ1.mk⟩
    · have e22:ys 22=.pointer (some ⟨W.heap.size,3,none⟩):=hys 22 (hed ⟨22,.data⟩ (by simp) rfl) (by omega)
      simp only [e22]
      refine wpk fun K hK0=>?_
      go_simp
      exact hK0 _ _ ⟨hE,hG,q1,q2,fun k=>if k=23 then (.slice sa al ac) else (if k=22 then .pointer (some ⟨W.heap.size,3,none⟩) else ys k),upd_ys (rep_ys (d:=22) (u:=.pointer (some ⟨W.heap.size,3,none⟩)) (hys) rfl) rfl,(fun h=>h32 (by simpa using h)),(fun h=>h33 (by simpa using h)),(fun h=>h34 (by simpa using h)),FrQ1.mk⟩
    · refine wpk fun K hK0=>?_
      go_simp
      exact hK0 _ _ ⟨hE,hG,q1,q2,fun k=>if k=24 then .pointer (some ⟨W.heap.size+1,3,none⟩) else (ys k),upd_ys (hys) rfl,(fun h=>h32 (by simpa using h)),(fun h=>h33 (by simpa using h)),(fun h=>h34 (by simpa using h)),FrQ1.mk⟩
    · have e24:ys 24=.pointer (some ⟨W.heap.size+1,3,none⟩):=hys 24 (hed ⟨24,.data⟩ (by simp) rfl) (by omega)
      simp only [e24]
      refine wpk fun K hK0=>?_
      go_simp
      exact hK0 _ _ ⟨hE,hG,q1,q2,fun k=>if k=25 then (.slice sb bl bc) else (if k=24 then .pointer (some ⟨W.heap.size+1,3,none⟩) else ys k),upd_ys (rep_ys (d:=24) (u:=.pointer (some ⟨W.heap.size+1,3,none⟩)) (hys) rfl) rfl,(fun h=>h32 (by simpa using h)),(fun h=>h33 (by simpa using h)),(fun h=>h34 (by simpa using h)),FrQ1.mk⟩
    · have e23:ys 23=(.slice sa al ac):=hys 23 (hed ⟨23,.data⟩ (by simp) rfl) (by omega)
      have e25:ys 25=(.slice sb bl bc):=hys 25 (hed ⟨25,.data⟩ (by simp) rfl) (by omega)
      simp only [e23,e25]
      have cc:=cmpL_ok (hsa.ext hE) (hsb.ext hE)
      refine wpk fun K hK0=>?_
      go_simp
      refine cc.mono ?_
      rintro e w10 ⟨rfl,rfl⟩
      exact hK0 _ _ ⟨hE,hG,q1,q2,fun k=>if k=26 then .int .i64 (cmpL a.2.2.2.1 b.2.2.2.1) else (if k=25 then (.slice sb bl bc) else if k=23 then (.slice sa al ac) else ys k),upd_ys (rep_ys (d:=25) (u:=(.slice sb bl bc)) (rep_ys (d:=23) (u:=(.slice sa al ac)) (hys) rfl) rfl) rfl,(fun h=>h32 (by simpa using h)),(fun h=>h33 (by simpa using h)),(fun h=>h34 (by simpa using h)),FrQ1.mk⟩
    · refine wpk fun K hK0=>?_
      go_simp
      exact hK0 _ _ ⟨hE,hG,q1,q2,fun k=>if k=27 then .pointer (some ⟨W.heap.size,4,none⟩) else (ys k),upd_ys (hys) rfl,(fun h=>h32 (by simpa using h)),(fun h=>h33 (by simpa using h)),(fun h=>h34 (by simpa using h)),FrQ1.mk⟩
    · have e27:ys 27=.pointer (some ⟨W.heap.size,4,none⟩):=hys 27 (hed ⟨27,.data⟩ (by simp) rfl) (by omega)
      simp only [e27]
      refine wpk fun K hK0=>?_
      go_simp
      exact hK0 _ _ ⟨hE,hG,q1,q2,fun k=>if k=28 then .int .i64 (a.2.2.2.2) else (if k=27 then .pointer (some ⟨W.heap.size,4,none⟩) else ys k),upd_ys (rep_ys (d:=27) (u:=.pointer (some ⟨W.heap.size,4,none⟩)) (hys) rfl) rfl,(fun h=>h32 (by simpa using h)),(fun h=>h33 (by simpa using h)),(fun h=>h34 (by simpa using h)),FrQ1.mk⟩
    · refine wpk fun K hK0=>?_
      go_simp
      exact hK0 _ _ ⟨hE,hG,q1,q2,fun k=>if k=29 then .pointer (some ⟨W.heap.size+1,4,none⟩) else (ys k),upd_ys (hys) rfl,(fun h=>h32 (by simpa using h)),(fun h=>h33 (by simpa using h)),(fun h=>h34 (by simpa using h)),FrQ1.mk⟩
    · have e29:ys 29=.pointer (some ⟨W.heap.size+1,4,none⟩):=hys 29 (hed ⟨29,.data⟩ (by simp) rfl) (by omega)
      simp only [e29]
      refine wpk fun K hK0=>?_
      go_simp
      exact hK0 _ _ ⟨hE,hG,q1,q2,fun k=>if k=30 then .int .i64 (b.2.2.2.2) else (if k=29 then .pointer (some ⟨W.heap.size+1,4,none⟩) else ys k),upd_ys (rep_ys (d:=29) (u:=.pointer (some ⟨W.heap.size+1,4,none⟩)) (hys) rfl) rfl,(fun h=>h32 (by simpa using h)),(fun h=>h33 (by simpa using h)),(fun h=>h34 (by simpa using h)),FrQ1.mk⟩
    · have e28:ys 28=.int .i64 (a.2.2.2.2):=hys 28 (hed ⟨28,.data⟩ (by simp) rfl) (by omega)
      have e30:ys 30=.int .i64 (b.2.2.2.2):=hys 30 (hed ⟨30,.data⟩ (by simp) rfl) (by omega)
      simp only [e28,e30]
      have cc:=cI_ok (a.2.2.2.2) (b.2.2.2.2) w9
      refine wpk fun K hK0=>?_
      go_simp
      refine cc.mono ?_
      rintro e w10 ⟨rfl,rfl⟩
      exact hK0 _ _ ⟨hE,hG,q1,q2,fun k=>if k=31 then .int .i64 (cI a.2.2.2.2 b.2.2.2.2) else (if k=30 then .int .i64 (b.2.2.2.2) else if k=28 then .int .i64 (a.2.2.2.2) else ys k),upd_ys (rep_ys (d:=30) (u:=.int .i64 (b.2.2.2.2)) (rep_ys (d:=28) (u:=.int .i64 (a.2.2.2.2)) (hys) rfl) rfl) rfl,(fun h=>h32 (by simpa using h)),(fun h=>h33 (by simpa using h)),(fun h=>h34 (by simpa using h)),FrQ1.mk⟩
    · have e4:ys 4=.int .i64 (cI a.1 b.1):=hys 4 (hed ⟨4,.data⟩ (by simp) rfl) (by omega)
      have e9:ys 9=.int .i64 (cI a.2.1 b.2.1):=hys 9 (hed ⟨9,.data⟩ (by simp) rfl) (by omega)
      have e14:ys 14=.int .i64 (cI a.2.2.1 b.2.2.1):=hys 14 (hed ⟨14,.data⟩ (by simp) rfl) (by omega)
      have e21:ys 21=.int .i64 (cI (al:Int) (bl:Int)):=hys 21 (hed ⟨21,.data⟩ (by simp) rfl) (by omega)
      have e26:ys 26=.int .i64 (cmpL a.2.2.2.1 b.2.2.2.1):=hys 26 (hed ⟨26,.data⟩ (by simp) rfl) (by omega)
      have e31:ys 31=.int .i64 (cI a.2.2.2.2 b.2.2.2.2):=hys 31 (hed ⟨31,.data⟩ (by simp) rfl) (by omega)
      have eA:=Ext.alloc w9 (.cells #[ys 4,ys 9,ys 14,ys 21,ys 26,ys 31] 3)
      have nA:=own_new w9 #[ys 4,ys 9,ys 14,ys 21,ys 26,ys 31] 3
      have hG2:=grow_alloc hG (.cells #[ys 4,ys 9,ys 14,ys 21,ys 26,ys 31] 3)
      simp only [e4,e9,e14,e21,e26,e31] at nA
      have hso:=so_six nA
      simp only [e4,e9,e14,e21,e26,e31]
      refine wpk fun K hK0=>?_
      go_simp
      rw [← e4,← e9,← e14,← e21,← e26,← e31]
      have hso2:SO (w9.alloc (.cells #[ys 4,ys 9,ys 14,ys 21,ys 26,ys 31] 3)) (.slice (some ⟨w9.heap.size,0,none⟩) 6 6) [cI a.1 b.1,cI a.2.1 b.2.1,cI a.2.2.1 b.2.2.1,cI (al:Int) (bl:Int),cmpL a.2.2.2.1 b.2.2.2.1,cI a.2.2.2.2 b.2.2.2.2]:=by simp only [e4,e9,e14,e21,e26,e31]; exact hso
      exact hK0 _ _ ⟨hE.trans eA,hG2,q1.ext eA,q2.ext eA,fun k=>if k=32 then .slice (some ⟨w9.heap.size,0,none⟩) 6 6 else ys k,upd_no hys (Nat.le_refl _),(fun _=>hso2),(fun h=>h33 (by simpa using h)),(fun h=>h34 (by simpa using h)),FrQ1.mk⟩
    · have cc:=or_ok (h32 (hed ⟨32,.data⟩ (by simp) rfl))
      rw [hnz] at cc
      refine wpk fun K hK0=>?_
      go_simp
      refine cc.mono ?_
      rintro e w10 ⟨rfl,rfl⟩
      exact hK0 _ _ ⟨hE,hG,q1,q2,fun k=>if k=33 then .int .i64 (cmpA a b) else ys k,upd_no hys (by omega),(fun h=>h32 (by simpa using h)),(fun _=>rfl),(fun h=>h34 (by simpa using h)),FrQ1.mk⟩
    · have e33:=h33 (hed ⟨33,.data⟩ (by simp) rfl)
      simp only [e33]
      refine wpk fun K hK0=>?_
      go_simp
      exact hK0 _ _ ⟨hE,hG,q1,q2,fun k=>if k=34 then .int .i64 (cmpA a b) else if k=33 then .int .i64 (cmpA a b) else ys k,upd_no (rep_no (d:=33) hys (by omega)) (by omega),(fun h=>h32 (by simpa using h)),(fun _=>rfl),(fun _=>rfl),FrQ1.mk⟩
  case fin =>
    rintro D a' w9 hall ⟨hE,hG,q1,q2,ys,hys,h32,h33,h34,hfr⟩
    refine hfr.elim ?_
    intro x0 x1 hfe
    subst hfe
    have e34:=h34 (hall 34 (by decide))
    rw [e34]
    clear hys h32 h33 h34 hall
    gi_wp2
    exact ⟨rfl,_,results_tmp (t:=4) rfl _ _ _,rfl,hG⟩
end Go.Proofs.YtieoleabnjdkfaaGreat
