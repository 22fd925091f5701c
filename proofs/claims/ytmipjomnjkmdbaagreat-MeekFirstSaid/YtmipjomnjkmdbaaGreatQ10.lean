/- Part 10 of what stands below the statement. -/
import Derived.WalkKit
import Derived.OwnWalkIn
import Derived.TacticsInMore
import Derived.LoopNIn
import Derived.LoopIn
import Derived.Test.YtmipjomnjkmdbaaGreatQ9
set_option linter.unusedSimpArgs false
set_option linter.unusedVariables false
set_option linter.unnecessarySimpa false
namespace Go.Proofs.YtmipjomnjkmdbaaGreat
open Go Go.Proofs Go.RowKit Go.X
attribute [local go_sem] Oper.semAt_some
def tlen (l:List Int):Nat→Nat
  | 0=>0
  | n+1=>if l.getD n 0=0 then tlen l n else n+1
def zaq (l:List Int):Nat:=tlen l l.length
theorem tlen_le (l:List Int):∀ n,tlen l n≤n
  | 0=>Nat.le_refl _
  | n+1=>by unfold tlen; split; exact Nat.le_succ_of_le (tlen_le l n); exact Nat.le_refl _
theorem loop_invT {P:Program} {c:Code} {Q:Exit→Act→World→Prop} (R:Nat→Act→World→Prop) (step:∀ m a w,R m a w→c.wp P (Exit.then (fun a' w'=>∃ m',m' < m∧R m' a' w') Q) a w) {m:Nat} {a:Act} {w:World} (h:R m a w):(Code.loop c).wp P Q a w:=by
  refine wp_loop_rounds (m+1) ?_
  have key:∀ (M m:Nat) (a:Act) (w:World),m < M→R m a w→Code.rounds P c Q M a w:=by
    intro M
    induction M with
    | zero=>intro m a w hm; omega
    | succ M ih =>
      intro m a w hm hr
      rw [rounds_succ]
      refine Code.wp_mono ?_ (step m a w hr)
      intro e a' w' hq
      cases e with
      | normal=>obtain ⟨m',h1,h2⟩:=hq; exact ih m' a' w' (by omega) h2
      | _=>exact hq
  exact key (m+1) m a w (by omega) h
def FrT (A:Option Addr) (xs:List Int) (cap i:Nat) (a:Act):Prop:=∃ (x1 x4 x5 x6 x7 x8 x9 x10 x11 x12 x13 x14 x15 x16 x17 x18 x19 x20 x21 x22:Value),a={ tmps:=#[.slice A xs.length cap,x1,.slice none 0 0,.int .i64 (i:Int),x4,x5,x6,x7,x8,x9,x10,x11,x12,x13,x14,x15,x16,x17,x18,x19,x20,x21,x22],defers:=[] }
theorem FrT.mk {A:Option Addr} {xs:List Int} {cap i:Nat} {x1 x4 x5 x6 x7 x8 x9 x10 x11 x12 x13 x14 x15 x16 x17 x18 x19 x20 x21 x22:Value}:FrT A xs cap i { tmps:=#[.slice A xs.length cap,x1,.slice none 0 0,.int .i64 (i:Int),x4,x5,x6,x7,x8,x9,x10,x11,x12,x13,x14,x15,x16,x17,x18,x19,x20,x21,x22],defers:=[] }:=⟨x1,x4,x5,x6,x7,x8,x9,x10,x11,x12,x13,x14,x15,x16,x17,x18,x19,x20,x21,x22,rfl⟩
set_option maxRecDepth 100000 in
set_option maxHeartbeats 4000000 in
theorem trim_ok (w:World) (A:Option Addr) (cap:Nat) (xs:List Int) (hlen:xs.length≤4294967296) (hcap:xs.length≤cap) (hw:∀ n∈xs,IntKind.u32.wrap n=n)
    (hm:(xs=[]∧cap=0)∨∃ b o,A=some ⟨b,o,none⟩∧∀ (i:Nat) (h:i < xs.length),w.cell? ⟨b,o+i,none⟩=some (.int .u32 xs[i])) :
    Calls Tryz.prog 199 #[.slice A xs.length cap] w fun e w'=>w'=w∧zaq xs≤xs.length∧((e=.returned (.slice none 0 0)∧zaq xs=0)∨e=.returned (.slice A (zaq xs) cap)):=by
  have hin:∀ c:Int,0≤c→c≤4294967296→IntKind.i64.wrap c=c:=fun c h0 h1=>IntWalk.i64_in c ⟨by omega,by omega⟩
  refine (callsIn_wide (n:=0)).1 (callsIn_of_wp Tryz.func199 rfl trivial ?_ rfl)
  simp only [Tryz.ntmps199,List.size_toArray,List.length_cons,List.length_nil,Nat.reduceAdd,Nat.reduceSub,Array.replicate_succ,Array.replicate_zero,List.push_toArray,List.append_toArray,List.nil_append,List.cons_append]
  gi_wp2
  refine wpIn_wide.2 (loop_invT (R:=fun m a w'=>∃ i:Nat,i≤xs.length∧m=i∧w'=w∧zaq xs=tlen xs i∧FrT A xs cap i a) (m:=xs.length) ?zfu ?init1)
  case init1=>exact ⟨xs.length,Nat.le_refl _,rfl,rfl,rfl,FrT.mk⟩
  case zfu =>
    rintro m a w' ⟨i,hi,rfl,rfl,htl,x1,x4,x5,x6,x7,x8,x9,x10,x11,x12,x13,x14,x15,x16,x17,x18,x19,x20,x21,x22,rfl⟩
    refine (wpIn_wide (n:=0)).1 ?_
    cases m with
    | zero =>
      simp only [tlen] at htl
      gi_wp2
      exact ⟨rfl,_,results_tmp (t:=2) rfl _ _ _,rfl,by omega,.inl ⟨rfl,htl⟩⟩
    | succ i =>
      have hlt:i < xs.length:=by omega
      obtain ⟨b,o,rfl,hcell⟩:∃ b o,A=some ⟨b,o,none⟩∧∀ (i:Nat) (h:i < xs.length),w'.cell? ⟨b,o+i,none⟩=some (.int .u32 xs[i]):=hm.resolve_left fun h=>by rw [h.1] at hlt; simp at hlt
      have hc:=hcell i hlt
      have hgd:xs.getD i 0=xs[i]:=by rw [List.getD_eq_getElem?_getD,List.getElem?_eq_getElem hlt]; rfl
      simp only [tlen,hgd] at htl
      clear hm hcell
      generalize hcx:xs[i]=c at hc htl
      have hpos:((i+1:Nat):Int) > 0:=by omega
      have hsub:IntKind.i64.wrap (((i+1:Nat):Int) - 1)=(i:Int):=by rw [hin _ (by omega) (by omega)]; omega
      have hlt':(i:Int) < (xs.length:Int):=by omega
      by_cases h0:c=0
      · subst h0
        rw [if_pos rfl] at htl
        gi_wp2
        exact ⟨i,by omega,i,by omega,rfl,trivial,htl,FrT.mk⟩
      · rw [if_neg h0] at htl
        gi_wp2
        rw [← htl]
        exact ⟨rfl,_,results_tmp (t:=2) rfl _ _ _,rfl,by omega,.inr rfl⟩
theorem enters199:zcm Tryz.prog 199:=enters_of Tryz.func199 (by kernel_rfl) rfl
noncomputable def zlz:PreE Tryz.prog:=⟨199,.u32,zaq,enters199,trim_ok⟩
end Go.Proofs.YtmipjomnjkmdbaaGreat
open Go Go.Proofs Go.X
namespace Go.Proofs.YtmipjomnjkmdbaaGreat
set_option linter.unusedVariables false
set_option maxRecDepth 100000
abbrev ua0:=(Bool × (List Bool × List Bool))
abbrev ua1:=(Bool × (List Int × List Int))
abbrev ua2:=(List Bool)
abbrev ua3:=(List Int)
abbrev ua4:=ua2 × ua2 × ua2 × Bool × Int
noncomputable def d171 (a:List Int):Option ua3 :=
 (bif decide ((a.length:Int)≤LIM) then some () else none).bind fun u =>
 (d173 (List.take (zaq a) a)).bind fun r =>
 some r
def sg171:Sig:=⟨[(y55,.bw)],[(y55,(.own 146 .sh))]⟩
def plan171:Plan:=(.seq (.reg [] []) (.seq (.reg [] []) .nil))
theorem ev171 (xs:Vals (ptys sg171.ps)):evF (P:=Tryz.prog) tab [.pre zlz,.fn E173] sg171 Tryz.f171.results.toList (code Tryz.f171) plan171 xs=d171 xs.1:=by kernel_rfl
theorem sim171:Sim Tryz.prog 171 sg171 d171:=zah mixd zan Tryz.func171 (zac rfl) Tryz.call171 (Nat.le_of_ble_eq_true (by kernel_rfl)) (by kernel_rfl) plan171 _ fun xs y h=>(ev171 xs).trans h
noncomputable def E171:FnE Tryz.prog:=⟨171,sg171,d171,sim171⟩
noncomputable def d129 (n:Int):Option ua3 :=
 (d171 [(wu32 n),(wu32 (wu64 (Int.fdiv n (2 ^ (min (Int.toNat 32) 64)))))]).bind fun r =>
 some r
def sg129:Sig:=⟨[(y12,.sh)],[(y55,(.own 146 .sh))]⟩
def plan129:Plan:=(.seq (.reg [] []) (.seq (.reg [] []) .nil))
theorem ev129 (xs:Vals (ptys sg129.ps)):evF (P:=Tryz.prog) tab [.fn E171] sg129 Tryz.f129.results.toList (code Tryz.f129) plan129 xs=d129 xs.1:=by kernel_rfl
theorem sim129:Sim Tryz.prog 129 sg129 d129:=zah mixd zan Tryz.func129 (zac rfl) Tryz.call129 (Nat.le_of_ble_eq_true (by kernel_rfl)) (by kernel_rfl) plan129 _ fun xs y h=>(ev129 xs).trans h
noncomputable def E129:FnE Tryz.prog:=⟨129,sg129,d129,sim129⟩
noncomputable def d128 (n:Int):Option ua3 :=
 bif (decide (n < 0)) then
  (d129 (wu64 (0 - (wu64 n)))).bind fun r =>
  some r
 else
  (d129 (wu64 n)).bind fun r_1 =>
  some r_1
def sg128:Sig:=⟨[(y2,.sh)],[(y55,(.own 146 .sh))]⟩
def plan128:Plan:=(.seq (.reg [] []) (.seq (.seq (.reg [] []) (.cond (.seq (.reg [] []) .nil) .nil)) (.seq (.reg [] []) .nil)))
theorem ev128 (xs:Vals (ptys sg128.ps)):evF (P:=Tryz.prog) tab [.fn E129] sg128 Tryz.f128.results.toList (code Tryz.f128) plan128 xs=d128 xs.1:=by kernel_rfl
theorem sim128:Sim Tryz.prog 128 sg128 d128:=zah mixd zan Tryz.func128 (zac rfl) Tryz.call128 (Nat.le_of_ble_eq_true (by kernel_rfl)) (by kernel_rfl) plan128 _ fun xs y h=>(ev128 xs).trans h
noncomputable def E128:FnE Tryz.prog:=⟨128,sg128,d128,sim128⟩
noncomputable def d167 (a:List Int):Option Int :=
 (bif decide ((a.length:Int)≤LIM) then some () else none).bind fun u =>
 bif (decide (((List.take (zaq a) a).length:Int)=0)) then
  some 0
 else
  bif (decide (0≤(w (((List.take (zaq a) a).length:Int) - 1))) && decide ((w (((List.take (zaq a) a).length:Int) - 1)) < ((List.take (zaq a) a).length:Int))) then
   (d200 (List.getD (List.take (zaq a) a) (Int.toNat (w (((List.take (zaq a) a).length:Int) - 1))) 0)).bind fun r =>
   some (w ((w (32 * (w (((List.take (zaq a) a).length:Int) - 1))))+r))
  else none
def sg167:Sig:=⟨[(y55,.bw)],[(y2,.sh)]⟩
def plan167:Plan:=(.seq (.reg [] []) (.seq (.reg [] []) (.seq (.seq (.reg [] []) (.cond (.seq (.reg [] []) .nil) .nil)) (.seq (.reg [] []) .nil))))
theorem ev167 (xs:Vals (ptys sg167.ps)):evF (P:=Tryz.prog) tab [.pre zlz,.fn E200] sg167 Tryz.f167.results.toList (code Tryz.f167) plan167 xs=d167 xs.1:=by kernel_rfl
theorem sim167:Sim Tryz.prog 167 sg167 d167:=zah mixd zan Tryz.func167 (zac rfl) Tryz.call167 (Nat.le_of_ble_eq_true (by kernel_rfl)) (by kernel_rfl) plan167 _ fun xs y h=>(ev167 xs).trans h
noncomputable def E167:FnE Tryz.prog:=⟨167,sg167,d167,sim167⟩
noncomputable def d168:Option ua1 :=
 (d129 1).bind fun r =>
 some (false,[],r)
def sg168:Sig:=⟨[],[(y57,.sh)]⟩
def plan168:Plan:=(.seq (.reg [] []) (.seq (.reg [] [{},{ frz:=[(1,[])] }]) .nil))
theorem ev168 (xs:Vals (ptys sg168.ps)):evF (P:=Tryz.prog) tab [.fn E129] sg168 Tryz.f168.results.toList (code Tryz.f168) plan168 xs=d168  := by kernel_rfl
theorem sim168:Sim Tryz.prog 168 sg168 d168:=zah mixd zan Tryz.func168 (zac rfl) Tryz.call168 (Nat.le_of_ble_eq_true (by kernel_rfl)) (by kernel_rfl) plan168 _ fun xs y h=>(ev168 xs).trans h
noncomputable def E168:FnE Tryz.prog:=⟨168,sg168,d168,sim168⟩
noncomputable def d201 (a:List Int) (b:List Int):Option Int :=
 (bif decide ((a.length:Int)≤LIM) then some () else none).bind fun u =>
 (bif decide ((b.length:Int)≤LIM) then some () else none).bind fun u_1 =>
 bif !(decide (((List.take (zaq a) a).length:Int)=((List.take (zaq b) b).length:Int))) then
  bif (decide (((List.take (zaq a) a).length:Int) < ((List.take (zaq b) b).length:Int))) then
   some (-1)
  else
   some 1
 else
  (zaa (β:=Unit ⊕ Int) (fun ((a_1,b_1,i):ua3 × ua3 × Int) =>
    bif (decide (0≤i)) then
     bif (decide (0≤i) && decide (i < (a_1.length:Int))) then
      bif (decide (0≤i) && decide (i < (b_1.length:Int))) then
       bif (decide ((List.getD a_1 (Int.toNat i) 0) < (List.getD b_1 (Int.toNat i) 0))) then
        some (Sum.inr (Sum.inr (-1)))
       else
        bif (decide (0≤i) && decide (i < (a_1.length:Int))) then
         bif (decide (0≤i) && decide (i < (b_1.length:Int))) then
          bif (decide ((List.getD b_1 (Int.toNat i) 0) < (List.getD a_1 (Int.toNat i) 0))) then
           some (Sum.inr (Sum.inr 1))
          else
           some (Sum.inl (a_1,b_1,(w (i - 1))))
         else none
        else none
      else none
     else none
    else
     some (Sum.inr (Sum.inl ()))) ((List.take (zaq a) a),(List.take (zaq b) b),(w (((List.take (zaq a) a).length:Int) - 1)))).bind fun
  | Sum.inl _ =>
   some 0
  | Sum.inr t4 =>
   some t4
def sg201:Sig:=⟨[(y55,.bw),(y55,.bw)],[(y2,.sh)]⟩
def plan201:Plan:=(.seq (.reg [] []) (.seq (.reg [] []) (.seq (.seq (.reg [] []) (.cond (.seq (.seq (.reg [] []) (.cond (.seq (.reg [] []) .nil) .nil)) (.seq (.reg [] []) .nil)) .nil)) (.seq (.seq (.reg [] []) (.block (.loop [(0,.v y55 .bw),(1,.v y55 .bw),(5,.v y2 .sh)] [(.brk 0,[]),(.ret,[(4,.v y2 .sh)])] (.seq (.seq (.reg [] []) (.cond .nil .nil)) (.seq (.block (.block (.seq (.reg [] []) (.cond (.seq (.reg [] []) .nil) (.seq (.reg [] []) (.cond (.seq (.reg [] []) .nil) .nil)))))) (.reg [] [])))))) (.seq (.reg [] []) .nil)))))
theorem ev201 (xs:Vals (ptys sg201.ps)):evF (P:=Tryz.prog) tab [.pre zlz] sg201 Tryz.f201.results.toList (code Tryz.f201) plan201 xs=d201 xs.1 xs.2.1:=by kernel_rfl
theorem sim201:Sim Tryz.prog 201 sg201 d201:=zah mixd zan Tryz.func201 (zac rfl) Tryz.call201 (Nat.le_of_ble_eq_true (by kernel_rfl)) (by kernel_rfl) plan201 _ fun xs y h=>(ev201 xs).trans h
noncomputable def E201:FnE Tryz.prog:=⟨201,sg201,d201,sim201⟩
noncomputable def d202 (a:List Int) (d:Int):Option (ua3 × Int) :=
 bif (decide ((a.length:Int)=(a.length:Int)) && (decide (0≤(a.length:Int)) && decide ((a.length:Int)≤LIM))) then
  (zaa (β:=(ua3 × Int)) (fun ((a_1,d_1,q,rest,i):ua3 × Int × ua3 × Int × Int) =>
    bif (decide (0≤i)) then
     bif (decide (0≤i) && decide (i < (a_1.length:Int))) then
      bif (!decide (d_1=0)) then
       bif (decide (0≤i) && decide (i < (q.length:Int))) then
        bif (!decide (d_1=0)) then
         some (Sum.inl (a_1,d_1,(List.set q (Int.toNat i) (wu32 (wu64 (Int.tdiv (wu64 ((BitVec.ofInt 64 (wu64 (rest * 2 ^ (min (Int.toNat 32) 64))) ||| BitVec.ofInt 64 (wu64 (List.getD a_1 (Int.toNat i) 0))).toNat:Int)) d_1)))),(wu64 (Int.tmod (wu64 ((BitVec.ofInt 64 (wu64 (rest * 2 ^ (min (Int.toNat 32) 64))) ||| BitVec.ofInt 64 (wu64 (List.getD a_1 (Int.toNat i) 0))).toNat:Int)) d_1)),(w (i - 1))))
        else none
       else none
      else none
     else none
    else
     some (Sum.inr (q,rest))) (a,d,(List.replicate (Int.toNat (a.length:Int)) 0),0,(w ((a.length:Int) - 1)))).bind fun ((q_1,rest_1):ua3 × Int) =>
  some (q_1,rest_1)
 else none
def sg202:Sig:=⟨[(y55,.bw),(y12,.sh)],[(y55,(.own 146 .sh)),(y12,.sh)]⟩
def plan202:Plan:=(.seq (.reg [] []) (.seq (.reg [] []) (.seq (.reg [] []) (.seq (.seq (.reg [] []) (.block (.loop [(0,.v y55 .bw),(1,.v y12 .sh),(6,.v y55 (.own 146 .sh)),(7,.v y12 .sh),(8,.v y2 .sh)] [(.brk 0,[(6,.v y55 (.own 146 .sh)),(7,.v y12 .sh)])] (.seq (.seq (.reg [] []) (.cond .nil .nil)) (.seq (.block (.seq (.reg [] []) (.seq (.reg [] []) (.reg [] [])))) (.reg [] [])))))) (.seq (.reg [] []) .nil)))))
theorem ev202 (xs:Vals (ptys sg202.ps)):evF (P:=Tryz.prog) tab [] sg202 Tryz.f202.results.toList (code Tryz.f202) plan202 xs=d202 xs.1 xs.2.1:=by kernel_rfl
theorem sim202:Sim Tryz.prog 202 sg202 d202:=zah mixd zan Tryz.func202 (zac rfl) Tryz.call202 (Nat.le_of_ble_eq_true (by kernel_rfl)) (by kernel_rfl) plan202 _ fun xs y h=>(ev202 xs).trans h
noncomputable def E202:FnE Tryz.prog:=⟨202,sg202,d202,sim202⟩
noncomputable def d203 (x:Int):Option Int :=
 (d200 x).bind fun r =>
 some (w (32 - r))
def sg203:Sig:=⟨[(y146,.sh)],[(y2,.sh)]⟩
def plan203:Plan:=(.seq (.reg [] []) (.seq (.reg [] []) .nil))
theorem ev203 (xs:Vals (ptys sg203.ps)):evF (P:=Tryz.prog) tab [.fn E200] sg203 Tryz.f203.results.toList (code Tryz.f203) plan203 xs=d203 xs.1:=by kernel_rfl
theorem sim203:Sim Tryz.prog 203 sg203 d203:=zah mixd zan Tryz.func203 (zac rfl) Tryz.call203 (Nat.le_of_ble_eq_true (by kernel_rfl)) (by kernel_rfl) plan203 _ fun xs y h=>(ev203 xs).trans h
noncomputable def E203:FnE Tryz.prog:=⟨203,sg203,d203,sim203⟩
noncomputable def d204 (a:List Int) (n:Int):Option ua3 :=
 bif (decide ((w ((a.length:Int)+1))=(w ((a.length:Int)+1))) && (decide (0≤(w ((a.length:Int)+1))) && decide ((w ((a.length:Int)+1))≤LIM))) then
  (zaa (β:=ua3) (fun ((n_1,out,t13,t14,t15):Int × ua3 × ua3 × Int × Int) =>
    bif (decide (t15 < t14)) then
     bif (decide (0≤t15) && decide (t15 < (t13.length:Int))) then
      bif (decide (0≤n_1)) then
       bif (decide (0≤t15) && decide (t15 < (out.length:Int))) then
        bif (decide (0≤t15) && decide (t15 < (out.length:Int))) then
         bif (decide (0≤(w (t15+1))) && decide ((w (t15+1)) < ((List.set out (Int.toNat t15) (wu32 ((BitVec.ofInt 32 (List.getD out (Int.toNat t15) 0) ||| BitVec.ofInt 32 (wu32 (wu64 ((wu64 (List.getD t13 (Int.toNat t15) 0)) * 2 ^ (min (Int.toNat n_1) 64))))).toNat:Int))).length:Int))) then
          some (Sum.inl (n_1,(List.set (List.set out (Int.toNat t15) (wu32 ((BitVec.ofInt 32 (List.getD out (Int.toNat t15) 0) ||| BitVec.ofInt 32 (wu32 (wu64 ((wu64 (List.getD t13 (Int.toNat t15) 0)) * 2 ^ (min (Int.toNat n_1) 64))))).toNat:Int))) (Int.toNat (w (t15+1))) (wu32 (wu64 (Int.fdiv (wu64 ((wu64 (List.getD t13 (Int.toNat t15) 0)) * 2 ^ (min (Int.toNat n_1) 64))) (2 ^ (min (Int.toNat 32) 64)))))),t13,t14,(w (t15+1))))
         else none
        else none
       else none
      else none
     else none
    else
     some (Sum.inr out)) (n,(List.replicate (Int.toNat (w ((a.length:Int)+1))) 0),a,(a.length:Int),0)).bind fun (out_1:List Int) =>
  some out_1
 else none
def sg204:Sig:=⟨[(y55,.bw),(y2,.sh)],[(y55,(.own 146 .sh))]⟩
def plan204:Plan:=(.seq (.reg [] []) (.seq (.reg [] []) (.seq (.seq (.reg [] []) (.block (.loop [(1,.v y2 .sh),(5,.v y55 (.own 146 .sh)),(13,.v y55 .bw),(14,.v y2 .sh),(15,.v y2 .sh)] [(.brk 0,[(5,.v y55 (.own 146 .sh))])] (.seq (.reg [] []) (.seq (.cond .nil .nil) (.seq (.block (.seq (.reg [] []) (.seq (.reg [] []) (.seq (.reg [] []) (.reg [] []))))) (.reg [] []))))))) (.seq (.reg [] []) .nil))))
theorem ev204 (xs:Vals (ptys sg204.ps)):evF (P:=Tryz.prog) tab [] sg204 Tryz.f204.results.toList (code Tryz.f204) plan204 xs=d204 xs.1 xs.2.1:=by kernel_rfl
theorem sim204:Sim Tryz.prog 204 sg204 d204:=zah mixd zan Tryz.func204 (zac rfl) Tryz.call204 (Nat.le_of_ble_eq_true (by kernel_rfl)) (by kernel_rfl) plan204 _ fun xs y h=>(ev204 xs).trans h
noncomputable def E204:FnE Tryz.prog:=⟨204,sg204,d204,sim204⟩
noncomputable def d216 (p0:List Int) (p1:List Int) (p2:Int):Option Int :=
 bif (decide (0≤(w (p2+(p1.length:Int)))) && decide ((w (p2+(p1.length:Int))) < (p0.length:Int))) then
  bif (decide (0≤(w ((w (p2+(p1.length:Int))) - 1))) && decide ((w ((w (p2+(p1.length:Int))) - 1)) < (p0.length:Int))) then
   bif (decide (0≤(w ((p1.length:Int) - 1))) && decide ((w ((p1.length:Int) - 1)) < (p1.length:Int))) then
    bif (!decide ((wu64 (List.getD p1 (Int.toNat (w ((p1.length:Int) - 1))) 0))=0)) then
     bif (!decide ((wu64 (List.getD p1 (Int.toNat (w ((p1.length:Int) - 1))) 0))=0)) then
      (zaa (β:=Int) (fun ((t0,t1,t2,t7,t9,t10,t11):ua3 × ua3 × Int × Int × Int × Int × Int) =>
        letJ (fun ((t0_1,t1_1,t2_1,t7_1,t9_1,t10_1,t11_1,t66):ua3 × ua3 × Int × Int × Int × Int × Int × Bool) =>
          bif t66 then
           bif (decide (4294967296≤(wu64 (t11_1+t9_1)))) then
            some (Sum.inr (wu64 (t10_1 - 1)))
           else
            some (Sum.inl (t0_1,t1_1,t2_1,t7_1,t9_1,(wu64 (t10_1 - 1)),(wu64 (t11_1+t9_1))))
          else
           some (Sum.inr t10_1)) fun j_ =>
        bif !(decide (4294967296≤t10)) then
         bif (decide (0≤(w (t7 - 2))) && decide ((w (t7 - 2)) < (t1.length:Int))) then
          bif (decide (0≤(w ((w (t2+t7)) - 2))) && decide ((w ((w (t2+t7)) - 2)) < (t0.length:Int))) then
           j_ (t0,t1,t2,t7,t9,t10,t11,(decide ((wu64 ((BitVec.ofInt 64 (wu64 (t11 * 2 ^ (min (Int.toNat 32) 64))) ||| BitVec.ofInt 64 (wu64 (List.getD t0 (Int.toNat (w ((w (t2+t7)) - 2))) 0))).toNat:Int)) < (wu64 (t10 * (wu64 (List.getD t1 (Int.toNat (w (t7 - 2))) 0)))))))
          else none
         else none
        else
         j_ (t0,t1,t2,t7,t9,t10,t11,true)) (p0,p1,p2,(p1.length:Int),(wu64 (List.getD p1 (Int.toNat (w ((p1.length:Int) - 1))) 0)),(wu64 (Int.tdiv (wu64 ((BitVec.ofInt 64 (wu64 ((wu64 (List.getD p0 (Int.toNat (w (p2+(p1.length:Int)))) 0)) * 2 ^ (min (Int.toNat 32) 64))) ||| BitVec.ofInt 64 (wu64 (List.getD p0 (Int.toNat (w ((w (p2+(p1.length:Int))) - 1))) 0))).toNat:Int)) (wu64 (List.getD p1 (Int.toNat (w ((p1.length:Int) - 1))) 0)))),(wu64 (Int.tmod (wu64 ((BitVec.ofInt 64 (wu64 ((wu64 (List.getD p0 (Int.toNat (w (p2+(p1.length:Int)))) 0)) * 2 ^ (min (Int.toNat 32) 64))) ||| BitVec.ofInt 64 (wu64 (List.getD p0 (Int.toNat (w ((w (p2+(p1.length:Int))) - 1))) 0))).toNat:Int)) (wu64 (List.getD p1 (Int.toNat (w ((p1.length:Int) - 1))) 0)))))).bind fun (t10_2:Int) =>
      some t10_2
     else none
    else none
   else none
  else none
 else none
def sg216:Sig:=⟨[(y55,.bw),(y55,.bw),(y2,.sh)],[(y12,.sh)]⟩
def plan216:Plan:=(.seq (.reg [] []) (.seq (.reg [] []) (.seq (.reg [] []) (.seq (.reg [] []) (.seq (.reg [] []) (.seq (.block (.loop [(0,.v y55 .bw),(1,.v y55 .bw),(2,.v y2 .sh),(7,.v y2 .sh),(9,.v y12 .sh),(10,.v y12 .sh),(11,.v y12 .sh)] [(.brk 0,[(10,.v y12 .sh)])] (.seq (.join (.reg [] []) [(0,.v y55 .bw),(1,.v y55 .bw),(2,.v y2 .sh),(7,.v y2 .sh),(9,.v y12 .sh),(10,.v y12 .sh),(11,.v y12 .sh),(66,.v y4 .sh)] (.cond .nil .nil)) (.block (.seq (.reg [] []) (.seq (.reg [] []) (.seq (.reg [] []) (.cond .nil .nil)))))))) (.seq (.reg [] []) .nil)))))))
theorem ev216 (xs:Vals (ptys sg216.ps)):evF (P:=Tryz.prog) tab [] sg216 Tryz.f216.results.toList (code Tryz.f216) plan216 xs=d216 xs.1 xs.2.1 xs.2.2.1:=by kernel_rfl
theorem sim216:Sim Tryz.prog 216 sg216 d216:=zah mixd zan Tryz.func216 (zac rfl) Tryz.call216 (Nat.le_of_ble_eq_true (by kernel_rfl)) (by kernel_rfl) plan216 _ fun xs y h=>(ev216 xs).trans h
noncomputable def E216:FnE Tryz.prog:=⟨216,sg216,d216,sim216⟩
noncomputable def d217 (a:List Int) (i:Int):Option Int :=
 bif (decide (i < (a.length:Int))) then
  bif (decide (0≤i) && decide (i < (a.length:Int))) then
   some (wu64 (List.getD a (Int.toNat i) 0))
  else none
 else
  some 0
def sg217:Sig:=⟨[(y55,.bw),(y2,.sh)],[(y12,.sh)]⟩
def plan217:Plan:=(.seq (.reg [] []) (.seq (.seq (.reg [] []) (.cond (.seq (.reg [] []) .nil) .nil)) (.seq (.reg [] []) .nil)))
theorem ev217 (xs:Vals (ptys sg217.ps)):evF (P:=Tryz.prog) tab [] sg217 Tryz.f217.results.toList (code Tryz.f217) plan217 xs=d217 xs.1 xs.2.1:=by kernel_rfl
theorem sim217:Sim Tryz.prog 217 sg217 d217:=zah mixd zan Tryz.func217 (zac rfl) Tryz.call217 (Nat.le_of_ble_eq_true (by kernel_rfl)) (by kernel_rfl) plan217 _ fun xs y h=>(ev217 xs).trans h
noncomputable def E217:FnE Tryz.prog:=⟨217,sg217,d217,sim217⟩
noncomputable def d205 (p0:List Int) (p1:List Int):Option (ua3 × ua3) :=
 bif (decide ((w ((p0.length:Int) - (p1.length:Int)))=(w ((p0.length:Int) - (p1.length:Int)))) && (decide (0≤(w ((p0.length:Int) - (p1.length:Int)))) && decide ((w ((p0.length:Int) - (p1.length:Int)))≤LIM))) then
  (zaa (β:=(ua3 × ua3)) (fun ((t0,t1,t5,t6,t7):ua3 × ua3 × Int × ua3 × Int) =>
    bif (decide (0≤t7)) then
     (d216 t0 t1 t7).bind fun r =>
     (zaa (β:=(ua3 × ua3 × Int × ua3 × Int × Int × Int)) (fun ((t0_1,t1_1,t5_1,t6_1,t7_1,t8,t9,t10,t37,t38):ua3 × ua3 × Int × ua3 × Int × Int × Int × Int × Int × Int) =>
       bif (decide (t38 < t37)) then
        (d217 t1_1 t38).bind fun r_1 =>
        bif (decide (0≤(w (t38+t7_1))) && decide ((w (t38+t7_1)) < (t0_1.length:Int))) then
         bif (decide (0≤(w (t38+t7_1))) && decide ((w (t38+t7_1)) < (t0_1.length:Int))) then
          some (Sum.inl ((List.set t0_1 (Int.toNat (w (t38+t7_1))) (wu32 (wu64 ((wu64 ((wu64 (4294967296+(wu64 (List.getD t0_1 (Int.toNat (w (t38+t7_1))) 0)))) - (wu64 ((BitVec.ofInt 64 (wu64 ((wu64 (t8 * r_1))+t10)) &&& BitVec.ofInt 64 4294967295).toNat:Int)))) - t9)))),t1_1,t5_1,t6_1,t7_1,t8,(wu64 (1 - (wu64 (Int.fdiv (wu64 ((wu64 ((wu64 (4294967296+(wu64 (List.getD t0_1 (Int.toNat (w (t38+t7_1))) 0)))) - (wu64 ((BitVec.ofInt 64 (wu64 ((wu64 (t8 * r_1))+t10)) &&& BitVec.ofInt 64 4294967295).toNat:Int)))) - t9)) (2 ^ (min (Int.toNat 32) 64)))))),(wu64 (Int.fdiv (wu64 ((wu64 (t8 * r_1))+t10)) (2 ^ (min (Int.toNat 32) 64)))),t37,(w (t38+1))))
         else none
        else none
       else
        some (Sum.inr (t0_1,t1_1,t5_1,t6_1,t7_1,t8,t9))) (t0,t1,t5,t6,t7,r,0,0,(w (t5+1)),0)).bind fun ((t0_2,t1_2,t5_2,t6_2,t7_2,t8_1,t9_1):ua3 × ua3 × Int × ua3 × Int × Int × Int) =>
     letJ (fun ((t0_5,t1_5,t5_5,t6_5,t7_5,t8_4):ua3 × ua3 × Int × ua3 × Int × Int) =>
       bif (decide (0≤t7_5) && decide (t7_5 < (t6_5.length:Int))) then
        some (Sum.inl (t0_5,t1_5,t5_5,(List.set t6_5 (Int.toNat t7_5) (wu32 t8_4)),(w (t7_5 - 1))))
       else none) fun j_ =>
     bif (decide (0 < t9_1)) then
      (zaa (β:=(ua3 × ua3 × Int × ua3 × Int × Int)) (fun ((t0_3,t1_3,t5_3,t6_3,t7_3,t8_2,t10_1,t79,t80):ua3 × ua3 × Int × ua3 × Int × Int × Int × Int × Int) =>
        bif (decide (t80 < t79)) then
         bif (decide (0≤(w (t80+t7_3))) && decide ((w (t80+t7_3)) < (t0_3.length:Int))) then
          (d217 t1_3 t80).bind fun r_2 =>
          bif (decide (0≤(w (t80+t7_3))) && decide ((w (t80+t7_3)) < (t0_3.length:Int))) then
           some (Sum.inl ((List.set t0_3 (Int.toNat (w (t80+t7_3))) (wu32 (wu64 ((wu64 ((wu64 (List.getD t0_3 (Int.toNat (w (t80+t7_3))) 0))+r_2))+t10_1)))),t1_3,t5_3,t6_3,t7_3,t8_2,(wu64 (Int.fdiv (wu64 ((wu64 ((wu64 (List.getD t0_3 (Int.toNat (w (t80+t7_3))) 0))+r_2))+t10_1)) (2 ^ (min (Int.toNat 32) 64)))),t79,(w (t80+1))))
          else none
         else none
        else
         some (Sum.inr (t0_3,t1_3,t5_3,t6_3,t7_3,t8_2))) (t0_2,t1_2,t5_2,t6_2,t7_2,(wu64 (t8_1 - 1)),0,(w (t5_2+1)),0)).bind fun ((t0_4,t1_4,t5_4,t6_4,t7_4,t8_3):ua3 × ua3 × Int × ua3 × Int × Int) =>
      j_ (t0_4,t1_4,t5_4,t6_4,t7_4,t8_3)
     else
      j_ (t0_2,t1_2,t5_2,t6_2,t7_2,t8_1)
    else
     some (Sum.inr (t0,t6))) (p0,p1,(p1.length:Int),(List.replicate (Int.toNat (w ((p0.length:Int) - (p1.length:Int)))) 0),(w ((w ((p0.length:Int) - (p1.length:Int))) - 1)))).bind fun ((t0_6,t6_6):ua3 × ua3) =>
  some (t6_6,t0_6)
 else none
def sg205:Sig:=⟨[(y55,(.io (.own 146 .sh))),(y55,.sh)],[(y55,(.own 146 .sh))]⟩
def plan205:Plan:=(.seq (.reg [] []) (.seq (.reg [] []) (.seq (.reg [] []) (.seq (.seq (.reg [] []) (.block (.loop [(0,.v y55 (.own 146 .sh)),(1,.v y55 .sh),(5,.v y2 .sh),(6,.v y55 (.own 146 .sh)),(7,.v y2 .sh)] [(.brk 0,[(0,.v y55 (.own 146 .sh)),(6,.v y55 (.own 146 .sh))])] (.seq (.seq (.reg [] []) (.cond .nil .nil)) (.seq (.block (.seq (.reg [] []) (.seq (.reg [] []) (.seq (.seq (.reg [] []) (.block (.loop [(0,.v y55 (.own 146 .sh)),(1,.v y55 .sh),(5,.v y2 .sh),(6,.v y55 (.own 146 .sh)),(7,.v y2 .sh),(8,.v y12 .sh),(9,.v y12 .sh),(10,.v y12 .sh),(37,.v y2 .sh),(38,.v y2 .sh)] [(.brk 2,[(0,.v y55 (.own 146 .sh)),(1,.v y55 .sh),(5,.v y2 .sh),(6,.v y55 (.own 146 .sh)),(7,.v y2 .sh),(8,.v y12 .sh),(9,.v y12 .sh)])] (.seq (.reg [] []) (.seq (.cond .nil .nil) (.seq (.block (.seq (.reg [] []) (.seq (.reg [] []) (.seq (.reg [] []) (.seq (.reg [] []) (.seq (.reg [] []) (.reg [] []))))))) (.reg [] []))))))) (.join (.seq (.reg [] []) (.cond (.seq (.reg [] []) (.seq (.reg [] []) (.seq (.reg [] []) (.block (.loop [(0,.v y55 (.own 146 .sh)),(1,.v y55 .sh),(5,.v y2 .sh),(6,.v y55 (.own 146 .sh)),(7,.v y2 .sh),(8,.v y12 .sh),(10,.v y12 .sh),(79,.v y2 .sh),(80,.v y2 .sh)] [(.brk 4,[(0,.v y55 (.own 146 .sh)),(1,.v y55 .sh),(5,.v y2 .sh),(6,.v y55 (.own 146 .sh)),(7,.v y2 .sh),(8,.v y12 .sh)])] (.seq (.reg [] []) (.seq (.cond .nil .nil) (.seq (.block (.seq (.reg [] []) (.seq (.reg [] []) (.seq (.reg [] []) (.reg [] []))))) (.reg [] []))))))))) .nil)) [(0,.v y55 (.own 146 .sh)),(1,.v y55 .sh),(5,.v y2 .sh),(6,.v y55 (.own 146 .sh)),(7,.v y2 .sh),(8,.v y12 .sh)] (.reg [] [])))))) (.reg [] [])))))) (.seq (.reg [] []) .nil)))))
theorem ev205 (xs:Vals (ptys sg205.ps)):evF (P:=Tryz.prog) tab [.fn E216,.fn E217] sg205 Tryz.f205.results.toList (code Tryz.f205) plan205 xs=d205 xs.1 xs.2.1:=by kernel_rfl
theorem sim205:Sim Tryz.prog 205 sg205 d205:=zah mixd zan Tryz.func205 (zac rfl) Tryz.call205 (Nat.le_of_ble_eq_true (by kernel_rfl)) (by kernel_rfl) plan205 _ fun xs y h=>(ev205 xs).trans h
noncomputable def E205:FnE Tryz.prog:=⟨205,sg205,d205,sim205⟩
noncomputable def d206 (a:List Int) (n:Int):Option ua3 :=
 bif (decide ((a.length:Int)=(a.length:Int)) && (decide (0≤(a.length:Int)) && decide ((a.length:Int)≤LIM))) then
  (zaa (β:=ua3) (fun ((a_1,n_1,out,t11,t12):ua3 × Int × ua3 × Int × Int) =>
    bif (decide (t12 < t11)) then
     (d217 a_1 t12).bind fun r =>
     (d217 a_1 (w (t12+1))).bind fun r_1 =>
     bif (decide (0≤n_1)) then
      bif (decide (0≤t12) && decide (t12 < (out.length:Int))) then
       some (Sum.inl (a_1,n_1,(List.set out (Int.toNat t12) (wu32 (wu64 (Int.fdiv (wu64 ((BitVec.ofInt 64 r ||| BitVec.ofInt 64 (wu64 (r_1 * 2 ^ (min (Int.toNat 32) 64)))).toNat:Int)) (2 ^ (min (Int.toNat n_1) 64)))))),t11,(w (t12+1))))
      else none
     else none
    else
     some (Sum.inr out)) (a,n,(List.replicate (Int.toNat (a.length:Int)) 0),(a.length:Int),0)).bind fun (out_1:List Int) =>
  some out_1
 else none
def sg206:Sig:=⟨[(y55,.bw),(y2,.sh)],[(y55,(.own 146 .sh))]⟩
def plan206:Plan:=(.seq (.reg [] []) (.seq (.reg [] []) (.seq (.seq (.reg [] []) (.block (.loop [(0,.v y55 .bw),(1,.v y2 .sh),(5,.v y55 (.own 146 .sh)),(11,.v y2 .sh),(12,.v y2 .sh)] [(.brk 0,[(5,.v y55 (.own 146 .sh))])] (.seq (.reg [] []) (.seq (.cond .nil .nil) (.seq (.block (.seq (.reg [] []) (.reg [] []))) (.reg [] []))))))) (.seq (.reg [] []) .nil))))
theorem ev206 (xs:Vals (ptys sg206.ps)):evF (P:=Tryz.prog) tab [.fn E217] sg206 Tryz.f206.results.toList (code Tryz.f206) plan206 xs=d206 xs.1 xs.2.1:=by kernel_rfl
theorem sim206:Sim Tryz.prog 206 sg206 d206:=zah mixd zan Tryz.func206 (zac rfl) Tryz.call206 (Nat.le_of_ble_eq_true (by kernel_rfl)) (by kernel_rfl) plan206 _ fun xs y h=>(ev206 xs).trans h
noncomputable def E206:FnE Tryz.prog:=⟨206,sg206,d206,sim206⟩
noncomputable def d170 (p0:List Int) (p1:List Int):Option (ua3 × ua3 × Bool) :=
 (bif decide ((p0.length:Int)≤LIM) then some () else none).bind fun u =>
 (bif decide ((p1.length:Int)≤LIM) then some () else none).bind fun u_1 =>
 bif (decide (((List.take (zaq p1) p1).length:Int)=0)) then
  some ([],[],false)
 else
  (d201 (List.take (zaq p0) p0) (List.take (zaq p1) p1)).bind fun r =>
  bif (decide (r < 0)) then
   (d173 (List.take (zaq p0) p0)).bind fun r_1 =>
   some ([],r_1,true)
  else
   bif (decide (((List.take (zaq p1) p1).length:Int)=1)) then
    bif (decide (0≤0) && decide (0 < ((List.take (zaq p1) p1).length:Int))) then
     (d202 (List.take (zaq p0) p0) (wu64 (List.getD (List.take (zaq p1) p1) 0 0))).bind fun r_2 =>
     (d171 r_2.1).bind fun r_3 =>
     (d129 r_2.2).bind fun r_4 =>
     some (r_3,r_4,true)
    else none
   else
    bif (decide (0≤(w (((List.take (zaq p1) p1).length:Int) - 1))) && decide ((w (((List.take (zaq p1) p1).length:Int) - 1)) < ((List.take (zaq p1) p1).length:Int))) then
     (d203 (List.getD (List.take (zaq p1) p1) (Int.toNat (w (((List.take (zaq p1) p1).length:Int) - 1))) 0)).bind fun r_5 =>
     (d204 (List.take (zaq p0) p0) r_5).bind fun r_6 =>
     (d204 (List.take (zaq p1) p1) r_5).bind fun r_7 =>
     (bif decide ((r_7.length:Int)≤LIM) then some () else none).bind fun u_2 =>
     (d205 r_6 (List.take (zaq r_7) r_7)).bind fun r_8 =>
     (d171 r_8.1).bind fun r_9 =>
     (d206 r_8.2 r_5).bind fun r_10 =>
     (d171 r_10).bind fun r_11 =>
     some (r_9,r_11,true)
    else none
def sg170:Sig:=⟨[(y55,.bw),(y55,.bw)],[(y55,.sh),(y55,.sh),(y4,.sh)]⟩
def plan170:Plan:=(.post (.seq (.reg [] []) (.seq (.reg [] []) (.seq (.block (.seq (.reg [] []) (.cond (.seq (.reg [] []) .nil) (.seq (.reg [] []) (.cond (.seq (.reg [] []) .nil) (.seq (.reg [] []) (.cond (.seq (.reg [] [{},{},{},{},{},{},{ fl:=1 }]) (.seq (.reg [] []) .nil)) .nil))))))) (.seq (.reg [] []) (.seq (.reg [] [{},{},{},{},{},{},{ frz:=[(56,[])] }]) (.seq (.reg [] []) (.seq (.reg [] []) .nil))))))) [(5,[]),(4,[])])
theorem ev170 (xs:Vals (ptys sg170.ps)):evF (P:=Tryz.prog) tab [.pre zlz,.fn E201,.fn E173,.fn E202,.fn E171,.fn E129,.fn E203,.fn E204,.fn E205,.fn E206] sg170 Tryz.f170.results.toList (code Tryz.f170) plan170 xs=d170 xs.1 xs.2.1:=by kernel_rfl
theorem sim170:Sim Tryz.prog 170 sg170 d170:=zah mixd zan Tryz.func170 (zac rfl) Tryz.call170 (Nat.le_of_ble_eq_true (by kernel_rfl)) (by kernel_rfl) plan170 _ fun xs y h=>(ev170 xs).trans h
noncomputable def E170:FnE Tryz.prog:=⟨170,sg170,d170,sim170⟩
noncomputable def d169 (a:List Int) (b:List Int):Option ua3 :=
 (d171 a).bind fun r =>
 (d171 b).bind fun r_1 =>
 (zaa (β:=ua3) (fun ((a_1,b_1):ua3 × ua3) =>
   bif (decide (0 < (b_1.length:Int))) then
    (d170 a_1 b_1).bind fun r_2 =>
    some (Sum.inl (b_1,r_2.2.1))
   else
    some (Sum.inr a_1)) (r,r_1)).bind fun (a_2:List Int) =>
 some a_2
def sg169:Sig:=⟨[(y55,.bw),(y55,.bw)],[(y55,.sh)]⟩
def plan169:Plan:=(.seq (.reg [] []) (.seq (.reg [] []) (.seq (.block (.frz [(1,[]),(0,[])] (.loop [(0,.v y55 .sh),(1,.v y55 .sh)] [(.brk 0,[(0,.v y55 .sh)])] (.seq (.seq (.reg [] []) (.cond .nil .nil)) (.block (.seq (.reg [] [{},{},{},{ fl:=1 }]) (.reg [] []))))))) (.seq (.reg [] []) .nil))))
theorem ev169 (xs:Vals (ptys sg169.ps)):evF (P:=Tryz.prog) tab [.fn E171,.fn E170] sg169 Tryz.f169.results.toList (code Tryz.f169) plan169 xs=d169 xs.1 xs.2.1:=by kernel_rfl
theorem sim169:Sim Tryz.prog 169 sg169 d169:=zah mixd zan Tryz.func169 (zac rfl) Tryz.call169 (Nat.le_of_ble_eq_true (by kernel_rfl)) (by kernel_rfl) plan169 _ fun xs y h=>(ev169 xs).trans h
noncomputable def E169:FnE Tryz.prog:=⟨169,sg169,d169,sim169⟩
noncomputable def d127 (neg:Bool) (num:List Int) (den:List Int):Option ua1 :=
 letJ (fun ((neg_1,num_1,den_1,t6,t21):Bool × ua3 × ua3 × ua1 × Bool) =>
   bif t21 then
    (d168).bind fun r_2 =>
    some r_2
   else
    (d169 num_1 den_1).bind fun r_3 =>
    (d170 num_1 r_3).bind fun r_4 =>
    (d170 den_1 r_3).bind fun r_5 =>
    some (neg_1,r_4.1,r_5.1)) fun j_ =>
 (d167 num).bind fun r =>
 bif !(decide (r=0)) then
  (d167 den).bind fun r_1 =>
  j_ (neg,num,den,(false,[],[]),(decide (r_1=0)))
 else
  j_ (neg,num,den,(false,[],[]),true)
def sg127:Sig:=⟨[(y4,.sh),(y55,.bw),(y55,.bw)],[(y57,.sh)]⟩
def plan127:Plan:=(.seq (.reg [] []) (.seq (.join (.reg [] []) [(0,.v y4 .sh),(1,.v y55 .bw),(2,.v y55 .bw),(6,.v (.ptr y57) (.own 0 .sh)),(21,.v y4 .sh)] (.cond (.seq (.reg [] []) .nil) .nil)) (.seq (.reg [] []) (.seq (.reg [] [{},{},{},{ fl:=1 }]) (.seq (.reg [] [{},{},{},{ fl:=1 }]) (.seq (.reg [] []) .nil))))))
theorem ev127 (xs:Vals (ptys sg127.ps)):evF (P:=Tryz.prog) tab [.fn E167,.fn E168,.fn E169,.fn E170] sg127 Tryz.f127.results.toList (code Tryz.f127) plan127 xs=d127 xs.1 xs.2.1 xs.2.2.1:=by kernel_rfl
theorem sim127:Sim Tryz.prog 127 sg127 d127:=zah mixd zan Tryz.func127 (zac rfl) Tryz.call127 (Nat.le_of_ble_eq_true (by kernel_rfl)) (by kernel_rfl) plan127 _ fun xs y h=>(ev127 xs).trans h
noncomputable def E127:FnE Tryz.prog:=⟨127,sg127,d127,sim127⟩
noncomputable def d68 (n:Int):Option ua1 :=
 (d128 n).bind fun r =>
 (d129 1).bind fun r_1 =>
 (d127 (decide (n < 0)) r r_1).bind fun r_2 =>
 some r_2
def sg68:Sig:=⟨[(y2,.sh)],[(y57,.sh)]⟩
def plan68:Plan:=(.seq (.reg [] []) (.seq (.reg [] []) .nil))
theorem ev68 (xs:Vals (ptys sg68.ps)):evF (P:=Tryz.prog) tab [.fn E128,.fn E129,.fn E127] sg68 Tryz.f68.results.toList (code Tryz.f68) plan68 xs=d68 xs.1:=by kernel_rfl
theorem sim68:Sim Tryz.prog 68 sg68 d68:=zah mixd zan Tryz.func68 (zac rfl) Tryz.call68 (Nat.le_of_ble_eq_true (by kernel_rfl)) (by kernel_rfl) plan68 _ fun xs y h=>(ev68 xs).trans h
noncomputable def E68:FnE Tryz.prog:=⟨68,sg68,d68,sim68⟩
noncomputable def d175 (r:ua1):Option ua1 :=
 (d127 r.1 r.2.1 r.2.2).bind fun r_1 =>
 some r_1
def sg175:Sig:=⟨[(y57,.bw)],[(y57,.sh)]⟩
def plan175:Plan:=(.seq (.reg [] []) (.seq (.reg [] []) .nil))
theorem ev175 (xs:Vals (ptys sg175.ps)):evF (P:=Tryz.prog) tab [.fn E127] sg175 Tryz.f175.results.toList (code Tryz.f175) plan175 xs=d175 xs.1:=by kernel_rfl
theorem sim175:Sim Tryz.prog 175 sg175 d175:=zah mixd zan Tryz.func175 (zac rfl) Tryz.call175 (Nat.le_of_ble_eq_true (by kernel_rfl)) (by kernel_rfl) plan175 _ fun xs y h=>(ev175 xs).trans h
noncomputable def E175:FnE Tryz.prog:=⟨175,sg175,d175,sim175⟩
noncomputable def d177 (p0:List Int) (p1:List Int):Option ua3 :=
 (bif decide ((p0.length:Int)≤LIM) then some () else none).bind fun u =>
 (bif decide ((p1.length:Int)≤LIM) then some () else none).bind fun u_1 =>
 bif (decide ((w (((List.take (zaq p0) p0).length:Int)+((List.take (zaq p1) p1).length:Int)))=(w (((List.take (zaq p0) p0).length:Int)+((List.take (zaq p1) p1).length:Int)))) && (decide (0≤(w (((List.take (zaq p0) p0).length:Int)+((List.take (zaq p1) p1).length:Int)))) && decide ((w (((List.take (zaq p0) p0).length:Int)+((List.take (zaq p1) p1).length:Int)))≤LIM))) then
  (zaa (β:=ua3) (fun ((t1,t5,t22,t23,t24):ua3 × ua3 × ua3 × Int × Int) =>
    bif (decide (t24 < t23)) then
     bif (decide (0≤t24) && decide (t24 < (t22.length:Int))) then
      (zaa (β:=(ua3 × ua3 × Int × Int × ua3 × Int × Int)) (fun ((t1_1,t5_1,t6,t7,t8,t22_1,t23_1,t24_1,t29,t30,t31):ua3 × ua3 × Int × Int × Int × ua3 × Int × Int × ua3 × Int × Int) =>
        bif (decide (t31 < t30)) then
         bif (decide (0≤t31) && decide (t31 < (t29.length:Int))) then
          bif (decide (0≤(w (t6+t31))) && decide ((w (t6+t31)) < (t5_1.length:Int))) then
           bif (decide (0≤(w (t6+t31))) && decide ((w (t6+t31)) < (t5_1.length:Int))) then
            some (Sum.inl (t1_1,(List.set t5_1 (Int.toNat (w (t6+t31))) (wu32 (wu64 ((wu64 ((wu64 ((wu64 t7) * (wu64 (List.getD t29 (Int.toNat t31) 0))))+(wu64 (List.getD t5_1 (Int.toNat (w (t6+t31))) 0))))+t8)))),t6,t7,(wu64 (Int.fdiv (wu64 ((wu64 ((wu64 ((wu64 t7) * (wu64 (List.getD t29 (Int.toNat t31) 0))))+(wu64 (List.getD t5_1 (Int.toNat (w (t6+t31))) 0))))+t8)) (2 ^ (min (Int.toNat 32) 64)))),t22_1,t23_1,t24_1,t29,t30,(w (t31+1))))
           else none
          else none
         else none
        else
         some (Sum.inr (t1_1,t5_1,t6,t8,t22_1,t23_1,t24_1))) (t1,t5,t24,(List.getD t22 (Int.toNat t24) 0),0,t22,t23,t24,t1,(t1.length:Int),0)).bind fun ((t1_2,t5_2,t6_1,t8_1,t22_2,t23_2,t24_2):ua3 × ua3 × Int × Int × ua3 × Int × Int) =>
      bif (decide (0≤(w (t6_1+(t1_2.length:Int)))) && decide ((w (t6_1+(t1_2.length:Int))) < (t5_2.length:Int))) then
       some (Sum.inl (t1_2,(List.set t5_2 (Int.toNat (w (t6_1+(t1_2.length:Int)))) (wu32 t8_1)),t22_2,t23_2,(w (t24_2+1))))
      else none
     else none
    else
     some (Sum.inr t5)) ((List.take (zaq p1) p1),(List.replicate (Int.toNat (w (((List.take (zaq p0) p0).length:Int)+((List.take (zaq p1) p1).length:Int)))) 0),(List.take (zaq p0) p0),((List.take (zaq p0) p0).length:Int),0)).bind fun (t5_3:List Int) =>
  (d171 t5_3).bind fun r =>
  some r
 else none
def sg177:Sig:=⟨[(y55,.bw),(y55,.bw)],[(y55,(.own 146 .sh))]⟩
def plan177:Plan:=(.seq (.reg [] []) (.seq (.reg [] []) (.seq (.reg [] []) (.seq (.seq (.reg [] []) (.block (.loop [(1,.v y55 .bw),(5,.v y55 (.own 146 .sh)),(22,.v y55 .bw),(23,.v y2 .sh),(24,.v y2 .sh)] [(.brk 0,[(5,.v y55 (.own 146 .sh))])] (.seq (.reg [] []) (.seq (.cond .nil .nil) (.seq (.block (.seq (.reg [] []) (.seq (.reg [] []) (.seq (.seq (.reg [] []) (.block (.loop [(1,.v y55 .bw),(5,.v y55 (.own 146 .sh)),(6,.v y2 .sh),(7,.v y146 .sh),(8,.v y12 .sh),(22,.v y55 .bw),(23,.v y2 .sh),(24,.v y2 .sh),(29,.v y55 .bw),(30,.v y2 .sh),(31,.v y2 .sh)] [(.brk 2,[(1,.v y55 .bw),(5,.v y55 (.own 146 .sh)),(6,.v y2 .sh),(8,.v y12 .sh),(22,.v y55 .bw),(23,.v y2 .sh),(24,.v y2 .sh)])] (.seq (.reg [] []) (.seq (.cond .nil .nil) (.seq (.block (.seq (.reg [] []) (.seq (.reg [] []) (.seq (.reg [] []) (.reg [] []))))) (.reg [] []))))))) (.reg [] []))))) (.reg [] []))))))) (.seq (.reg [] []) .nil)))))
theorem ev177 (xs:Vals (ptys sg177.ps)):evF (P:=Tryz.prog) tab [.pre zlz,.fn E171] sg177 Tryz.f177.results.toList (code Tryz.f177) plan177 xs=d177 xs.1 xs.2.1:=by kernel_rfl
theorem sim177:Sim Tryz.prog 177 sg177 d177:=zah mixd zan Tryz.func177 (zac rfl) Tryz.call177 (Nat.le_of_ble_eq_true (by kernel_rfl)) (by kernel_rfl) plan177 _ fun xs y h=>(ev177 xs).trans h
noncomputable def E177:FnE Tryz.prog:=⟨177,sg177,d177,sim177⟩
noncomputable def d209 (a:List Int) (b:List Int):Option ua3 :=
 (bif decide ((a.length:Int)≤LIM) then some () else none).bind fun u =>
 (bif decide ((b.length:Int)≤LIM) then some () else none).bind fun u_1 =>
 bif (decide ((w ((bif (decide (((List.take (zaq a) a).length:Int) < ((List.take (zaq b) b).length:Int))) then ((List.take (zaq b) b).length:Int) else ((List.take (zaq a) a).length:Int))+1))=(w ((bif (decide (((List.take (zaq a) a).length:Int) < ((List.take (zaq b) b).length:Int))) then ((List.take (zaq b) b).length:Int) else ((List.take (zaq a) a).length:Int))+1))) && (decide (0≤(w ((bif (decide (((List.take (zaq a) a).length:Int) < ((List.take (zaq b) b).length:Int))) then ((List.take (zaq b) b).length:Int) else ((List.take (zaq a) a).length:Int))+1))) && decide ((w ((bif (decide (((List.take (zaq a) a).length:Int) < ((List.take (zaq b) b).length:Int))) then ((List.take (zaq b) b).length:Int) else ((List.take (zaq a) a).length:Int))+1))≤LIM))) then
  (zaa (β:=(Int × ua3 × Int)) (fun ((a_1,b_1,n,out,carry,t22,t23):ua3 × ua3 × Int × ua3 × Int × Int × Int) =>
    bif (decide (t23 < t22)) then
     (d217 a_1 t23).bind fun r =>
     (d217 b_1 t23).bind fun r_1 =>
     bif (decide (0≤t23) && decide (t23 < (out.length:Int))) then
      some (Sum.inl (a_1,b_1,n,(List.set out (Int.toNat t23) (wu32 (wu64 ((wu64 (r+r_1))+carry)))),(wu64 (Int.fdiv (wu64 ((wu64 (r+r_1))+carry)) (2 ^ (min (Int.toNat 32) 64)))),t22,(w (t23+1))))
     else none
    else
     some (Sum.inr (n,out,carry))) ((List.take (zaq a) a),(List.take (zaq b) b),(bif (decide (((List.take (zaq a) a).length:Int) < ((List.take (zaq b) b).length:Int))) then ((List.take (zaq b) b).length:Int) else ((List.take (zaq a) a).length:Int)),(List.replicate (Int.toNat (w ((bif (decide (((List.take (zaq a) a).length:Int) < ((List.take (zaq b) b).length:Int))) then ((List.take (zaq b) b).length:Int) else ((List.take (zaq a) a).length:Int))+1))) 0),0,(bif (decide (((List.take (zaq a) a).length:Int) < ((List.take (zaq b) b).length:Int))) then ((List.take (zaq b) b).length:Int) else ((List.take (zaq a) a).length:Int)),0)).bind fun ((n_1,out_1,carry_1):Int × ua3 × Int) =>
  bif (decide (0≤n_1) && decide (n_1 < (out_1.length:Int))) then
   (d171 (List.set out_1 (Int.toNat n_1) (wu32 carry_1))).bind fun r_2 =>
   some r_2
  else none
 else none
def sg209:Sig:=⟨[(y55,.bw),(y55,.bw)],[(y55,(.own 146 .sh))]⟩
def plan209:Plan:=(.seq (.reg [] []) (.seq (.reg [] []) (.seq (.reg [] []) (.seq (.reg [] []) (.seq (.reg [] []) (.seq (.seq (.reg [] []) (.block (.loop [(0,.v y55 .bw),(1,.v y55 .bw),(5,.v y2 .sh),(6,.v y55 (.own 146 .sh)),(7,.v y12 .sh),(22,.v y2 .sh),(23,.v y2 .sh)] [(.brk 0,[(5,.v y2 .sh),(6,.v y55 (.own 146 .sh)),(7,.v y12 .sh)])] (.seq (.reg [] []) (.seq (.cond .nil .nil) (.seq (.block (.seq (.reg [] []) (.seq (.reg [] []) (.seq (.reg [] []) (.reg [] []))))) (.reg [] []))))))) (.seq (.reg [] []) (.seq (.reg [] []) .nil))))))))
theorem ev209 (xs:Vals (ptys sg209.ps)):evF (P:=Tryz.prog) tab [.pre zlz,.fn E217,.fn E171] sg209 Tryz.f209.results.toList (code Tryz.f209) plan209 xs=d209 xs.1 xs.2.1:=by kernel_rfl
theorem sim209:Sim Tryz.prog 209 sg209 d209:=zah mixd zan Tryz.func209 (zac rfl) Tryz.call209 (Nat.le_of_ble_eq_true (by kernel_rfl)) (by kernel_rfl) plan209 _ fun xs y h=>(ev209 xs).trans h
noncomputable def E209:FnE Tryz.prog:=⟨209,sg209,d209,sim209⟩
noncomputable def d210 (a:List Int) (b:List Int):Option (ua3 × Bool) :=
 (bif decide ((a.length:Int)≤LIM) then some () else none).bind fun u =>
 (bif decide ((b.length:Int)≤LIM) then some () else none).bind fun u_1 =>
 (d201 (List.take (zaq a) a) (List.take (zaq b) b)).bind fun r =>
 bif (decide (r < 0)) then
  some ([],false)
 else
  bif (decide (((List.take (zaq a) a).length:Int)=((List.take (zaq a) a).length:Int)) && (decide (0≤((List.take (zaq a) a).length:Int)) && decide (((List.take (zaq a) a).length:Int)≤LIM))) then
   (zaa (β:=ua3) (fun ((a_1,b_1,out,borrow,t22,t23):ua3 × ua3 × ua3 × Int × Int × Int) =>
     bif (decide (t23 < t22)) then
      (d217 a_1 t23).bind fun r_1 =>
      (d217 b_1 t23).bind fun r_2 =>
      bif (decide (0≤t23) && decide (t23 < (out.length:Int))) then
       some (Sum.inl (a_1,b_1,(List.set out (Int.toNat t23) (wu32 (wu64 ((wu64 ((wu64 (4294967296+r_1)) - r_2)) - borrow)))),(wu64 (1 - (wu64 (Int.fdiv (wu64 ((wu64 ((wu64 (4294967296+r_1)) - r_2)) - borrow)) (2 ^ (min (Int.toNat 32) 64)))))),t22,(w (t23+1))))
      else none
     else
      some (Sum.inr out)) ((List.take (zaq a) a),(List.take (zaq b) b),(List.replicate (Int.toNat ((List.take (zaq a) a).length:Int)) 0),0,((List.take (zaq a) a).length:Int),0)).bind fun (out_1:List Int) =>
   (d171 out_1).bind fun r_3 =>
   some (r_3,true)
  else none
def sg210:Sig:=⟨[(y55,.bw),(y55,.bw)],[(y55,.sh),(y4,.sh)]⟩
def plan210:Plan:=(.post (.seq (.reg [] []) (.seq (.reg [] []) (.seq (.seq (.reg [] []) (.cond (.seq (.reg [] []) .nil) .nil)) (.seq (.reg [] []) (.seq (.reg [] []) (.seq (.seq (.reg [] []) (.block (.loop [(0,.v y55 .bw),(1,.v y55 .bw),(6,.v y55 (.own 146 .sh)),(7,.v y12 .sh),(22,.v y2 .sh),(23,.v y2 .sh)] [(.brk 0,[(6,.v y55 (.own 146 .sh))])] (.seq (.reg [] []) (.seq (.cond .nil .nil) (.seq (.block (.seq (.reg [] []) (.seq (.reg [] []) (.seq (.reg [] []) (.reg [] []))))) (.reg [] []))))))) (.seq (.reg [] []) .nil))))))) [(4,[])])
theorem ev210 (xs:Vals (ptys sg210.ps)):evF (P:=Tryz.prog) tab [.pre zlz,.fn E201,.fn E217,.fn E171] sg210 Tryz.f210.results.toList (code Tryz.f210) plan210 xs=d210 xs.1 xs.2.1:=by kernel_rfl
theorem sim210:Sim Tryz.prog 210 sg210 d210:=zah mixd zan Tryz.func210 (zac rfl) Tryz.call210 (Nat.le_of_ble_eq_true (by kernel_rfl)) (by kernel_rfl) plan210 _ fun xs y h=>(ev210 xs).trans h
noncomputable def E210:FnE Tryz.prog:=⟨210,sg210,d210,sim210⟩
noncomputable def d176 (aNeg:Bool) (a:List Int) (bNeg:Bool) (b:List Int):Option (Bool × ua3) :=
 bif (aNeg == bNeg) then
  (d209 a b).bind fun r =>
  some (aNeg,r)
 else
  (d210 a b).bind fun r_1 =>
  bif r_1.2 then
   some (aNeg,r_1.1)
  else
   (d210 b a).bind fun r_2 =>
   some (bNeg,r_2.1)
def sg176:Sig:=⟨[(y4,.sh),(y55,.bw),(y4,.sh),(y55,.bw)],[(y4,.sh),(y55,.sh)]⟩
def plan176:Plan:=(.post (.seq (.reg [] []) (.seq (.seq (.reg [] []) (.cond (.seq (.reg [] []) .nil) .nil)) (.seq (.seq (.reg [] [{},{},{},{ fl:=1 }]) (.seq (.reg [] []) (.cond (.seq (.reg [] []) .nil) .nil))) (.seq (.reg [] [{},{},{},{ fl:=1 }]) (.seq (.reg [] []) .nil))))) [(9,[])])
theorem ev176 (xs:Vals (ptys sg176.ps)):evF (P:=Tryz.prog) tab [.fn E209,.fn E210] sg176 Tryz.f176.results.toList (code Tryz.f176) plan176 xs=d176 xs.1 xs.2.1 xs.2.2.1 xs.2.2.2.1:=by kernel_rfl
theorem sim176:Sim Tryz.prog 176 sg176 d176:=zah mixd zan Tryz.func176 (zac rfl) Tryz.call176 (Nat.le_of_ble_eq_true (by kernel_rfl)) (by kernel_rfl) plan176 _ fun xs y h=>(ev176 xs).trans h
noncomputable def E176:FnE Tryz.prog:=⟨176,sg176,d176,sim176⟩
noncomputable def d138 (a:ua1) (b:ua1):Option ua1 :=
 (d175 a).bind fun r =>
 (d175 b).bind fun r_1 =>
 (d177 r.2.1 r_1.2.2).bind fun r_2 =>
 (d177 r_1.2.1 r.2.2).bind fun r_3 =>
 (d176 r.1 r_2 r_1.1 r_3).bind fun r_4 =>
 (d177 r.2.2 r_1.2.2).bind fun r_5 =>
 (d127 r_4.1 r_4.2 r_5).bind fun r_6 =>
 some r_6
def sg138:Sig:=⟨[(y57,.bw),(y57,.bw)],[(y57,.sh)]⟩
def plan138:Plan:=(.seq (.reg [] []) (.seq (.reg [] []) (.seq (.reg [] [{},{},{},{},{},{},{},{},{},{},{},{},{},{},{},{ fl:=1 }]) (.seq (.reg [] []) .nil))))
theorem ev138 (xs:Vals (ptys sg138.ps)):evF (P:=Tryz.prog) tab [.fn E175,.fn E177,.fn E176,.fn E127] sg138 Tryz.f138.results.toList (code Tryz.f138) plan138 xs=d138 xs.1 xs.2.1:=by kernel_rfl
theorem sim138:Sim Tryz.prog 138 sg138 d138:=zah mixd zan Tryz.func138 (zac rfl) Tryz.call138 (Nat.le_of_ble_eq_true (by kernel_rfl)) (by kernel_rfl) plan138 _ fun xs y h=>(ev138 xs).trans h
noncomputable def E138:FnE Tryz.prog:=⟨138,sg138,d138,sim138⟩
noncomputable def d132 (a:ua1) (b:ua1):Option ua1 :=
 (d138 a (!b.1,b.2)).bind fun r =>
 some r
def sg132:Sig:=⟨[(y57,.bw),(y57,.bw)],[(y57,.sh)]⟩
def plan132:Plan:=(.seq (.reg [] []) (.seq (.reg [] []) (.seq (.reg [] []) .nil)))
theorem ev132 (xs:Vals (ptys sg132.ps)):evF (P:=Tryz.prog) tab [.fn E138] sg132 Tryz.f132.results.toList (code Tryz.f132) plan132 xs=d132 xs.1 xs.2.1:=by kernel_rfl
theorem sim132:Sim Tryz.prog 132 sg132 d132:=zah mixd zan Tryz.func132 (zac rfl) Tryz.call132 (Nat.le_of_ble_eq_true (by kernel_rfl)) (by kernel_rfl) plan132 _ fun xs y h=>(ev132 xs).trans h
noncomputable def E132:FnE Tryz.prog:=⟨132,sg132,d132,sim132⟩
noncomputable def d137 (a:ua1) (b:ua1):Option Int :=
 (d132 a b).bind fun r =>
 bif r.1 then
  some (-1)
 else
  bif (decide ((r.2.1.length:Int)=0)) then
   some 0
  else
   some 1
def sg137:Sig:=⟨[(y57,.bw),(y57,.bw)],[(y2,.sh)]⟩
def plan137:Plan:=(.seq (.reg [] []) (.seq (.reg [] []) (.seq (.block (.seq (.reg [] []) (.cond (.seq (.reg [] []) .nil) (.seq (.reg [] []) (.cond (.seq (.reg [] []) .nil) .nil))))) (.seq (.reg [] []) .nil))))
theorem ev137 (xs:Vals (ptys sg137.ps)):evF (P:=Tryz.prog) tab [.fn E132] sg137 Tryz.f137.results.toList (code Tryz.f137) plan137 xs=d137 xs.1 xs.2.1:=by kernel_rfl
theorem sim137:Sim Tryz.prog 137 sg137 d137:=zah mixd zan Tryz.func137 (zac rfl) Tryz.call137 (Nat.le_of_ble_eq_true (by kernel_rfl)) (by kernel_rfl) plan137 _ fun xs y h=>(ev137 xs).trans h
noncomputable def E137:FnE Tryz.prog:=⟨137,sg137,d137,sim137⟩
noncomputable def d158 (a:Int) (b:Int):Option ua1 :=
 (d128 a).bind fun r =>
 (d128 b).bind fun r_1 =>
 (d127 (!((decide (a < 0)) == (decide (b < 0)))) r r_1).bind fun r_2 =>
 some r_2
def sg158:Sig:=⟨[(y2,.sh),(y2,.sh)],[(y57,.sh)]⟩
def plan158:Plan:=(.seq (.reg [] []) (.seq (.reg [] []) .nil))
theorem ev158 (xs:Vals (ptys sg158.ps)):evF (P:=Tryz.prog) tab [.fn E128,.fn E127] sg158 Tryz.f158.results.toList (code Tryz.f158) plan158 xs=d158 xs.1 xs.2.1:=by kernel_rfl
theorem sim158:Sim Tryz.prog 158 sg158 d158:=zah mixd zan Tryz.func158 (zac rfl) Tryz.call158 (Nat.le_of_ble_eq_true (by kernel_rfl)) (by kernel_rfl) plan158 _ fun xs y h=>(ev158 xs).trans h
noncomputable def E158:FnE Tryz.prog:=⟨158,sg158,d158,sim158⟩
noncomputable def d172 (a:ua1) (b:ua1):Option ua1 :=
 (d177 a.2.1 b.2.1).bind fun r =>
 (d177 a.2.2 b.2.2).bind fun r_1 =>
 (d127 (!(a.1 == b.1)) r r_1).bind fun r_2 =>
 some r_2
noncomputable def d179 (a:ua1) (b:ua1):Option (ua1 × Bool) :=
 (d175 a).bind fun r =>
 (d175 b).bind fun r_1 =>
 bif (decide ((r_1.2.1.length:Int)=0)) then
  some ((false,[],[]),false)
 else
  (d177 r.2.1 r_1.2.2).bind fun r_2 =>
  (d177 r.2.2 r_1.2.1).bind fun r_3 =>
  (d127 (!(r.1 == r_1.1)) r_2 r_3).bind fun r_4 =>
  some (r_4,true)
noncomputable def d142 (b:List Bool):Option ua2 :=
 (zaa (β:=(ua2 × Int)) (fun ((b_1,n):ua2 × Int) =>
   letJ (fun ((b_2,n_1,t15):ua2 × Int × Bool) =>
     bif t15 then
      some (Sum.inl (b_2,(w (n_1 - 1))))
     else
      some (Sum.inr (b_2,n_1))) fun j_ =>
   bif (decide (0 < n)) then
    bif (decide (0≤(w (n - 1))) && decide ((w (n - 1)) < (b_1.length:Int))) then
     j_ (b_1,n,!(List.getD b_1 (Int.toNat (w (n - 1))) false))
    else none
   else
    j_ (b_1,n,false)) (b,(b.length:Int))).bind fun ((b_3,n_2):ua2 × Int) =>
 bif (zcf 0 n_2 b_3.length) then
  bif (decide ((([]:List Bool).length:Int)+((List.drop 0 (List.take (Int.toNat n_2) b_3)).length:Int)≤LIM)) then
   some (List.drop 0 (List.take (Int.toNat n_2) b_3))
  else none
 else none
noncomputable def d95 (a:List Int):Option ua2 :=
 (zaa (β:=ua2) (fun ((a_1,b,i):ua3 × ua2 × Int) =>
   bif (decide (i < (a_1.length:Int))) then
    (zaa (β:=(ua3 × ua2 × Int)) (fun ((a_2,b_1,i_1,k):ua3 × ua2 × Int × Int) =>
      bif (decide (k < 32)) then
       bif (decide (0≤i_1) && decide (i_1 < (a_2.length:Int))) then
        bif (decide (0≤k)) then
         bif (decide ((b_1.length:Int)+(([(decide ((wu32 ((BitVec.ofInt 32 (wu32 (Int.fdiv (List.getD a_2 (Int.toNat i_1) 0) (2 ^ (min (Int.toNat k) 32)))) &&& BitVec.ofInt 32 1).toNat:Int))=1))]:List Bool).length:Int)≤LIM)) then
          some (Sum.inl (a_2,(b_1++[(decide ((wu32 ((BitVec.ofInt 32 (wu32 (Int.fdiv (List.getD a_2 (Int.toNat i_1) 0) (2 ^ (min (Int.toNat k) 32)))) &&& BitVec.ofInt 32 1).toNat:Int))=1))]),i_1,(wu64 (k+1))))
         else none
        else none
       else none
      else
       some (Sum.inr (a_2,b_1,i_1))) (a_1,b,i,0)).bind fun ((a_3,b_2,i_2):ua3 × ua2 × Int) =>
    some (Sum.inl (a_3,b_2,(w (i_2+1))))
   else
    some (Sum.inr b)) (a,[],0)).bind fun (b_3:List Bool) =>
 (d142 b_3).bind fun r =>
 some r
noncomputable def d93 (n:Int):Option ua2 :=
 (d95 [(wu32 n),(wu32 (wu64 (Int.fdiv n (2 ^ (min (Int.toNat 32) 64)))))]).bind fun r =>
 some r
noncomputable def d94 (n:Int):Option ua2 :=
 (zaa (β:=ua2) (fun ((n_1,b):Int × ua2) =>
   bif (decide (0 < n_1)) then
    bif (decide ((b.length:Int)+(([(decide ((w (Int.tmod n_1 2))=1))]:List Bool).length:Int)≤LIM)) then
     some (Sum.inl ((w (Int.tdiv n_1 2)),(b++[(decide ((w (Int.tmod n_1 2))=1))])))
    else none
   else
    some (Sum.inr b)) (n,[])).bind fun (b_1:List Bool) =>
 some b_1
noncomputable def d145 (b:List Bool) (i:Int):Option Bool :=
 bif (decide (0≤i)) then
  bif (decide (i < (b.length:Int))) then
   bif (decide (0≤i) && decide (i < (b.length:Int))) then
    some (List.getD b (Int.toNat i) false)
   else none
  else
   some false
 else
  some false
noncomputable def d80 (a:List Bool) (b:List Bool):Option Int :=
 (zaa (β:=Unit ⊕ Int) (fun ((a_1,b_1,i):ua2 × ua2 × Int) =>
   bif (decide (0≤i)) then
    (d145 a_1 i).bind fun r =>
    (d145 b_1 i).bind fun r_1 =>
    bif !(r == r_1) then
     (d145 a_1 i).bind fun r_2 =>
     bif r_2 then
      some (Sum.inr (Sum.inr 1))
     else
      some (Sum.inr (Sum.inr (-1)))
    else
     some (Sum.inl (a_1,b_1,(w (i - 1))))
   else
    some (Sum.inr (Sum.inl ()))) (a,b,(w ((bif (decide ((a.length:Int) < (b.length:Int))) then (b.length:Int) else (a.length:Int)) - 1)))).bind fun
 | Sum.inl _ =>
  some 0
 | Sum.inr t4 =>
  some t4
noncomputable def d82 (a:List Bool) (b:List Bool):Option ua2 :=
 (zaa (β:=ua2) (fun ((a_1,b_1,out,borrow,i):ua4) =>
   bif (decide (i < (a_1.length:Int))) then
    letJ (fun ((a_2,b_2,out_1,borrow_1,i_1):ua4) =>
      some (Sum.inl (a_2,b_2,out_1,borrow_1,(w (i_1+1))))) fun j_ =>
    (d145 a_1 i).bind fun r =>
    (d145 b_1 i).bind fun r_1 =>
    bif (decide ((out.length:Int)+(([!((!(r == r_1)) == borrow)]:List Bool).length:Int)≤LIM)) then
     bif !r then
      bif !r_1 then
       bif !r then
        bif !borrow then
         bif r_1 then
          j_ (a_1,b_1,(out++[!((!(r == r_1)) == borrow)]),borrow,i)
         else
          j_ (a_1,b_1,(out++[!((!(r == r_1)) == borrow)]),false,i)
        else
         j_ (a_1,b_1,(out++[!((!(r == r_1)) == borrow)]),true,i)
       else
        bif r_1 then
         j_ (a_1,b_1,(out++[!((!(r == r_1)) == borrow)]),borrow,i)
        else
         j_ (a_1,b_1,(out++[!((!(r == r_1)) == borrow)]),false,i)
      else
       j_ (a_1,b_1,(out++[!((!(r == r_1)) == borrow)]),true,i)
     else
      bif !r then
       bif !borrow then
        bif r_1 then
         j_ (a_1,b_1,(out++[!((!(r == r_1)) == borrow)]),borrow,i)
        else
         j_ (a_1,b_1,(out++[!((!(r == r_1)) == borrow)]),false,i)
       else
        j_ (a_1,b_1,(out++[!((!(r == r_1)) == borrow)]),true,i)
      else
       bif r_1 then
        j_ (a_1,b_1,(out++[!((!(r == r_1)) == borrow)]),borrow,i)
       else
        j_ (a_1,b_1,(out++[!((!(r == r_1)) == borrow)]),false,i)
    else none
   else
    some (Sum.inr out)) (a,b,[],false,0)).bind fun (out_2:List Bool) =>
 (d142 out_2).bind fun r_2 =>
 some r_2
noncomputable def d153 (a:List Bool) (b:List Bool):Option (ua2 × ua2) :=
 bif (decide ((a.length:Int)=(a.length:Int)) && (decide (0≤(a.length:Int)) && decide ((a.length:Int)≤LIM))) then
  (zaa (β:=(ua2 × ua2)) (fun ((a_1,b_1,q,r,i):ua2 × ua2 × ua2 × ua2 × Int) =>
    bif (decide (0≤i)) then
     letJ (fun ((a_2,b_2,q_1,r_4,i_1):ua2 × ua2 × ua2 × ua2 × Int) =>
       some (Sum.inl (a_2,b_2,q_1,r_4,(w (i_1 - 1))))) fun j_ =>
     bif (decide (0≤i) && decide (i < (a_1.length:Int))) then
      bif (decide ((([(List.getD a_1 (Int.toNat i) false)]:List Bool).length:Int)+(r.length:Int)≤LIM)) then
       (d142 ([(List.getD a_1 (Int.toNat i) false)]++r)).bind fun r_1 =>
       (d80 r_1 b_1).bind fun r_2 =>
       bif (decide (0≤r_2)) then
        (d82 r_1 b_1).bind fun r_3 =>
        bif (decide (0≤i) && decide (i < (q.length:Int))) then
         j_ (a_1,b_1,(List.set q (Int.toNat i) true),r_3,i)
        else none
       else
        j_ (a_1,b_1,q,r_1,i)
      else none
     else none
    else
     some (Sum.inr (q,r))) (a,b,(List.replicate (Int.toNat (a.length:Int)) false),[],(w ((a.length:Int) - 1)))).bind fun ((q_2,r_5):ua2 × ua2) =>
  (d142 q_2).bind fun r_6 =>
  some (r_6,r_5)
 else none
noncomputable def d152 (a:List Bool) (b:List Bool):Option ua2 :=
 (zaa (β:=ua2) (fun ((a_1,b_1):ua2 × ua2) =>
   bif (decide (0 < (b_1.length:Int))) then
    (d153 a_1 b_1).bind fun r =>
    some (Sum.inl (b_1,r.2))
   else
    some (Sum.inr a_1)) (a,b)).bind fun (a_2:List Bool) =>
 (d142 a_2).bind fun r_1 =>
 some r_1
noncomputable def d92 (neg:Bool) (n:List Bool) (d:List Bool):Option ua0 :=
 letJ (fun ((neg_1,n_1,d_1,t6,t19):Bool × ua2 × ua2 × ua0 × Bool) =>
   bif t19 then
    (d94 1).bind fun r =>
    some (false,[],r)
   else
    (d152 n_1 d_1).bind fun r_1 =>
    (d153 n_1 r_1).bind fun r_2 =>
    (d153 d_1 r_1).bind fun r_3 =>
    some (neg_1,r_2.1,r_3.1)) fun j_ =>
 bif !(decide ((n.length:Int)=0)) then
  j_ (neg,n,d,(false,[],[]),(decide ((d.length:Int)=0)))
 else
  j_ (neg,n,d,(false,[],[]),true)
noncomputable def d33 (n:Int):Option ua0 :=
 bif (decide (n < 0)) then
  (d93 (wu64 ((wu64 (w (0 - (w (n+1)))))+1))).bind fun r =>
  (d94 1).bind fun r_1 =>
  (d92 true r r_1).bind fun r_2 =>
  some r_2
 else
  (d93 (wu64 n)).bind fun r_3 =>
  (d94 1).bind fun r_4 =>
  (d92 false r_3 r_4).bind fun r_5 =>
  some r_5
noncomputable def d34 (r:ua1):Option ua0 :=
 (d95 r.2.1).bind fun r_1 =>
 (d95 r.2.2).bind fun r_2 =>
 (d92 r.1 r_1 r_2).bind fun r_3 =>
 some r_3
noncomputable def d141 (a:List Bool) (n:Int):Option ua2 :=
 bif (decide (n=n) && (decide (0≤n) && decide (n≤LIM))) then
  bif (decide (((List.replicate (Int.toNat n) false).length:Int)+(a.length:Int)≤LIM)) then
   some ((List.replicate (Int.toNat n) false)++a)
  else none
 else none
noncomputable def d79 (a:List Bool) (b:List Bool):Option ua2 :=
 (zaa (β:=ua2) (fun ((a_1,b_1,out,carry,i):ua4) =>
   bif (decide (i≤(bif (decide ((a_1.length:Int) < (b_1.length:Int))) then (b_1.length:Int) else (a_1.length:Int)))) then
    letJ (fun ((a_2,b_2,out_1,carry_1,i_1):ua4) =>
      some (Sum.inl (a_2,b_2,out_1,carry_1,(w (i_1+1))))) fun j_ =>
    (d145 a_1 i).bind fun r =>
    (d145 b_1 i).bind fun r_1 =>
    bif (decide ((out.length:Int)+(([!((!(r == r_1)) == carry)]:List Bool).length:Int)≤LIM)) then
     bif r then
      bif !r_1 then
       bif r then
        bif !carry then
         bif r_1 then
          j_ (a_1,b_1,(out++[!((!(r == r_1)) == carry)]),carry,i)
         else
          j_ (a_1,b_1,(out++[!((!(r == r_1)) == carry)]),false,i)
        else
         j_ (a_1,b_1,(out++[!((!(r == r_1)) == carry)]),true,i)
       else
        bif r_1 then
         j_ (a_1,b_1,(out++[!((!(r == r_1)) == carry)]),carry,i)
        else
         j_ (a_1,b_1,(out++[!((!(r == r_1)) == carry)]),false,i)
      else
       j_ (a_1,b_1,(out++[!((!(r == r_1)) == carry)]),true,i)
     else
      bif r then
       bif !carry then
        bif r_1 then
         j_ (a_1,b_1,(out++[!((!(r == r_1)) == carry)]),carry,i)
        else
         j_ (a_1,b_1,(out++[!((!(r == r_1)) == carry)]),false,i)
       else
        j_ (a_1,b_1,(out++[!((!(r == r_1)) == carry)]),true,i)
      else
       bif r_1 then
        j_ (a_1,b_1,(out++[!((!(r == r_1)) == carry)]),carry,i)
       else
        j_ (a_1,b_1,(out++[!((!(r == r_1)) == carry)]),false,i)
    else none
   else
    some (Sum.inr out)) (a,b,[],false,0)).bind fun (out_2:List Bool) =>
 (d142 out_2).bind fun r_2 =>
 some r_2
noncomputable def d77 (a:List Bool) (b:List Bool):Option ua2 :=
 (zaa (β:=ua2) (fun ((a_1,b_1,sum,i):ua2 × ua2 × ua2 × Int) =>
   bif (decide (i < (b_1.length:Int))) then
    letJ (fun ((a_2,b_2,sum_1,i_1):ua2 × ua2 × ua2 × Int) =>
      some (Sum.inl (a_2,b_2,sum_1,(w (i_1+1))))) fun j_ =>
    bif (decide (0≤i) && decide (i < (b_1.length:Int))) then
     bif (List.getD b_1 (Int.toNat i) false) then
      (d141 a_1 i).bind fun r =>
      (d79 sum r).bind fun r_1 =>
      j_ (a_1,b_1,r_1,i)
     else
      j_ (a_1,b_1,sum,i)
    else none
   else
    some (Sum.inr sum)) (a,b,[],0)).bind fun (sum_2:List Bool) =>
 (d142 sum_2).bind fun r_2 =>
 some r_2
noncomputable def d35 (a:ua0) (b:ua0):Option ua0 :=
 (d77 a.2.1 b.2.2).bind fun r =>
 (d77 b.2.1 a.2.2).bind fun r_1 =>
 (d77 a.2.2 b.2.2).bind fun r_2 =>
 bif (a.1 == b.1) then
  (d79 r r_1).bind fun r_3 =>
  (d92 a.1 r_3 r_2).bind fun r_4 =>
  some r_4
 else
  (d80 r r_1).bind fun r_5 =>
  bif (decide (0≤r_5)) then
   (d82 r r_1).bind fun r_6 =>
   (d92 a.1 r_6 r_2).bind fun r_7 =>
   some r_7
  else
   (d82 r_1 r).bind fun r_8 =>
   (d92 b.1 r_8 r_2).bind fun r_9 =>
   some r_9
noncomputable def d41 (a:ua0):Option ua0 :=
 (d92 (!a.1) a.2.1 a.2.2).bind fun r =>
 some r
noncomputable def d36 (a:ua0) (b:ua0):Option Int :=
 (d41 b).bind fun r =>
 (d35 a r).bind fun r_1 =>
 bif (decide ((r_1.2.1.length:Int)=0)) then
  some 0
 else
  bif r_1.1 then
   some (-1)
  else
   some 1
noncomputable def d96 (a:List Int) (b:List Int):Option Bool :=
 bif !(decide ((a.length:Int)=(b.length:Int))) then
  some false
 else
  (zaa (β:=Unit ⊕ Bool) (fun ((a_1,b_1,i):ua3 × ua3 × Int) =>
    bif (decide (i < (a_1.length:Int))) then
     bif (decide (0≤i) && decide (i < (a_1.length:Int))) then
      bif (decide (0≤i) && decide (i < (b_1.length:Int))) then
       bif !(decide ((List.getD a_1 (Int.toNat i) 0)=(List.getD b_1 (Int.toNat i) 0))) then
        some (Sum.inr (Sum.inr false))
       else
        some (Sum.inl (a_1,b_1,(w (i+1))))
      else none
     else none
    else
     some (Sum.inr (Sum.inl ()))) (a,b,0)).bind fun
  | Sum.inl _ =>
   some true
  | Sum.inr t4 =>
   some t4
noncomputable def d37 (a:ua1) (b:ua1):Option Bool :=
 bif (a.1 == b.1) then
  (d96 a.2.1 b.2.1).bind fun r =>
  bif r then
   (d96 a.2.2 b.2.2).bind fun r_1 =>
   some r_1
  else
   some false
 else
  some false
noncomputable def d40 (a:ua0) (b:ua0):Option ua0 :=
 (d77 a.2.1 b.2.1).bind fun r =>
 (d77 a.2.2 b.2.2).bind fun r_1 =>
 (d92 (!(a.1 == b.1)) r r_1).bind fun r_2 =>
 some r_2
noncomputable def d181 (b:List Bool):Option ua3 :=
 (d142 b).bind fun r =>
 bif (decide ((w (Int.tdiv (w ((r.length:Int)+31)) 32))=(w (Int.tdiv (w ((r.length:Int)+31)) 32))) && (decide (0≤(w (Int.tdiv (w ((r.length:Int)+31)) 32))) && decide ((w (Int.tdiv (w ((r.length:Int)+31)) 32))≤LIM))) then
  (zaa (β:=ua3) (fun ((b_1,a,i):ua2 × ua3 × Int) =>
    bif (decide (i < (b_1.length:Int))) then
     letJ (fun ((b_2,a_1,i_1):ua2 × ua3 × Int) =>
       some (Sum.inl (b_2,a_1,(w (i_1+1))))) fun j_ =>
     bif (decide (0≤i) && decide (i < (b_1.length:Int))) then
      bif (List.getD b_1 (Int.toNat i) false) then
       bif (decide (0≤(w (Int.tdiv i 32))) && decide ((w (Int.tdiv i 32)) < (a.length:Int))) then
        bif (decide (0≤(wu64 (w (Int.tmod i 32))))) then
         bif (decide (0≤(w (Int.tdiv i 32))) && decide ((w (Int.tdiv i 32)) < (a.length:Int))) then
          j_ (b_1,(List.set a (Int.toNat (w (Int.tdiv i 32))) (wu32 ((BitVec.ofInt 32 (List.getD a (Int.toNat (w (Int.tdiv i 32))) 0) ||| BitVec.ofInt 32 (wu32 (1 * 2 ^ (min (Int.toNat (wu64 (w (Int.tmod i 32)))) 32)))).toNat:Int))),i)
         else none
        else none
       else none
      else
       j_ (b_1,a,i)
     else none
    else
     some (Sum.inr a)) (r,(List.replicate (Int.toNat (w (Int.tdiv (w ((r.length:Int)+31)) 32))) 0),0)).bind fun (a_2:List Int) =>
  some a_2
 else none
noncomputable def d143 (r:ua0):Option ua1 :=
 (d181 r.2.1).bind fun r_1 =>
 (d181 r.2.2).bind fun r_2 =>
 some (r.1,r_1,r_2)
noncomputable def d144 (a:ua0) (b:ua0):Option ua0 :=
 (d77 a.2.1 b.2.2).bind fun r =>
 (d77 a.2.2 b.2.1).bind fun r_1 =>
 (d92 (!(a.1 == b.1)) r r_1).bind fun r_2 =>
 some r_2
end Go.Proofs.YtmipjomnjkmdbaaGreat
