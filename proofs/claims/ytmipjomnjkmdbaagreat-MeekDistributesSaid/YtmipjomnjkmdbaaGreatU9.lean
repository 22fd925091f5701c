/- Part 9 of what stands below the statement. -/
import Derived.WalkKit
import Derived.OwnWalkIn
import Derived.TacticsInMore
import Derived.LoopNIn
import Derived.LoopIn
import Derived.Test.YtmipjomnjkmdbaaGreatU8
set_option linter.unusedSimpArgs false
set_option linter.unusedVariables false
set_option linter.unnecessarySimpa false
namespace Go.Proofs.YtmipjomnjkmdbaaGreat
open Go Go.Proofs Go.RowKit Go.X
attribute [local go_sem] Oper.semAt_some
def tlen(l:List Int):Nat→Nat
 | 0=>0
 |n+1=>if l.getD n 0=0 then tlen l n else n+1
def zaj(l:List Int):Nat:=tlen l l.length
theorem tlen_le(l:List Int):∀n,tlen l n≤n
 | 0=>Nat.le_refl _
 |n+1=>by unfold tlen;split;exact Nat.le_succ_of_le (tlen_le l n);exact Nat.le_refl _
theorem loop_invT{P:Program}{c:Code}{Q:Exit→Act→World→Prop}(R:Nat→Act→World→Prop)(step:∀m a w,R m a w→c.wp P (Exit.then (fun a' w'=>∃m',m'<m∧R m' a' w') Q) a w){m:Nat}{a:Act}{w:World}(h:R m a w):(Code.loop c).wp P Q a w:=by
 refine wp_loop_rounds (m+1) ?_
 have key:∀(M m:Nat) (a:Act) (w:World),m<M→R m a w→Code.rounds P c Q M a w:=by
  intro M
  induction M with
  |zero=>intro m a w hm;omega
  |succ M ih=>
   intro m a w hm hr
   rw[rounds_succ]
   refine Code.wp_mono ?_ (step m a w hr)
   intro e a' w' hq
   cases e with
   |normal=>obtain⟨m',h1,h2⟩:=hq;exact ih m' a' w' (by omega) h2
   |_=>exact hq
 exact key (m+1) m a w (by omega) h
def FrT(A:Option Addr)(xs:List Int)(cap i:Nat)(a:Act):Prop:=∃(x1 x4 x5 x6 x7 x8 x9 x10 x11 x12 x13 x14 x15 x16 x17 x18 x19 x20 x21 x22:Value),a={tmps:=#[.slice A xs.length cap,x1,.slice none 0 0,.int .i64 (i:Int),x4,x5,x6,x7,x8,x9,x10,x11,x12,x13,x14,x15,x16,x17,x18,x19,x20,x21,x22],defers:=[]}
theorem FrT.mk{A:Option Addr}{xs:List Int}{cap i:Nat}{x1 x4 x5 x6 x7 x8 x9 x10 x11 x12 x13 x14 x15 x16 x17 x18 x19 x20 x21 x22:Value}:FrT A xs cap i {tmps:=#[.slice A xs.length cap,x1,.slice none 0 0,.int .i64 (i:Int),x4,x5,x6,x7,x8,x9,x10,x11,x12,x13,x14,x15,x16,x17,x18,x19,x20,x21,x22],defers:=[]}:=⟨x1,x4,x5,x6,x7,x8,x9,x10,x11,x12,x13,x14,x15,x16,x17,x18,x19,x20,x21,x22,rfl⟩
set_option maxRecDepth 100000 in
set_option maxHeartbeats 4000000 in
theorem trim_ok(w:World)(A:Option Addr)(cap:Nat)(xs:List Int)(hlen:xs.length≤4294967296)(hcap:xs.length≤cap)(hw:∀n∈xs,IntKind.u32.wrap n=n)
  (hm:(xs=[]∧cap=0)∨∃b o,A=some ⟨b,o,none⟩∧∀(i:Nat) (h:i<xs.length),w.cell? ⟨b,o+i,none⟩=some (.int .u32 xs[i])) :
  Calls Tryz.prog 199 #[.slice A xs.length cap] w fun e w'=>w'=w∧zaj xs≤xs.length∧((e=.returned (.slice none 0 0)∧zaj xs=0)∨e=.returned (.slice A (zaj xs) cap)):=by
 have hin:∀c:Int,0≤c→c≤4294967296→IntKind.i64.wrap c=c:=fun c h0 h1=>IntWalk.i64_in c ⟨by omega,by omega⟩
 refine(callsIn_wide (n:=0)).1 (callsIn_of_wp Tryz.func199 rfl trivial ?_ rfl)
 simp only[Tryz.ntmps199,xfg,xbx,xgw,Nat.reduceAdd,Nat.reduceSub,Array.replicate_succ,Array.replicate_zero,List.push_toArray,List.append_toArray,xcu,xbu]
 gi_wp2
 refine wpIn_wide.2 (loop_invT (R:=fun m a w'=>∃i:Nat,i≤xs.length∧m=i∧w'=w∧zaj xs=tlen xs i∧FrT A xs cap i a) (m:=xs.length) ?zfi ?init1)
 case init1=>exact⟨xs.length,Nat.le_refl _,rfl,rfl,rfl,FrT.mk⟩
 case zfi=>
  rintro m a w' ⟨i,hi,rfl,rfl,htl,x1,x4,x5,x6,x7,x8,x9,x10,x11,x12,x13,x14,x15,x16,x17,x18,x19,x20,x21,x22,rfl⟩
  refine(wpIn_wide (n:=0)).1 ?_
  cases m with
  |zero=>
   simp only[tlen]at htl
   gi_wp2
   exact⟨rfl,_,results_tmp (t:=2) rfl _ _ _,rfl,by omega,.inl ⟨rfl,htl⟩⟩
  |succ i=>
   have hlt:i<xs.length:=by omega
   obtain⟨b,o,rfl,hcell⟩:∃b o,A=some ⟨b,o,none⟩∧∀(i:Nat) (h:i<xs.length),w'.cell? ⟨b,o+i,none⟩=some (.int .u32 xs[i]):=hm.resolve_left fun h=>by rw[h.1]at hlt;simp at hlt
   have hc:=hcell i hlt
   have hgd:xs.getD i 0=xs[i]:=by rw[xac,xag hlt];rfl
   simp only[tlen,hgd]at htl
   clear hm hcell
   generalize hcx:xs[i]=c at hc htl
   have hpos:((i+1:Nat):Int)>0:=by omega
   have hsub:IntKind.i64.wrap (((i+1:Nat):Int)-1)=(i:Int):=by rw[hin _ (by omega) (by omega)];omega
   have hlt':(i:Int)<(xs.length:Int):=by omega
   by_cases h0:c=0
   ·subst h0
    rw[if_pos rfl]at htl
    gi_wp2
    exact⟨i,by omega,i,by omega,rfl,trivial,htl,FrT.mk⟩
   ·rw[if_neg h0]at htl
    gi_wp2
    rw[←htl]
    exact⟨rfl,_,results_tmp (t:=2) rfl _ _ _,rfl,by omega,.inr rfl⟩
theorem enters199:zcd Tryz.prog 199:=enters_of Tryz.func199 (by kernel_rfl) rfl
noncomputable def zlc:PreE Tryz.prog:=⟨199,.u32,zaj,enters199,trim_ok⟩
end Go.Proofs.YtmipjomnjkmdbaaGreat
open Go Go.Proofs Go.X
namespace Go.Proofs.YtmipjomnjkmdbaaGreat
set_option maxRecDepth 100000
noncomputable section
abbrev uqs(p:Plan):Plan:=.seq (.reg [] []) p
theorem uqn{a b:Nat}(h:Nat.ble a b=true):a≤b:=Nat.le_of_ble_eq_true h
abbrev uqa:JE:=.v y2 .sh
abbrev uqb:JE:=.v y26 .bw
abbrev uqc:JE:=.v y4 .sh
abbrev uqd:JE:=.v y26 (.own 3 .sh)
abbrev uqe:JE:=.v y25 .bw
abbrev uqf:JE:=.v y26 .sh
abbrev uqr:Plan:=.reg [] []
theorem uqz{f:FuncId}{fn:Func}{code:Code}{sg:Sig}{den:Arr (ptys sg.ps) (Option (Ret sg.res))}(hf:Tryz.prog.funcs[f]?=some fn)(hb:fn.body=some code)(hc:zcd Tryz.prog f)(hl:Nat.ble sg.ps.length fn.ntmps=true)(ho:zeg fn.ntmps (ioKs 0 sg.ps) code=true)(FT:List (TgE Tryz.prog))(pl:Plan)(h:∀xs,evF tab FT sg fn.results.toList code pl xs=app _ den xs):Sim Tryz.prog f sg den:=sim_ev mixd tabOK hf hb hc (uqn hl) ho pl den fun xs y e=>(h xs).trans e
abbrev ua0:=(Bool×(List Bool×List Bool))
abbrev ua1:=(Bool×(List Int×List Int))
abbrev ua2:=(List Bool)
abbrev ua3:=(List Int)
abbrev ua4:=ua2×ua2×ua2×Bool×Int
def d171(a:List Int):Option ua3:=
 (bif decide ((a.length:Int)≤LIM)then some ()else none).bind fun u=>
 (d173 (List.take (zaj a) a)).bind fun r=>
 some r
def sg171:Sig:=⟨[(y55,.bw)],[(y55,(.own 146 .sh))]⟩
theorem sim171:Sim Tryz.prog 171 sg171 d171:=uqz Tryz.func171 (zac rfl) Tryz.call171 (by kernel_rfl) (by kernel_rfl) [.pre zlc,.fn E173] (uqs (uqs .nil)) fun xs=>by kernel_rfl
def E171:FnE Tryz.prog:=⟨171,sg171,d171,sim171⟩
def d129(n:Int):Option ua3:=
 (d171 [(wu32 n),(wu32 (wu64 (Int.fdiv n (2^(min (Int.toNat 32) 64)))))]).bind fun r=>
 some r
def sg129:Sig:=⟨[(y12,.sh)],[(y55,(.own 146 .sh))]⟩
theorem sim129:Sim Tryz.prog 129 sg129 d129:=uqz Tryz.func129 (zac rfl) Tryz.call129 (by kernel_rfl) (by kernel_rfl) [.fn E171] (uqs (uqs .nil)) fun xs=>by kernel_rfl
def E129:FnE Tryz.prog:=⟨129,sg129,d129,sim129⟩
def d128(n:Int):Option ua3:=
 bif (decide (n<0))then
 (d129 (wu64 (0-(wu64 n)))).bind fun r=>
 some r
 else
 (d129 (wu64 n)).bind fun a=>
 some a
def sg128:Sig:=⟨[(y2,.sh)],[(y55,(.own 146 .sh))]⟩
theorem sim128:Sim Tryz.prog 128 sg128 d128:=uqz Tryz.func128 (zac rfl) Tryz.call128 (by kernel_rfl) (by kernel_rfl) [.fn E129] (uqs (.seq (uqs (.cond (uqs .nil) .nil)) (uqs .nil))) fun xs=>by kernel_rfl
def E128:FnE Tryz.prog:=⟨128,sg128,d128,sim128⟩
def d167(a:List Int):Option Int:=
 (bif decide ((a.length:Int)≤LIM)then some ()else none).bind fun u=>
 bif (decide (((List.take (zaj a) a).length:Int)=0))then
 some 0
 else
 bif (decide (0≤(w (((List.take (zaj a) a).length:Int)-1)))&&decide ((w (((List.take (zaj a) a).length:Int)-1))<((List.take (zaj a) a).length:Int)))then
 (d200 (List.getD (List.take (zaj a) a) (Int.toNat (w (((List.take (zaj a) a).length:Int)-1))) 0)).bind fun r=>
 some (w ((w (32*(w (((List.take (zaj a) a).length:Int)-1))))+r))
 else none
def sg167:Sig:=⟨[(y55,.bw)],[(y2,.sh)]⟩
theorem sim167:Sim Tryz.prog 167 sg167 d167:=uqz Tryz.func167 (zac rfl) Tryz.call167 (by kernel_rfl) (by kernel_rfl) [.pre zlc,.fn E200] (uqs (uqs (.seq (uqs (.cond (uqs .nil) .nil)) (uqs .nil)))) fun xs=>by kernel_rfl
def E167:FnE Tryz.prog:=⟨167,sg167,d167,sim167⟩
def d168:Option ua1:=
 (d129 1).bind fun r=>
 some (false,[],r)
def sg168:Sig:=⟨[],[(y57,.sh)]⟩
def plan168:Plan:=(uqs (.seq (.reg [] [{},{frz:=[(1,[])]}]) .nil))
theorem ev168 (xs:Vals (ptys sg168.ps)):evF (P:=Tryz.prog) tab [.fn E129] sg168 Tryz.f168.results.toList (code Tryz.f168) plan168 xs=d168  := by kernel_rfl
theorem sim168:Sim Tryz.prog 168 sg168 d168:=sim_ev mixd tabOK Tryz.func168 (zac rfl) Tryz.call168 (uqn (by kernel_rfl)) (by kernel_rfl) plan168 _ fun xs y h=>(ev168 xs).trans h
def E168:FnE Tryz.prog:=⟨168,sg168,d168,sim168⟩
def d201(a:List Int)(b:List Int):Option Int:=
 (bif decide ((a.length:Int)≤LIM)then some ()else none).bind fun u=>
 (bif decide ((b.length:Int)≤LIM)then some ()else none).bind fun g=>
 bif !(decide (((List.take (zaj a) a).length:Int)=((List.take (zaj b) b).length:Int)))then
  bif (decide (((List.take (zaj a) a).length:Int)<((List.take (zaj b) b).length:Int)))then
   some (-1)
  else
   some 1
 else
  (zaa (β:=Unit⊕Int) (fun((c,e,i):ua3×ua3×Int)=>
    bif (decide (0≤i))then
     bif (decide (0≤i)&&decide (i<(c.length:Int)))then
      bif (decide (0≤i)&&decide (i<(e.length:Int)))then
       bif (decide ((List.getD c (Int.toNat i) 0)<(List.getD e (Int.toNat i) 0)))then
        some (Sum.inr (Sum.inr (-1)))
       else
        bif (decide (0≤i)&&decide (i<(c.length:Int)))then
         bif (decide (0≤i)&&decide (i<(e.length:Int)))then
          bif (decide ((List.getD e (Int.toNat i) 0)<(List.getD c (Int.toNat i) 0)))then
           some (Sum.inr (Sum.inr 1))
          else
           some (Sum.inl (c,e,(w (i-1))))
         else none
        else none
      else none
     else none
    else
     some (Sum.inr (Sum.inl ()))) ((List.take (zaj a) a),(List.take (zaj b) b),(w (((List.take (zaj a) a).length:Int)-1)))).bind fun
  |Sum.inl _=>
   some 0
  |Sum.inr f=>
   some f
def sg201:Sig:=⟨[(y55,.bw),(y55,.bw)],[(y2,.sh)]⟩
theorem sim201:Sim Tryz.prog 201 sg201 d201:=uqz Tryz.func201 (zac rfl) Tryz.call201 (by kernel_rfl) (by kernel_rfl) [.pre zlc] (uqs (uqs (.seq (uqs (.cond (.seq (uqs (.cond (uqs .nil) .nil)) (uqs .nil)) .nil)) (.seq (uqs (.block (.loop [(0,.v y55 .bw),(1,.v y55 .bw),(5,uqa)] [(.brk 0,[]),(.ret,[(4,uqa)])] (.seq (uqs (.cond .nil .nil)) (.seq (.block (.block (uqs (.cond (uqs .nil) (uqs (.cond (uqs .nil) .nil)))))) uqr))))) (uqs .nil))))) fun xs=>by kernel_rfl
def E201:FnE Tryz.prog:=⟨201,sg201,d201,sim201⟩
def d202(a:List Int)(d:Int):Option (ua3×Int):=
 bif (decide ((a.length:Int)=(a.length:Int))&&(decide (0≤(a.length:Int))&&decide ((a.length:Int)≤LIM)))then
 (zaa (β:=(ua3×Int)) (fun((c,b,q,rest,i):ua3×Int×ua3×Int×Int)=>
 bif (decide (0≤i))then
 bif (decide (0≤i)&&decide (i<(c.length:Int)))then
 bif (!decide (b=0))then
 bif (decide (0≤i)&&decide (i<(q.length:Int)))then
 bif (!decide (b=0))then
 some (Sum.inl (c,b,(List.set q (Int.toNat i) (wu32 (wu64 (Int.tdiv (wu64 ((BitVec.ofInt 64 (wu64 (rest*2^(min (Int.toNat 32) 64)))|||BitVec.ofInt 64 (wu64 (List.getD c (Int.toNat i) 0))).toNat:Int)) b)))),(wu64 (Int.tmod (wu64 ((BitVec.ofInt 64 (wu64 (rest*2^(min (Int.toNat 32) 64)))|||BitVec.ofInt 64 (wu64 (List.getD c (Int.toNat i) 0))).toNat:Int)) b)),(w (i-1))))
 else none
 else none
 else none
 else none
 else
 some (Sum.inr (q,rest))) (a,d,(List.replicate (Int.toNat (a.length:Int)) 0),0,(w ((a.length:Int)-1)))).bind fun((e,f):ua3×Int)=>
 some (e,f)
 else none
def sg202:Sig:=⟨[(y55,.bw),(y12,.sh)],[(y55,(.own 146 .sh)),(y12,.sh)]⟩
theorem sim202:Sim Tryz.prog 202 sg202 d202:=uqz Tryz.func202 (zac rfl) Tryz.call202 (by kernel_rfl) (by kernel_rfl) [] (uqs (uqs (uqs (.seq (uqs (.block (.loop [(0,.v y55 .bw),(1,.v y12 .sh),(6,.v y55 (.own 146 .sh)),(7,.v y12 .sh),(8,uqa)] [(.brk 0,[(6,.v y55 (.own 146 .sh)),(7,.v y12 .sh)])] (.seq (uqs (.cond .nil .nil)) (.seq (.block (uqs (uqs uqr))) uqr))))) (uqs .nil))))) fun xs=>by kernel_rfl
def E202:FnE Tryz.prog:=⟨202,sg202,d202,sim202⟩
def d203(x:Int):Option Int:=
 (d200 x).bind fun r=>
 some (w (32-r))
def sg203:Sig:=⟨[(y146,.sh)],[(y2,.sh)]⟩
theorem sim203:Sim Tryz.prog 203 sg203 d203:=uqz Tryz.func203 (zac rfl) Tryz.call203 (by kernel_rfl) (by kernel_rfl) [.fn E200] (uqs (uqs .nil)) fun xs=>by kernel_rfl
def E203:FnE Tryz.prog:=⟨203,sg203,d203,sim203⟩
def d204(a:List Int)(n:Int):Option ua3:=
 bif (decide ((w ((a.length:Int)+1))=(w ((a.length:Int)+1)))&&(decide (0≤(w ((a.length:Int)+1)))&&decide ((w ((a.length:Int)+1))≤LIM)))then
 (zaa (β:=ua3) (fun((c,out,e,f,b):Int×ua3×ua3×Int×Int)=>
 bif (decide (b<f))then
 bif (decide (0≤b)&&decide (b<(e.length:Int)))then
 bif (decide (0≤c))then
 bif (decide (0≤b)&&decide (b<(out.length:Int)))then
 bif (decide (0≤b)&&decide (b<(out.length:Int)))then
 bif (decide (0≤(w (b+1)))&&decide ((w (b+1))<((List.set out (Int.toNat b) (wu32 ((BitVec.ofInt 32 (List.getD out (Int.toNat b) 0)|||BitVec.ofInt 32 (wu32 (wu64 ((wu64 (List.getD e (Int.toNat b) 0))*2^(min (Int.toNat c) 64))))).toNat:Int))).length:Int)))then
 some (Sum.inl (c,(List.set (List.set out (Int.toNat b) (wu32 ((BitVec.ofInt 32 (List.getD out (Int.toNat b) 0)|||BitVec.ofInt 32 (wu32 (wu64 ((wu64 (List.getD e (Int.toNat b) 0))*2^(min (Int.toNat c) 64))))).toNat:Int))) (Int.toNat (w (b+1))) (wu32 (wu64 (Int.fdiv (wu64 ((wu64 (List.getD e (Int.toNat b) 0))*2^(min (Int.toNat c) 64))) (2^(min (Int.toNat 32) 64)))))),e,f,(w (b+1))))
 else none
 else none
 else none
 else none
 else none
 else
 some (Sum.inr out)) (n,(List.replicate (Int.toNat (w ((a.length:Int)+1))) 0),a,(a.length:Int),0)).bind fun(g:List Int)=>
 some g
 else none
def sg204:Sig:=⟨[(y55,.bw),(y2,.sh)],[(y55,(.own 146 .sh))]⟩
theorem sim204:Sim Tryz.prog 204 sg204 d204:=uqz Tryz.func204 (zac rfl) Tryz.call204 (by kernel_rfl) (by kernel_rfl) [] (uqs (uqs (.seq (uqs (.block (.loop [(1,uqa),(5,.v y55 (.own 146 .sh)),(13,.v y55 .bw),(14,uqa),(15,uqa)] [(.brk 0,[(5,.v y55 (.own 146 .sh))])] (uqs (.seq (.cond .nil .nil) (.seq (.block (uqs (uqs (uqs uqr)))) uqr)))))) (uqs .nil)))) fun xs=>by kernel_rfl
def E204:FnE Tryz.prog:=⟨204,sg204,d204,sim204⟩
def d216(p0:List Int)(p1:List Int)(p2:Int):Option Int:=
 bif (decide (0≤(w (p2+(p1.length:Int))))&&decide ((w (p2+(p1.length:Int)))<(p0.length:Int)))then
 bif (decide (0≤(w ((w (p2+(p1.length:Int)))-1)))&&decide ((w ((w (p2+(p1.length:Int)))-1))<(p0.length:Int)))then
 bif (decide (0≤(w ((p1.length:Int)-1)))&&decide ((w ((p1.length:Int)-1))<(p1.length:Int)))then
 bif (!decide ((wu64 (List.getD p1 (Int.toNat (w ((p1.length:Int)-1))) 0))=0))then
 bif (!decide ((wu64 (List.getD p1 (Int.toNat (w ((p1.length:Int)-1))) 0))=0))then
 (zaa (β:=Int) (fun((c,e,b,a,j,f,g):ua3×ua3×Int×Int×Int×Int×Int)=>
 letJ (fun((m,n,o,p,h,i,k,q):ua3×ua3×Int×Int×Int×Int×Int×Bool)=>
 bif q then
 bif (decide (4294967296≤(wu64 (k+h))))then
 some (Sum.inr (wu64 (i-1)))
 else
 some (Sum.inl (m,n,o,p,h,(wu64 (i-1)),(wu64 (k+h))))
 else
 some (Sum.inr i)) fun l=>
 bif !(decide (4294967296≤f))then
 bif (decide (0≤(w (a-2)))&&decide ((w (a-2))<(e.length:Int)))then
 bif (decide (0≤(w ((w (b+a))-2)))&&decide ((w ((w (b+a))-2))<(c.length:Int)))then
 l (c,e,b,a,j,f,g,(decide ((wu64 ((BitVec.ofInt 64 (wu64 (g*2^(min (Int.toNat 32) 64)))|||BitVec.ofInt 64 (wu64 (List.getD c (Int.toNat (w ((w (b+a))-2))) 0))).toNat:Int))<(wu64 (f*(wu64 (List.getD e (Int.toNat (w (a-2))) 0)))))))
 else none
 else none
 else
 l (c,e,b,a,j,f,g,true)) (p0,p1,p2,(p1.length:Int),(wu64 (List.getD p1 (Int.toNat (w ((p1.length:Int)-1))) 0)),(wu64 (Int.tdiv (wu64 ((BitVec.ofInt 64 (wu64 ((wu64 (List.getD p0 (Int.toNat (w (p2+(p1.length:Int)))) 0))*2^(min (Int.toNat 32) 64)))|||BitVec.ofInt 64 (wu64 (List.getD p0 (Int.toNat (w ((w (p2+(p1.length:Int)))-1))) 0))).toNat:Int)) (wu64 (List.getD p1 (Int.toNat (w ((p1.length:Int)-1))) 0)))),(wu64 (Int.tmod (wu64 ((BitVec.ofInt 64 (wu64 ((wu64 (List.getD p0 (Int.toNat (w (p2+(p1.length:Int)))) 0))*2^(min (Int.toNat 32) 64)))|||BitVec.ofInt 64 (wu64 (List.getD p0 (Int.toNat (w ((w (p2+(p1.length:Int)))-1))) 0))).toNat:Int)) (wu64 (List.getD p1 (Int.toNat (w ((p1.length:Int)-1))) 0)))))).bind fun(r:Int)=>
 some r
 else none
 else none
 else none
 else none
 else none
def sg216:Sig:=⟨[(y55,.bw),(y55,.bw),(y2,.sh)],[(y12,.sh)]⟩
theorem sim216:Sim Tryz.prog 216 sg216 d216:=uqz Tryz.func216 (zac rfl) Tryz.call216 (by kernel_rfl) (by kernel_rfl) [] (uqs (uqs (uqs (uqs (uqs (.seq (.block (.loop [(0,.v y55 .bw),(1,.v y55 .bw),(2,uqa),(7,uqa),(9,.v y12 .sh),(10,.v y12 .sh),(11,.v y12 .sh)] [(.brk 0,[(10,.v y12 .sh)])] (.seq (.join uqr [(0,.v y55 .bw),(1,.v y55 .bw),(2,uqa),(7,uqa),(9,.v y12 .sh),(10,.v y12 .sh),(11,.v y12 .sh),(66,uqc)] (.cond .nil .nil)) (.block (uqs (uqs (uqs (.cond .nil .nil)))))))) (uqs .nil))))))) fun xs=>by kernel_rfl
def E216:FnE Tryz.prog:=⟨216,sg216,d216,sim216⟩
def d217(a:List Int)(i:Int):Option Int:=
 bif (decide (i<(a.length:Int)))then
 bif (decide (0≤i)&&decide (i<(a.length:Int)))then
 some (wu64 (List.getD a (Int.toNat i) 0))
 else none
 else
 some 0
def sg217:Sig:=⟨[(y55,.bw),(y2,.sh)],[(y12,.sh)]⟩
theorem sim217:Sim Tryz.prog 217 sg217 d217:=uqz Tryz.func217 (zac rfl) Tryz.call217 (by kernel_rfl) (by kernel_rfl) [] (uqs (.seq (uqs (.cond (uqs .nil) .nil)) (uqs .nil))) fun xs=>by kernel_rfl
def E217:FnE Tryz.prog:=⟨217,sg217,d217,sim217⟩
def d205(p0:List Int)(p1:List Int):Option (ua3×ua3):=
 bif (decide ((w ((p0.length:Int)-(p1.length:Int)))=(w ((p0.length:Int)-(p1.length:Int))))&&(decide (0≤(w ((p0.length:Int)-(p1.length:Int))))&&decide ((w ((p0.length:Int)-(p1.length:Int)))≤LIM)))then
 (zaa (β:=(ua3×ua3)) (fun((j,s,t,u,k):ua3×ua3×Int×ua3×Int)=>
 bif (decide (0≤k))then
 (d216 j s k).bind fun r=>
 (zaa (β:=(ua3×ua3×Int×ua3×Int×Int×Int)) (fun((f,l,v,x,c,h,m,n,y,a):ua3×ua3×Int×ua3×Int×Int×Int×Int×Int×Int)=>
 bif (decide (a<y))then
 (d217 l a).bind fun o=>
 bif (decide (0≤(w (a+c)))&&decide ((w (a+c))<(f.length:Int)))then
 bif (decide (0≤(w (a+c)))&&decide ((w (a+c))<(f.length:Int)))then
 some (Sum.inl ((List.set f (Int.toNat (w (a+c))) (wu32 (wu64 ((wu64 ((wu64 (4294967296+(wu64 (List.getD f (Int.toNat (w (a+c))) 0))))-(wu64 ((BitVec.ofInt 64 (wu64 ((wu64 (h*o))+n))&&&BitVec.ofInt 64 4294967295).toNat:Int))))-m)))),l,v,x,c,h,(wu64 (1-(wu64 (Int.fdiv (wu64 ((wu64 ((wu64 (4294967296+(wu64 (List.getD f (Int.toNat (w (a+c))) 0))))-(wu64 ((BitVec.ofInt 64 (wu64 ((wu64 (h*o))+n))&&&BitVec.ofInt 64 4294967295).toNat:Int))))-m)) (2^(min (Int.toNat 32) 64)))))),(wu64 (Int.fdiv (wu64 ((wu64 (h*o))+n)) (2^(min (Int.toNat 32) 64)))),y,(w (a+1))))
 else none
 else none
 else
 some (Sum.inr (f,l,v,x,c,h,m))) (j,s,t,u,k,r,0,0,(w (t+1)),0)).bind fun((z,aa,p,ab,ac,ae,an):ua3×ua3×Int×ua3×Int×Int×Int)=>
 letJ (fun((ao,ap,aq,af,i,ar):ua3×ua3×Int×ua3×Int×Int)=>
 bif (decide (0≤i)&&decide (i<(af.length:Int)))then
 some (Sum.inl (ao,ap,aq,(List.set af (Int.toNat i) (wu32 ar)),(w (i-1))))
 else none) fun ag=>
 bif (decide (0<an))then
 (zaa (β:=(ua3×ua3×Int×ua3×Int×Int)) (fun((g,q,ah,ai,e,aj,ak,al,b):ua3×ua3×Int×ua3×Int×Int×Int×Int×Int)=>
 bif (decide (b<al))then
 bif (decide (0≤(w (b+e)))&&decide ((w (b+e))<(g.length:Int)))then
 (d217 q b).bind fun am=>
 bif (decide (0≤(w (b+e)))&&decide ((w (b+e))<(g.length:Int)))then
 some (Sum.inl ((List.set g (Int.toNat (w (b+e))) (wu32 (wu64 ((wu64 ((wu64 (List.getD g (Int.toNat (w (b+e))) 0))+am))+ak)))),q,ah,ai,e,aj,(wu64 (Int.fdiv (wu64 ((wu64 ((wu64 (List.getD g (Int.toNat (w (b+e))) 0))+am))+ak)) (2^(min (Int.toNat 32) 64)))),al,(w (b+1))))
 else none
 else none
 else
 some (Sum.inr (g,q,ah,ai,e,aj))) (z,aa,p,ab,ac,(wu64 (ae-1)),0,(w (p+1)),0)).bind fun((au,av,ax,ay,az,ba):ua3×ua3×Int×ua3×Int×Int)=>
 ag (au,av,ax,ay,az,ba)
 else
 ag (z,aa,p,ab,ac,ae)
 else
 some (Sum.inr (j,u))) (p0,p1,(p1.length:Int),(List.replicate (Int.toNat (w ((p0.length:Int)-(p1.length:Int)))) 0),(w ((w ((p0.length:Int)-(p1.length:Int)))-1)))).bind fun((bb,bc):ua3×ua3)=>
 some (bc,bb)
 else none
def sg205:Sig:=⟨[(y55,(.io (.own 146 .sh))),(y55,.sh)],[(y55,(.own 146 .sh))]⟩
theorem sim205:Sim Tryz.prog 205 sg205 d205:=uqz Tryz.func205 (zac rfl) Tryz.call205 (by kernel_rfl) (by kernel_rfl) [.fn E216,.fn E217] (uqs (uqs (uqs (.seq (uqs (.block (.loop [(0,.v y55 (.own 146 .sh)),(1,.v y55 .sh),(5,uqa),(6,.v y55 (.own 146 .sh)),(7,uqa)] [(.brk 0,[(0,.v y55 (.own 146 .sh)),(6,.v y55 (.own 146 .sh))])] (.seq (uqs (.cond .nil .nil)) (.seq (.block (uqs (uqs (.seq (uqs (.block (.loop [(0,.v y55 (.own 146 .sh)),(1,.v y55 .sh),(5,uqa),(6,.v y55 (.own 146 .sh)),(7,uqa),(8,.v y12 .sh),(9,.v y12 .sh),(10,.v y12 .sh),(37,uqa),(38,uqa)] [(.brk 2,[(0,.v y55 (.own 146 .sh)),(1,.v y55 .sh),(5,uqa),(6,.v y55 (.own 146 .sh)),(7,uqa),(8,.v y12 .sh),(9,.v y12 .sh)])] (uqs (.seq (.cond .nil .nil) (.seq (.block (uqs (uqs (uqs (uqs (uqs uqr)))))) uqr)))))) (.join (uqs (.cond (uqs (uqs (uqs (.block (.loop [(0,.v y55 (.own 146 .sh)),(1,.v y55 .sh),(5,uqa),(6,.v y55 (.own 146 .sh)),(7,uqa),(8,.v y12 .sh),(10,.v y12 .sh),(79,uqa),(80,uqa)] [(.brk 4,[(0,.v y55 (.own 146 .sh)),(1,.v y55 .sh),(5,uqa),(6,.v y55 (.own 146 .sh)),(7,uqa),(8,.v y12 .sh)])] (uqs (.seq (.cond .nil .nil) (.seq (.block (uqs (uqs (uqs uqr)))) uqr)))))))) .nil)) [(0,.v y55 (.own 146 .sh)),(1,.v y55 .sh),(5,uqa),(6,.v y55 (.own 146 .sh)),(7,uqa),(8,.v y12 .sh)] uqr))))) uqr))))) (uqs .nil))))) fun xs=>by kernel_rfl
def E205:FnE Tryz.prog:=⟨205,sg205,d205,sim205⟩
def d206(a:List Int)(n:Int):Option ua3:=
 bif (decide ((a.length:Int)=(a.length:Int))&&(decide (0≤(a.length:Int))&&decide ((a.length:Int)≤LIM)))then
 (zaa (β:=ua3) (fun((c,e,out,f,b):ua3×Int×ua3×Int×Int)=>
 bif (decide (b<f))then
 (d217 c b).bind fun r=>
 (d217 c (w (b+1))).bind fun g=>
 bif (decide (0≤e))then
 bif (decide (0≤b)&&decide (b<(out.length:Int)))then
 some (Sum.inl (c,e,(List.set out (Int.toNat b) (wu32 (wu64 (Int.fdiv (wu64 ((BitVec.ofInt 64 r|||BitVec.ofInt 64 (wu64 (g*2^(min (Int.toNat 32) 64)))).toNat:Int)) (2^(min (Int.toNat e) 64)))))),f,(w (b+1))))
 else none
 else none
 else
 some (Sum.inr out)) (a,n,(List.replicate (Int.toNat (a.length:Int)) 0),(a.length:Int),0)).bind fun(h:List Int)=>
 some h
 else none
def sg206:Sig:=⟨[(y55,.bw),(y2,.sh)],[(y55,(.own 146 .sh))]⟩
theorem sim206:Sim Tryz.prog 206 sg206 d206:=uqz Tryz.func206 (zac rfl) Tryz.call206 (by kernel_rfl) (by kernel_rfl) [.fn E217] (uqs (uqs (.seq (uqs (.block (.loop [(0,.v y55 .bw),(1,uqa),(5,.v y55 (.own 146 .sh)),(11,uqa),(12,uqa)] [(.brk 0,[(5,.v y55 (.own 146 .sh))])] (uqs (.seq (.cond .nil .nil) (.seq (.block (uqs uqr)) uqr)))))) (uqs .nil)))) fun xs=>by kernel_rfl
def E206:FnE Tryz.prog:=⟨206,sg206,d206,sim206⟩
def d170(p0:List Int)(p1:List Int):Option (ua3×ua3×Bool):=
 (bif decide ((p0.length:Int)≤LIM)then some ()else none).bind fun u=>
 (bif decide ((p1.length:Int)≤LIM)then some ()else none).bind fun m=>
 bif (decide (((List.take (zaj p1) p1).length:Int)=0))then
 some ([],[],false)
 else
 (d201 (List.take (zaj p0) p0) (List.take (zaj p1) p1)).bind fun r=>
 bif (decide (r<0))then
 (d173 (List.take (zaj p0) p0)).bind fun f=>
 some ([],f,true)
 else
 bif (decide (((List.take (zaj p1) p1).length:Int)=1))then
 bif (decide (0≤0)&&decide (0<((List.take (zaj p1) p1).length:Int)))then
 (d202 (List.take (zaj p0) p0) (wu64 (List.getD (List.take (zaj p1) p1) 0 0))).bind fun c=>
 (d171 c.1).bind fun g=>
 (d129 c.2).bind fun h=>
 some (g,h,true)
 else none
 else
 bif (decide (0≤(w (((List.take (zaj p1) p1).length:Int)-1)))&&decide ((w (((List.take (zaj p1) p1).length:Int)-1))<((List.take (zaj p1) p1).length:Int)))then
 (d203 (List.getD (List.take (zaj p1) p1) (Int.toNat (w (((List.take (zaj p1) p1).length:Int)-1))) 0)).bind fun a=>
 (d204 (List.take (zaj p0) p0) a).bind fun i=>
 (d204 (List.take (zaj p1) p1) a).bind fun b=>
 (bif decide ((b.length:Int)≤LIM)then some ()else none).bind fun n=>
 (d205 i (List.take (zaj b) b)).bind fun e=>
 (d171 e.1).bind fun j=>
 (d206 e.2 a).bind fun k=>
 (d171 k).bind fun l=>
 some (j,l,true)
 else none
def sg170:Sig:=⟨[(y55,.bw),(y55,.bw)],[(y55,.sh),(y55,.sh),(y4,.sh)]⟩
theorem sim170:Sim Tryz.prog 170 sg170 d170:=uqz Tryz.func170 (zac rfl) Tryz.call170 (by kernel_rfl) (by kernel_rfl) [.pre zlc,.fn E201,.fn E173,.fn E202,.fn E171,.fn E129,.fn E203,.fn E204,.fn E205,.fn E206] (.post (uqs (uqs (.seq (.block (uqs (.cond (uqs .nil) (uqs (.cond (uqs .nil) (uqs (.cond (.seq (.reg [] [{},{},{},{},{},{},{fl:=1}]) (uqs .nil)) .nil))))))) (uqs (.seq (.reg [] [{},{},{},{},{},{},{frz:=[(56,[])]}]) (uqs (uqs .nil))))))) [(5,[]),(4,[])]) fun xs=>by kernel_rfl
def E170:FnE Tryz.prog:=⟨170,sg170,d170,sim170⟩
def d169(a:List Int)(b:List Int):Option ua3:=
 (d171 a).bind fun r=>
 (d171 b).bind fun f=>
 (zaa (β:=ua3) (fun((e,c):ua3×ua3)=>
 bif (decide (0<(c.length:Int)))then
 (d170 e c).bind fun g=>
 some (Sum.inl (c,g.2.1))
 else
 some (Sum.inr e)) (r,f)).bind fun(h:List Int)=>
 some h
def sg169:Sig:=⟨[(y55,.bw),(y55,.bw)],[(y55,.sh)]⟩
theorem sim169:Sim Tryz.prog 169 sg169 d169:=uqz Tryz.func169 (zac rfl) Tryz.call169 (by kernel_rfl) (by kernel_rfl) [.fn E171,.fn E170] (uqs (uqs (.seq (.block (.frz [(1,[]),(0,[])] (.loop [(0,.v y55 .sh),(1,.v y55 .sh)] [(.brk 0,[(0,.v y55 .sh)])] (.seq (uqs (.cond .nil .nil)) (.block (.seq (.reg [] [{},{},{},{fl:=1}]) uqr)))))) (uqs .nil)))) fun xs=>by kernel_rfl
def E169:FnE Tryz.prog:=⟨169,sg169,d169,sim169⟩
def d127(neg:Bool)(num:List Int)(den:List Int):Option ua1:=
 letJ (fun((f,a,b,l,g):Bool×ua3×ua3×ua1×Bool)=>
 bif g then
 (d168).bind fun h=>
 some h
 else
 (d169 a b).bind fun c=>
 (d170 a c).bind fun i=>
 (d170 b c).bind fun j=>
 some (f,i.1,j.1)) fun e=>
 (d167 num).bind fun r=>
 bif !(decide (r=0))then
 (d167 den).bind fun k=>
 e (neg,num,den,(false,[],[]),(decide (k=0)))
 else
 e (neg,num,den,(false,[],[]),true)
def sg127:Sig:=⟨[(y4,.sh),(y55,.bw),(y55,.bw)],[(y57,.sh)]⟩
theorem sim127:Sim Tryz.prog 127 sg127 d127:=uqz Tryz.func127 (zac rfl) Tryz.call127 (by kernel_rfl) (by kernel_rfl) [.fn E167,.fn E168,.fn E169,.fn E170] (uqs (.seq (.join uqr [(0,uqc),(1,.v y55 .bw),(2,.v y55 .bw),(6,.v (.ptr y57) (.own 0 .sh)),(21,uqc)] (.cond (uqs .nil) .nil)) (uqs (.seq (.reg [] [{},{},{},{fl:=1}]) (.seq (.reg [] [{},{},{},{fl:=1}]) (uqs .nil)))))) fun xs=>by kernel_rfl
def E127:FnE Tryz.prog:=⟨127,sg127,d127,sim127⟩
def d68(n:Int):Option ua1:=
 (d128 n).bind fun r=>
 (d129 1).bind fun a=>
 (d127 (decide (n<0)) r a).bind fun b=>
 some b
def sg68:Sig:=⟨[(y2,.sh)],[(y57,.sh)]⟩
theorem sim68:Sim Tryz.prog 68 sg68 d68:=uqz Tryz.func68 (zac rfl) Tryz.call68 (by kernel_rfl) (by kernel_rfl) [.fn E128,.fn E129,.fn E127] (uqs (uqs .nil)) fun xs=>by kernel_rfl
def E68:FnE Tryz.prog:=⟨68,sg68,d68,sim68⟩
def d175(r:ua1):Option ua1:=
 (d127 r.1 r.2.1 r.2.2).bind fun a=>
 some a
def sg175:Sig:=⟨[(y57,.bw)],[(y57,.sh)]⟩
theorem sim175:Sim Tryz.prog 175 sg175 d175:=uqz Tryz.func175 (zac rfl) Tryz.call175 (by kernel_rfl) (by kernel_rfl) [.fn E127] (uqs (uqs .nil)) fun xs=>by kernel_rfl
def E175:FnE Tryz.prog:=⟨175,sg175,d175,sim175⟩
def d177(p0:List Int)(p1:List Int):Option ua3:=
 (bif decide ((p0.length:Int)≤LIM)then some ()else none).bind fun u=>
 (bif decide ((p1.length:Int)≤LIM)then some ()else none).bind fun ac=>
 bif (decide ((w (((List.take (zaj p0) p0).length:Int)+((List.take (zaj p1) p1).length:Int)))=(w (((List.take (zaj p0) p0).length:Int)+((List.take (zaj p1) p1).length:Int))))&&(decide (0≤(w (((List.take (zaj p0) p0).length:Int)+((List.take (zaj p1) p1).length:Int))))&&decide ((w (((List.take (zaj p0) p0).length:Int)+((List.take (zaj p1) p1).length:Int)))≤LIM)))then
 (zaa (β:=ua3) (fun((h,m,i,n,c):ua3×ua3×ua3×Int×Int)=>
 bif (decide (c<n))then
 bif (decide (0≤c)&&decide (c<(i.length:Int)))then
 (zaa (β:=(ua3×ua3×Int×Int×ua3×Int×Int)) (fun((o,e,b,j,k,p,q,s,f,t,a):ua3×ua3×Int×Int×Int×ua3×Int×Int×ua3×Int×Int)=>
 bif (decide (a<t))then
 bif (decide (0≤a)&&decide (a<(f.length:Int)))then
 bif (decide (0≤(w (b+a)))&&decide ((w (b+a))<(e.length:Int)))then
 bif (decide (0≤(w (b+a)))&&decide ((w (b+a))<(e.length:Int)))then
 some (Sum.inl (o,(List.set e (Int.toNat (w (b+a))) (wu32 (wu64 ((wu64 ((wu64 ((wu64 j)*(wu64 (List.getD f (Int.toNat a) 0))))+(wu64 (List.getD e (Int.toNat (w (b+a))) 0))))+k)))),b,j,(wu64 (Int.fdiv (wu64 ((wu64 ((wu64 ((wu64 j)*(wu64 (List.getD f (Int.toNat a) 0))))+(wu64 (List.getD e (Int.toNat (w (b+a))) 0))))+k)) (2^(min (Int.toNat 32) 64)))),p,q,s,f,t,(w (a+1))))
 else none
 else none
 else none
 else
 some (Sum.inr (o,e,b,k,p,q,s))) (h,m,c,(List.getD i (Int.toNat c) 0),0,i,n,c,h,(h.length:Int),0)).bind fun((g,v,l,x,y,z,aa):ua3×ua3×Int×Int×ua3×Int×Int)=>
 bif (decide (0≤(w (l+(g.length:Int))))&&decide ((w (l+(g.length:Int)))<(v.length:Int)))then
 some (Sum.inl (g,(List.set v (Int.toNat (w (l+(g.length:Int)))) (wu32 x)),y,z,(w (aa+1))))
 else none
 else none
 else
 some (Sum.inr m)) ((List.take (zaj p1) p1),(List.replicate (Int.toNat (w (((List.take (zaj p0) p0).length:Int)+((List.take (zaj p1) p1).length:Int)))) 0),(List.take (zaj p0) p0),((List.take (zaj p0) p0).length:Int),0)).bind fun(ab:List Int)=>
 (d171 ab).bind fun r=>
 some r
 else none
def sg177:Sig:=⟨[(y55,.bw),(y55,.bw)],[(y55,(.own 146 .sh))]⟩
theorem sim177:Sim Tryz.prog 177 sg177 d177:=uqz Tryz.func177 (zac rfl) Tryz.call177 (by kernel_rfl) (by kernel_rfl) [.pre zlc,.fn E171] (uqs (uqs (uqs (.seq (uqs (.block (.loop [(1,.v y55 .bw),(5,.v y55 (.own 146 .sh)),(22,.v y55 .bw),(23,uqa),(24,uqa)] [(.brk 0,[(5,.v y55 (.own 146 .sh))])] (uqs (.seq (.cond .nil .nil) (.seq (.block (uqs (uqs (.seq (uqs (.block (.loop [(1,.v y55 .bw),(5,.v y55 (.own 146 .sh)),(6,uqa),(7,.v y146 .sh),(8,.v y12 .sh),(22,.v y55 .bw),(23,uqa),(24,uqa),(29,.v y55 .bw),(30,uqa),(31,uqa)] [(.brk 2,[(1,.v y55 .bw),(5,.v y55 (.own 146 .sh)),(6,uqa),(8,.v y12 .sh),(22,.v y55 .bw),(23,uqa),(24,uqa)])] (uqs (.seq (.cond .nil .nil) (.seq (.block (uqs (uqs (uqs uqr)))) uqr)))))) uqr)))) uqr)))))) (uqs .nil))))) fun xs=>by kernel_rfl
def E177:FnE Tryz.prog:=⟨177,sg177,d177,sim177⟩
def d209(a:List Int)(b:List Int):Option ua3:=
 (bif decide ((a.length:Int)≤LIM)then some ()else none).bind fun u=>
 (bif decide ((b.length:Int)≤LIM)then some ()else none).bind fun m=>
 bif (decide ((w ((bif (decide (((List.take (zaj a) a).length:Int)<((List.take (zaj b) b).length:Int)))then((List.take (zaj b) b).length:Int)else((List.take (zaj a) a).length:Int))+1))=(w ((bif (decide (((List.take (zaj a) a).length:Int)<((List.take (zaj b) b).length:Int)))then((List.take (zaj b) b).length:Int)else((List.take (zaj a) a).length:Int))+1)))&&(decide (0≤(w ((bif (decide (((List.take (zaj a) a).length:Int)<((List.take (zaj b) b).length:Int)))then((List.take (zaj b) b).length:Int)else((List.take (zaj a) a).length:Int))+1)))&&decide ((w ((bif (decide (((List.take (zaj a) a).length:Int)<((List.take (zaj b) b).length:Int)))then((List.take (zaj b) b).length:Int)else((List.take (zaj a) a).length:Int))+1))≤LIM)))then
 (zaa (β:=(Int×ua3×Int)) (fun((f,g,n,out,carry,h,c):ua3×ua3×Int×ua3×Int×Int×Int)=>
 bif (decide (c<h))then
 (d217 f c).bind fun r=>
 (d217 g c).bind fun i=>
 bif (decide (0≤c)&&decide (c<(out.length:Int)))then
 some (Sum.inl (f,g,n,(List.set out (Int.toNat c) (wu32 (wu64 ((wu64 (r+i))+carry)))),(wu64 (Int.fdiv (wu64 ((wu64 (r+i))+carry)) (2^(min (Int.toNat 32) 64)))),h,(w (c+1))))
 else none
 else
 some (Sum.inr (n,out,carry))) ((List.take (zaj a) a),(List.take (zaj b) b),(bif (decide (((List.take (zaj a) a).length:Int)<((List.take (zaj b) b).length:Int)))then((List.take (zaj b) b).length:Int)else((List.take (zaj a) a).length:Int)),(List.replicate (Int.toNat (w ((bif (decide (((List.take (zaj a) a).length:Int)<((List.take (zaj b) b).length:Int)))then((List.take (zaj b) b).length:Int)else((List.take (zaj a) a).length:Int))+1))) 0),0,(bif (decide (((List.take (zaj a) a).length:Int)<((List.take (zaj b) b).length:Int)))then((List.take (zaj b) b).length:Int)else((List.take (zaj a) a).length:Int)),0)).bind fun((e,j,k):Int×ua3×Int)=>
 bif (decide (0≤e)&&decide (e<(j.length:Int)))then
 (d171 (List.set j (Int.toNat e) (wu32 k))).bind fun l=>
 some l
 else none
 else none
def sg209:Sig:=⟨[(y55,.bw),(y55,.bw)],[(y55,(.own 146 .sh))]⟩
theorem sim209:Sim Tryz.prog 209 sg209 d209:=uqz Tryz.func209 (zac rfl) Tryz.call209 (by kernel_rfl) (by kernel_rfl) [.pre zlc,.fn E217,.fn E171] (uqs (uqs (uqs (uqs (uqs (.seq (uqs (.block (.loop [(0,.v y55 .bw),(1,.v y55 .bw),(5,uqa),(6,.v y55 (.own 146 .sh)),(7,.v y12 .sh),(22,uqa),(23,uqa)] [(.brk 0,[(5,uqa),(6,.v y55 (.own 146 .sh)),(7,.v y12 .sh)])] (uqs (.seq (.cond .nil .nil) (.seq (.block (uqs (uqs (uqs uqr)))) uqr)))))) (uqs (uqs .nil)))))))) fun xs=>by kernel_rfl
def E209:FnE Tryz.prog:=⟨209,sg209,d209,sim209⟩
def d210(a:List Int)(b:List Int):Option (ua3×Bool):=
 (bif decide ((a.length:Int)≤LIM)then some ()else none).bind fun u=>
 (bif decide ((b.length:Int)≤LIM)then some ()else none).bind fun l=>
 (d201 (List.take (zaj a) a) (List.take (zaj b) b)).bind fun r=>
 bif (decide (r<0))then
 some ([],false)
 else
 bif (decide (((List.take (zaj a) a).length:Int)=((List.take (zaj a) a).length:Int))&&(decide (0≤((List.take (zaj a) a).length:Int))&&decide (((List.take (zaj a) a).length:Int)≤LIM)))then
 (zaa (β:=ua3) (fun((e,f,out,borrow,g,c):ua3×ua3×ua3×Int×Int×Int)=>
 bif (decide (c<g))then
 (d217 e c).bind fun h=>
 (d217 f c).bind fun i=>
 bif (decide (0≤c)&&decide (c<(out.length:Int)))then
 some (Sum.inl (e,f,(List.set out (Int.toNat c) (wu32 (wu64 ((wu64 ((wu64 (4294967296+h))-i))-borrow)))),(wu64 (1-(wu64 (Int.fdiv (wu64 ((wu64 ((wu64 (4294967296+h))-i))-borrow)) (2^(min (Int.toNat 32) 64)))))),g,(w (c+1))))
 else none
 else
 some (Sum.inr out)) ((List.take (zaj a) a),(List.take (zaj b) b),(List.replicate (Int.toNat ((List.take (zaj a) a).length:Int)) 0),0,((List.take (zaj a) a).length:Int),0)).bind fun(j:List Int)=>
 (d171 j).bind fun k=>
 some (k,true)
 else none
def sg210:Sig:=⟨[(y55,.bw),(y55,.bw)],[(y55,.sh),(y4,.sh)]⟩
theorem sim210:Sim Tryz.prog 210 sg210 d210:=uqz Tryz.func210 (zac rfl) Tryz.call210 (by kernel_rfl) (by kernel_rfl) [.pre zlc,.fn E201,.fn E217,.fn E171] (.post (uqs (uqs (.seq (uqs (.cond (uqs .nil) .nil)) (uqs (uqs (.seq (uqs (.block (.loop [(0,.v y55 .bw),(1,.v y55 .bw),(6,.v y55 (.own 146 .sh)),(7,.v y12 .sh),(22,uqa),(23,uqa)] [(.brk 0,[(6,.v y55 (.own 146 .sh))])] (uqs (.seq (.cond .nil .nil) (.seq (.block (uqs (uqs (uqs uqr)))) uqr)))))) (uqs .nil))))))) [(4,[])]) fun xs=>by kernel_rfl
def E210:FnE Tryz.prog:=⟨210,sg210,d210,sim210⟩
def d176(aNeg:Bool)(a:List Int)(bNeg:Bool)(b:List Int):Option (Bool×ua3):=
 bif (aNeg == bNeg)then
 (d209 a b).bind fun r=>
 some (aNeg,r)
 else
 (d210 a b).bind fun c=>
 bif c.2 then
 some (aNeg,c.1)
 else
 (d210 b a).bind fun e=>
 some (bNeg,e.1)
def sg176:Sig:=⟨[(y4,.sh),(y55,.bw),(y4,.sh),(y55,.bw)],[(y4,.sh),(y55,.sh)]⟩
theorem sim176:Sim Tryz.prog 176 sg176 d176:=uqz Tryz.func176 (zac rfl) Tryz.call176 (by kernel_rfl) (by kernel_rfl) [.fn E209,.fn E210] (.post (uqs (.seq (uqs (.cond (uqs .nil) .nil)) (.seq (.seq (.reg [] [{},{},{},{fl:=1}]) (uqs (.cond (uqs .nil) .nil))) (.seq (.reg [] [{},{},{},{fl:=1}]) (uqs .nil))))) [(9,[])]) fun xs=>by kernel_rfl
def E176:FnE Tryz.prog:=⟨176,sg176,d176,sim176⟩
def d138(a:ua1)(b:ua1):Option ua1:=
 (d175 a).bind fun r=>
 (d175 b).bind fun c=>
 (d177 r.2.1 c.2.2).bind fun f=>
 (d177 c.2.1 r.2.2).bind fun g=>
 (d176 r.1 f c.1 g).bind fun e=>
 (d177 r.2.2 c.2.2).bind fun h=>
 (d127 e.1 e.2 h).bind fun i=>
 some i
def sg138:Sig:=⟨[(y57,.bw),(y57,.bw)],[(y57,.sh)]⟩
theorem sim138:Sim Tryz.prog 138 sg138 d138:=uqz Tryz.func138 (zac rfl) Tryz.call138 (by kernel_rfl) (by kernel_rfl) [.fn E175,.fn E177,.fn E176,.fn E127] (uqs (uqs (.seq (.reg [] [{},{},{},{},{},{},{},{},{},{},{},{},{},{},{},{fl:=1}]) (uqs .nil)))) fun xs=>by kernel_rfl
def E138:FnE Tryz.prog:=⟨138,sg138,d138,sim138⟩
def d132(a:ua1)(b:ua1):Option ua1:=
 (d138 a (!b.1,b.2)).bind fun r=>
 some r
def sg132:Sig:=⟨[(y57,.bw),(y57,.bw)],[(y57,.sh)]⟩
theorem sim132:Sim Tryz.prog 132 sg132 d132:=uqz Tryz.func132 (zac rfl) Tryz.call132 (by kernel_rfl) (by kernel_rfl) [.fn E138] (uqs (uqs (uqs .nil))) fun xs=>by kernel_rfl
def E132:FnE Tryz.prog:=⟨132,sg132,d132,sim132⟩
def d137(a:ua1)(b:ua1):Option Int:=
 (d132 a b).bind fun r=>
 bif r.1 then
 some (-1)
 else
 bif (decide ((r.2.1.length:Int)=0))then
 some 0
 else
 some 1
def sg137:Sig:=⟨[(y57,.bw),(y57,.bw)],[(y2,.sh)]⟩
theorem sim137:Sim Tryz.prog 137 sg137 d137:=uqz Tryz.func137 (zac rfl) Tryz.call137 (by kernel_rfl) (by kernel_rfl) [.fn E132] (uqs (uqs (.seq (.block (uqs (.cond (uqs .nil) (uqs (.cond (uqs .nil) .nil))))) (uqs .nil)))) fun xs=>by kernel_rfl
def E137:FnE Tryz.prog:=⟨137,sg137,d137,sim137⟩
def d158(a:Int)(b:Int):Option ua1:=
 (d128 a).bind fun r=>
 (d128 b).bind fun c=>
 (d127 (!((decide (a<0)) == (decide (b<0)))) r c).bind fun e=>
 some e
def sg158:Sig:=⟨[(y2,.sh),(y2,.sh)],[(y57,.sh)]⟩
theorem sim158:Sim Tryz.prog 158 sg158 d158:=uqz Tryz.func158 (zac rfl) Tryz.call158 (by kernel_rfl) (by kernel_rfl) [.fn E128,.fn E127] (uqs (uqs .nil)) fun xs=>by kernel_rfl
def E158:FnE Tryz.prog:=⟨158,sg158,d158,sim158⟩
def d172(a:ua1)(b:ua1):Option ua1:=
 (d177 a.2.1 b.2.1).bind fun r=>
 (d177 a.2.2 b.2.2).bind fun c=>
 (d127 (!(a.1 == b.1)) r c).bind fun e=>
 some e
def d179(a:ua1)(b:ua1):Option (ua1×Bool):=
 (d175 a).bind fun r=>
 (d175 b).bind fun c=>
 bif (decide ((c.2.1.length:Int)=0))then
 some ((false,[],[]),false)
 else
 (d177 r.2.1 c.2.2).bind fun e=>
 (d177 r.2.2 c.2.1).bind fun f=>
 (d127 (!(r.1 == c.1)) e f).bind fun g=>
 some (g,true)
def d142(b:List Bool):Option ua2:=
 (zaa (β:=(ua2×Int)) (fun((a,n):ua2×Int)=>
 letJ (fun((f,g,i):ua2×Int×Bool)=>
 bif i then
 some (Sum.inl (f,(w (g-1))))
 else
 some (Sum.inr (f,g))) fun h=>
 bif (decide (0<n))then
 bif (decide (0≤(w (n-1)))&&decide ((w (n-1))<(a.length:Int)))then
 h (a,n,!(List.getD a (Int.toNat (w (n-1))) false))
 else none
 else
 h (a,n,false)) (b,(b.length:Int))).bind fun((c,e):ua2×Int)=>
 bif (zbz 0 e c.length)then
 bif (decide ((([]:List Bool).length:Int)+((List.drop 0 (List.take (Int.toNat e) c)).length:Int)≤LIM))then
 some (List.drop 0 (List.take (Int.toNat e) c))
 else none
 else none
def d95(a:List Int):Option ua2:=
 (zaa (β:=ua2) (fun((g,b,i):ua3×ua2×Int)=>
 bif (decide (i<(g.length:Int)))then
 (zaa (β:=(ua3×ua2×Int)) (fun((e,f,c,k):ua3×ua2×Int×Int)=>
 bif (decide (k<32))then
 bif (decide (0≤c)&&decide (c<(e.length:Int)))then
 bif (decide (0≤k))then
 bif (decide ((f.length:Int)+(([(decide ((wu32 ((BitVec.ofInt 32 (wu32 (Int.fdiv (List.getD e (Int.toNat c) 0) (2^(min (Int.toNat k) 32))))&&&BitVec.ofInt 32 1).toNat:Int))=1))]:List Bool).length:Int)≤LIM))then
 some (Sum.inl (e,(f++[(decide ((wu32 ((BitVec.ofInt 32 (wu32 (Int.fdiv (List.getD e (Int.toNat c) 0) (2^(min (Int.toNat k) 32))))&&&BitVec.ofInt 32 1).toNat:Int))=1))]),c,(wu64 (k+1))))
 else none
 else none
 else none
 else
 some (Sum.inr (e,f,c))) (g,b,i,0)).bind fun((h,j,l):ua3×ua2×Int)=>
 some (Sum.inl (h,j,(w (l+1))))
 else
 some (Sum.inr b)) (a,[],0)).bind fun(m:List Bool)=>
 (d142 m).bind fun r=>
 some r
def d93(n:Int):Option ua2:=
 (d95 [(wu32 n),(wu32 (wu64 (Int.fdiv n (2^(min (Int.toNat 32) 64)))))]).bind fun r=>
 some r
def d94(n:Int):Option ua2:=
 (zaa (β:=ua2) (fun((a,b):Int×ua2)=>
 bif (decide (0<a))then
 bif (decide ((b.length:Int)+(([(decide ((w (Int.tmod a 2))=1))]:List Bool).length:Int)≤LIM))then
 some (Sum.inl ((w (Int.tdiv a 2)),(b++[(decide ((w (Int.tmod a 2))=1))])))
 else none
 else
 some (Sum.inr b)) (n,[])).bind fun(c:List Bool)=>
 some c
def d145(b:List Bool)(i:Int):Option Bool:=
 bif (decide (0≤i))then
 bif (decide (i<(b.length:Int)))then
 bif (decide (0≤i)&&decide (i<(b.length:Int)))then
 some (List.getD b (Int.toNat i) false)
 else none
 else
 some false
 else
 some false
def d80(a:List Bool)(b:List Bool):Option Int:=
 (zaa (β:=Unit⊕Int) (fun((c,e,i):ua2×ua2×Int)=>
   bif (decide (0≤i))then
    (d145 c i).bind fun r=>
    (d145 e i).bind fun f=>
    bif !(r == f)then
     (d145 c i).bind fun g=>
     bif g then
      some (Sum.inr (Sum.inr 1))
     else
      some (Sum.inr (Sum.inr (-1)))
    else
     some (Sum.inl (c,e,(w (i-1))))
   else
    some (Sum.inr (Sum.inl ()))) (a,b,(w ((bif (decide ((a.length:Int)<(b.length:Int)))then(b.length:Int)else(a.length:Int))-1)))).bind fun
 |Sum.inl _=>
  some 0
 |Sum.inr h=>
  some h
def d82(a:List Bool)(b:List Bool):Option ua2:=
 (zaa (β:=ua2) (fun((e,f,out,borrow,i):ua4)=>
 bif (decide (i<(e.length:Int)))then
 letJ (fun((h,j,k,l,m):ua4)=>
 some (Sum.inl (h,j,k,l,(w (m+1))))) fun g=>
 (d145 e i).bind fun r=>
 (d145 f i).bind fun c=>
 bif (decide ((out.length:Int)+(([!((!(r == c)) == borrow)]:List Bool).length:Int)≤LIM))then
 bif !r then
 bif !c then
 bif !r then
 bif !borrow then
 bif c then
 g (e,f,(out++[!((!(r == c)) == borrow)]),borrow,i)
 else
 g (e,f,(out++[!((!(r == c)) == borrow)]),false,i)
 else
 g (e,f,(out++[!((!(r == c)) == borrow)]),true,i)
 else
 bif c then
 g (e,f,(out++[!((!(r == c)) == borrow)]),borrow,i)
 else
 g (e,f,(out++[!((!(r == c)) == borrow)]),false,i)
 else
 g (e,f,(out++[!((!(r == c)) == borrow)]),true,i)
 else
 bif !r then
 bif !borrow then
 bif c then
 g (e,f,(out++[!((!(r == c)) == borrow)]),borrow,i)
 else
 g (e,f,(out++[!((!(r == c)) == borrow)]),false,i)
 else
 g (e,f,(out++[!((!(r == c)) == borrow)]),true,i)
 else
 bif c then
 g (e,f,(out++[!((!(r == c)) == borrow)]),borrow,i)
 else
 g (e,f,(out++[!((!(r == c)) == borrow)]),false,i)
 else none
 else
 some (Sum.inr out)) (a,b,[],false,0)).bind fun(n:List Bool)=>
 (d142 n).bind fun o=>
 some o
def d153(a:List Bool)(b:List Bool):Option (ua2×ua2):=
 bif (decide ((a.length:Int)=(a.length:Int))&&(decide (0≤(a.length:Int))&&decide ((a.length:Int)≤LIM)))then
 (zaa (β:=(ua2×ua2)) (fun((c,e,q,r,i):ua2×ua2×ua2×ua2×Int)=>
 bif (decide (0≤i))then
 letJ (fun((h,j,k,l,m):ua2×ua2×ua2×ua2×Int)=>
 some (Sum.inl (h,j,k,l,(w (m-1))))) fun g=>
 bif (decide (0≤i)&&decide (i<(c.length:Int)))then
 bif (decide ((([(List.getD c (Int.toNat i) false)]:List Bool).length:Int)+(r.length:Int)≤LIM))then
 (d142 ([(List.getD c (Int.toNat i) false)]++r)).bind fun f=>
 (d80 f e).bind fun n=>
 bif (decide (0≤n))then
 (d82 f e).bind fun o=>
 bif (decide (0≤i)&&decide (i<(q.length:Int)))then
 g (c,e,(List.set q (Int.toNat i) true),o,i)
 else none
 else
 g (c,e,q,f,i)
 else none
 else none
 else
 some (Sum.inr (q,r))) (a,b,(List.replicate (Int.toNat (a.length:Int)) false),[],(w ((a.length:Int)-1)))).bind fun((p,s):ua2×ua2)=>
 (d142 p).bind fun t=>
 some (t,s)
 else none
def d152(a:List Bool)(b:List Bool):Option ua2:=
 (zaa (β:=ua2) (fun((e,c):ua2×ua2)=>
 bif (decide (0<(c.length:Int)))then
 (d153 e c).bind fun r=>
 some (Sum.inl (c,r.2))
 else
 some (Sum.inr e)) (a,b)).bind fun(f:List Bool)=>
 (d142 f).bind fun g=>
 some g
def d92(neg:Bool)(n:List Bool)(d:List Bool):Option ua0:=
 letJ (fun((f,a,b,j,g):Bool×ua2×ua2×ua0×Bool)=>
 bif g then
 (d94 1).bind fun r=>
 some (false,[],r)
 else
 (d152 a b).bind fun c=>
 (d153 a c).bind fun h=>
 (d153 b c).bind fun i=>
 some (f,h.1,i.1)) fun e=>
 bif !(decide ((n.length:Int)=0))then
 e (neg,n,d,(false,[],[]),(decide ((d.length:Int)=0)))
 else
 e (neg,n,d,(false,[],[]),true)
def d33(n:Int):Option ua0:=
 bif (decide (n<0))then
 (d93 (wu64 ((wu64 (w (0-(w (n+1)))))+1))).bind fun r=>
 (d94 1).bind fun a=>
 (d92 true r a).bind fun b=>
 some b
 else
 (d93 (wu64 n)).bind fun c=>
 (d94 1).bind fun e=>
 (d92 false c e).bind fun f=>
 some f
def d34(r:ua1):Option ua0:=
 (d95 r.2.1).bind fun a=>
 (d95 r.2.2).bind fun b=>
 (d92 r.1 a b).bind fun c=>
 some c
def d141(a:List Bool)(n:Int):Option ua2:=
 bif (decide (n=n)&&(decide (0≤n)&&decide (n≤LIM)))then
 bif (decide (((List.replicate (Int.toNat n) false).length:Int)+(a.length:Int)≤LIM))then
 some ((List.replicate (Int.toNat n) false)++a)
 else none
 else none
def d79(a:List Bool)(b:List Bool):Option ua2:=
 (zaa (β:=ua2) (fun((e,f,out,carry,i):ua4)=>
 bif (decide (i≤(bif (decide ((e.length:Int)<(f.length:Int)))then(f.length:Int)else(e.length:Int))))then
 letJ (fun((h,j,k,l,m):ua4)=>
 some (Sum.inl (h,j,k,l,(w (m+1))))) fun g=>
 (d145 e i).bind fun r=>
 (d145 f i).bind fun c=>
 bif (decide ((out.length:Int)+(([!((!(r == c)) == carry)]:List Bool).length:Int)≤LIM))then
 bif r then
 bif !c then
 bif r then
 bif !carry then
 bif c then
 g (e,f,(out++[!((!(r == c)) == carry)]),carry,i)
 else
 g (e,f,(out++[!((!(r == c)) == carry)]),false,i)
 else
 g (e,f,(out++[!((!(r == c)) == carry)]),true,i)
 else
 bif c then
 g (e,f,(out++[!((!(r == c)) == carry)]),carry,i)
 else
 g (e,f,(out++[!((!(r == c)) == carry)]),false,i)
 else
 g (e,f,(out++[!((!(r == c)) == carry)]),true,i)
 else
 bif r then
 bif !carry then
 bif c then
 g (e,f,(out++[!((!(r == c)) == carry)]),carry,i)
 else
 g (e,f,(out++[!((!(r == c)) == carry)]),false,i)
 else
 g (e,f,(out++[!((!(r == c)) == carry)]),true,i)
 else
 bif c then
 g (e,f,(out++[!((!(r == c)) == carry)]),carry,i)
 else
 g (e,f,(out++[!((!(r == c)) == carry)]),false,i)
 else none
 else
 some (Sum.inr out)) (a,b,[],false,0)).bind fun(n:List Bool)=>
 (d142 n).bind fun o=>
 some o
def d77(a:List Bool)(b:List Bool):Option ua2:=
 (zaa (β:=ua2) (fun((e,c,sum,i):ua2×ua2×ua2×Int)=>
 bif (decide (i<(c.length:Int)))then
 letJ (fun((g,h,j,k):ua2×ua2×ua2×Int)=>
 some (Sum.inl (g,h,j,(w (k+1))))) fun f=>
 bif (decide (0≤i)&&decide (i<(c.length:Int)))then
 bif (List.getD c (Int.toNat i) false)then
 (d141 e i).bind fun r=>
 (d79 sum r).bind fun l=>
 f (e,c,l,i)
 else
 f (e,c,sum,i)
 else none
 else
 some (Sum.inr sum)) (a,b,[],0)).bind fun(m:List Bool)=>
 (d142 m).bind fun n=>
 some n
def d35(a:ua0)(b:ua0):Option ua0:=
 (d77 a.2.1 b.2.2).bind fun r=>
 (d77 b.2.1 a.2.2).bind fun c=>
 (d77 a.2.2 b.2.2).bind fun e=>
 bif (a.1 == b.1)then
 (d79 r c).bind fun f=>
 (d92 a.1 f e).bind fun g=>
 some g
 else
 (d80 r c).bind fun h=>
 bif (decide (0≤h))then
 (d82 r c).bind fun i=>
 (d92 a.1 i e).bind fun j=>
 some j
 else
 (d82 c r).bind fun k=>
 (d92 b.1 k e).bind fun l=>
 some l
def d41(a:ua0):Option ua0:=
 (d92 (!a.1) a.2.1 a.2.2).bind fun r=>
 some r
def d36(a:ua0)(b:ua0):Option Int:=
 (d41 b).bind fun r=>
 (d35 a r).bind fun c=>
 bif (decide ((c.2.1.length:Int)=0))then
 some 0
 else
 bif c.1 then
 some (-1)
 else
 some 1
def d96(a:List Int)(b:List Int):Option Bool:=
 bif !(decide ((a.length:Int)=(b.length:Int)))then
  some false
 else
  (zaa (β:=Unit⊕Bool) (fun((c,e,i):ua3×ua3×Int)=>
    bif (decide (i<(c.length:Int)))then
     bif (decide (0≤i)&&decide (i<(c.length:Int)))then
      bif (decide (0≤i)&&decide (i<(e.length:Int)))then
       bif !(decide ((List.getD c (Int.toNat i) 0)=(List.getD e (Int.toNat i) 0)))then
        some (Sum.inr (Sum.inr false))
       else
        some (Sum.inl (c,e,(w (i+1))))
      else none
     else none
    else
     some (Sum.inr (Sum.inl ()))) (a,b,0)).bind fun
  |Sum.inl _=>
   some true
  |Sum.inr f=>
   some f
def d37(a:ua1)(b:ua1):Option Bool:=
 bif (a.1 == b.1)then
 (d96 a.2.1 b.2.1).bind fun r=>
 bif r then
 (d96 a.2.2 b.2.2).bind fun c=>
 some c
 else
 some false
 else
 some false
def d40(a:ua0)(b:ua0):Option ua0:=
 (d77 a.2.1 b.2.1).bind fun r=>
 (d77 a.2.2 b.2.2).bind fun c=>
 (d92 (!(a.1 == b.1)) r c).bind fun e=>
 some e
def d181(b:List Bool):Option ua3:=
 (d142 b).bind fun r=>
 bif (decide ((w (Int.tdiv (w ((r.length:Int)+31)) 32))=(w (Int.tdiv (w ((r.length:Int)+31)) 32)))&&(decide (0≤(w (Int.tdiv (w ((r.length:Int)+31)) 32)))&&decide ((w (Int.tdiv (w ((r.length:Int)+31)) 32))≤LIM)))then
 (zaa (β:=ua3) (fun((c,a,i):ua2×ua3×Int)=>
 bif (decide (i<(c.length:Int)))then
 letJ (fun((f,g,h):ua2×ua3×Int)=>
 some (Sum.inl (f,g,(w (h+1))))) fun e=>
 bif (decide (0≤i)&&decide (i<(c.length:Int)))then
 bif (List.getD c (Int.toNat i) false)then
 bif (decide (0≤(w (Int.tdiv i 32)))&&decide ((w (Int.tdiv i 32))<(a.length:Int)))then
 bif (decide (0≤(wu64 (w (Int.tmod i 32)))))then
 bif (decide (0≤(w (Int.tdiv i 32)))&&decide ((w (Int.tdiv i 32))<(a.length:Int)))then
 e (c,(List.set a (Int.toNat (w (Int.tdiv i 32))) (wu32 ((BitVec.ofInt 32 (List.getD a (Int.toNat (w (Int.tdiv i 32))) 0)|||BitVec.ofInt 32 (wu32 (1*2^(min (Int.toNat (wu64 (w (Int.tmod i 32)))) 32)))).toNat:Int))),i)
 else none
 else none
 else none
 else
 e (c,a,i)
 else none
 else
 some (Sum.inr a)) (r,(List.replicate (Int.toNat (w (Int.tdiv (w ((r.length:Int)+31)) 32))) 0),0)).bind fun(j:List Int)=>
 some j
 else none
def d143(r:ua0):Option ua1:=
 (d181 r.2.1).bind fun a=>
 (d181 r.2.2).bind fun b=>
 some (r.1,a,b)
def d144(a:ua0)(b:ua0):Option ua0:=
 (d77 a.2.1 b.2.2).bind fun r=>
 (d77 a.2.2 b.2.1).bind fun c=>
 (d92 (!(a.1 == b.1)) r c).bind fun e=>
 some e
end
end Go.Proofs.YtmipjomnjkmdbaaGreat
