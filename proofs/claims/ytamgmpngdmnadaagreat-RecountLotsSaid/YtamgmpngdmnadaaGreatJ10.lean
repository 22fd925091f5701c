/- A part of the proof. -/
import Derived.WalkKit
import Derived.OwnWalkIn
import Derived.TacticsInMore
import Derived.LoopNIn
import Derived.LoopIn
import Derived.Test.YtamgmpngdmnadaaGreatJ9
set_option linter.defProp false
set_option linter.unusedSimpArgs false
set_option linter.unusedVariables false
set_option linter.unnecessarySimpa false
namespace Go.Proofs.YtamgmpngdmnadaaGreat
open Tryz
open Go Go.Proofs Go.RowKit Go.X
attribute [local go_sem] Oper.semAt_some
def tlen(l:List Int):Nat->Nat
 | 0=>0
 |n+1=>if l.getD n 0=0 then tlen l n else n+1
def zbe(l:List Int):Nat:=tlen l l.length
def tlen_le(l:List Int):∀n,tlen l n<=n
 | 0=>xag _
 |n+1=>by unfold tlen;split;exact Nat.le_succ_of_le (tlen_le l n);exact xag _
def zkv{P:Program}{c:Code}{Q:Exit->Act->World->Prop}(R:Nat->Act->World->Prop)(zlm:∀m a w,R m a w->c.wp P (Exit.then (λa' w'=>∃m',m'<m/\R m' a' w') Q) a w){m:Nat}{a:Act}{w:World}(h:R m a w):(Code.loop c).wp P Q a w:=by
 refine wp_loop_rounds (m+1) ?_;have key:∀(M m:Nat) (a:Act) (w:World),m<M->R m a w->Code.rounds P c Q M a w:=by
  intro M;induction M with
  |zero=>intro m a w hm;omega
  |succ M ih=>
   intro m a w hm hr;rw[rounds_succ];refine Code.wp_mono ?_ (zlm m a w hr);intro e a' w' hq;cases e with
   |normal=>obtain⟨m',h1,h2⟩:=hq;exact ih m' a' w' (by omega) h2
   |_=>exact hq
 exact key (m+1) m a w (by omega) h
def wpk{P:Program}{o:Oper}{a:Act}{w:World}{K:Act->World->Prop}{Q:Exit->Act->World->Prop}(h:∀K',(∀a w,K a w->K' a w)->o.wp P a w K' Q):o.wp P a w K Q:=h K λ_ _ h=>h
def FrT(A:Option Addr)(xs:List Int)(cap i:Nat)(a:Act):Prop:=∃(x1 x4 x5 x6 x7 x8 x9 x10 x11 x12 x13 x14 x15 x16 x17 x18 x19 x20 x21 x22:Value),a={tmps:=#[.slice A xs.length cap,x1,.slice none 0 0,.int .i64 (i:Int),x4,x5,x6,x7,x8,x9,x10,x11,x12,x13,x14,x15,x16,x17,x18,x19,x20,x21,x22],defers:=[]}
def FrT.mk{A:Option Addr}{xs:List Int}{cap i:Nat}{x1 x4 x5 x6 x7 x8 x9 x10 x11 x12 x13 x14 x15 x16 x17 x18 x19 x20 x21 x22:Value}:FrT A xs cap i {tmps:=#[.slice A xs.length cap,x1,.slice none 0 0,.int .i64 (i:Int),x4,x5,x6,x7,x8,x9,x10,x11,x12,x13,x14,x15,x16,x17,x18,x19,x20,x21,x22],defers:=[]}:=⟨x1,x4,x5,x6,x7,x8,x9,x10,x11,x12,x13,x14,x15,x16,x17,x18,x19,x20,x21,x22,rfl⟩
set_option maxRecDepth 100000 in
set_option maxHeartbeats 4000000 in
def trim_ok(w:World)(A:Option Addr)(cap:Nat)(xs:List Int)(hlen:xs.length<=4294967296)(hcap:xs.length<=cap)(hw:∀n∈xs,IntKind.u32.wrap n=n)
  (hm:(xs=[]/\cap=0)\/∃b o,A=some ⟨b,o,none⟩/\∀(i:Nat) (h:i<xs.length),w.cell? ⟨b,o+i,none⟩=some (.int .u32 xs[i])) :
  Calls prog 264 #[.slice A xs.length cap] w λe w'=>w'=w/\zbe xs<=xs.length/\((e=.returned (.slice none 0 0)/\zbe xs=0)\/e=.returned (.slice A (zbe xs) cap)):=by
 have hh:∀c:Int,0<=c->c<=4294967296->IntKind.i64.wrap c=c:=λc h0 h1=>IntWalk.i64_in c ⟨by omega,by omega⟩;refine(callsIn_wide (n:=0)).1 (callsIn_of_wp func264 rfl trivial ?_ rfl);simp only[ntmps264,xeh,xbd,xee,Nat.reduceAdd,Nat.reduceSub,Array.replicate_succ,Array.replicate_zero,List.push_toArray,List.append_toArray,xdp,xcx];gi_wp2;refine wpIn_wide.2 (zkv (R:=λm a w'=>∃i:Nat,i<=xs.length/\m=i/\w'=w/\zbe xs=tlen xs i/\FrT A xs cap i a) (m:=xs.length) ?zfj ?init1);case init1=>exact⟨xs.length,xag _,rfl,rfl,rfl,FrT.mk⟩
 case zfj=>
  rintro m a w' ⟨i,hi,rfl,rfl,htl,x1,x4,x5,x6,x7,x8,x9,x10,x11,x12,x13,x14,x15,x16,x17,x18,x19,x20,x21,x22,rfl⟩;refine(wpIn_wide (n:=0)).1 ?_;cases m with
  |zero=>simp only[tlen]at htl;gi_wp2;exact⟨rfl,_,results_tmp (t:=2) rfl _ _ _,rfl,by omega,.inl ⟨rfl,htl⟩⟩
  |succ i=>
   have hb:i<xs.length:=by omega
   obtain⟨b,o,rfl,ha⟩:∃b o,A=some ⟨b,o,none⟩/\∀(i:Nat) (h:i<xs.length),w'.cell? ⟨b,o+i,none⟩=some (.int .u32 xs[i]):=hm.resolve_left λh=>by rw[h.1]at hb;simp at hb
   have hc:=ha i hb;have hg:xs.getD i 0=xs[i]:=by rw[xad,xaj hb];rfl
   simp only[tlen,hg]at htl;clear hm ha;generalize hcx:xs[i]=c at hc htl;have hd:((i+1:Nat):Int)>0:=by omega
   have hf:IntKind.i64.wrap (((i+1:Nat):Int)-1)=(i:Int):=by rw[hh _ (by omega) (by omega)];omega
   have he:(i:Int)<(xs.length:Int):=by omega
   by_cases h0:c=0;·subst h0;rw[if_pos rfl]at htl;gi_wp2;exact⟨i,by omega,i,by omega,rfl,trivial,htl,FrT.mk⟩
   ·rw[if_neg h0]at htl;gi_wp2;rw[<-htl];exact⟨rfl,_,results_tmp (t:=2) rfl _ _ _,rfl,by omega,.inr rfl⟩
def enters199:zdn prog 264:=enters_of func264 (by kernel_rfl) rfl
noncomputable def zsn:PreE prog:=⟨264,.u32,zbe,enters199,trim_ok⟩
end Go.Proofs.YtamgmpngdmnadaaGreat
