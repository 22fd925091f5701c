/- Part 19 of what stands below the statement. -/
import Derived.RangeFuncNested
import Derived.Test.YtfgjbkjddcjlfaaGreatS18
set_option linter.defProp false
set_option linter.unusedSimpArgs false
set_option linter.unusedVariables false
namespace Go.X
open Go Go.RowKit
structure Kx(X:Nat→Prop)(w w':World):Prop where
 os:w'.os=w.os
 tape:w'.tape=w.tape
 output:w'.output=w.output
 size:w.heap.size≤w'.heap.size
 block:∀b,b<w.heap.size→¬X b→w'.heap[b]?=w.heap[b]?
def Kx.refl(X:Nat→Prop)(w:World):Kx X w w:=⟨rfl,rfl,rfl,xak _,fun _ _ _=>rfl⟩
def Kx.trans{X:Nat→Prop}{a b c:World}(h:Kx X a b)(k:Kx X b c):Kx X a c:=
 ⟨k.os.trans h.os,k.tape.trans h.tape,k.output.trans h.output,xbb h.size k.size,fun i hi hx=>(k.block i (xau hi h.size) hx).trans (h.block i hi hx)⟩
def Kx.of_ext{X:Nat→Prop}{w w':World}(h:Ext w w'):Kx X w w':=⟨h.os,h.tape,h.output,h.size,fun b hb _=>h.block b hb⟩
structure Rl(B:Nat)(w w':World):Prop where
 os:w'.os=w.os
 tape:w'.tape=w.tape
 output:w'.output=w.output
 size:w.heap.size≤w'.heap.size
 block:∀b,b<w.heap.size→(b<B∨∃o,w.heap[b]?=some o∧o.isCells=true)→w'.heap[b]?=w.heap[b]?
def Rl.of_ext{B:Nat}{w w':World}(h:Ext w w'):Rl B w w':=⟨h.os,h.tape,h.output,h.size,fun b hb _=>h.block b hb⟩
def Rl.le{B B':Nat}{w w':World}(h:Rl B' w w')(hB:B≤B'):Rl B w w':=⟨h.os,h.tape,h.output,h.size,fun b hb hx=>h.block b hb (hx.imp (fun h=>xau h hB) id)⟩
def Rl.putObj{B:Nat}{w:World}{l:Nat}{o o':Obj}(hl:B≤l)(h:w.heap[l]?=some o)(hc:o.isCells=false):Rl B w (w.putObj l o'):=
 ⟨rfl,rfl,rfl,by simp,fun b hb hx=>by
  refine World.putObj_heap_other ?_
  rintro rfl
  rcases hx with hx|⟨u,h1,h2⟩
  ·omega
  ·rw[h]at h1;cases h1;rw[hc]at h2;cases h2⟩
def HI(w:World)(v:Value)(xs:List Int)(b:Nat):Prop:=
 xs≠ []∧(xs.length≤1000∧∀x∈xs,IntKind.i64.wrap x=x)∧∃cap cur e,v=.slice (some ⟨b,0,none⟩) xs.length cap∧xs.length≤cap∧w.heap[b]?=some (.cells cur e (0,0))∧∀(i:Nat) (h:i<xs.length),cur[i]?=some (.int .i64 xs[i])
def HI.lt{w:World}{v:Value}{xs:List Int}{b:Nat}(h:HI w v xs b):b<w.heap.size:=by
 obtain⟨_,_,cap,cur,e,_,_,h1,_⟩:=h
 exact(xbg.1 h1).1
def HI.same{w w':World}{v:Value}{xs:List Int}{b:Nat}(h:HI w v xs b)(hb:w'.heap[b]?=w.heap[b]?):HI w' v xs b:=by
 obtain⟨h1,h2,cap,cur,e,h3,h4,h5,h6⟩:=h
 exact⟨h1,h2,cap,cur,e,h3,h4,hb.trans h5,h6⟩
def HI.keep{X:Nat→Prop}{w w':World}{v:Value}{xs:List Int}{b:Nat}(h:HI w v xs b)(hk:Kx X w w')(hx:¬X b):HI w' v xs b:=h.same (hk.block b h.lt hx)
def HI.cells{w:World}{v:Value}{xs:List Int}{b:Nat}(h:HI w v xs b):∃o,w.heap[b]?=some o∧o.isCells=true:=by
 obtain⟨_,_,cap,cur,e,_,_,h1,_⟩:=h
 exact⟨_,h1,rfl⟩
section
variable {P:Program}
def SeqAll(P:Program)(X:Nat→Prop)(Lo:Nat)(gf:Nat)(lb:Array Value)(xs:List (List Int))(w:World):Prop:=
 ∀(l:Nat) (J:List (List Int)→World→Prop) (W:World),Ext w W→(∀pre W1 W2,Rl W.heap.size W1 W2→J pre W1→J pre W2)→J [] W →
  (∀pre x v b W',Kx X W W'→J pre W'→HI W' v x b→¬X b→Lo≤b→YieldAt Fence.wide 0 P l #[v] W' fun e W''=>e=.returned (.bool true)∧J (pre++[x]) W''∧Kx X W' W'') →
  Calls P gf (#[.func (.yield l) #[] #[]]++lb) W fun e W'=>(∃v,e=.returned v)∧J xs W'∧Kx X W W'
def range_all{g:Operand}{p:Tmp}{assign body:Code}{Q:Exit→Act→World→Prop}{a:Act}{w:World}{gf:Nat}{lb:Array Value}(hg:a.eval g=.func (.func gf) #[] lb)(eg:zcf P gf)
  {X:Nat→Prop} {Lo:Nat} (hX:∀b,X b→b<w.heap.size) {xs:List (List Int)} (hseq:SeqAll P X Lo gf lb xs w)
  (I:List (List Int)→World→Prop) (hI:∀pre W1 W2,Rl w.heap.size W1 W2→I pre W1→I pre W2) (h0:I [] w)
  (hround:∀(l:Nat) pre x v b W',w.heap.size≤l→l<W'.heap.size→Kx X w W'→I pre W'→HI W' v x b→¬X b→Lo≤b →
   ∃a1,assign.wpIn (Fence.wide.inRound l) 0 P (Exit.then (fun a' W''=>a'=a1∧W''=W') (fun _ _ _=>False)) {tmps:=a.tmps.setIfInBounds p v,defers:=[]} W' ∧
    ∀Wb,Rl w.heap.size W' Wb→Kx X w Wb→I pre Wb→HI Wb v x b→body.wpIn (Fence.wide.inRound l) 0 P (fun e _ W3=>e=.normal∧I (pre++[x]) W3∧Kx X Wb W3) a1 Wb)
  (hdone:∀W',I xs W'→Kx X w W'→W'.heap[w.heap.size]?=some (.deferred (some []))→Q .normal {a with defers:={target:=.collected w.heap.size,args:=#[]}::a.defers} W') :
  (Code.rangeFunc g #[p] assign body).wp P Q a w:=by
 refine wpIn_wide.1 (wpIn_rangeFunc (n:=0) ?_)
 intro fn hfn
 obtain⟨rec,hrec⟩:∃rec:LoopState→Option Code→Loop,rec=fun st pe=>{state:=st,pending:=pe,fn,tmps:=a.tmps,params:=#[p],assign,body,defers:=w.heap.size}:=⟨_,rfl⟩
 obtain⟨W1,hW1⟩:∃W1,(w.alloc (.deferred (some []))).alloc (.loop (rec .ready none))=W1:=⟨_,rfl⟩
 have hE:Ext w W1:=by rw[←hW1];exact(Ext.alloc w _).trans (Ext.alloc _ _)
 have hsz:W1.heap.size=w.heap.size+2:=by rw[←hW1];simp
 have hL1:W1.heap[w.heap.size+1]?=some (.loop (rec .ready none)):=by
  rw[←hW1];have:=World.alloc_heap_new (w.alloc (.deferred (some []))) (.loop (rec .ready none));rwa[World.size_alloc]at this
 have hK1:W1.heap[w.heap.size]?=some (.deferred (some [])):=by
  rw[←hW1];exact((Ext.alloc _ _).block _ (by simp)).trans (World.alloc_heap_new w _)
 have hI1:I [] W1:=hI _ _ _ (.of_ext hE) h0
 refine⟨w.heap.size+1,[{target:=.collected w.heap.size,args:=#[]}],W1,{target:=.fn (.func gf) lb,args:=#[.func (.yield (w.heap.size+1)) #[] #[]]},W1,gf,
  #[.func (.yield (w.heap.size+1)) #[] #[]]++lb,W1,?_,?_,fun _ _=>trivial,?_,fun h=>(by cases h),?_⟩
 ·rw[←hW1,hrec];exact run_enterLoop_outer _ _ _ _ _
 ·simp only[resolve,hg]
  simp[go_sem]
 ·have:=eg (#[.func (.yield (w.heap.size+1)) #[] #[]]++lb) W1
  simpa[invoke,go_sem]using this
 ·refine callsIn_wide.2 ?_
  refine Calls.mono (hseq (w.heap.size+1)
   (fun pre W=>I pre W∧W.heap[w.heap.size+1]?=some (.loop (rec .ready none))∧W.heap[w.heap.size]?=some (.deferred (some [])))
   W1 hE (fun pre A B hr hs=>?_) ⟨hI1,hL1,hK1⟩ ?_) ?_
  ·refine⟨hI pre A B (hr.le (by omega)) hs.1,?_,?_⟩
   ·rw[hr.block _ (xbg.1 hs.2.1).1 (.inl (by omega))];exact hs.2.1
   ·rw[hr.block _ (xbg.1 hs.2.2).1 (.inl (by omega))];exact hs.2.2
  ·
   rintro pre x v b W hkw ⟨hi,hl,hk⟩ hv hb hlo
   have hlt:w.heap.size+1<W.heap.size:=(xbg.1 hl).1
   have hkw0:Kx X w W:=(Kx.of_ext hE).trans hkw
   have hy:=run_yield (P:=P) (args:=#[v]) hl (by rw[hrec];rfl)
   rw[hrec]at hy
   obtain⟨a1,hass,hbody⟩:=hround (w.heap.size+1) pre x v b W (by omega) hlt hkw0 hi hv hb hlo
   refine⟨fn,_,assign,body,hy,roundIn_of_wpIn hfn ?_⟩
   have e0:Array.foldl (fun tmps (x:Tmp×Value)=>tmps.setIfInBounds x.1 x.2) a.tmps (#[p].zip #[v])=a.tmps.setIfInBounds p v:=by simp
   refine wpIn_mono (Q:=Exit.then (fun a' W''=>a'=a1∧W''=W) (fun _ _ _=>False)) ?_ ?_
   ·simpa using hass
   ·rintro e a' W'' hq
    cases e with
    |normal=>
     obtain⟨rfl,rfl⟩:=hq
     refine⟨_,run_beginRound hl (by rw[hrec]),?_⟩
     obtain⟨Wb,hWb⟩:∃Wb,W''.putObj (w.heap.size+1) (.loop {rec .ready none with state:=.busy})=Wb:=⟨_,rfl⟩
     rw[hWb]
     have hlb:Wb.heap[w.heap.size+1]?=some (.loop {rec .ready none with state:=.busy}):=by rw[←hWb];exact World.putObj_heap_same hlt
     have hkb:Wb.heap[w.heap.size]?=some (.deferred (some [])):=by rw[←hWb];exact(World.putObj_heap_other (by omega)).trans hk
     have hrb:Rl w.heap.size W'' Wb:=by rw[←hWb];exact Rl.putObj (by omega) hl rfl
     have hsb:Wb.heap.size=W''.heap.size:=by rw[←hWb];simp
     have hkxb:Kx X w Wb:=⟨hrb.os.trans hkw0.os,hrb.tape.trans hkw0.tape,hrb.output.trans hkw0.output,xbb hkw0.size hrb.size,fun c hc hx=>(hrb.block c (xau hc hkw0.size) (.inl hc)).trans (hkw0.block c hc hx)⟩
     have hnl:¬X (w.heap.size+1):=fun h=>by have:=hX _ h;omega
     refine wpIn_mono (hbody Wb hrb hkxb (hI _ _ _ hrb hi) (hv.same (hrb.block _ hv.lt (.inr hv.cells)))) ?_
     rintro e a3 W3 ⟨rfl,hi3,hk3⟩
     have hl3:W3.heap[w.heap.size+1]?=some (.loop {rec .ready none with state:=.busy}):=(hk3.block _ (by omega) hnl).trans hlb
     have hd3:W3.heap[w.heap.size]?=some (.deferred (some [])):=(hk3.block _ (by omega) (fun h=>by have:=hX _ h;omega)).trans hkb
     have hr:=run_endRound (P:=P) none hl3
     have hlt3:w.heap.size+1<W3.heap.size:=(xbg.1 hl3).1
     have hrec2:({({rec .ready none with state:=.busy}:Loop)with state:=if(none:Option Code).isNone then .ready else .done,pending:=none}:Loop)=rec .ready none:=by rw[hrec];rfl
     rw[hrec2]at hr
     refine⟨_,_,hr,rfl,⟨hI _ _ _ (Rl.putObj (by omega) hl3 rfl) hi3,World.putObj_heap_same hlt3,(World.putObj_heap_other (by omega)).trans hd3⟩,hk3.os.trans hrb.os,hk3.tape.trans hrb.tape,hk3.output.trans hrb.output,?_,fun c hc hx=>?_⟩
     ·simp only[World.putObj_size];have:=hk3.size;omega
     ·by_cases hcl:c=w.heap.size+1
      ·subst hcl
       rw[World.putObj_heap_same hlt3,hl]
      ·rw[World.putObj_heap_other hcl,hk3.block c (by omega) hx,←hWb,World.putObj_heap_other hcl]
    |_=>exact hq.elim
  ·rintro e W2 ⟨⟨v,rfl⟩,⟨hi,hl,hk⟩,hkx⟩
   refine⟨none,_,by have:=run_endLoop (P:=P) hl (by rw[hrec];simp);rw[hrec]at this;exact this,?_⟩
   have hr:Rl w.heap.size W2 (W2.putObj (w.heap.size+1) (.loop {rec .ready none with state:=.exhausted})):=Rl.putObj (by omega) hl rfl
   rw[hrec]at hr
   have hk0:=(Kx.of_ext (X:=X) hE).trans hkx
   exact hdone _ (hI _ _ _ hr hi) ⟨hr.os.trans hk0.os,hr.tape.trans hk0.tape,hr.output.trans hk0.output,xbb hk0.size hr.size,fun c hc hx=>(hr.block c (xau hc hk0.size) (.inl hc)).trans (hk0.block c hc hx)⟩
    ((World.putObj_heap_other (by omega)).trans hk)
end
end Go.X
namespace Go.Proofs.YtfgjbkjddcjlfaaGreat
open Tryz
open Go Go.Proofs Go.RowKit Go.X
def stF(F:Nat→Prop)(W:World):St:=⟨W,F,fun _=>False,fun _=>none,fun _=>undef⟩
def stF_wf{F:Nat→Prop}{W:World}(h:∀b,F b→b<W.heap.size):(stF F W).WF:=⟨fun b hb=>⟨rfl,h b hb⟩,fun b hb=>hb.elim,fun b p hb=>by cases hb⟩
def frm_ext{F:Nat→Prop}{W:World}{S':St}(h:Frm (stF F W) S'):Ext W S'.w:=⟨h.os,h.tape,h.output,h.size,fun k hk=>h.kept k hk rfl⟩
structure LA(F:Nat→Prop)(W:World)(lv:Value)(l:List (Int×(Int×(Int×(List Int×Int))))):Prop where
 rel:SR prog y34 (stF F W) .bw (0,[]) l lv
 lt:∀b,F b→b<W.heap.size
def LA.keep{X F:Nat→Prop}{W W':World}{lv:Value}{l:List (Int×(Int×(Int×(List Int×Int))))}(h:LA F W lv l)(hk:Kx X W W')(hx:∀b,F b→¬X b):LA F W' lv l:=
 ⟨⟨h.rel.1.fut (.inr rfl) ⟨fun b hb=>hb,fun b _ hb=>hb.elim,fun b hb=>hb.elim (fun hb=>hk.block b (h.lt b hb) (hx b hb)) fun hb=>hb.2.elim⟩ fun _ _=>rfl,h.rel.2⟩,fun b hb=>xau (h.lt b hb) hk.size⟩
def sr_int{S:St}{p:X.Place}{m:Md}(hm:m=.sh∨m=.bw){n:Int}(hn:IntKind.i64.wrap n=n):SR prog (.int .i64) S m p n (.int .i64 n):=
 ⟨by rcases hm with rfl|rfl<;>exact⟨by simp[zab,Ty.agg],hn⟩,fun h=>by cases h⟩
def zvl{S:St}{p:X.Place}{t:List Int}{tv:Value}{tb:Nat}(h:HI S.w tv t tb)(hF:S.F tb)(hl:t.length≤1000):SR prog y23 S .bw p t tv:=by
 obtain⟨h1,h2,cap,cur,e,rfl,h4,h5,h6⟩:=h
 refine⟨⟨xbb hl (by decide),by simp[Ty.size],some ⟨tb,0,none⟩,_,cap,by simp[zab,Ty.agg],rfl,h4,.inr ⟨tb,0,rfl,fun _=>.inl hF,fun i hi=>⟨?_,h2.2 _ (xbc hi)⟩⟩⟩,fun h=>by cases h⟩
 have:=h6 i hi
 simp[blk,World.cell?,h5,Ty.size,this]
def con29{F:Nat→Prop}{W:World}{n:Int}{l:List (Int×(Int×(Int×(List Int×Int))))}{lv tv:Value}{t:List Int}{tb:Nat}{b:Bool}(hn:IntKind.i64.wrap n=n)(hl:LA F W lv l)(ht:HI W tv t tb)(htl:t.length≤1000)
  (hd:d118 n l t=some b):Calls prog 118 #[.int .i64 n,lv,tv] W fun e w'=>e=.returned (.bool b)∧Ext W w':=by
 have hwf:(stF (fun c=>F c∨c=tb) W).WF:=stF_wf fun c hc=>hc.elim (hl.lt c) fun h=>h▸ht.lt
 refine Calls.mono (sim118.2 (n,l,t,()) b hd (stF (fun c=>F c∨c=tb) W) hwf [.int .i64 n,lv,tv] rfl fun i e he=>?_) fun e w' ⟨v,S',h1,h2,h3,h4,_⟩=>?_
 ·match i,he with
  | 0,he=>cases he;exact⟨_,rfl,sr_int (.inl rfl) hn⟩
  | 1,he=>
   cases he
   exact⟨_,rfl,hl.rel.1.fut (.inr rfl) ⟨fun b hb=>.inl hb,fun b _ hb=>hb.elim,fun b hb=>rfl⟩ fun _ _=>rfl,hl.rel.2⟩
  | 2,he=>cases he;exact⟨_,rfl,zvl ht (.inr rfl) htl⟩
  |i+3,he=>cases he
 ·subst h1 h2
  have h5:SR prog .bool S' .sh (0,[0]) b v:=h4
  have h6:v=.bool b:=by have:=h5.1;simpa[Rel,zab,Ty.agg]using this
  exact⟨by rw[h6],frm_ext h3⟩
def con30{W:World}{tv:Value}{t:List Int}{tb:Nat}{c:Int}{b:Bool}(hc:IntKind.i64.wrap c=c)(ht:HI W tv t tb)(htl:t.length≤1000)
  (hd:d30 t c=some b):Calls prog 30 #[tv,.int .i64 c] W fun e w'=>e=.returned (.bool b)∧Ext W w':=by
 have hwf:(stF (fun c=>c=tb) W).WF:=stF_wf fun c hc=>hc▸ht.lt
 refine Calls.mono (sim30.2 (t,c,()) b hd (stF (fun c=>c=tb) W) hwf [tv,.int .i64 c] rfl fun i e he=>?_) fun e w' ⟨v,S',h1,h2,h3,h4,_⟩=>?_
 ·match i,he with
  | 0,he=>cases he;exact⟨_,rfl,zvl ht rfl htl⟩
  | 1,he=>cases he;exact⟨_,rfl,sr_int (.inl rfl) hc⟩
  |i+2,he=>cases he
 ·subst h1 h2
  have h5:SR prog .bool S' .sh (0,[0]) b v:=h4
  have h6:v=.bool b:=by have:=h5.1;simpa[Rel,zab,Ty.agg]using this
  exact⟨by rw[h6],frm_ext h3⟩
def con17{W:World}{sv tv:Value}{s t:List Int}{sb tb:Nat}{r:Int}(hs:HI W sv s sb)(hsl:s.length≤1000)(ht:HI W tv t tb)(htl:t.length≤1000)
  (hd:d68 s t=some r):Calls prog 68 #[sv,tv] W fun e w'=>e=.returned (.int .i64 r)∧Ext W w':=by
 have hwf:(stF (fun c=>c=sb∨c=tb) W).WF:=stF_wf fun c hc=>hc.elim (fun h=>h▸hs.lt) fun h=>h▸ht.lt
 refine Calls.mono (sim68.2 (s,t,()) r hd (stF (fun c=>c=sb∨c=tb) W) hwf [sv,tv] rfl fun i e he=>?_) fun e w' ⟨v,S',h1,h2,h3,h4,_⟩=>?_
 ·match i,he with
  | 0,he=>cases he;exact⟨_,rfl,zvl hs (.inl rfl) hsl⟩
  | 1,he=>cases he;exact⟨_,rfl,zvl ht (.inr rfl) htl⟩
  |i+2,he=>cases he
 ·subst h1 h2
  have h5:SR prog (.int .i64) S' .sh (0,[0]) r v:=h4
  have h6:v=.int .i64 r:=by have:=h5.1.1;simpa[zab,Ty.agg]using this
  exact⟨by rw[h6],frm_ext h3⟩
set_option linter.unnecessarySimpa false
section
attribute [local go_sem] Oper.semAt_some
set_option maxHeartbeats 1000000 in
def orders_in(n:Int)(la ta:Option Addr)(ll lc tl tc:Nat)(w:World) :
  Calls prog 67 #[.int .i64 n,.slice la ll lc,.slice ta tl tc] w fun e w'=>e=.returned (.func (.func 117) #[] #[.pointer (some ⟨w.heap.size,0,none⟩),.pointer (some ⟨w.heap.size+1,0,none⟩),.pointer (some ⟨w.heap.size+2,0,none⟩)]) ∧
   w'=((w.alloc (.cells #[.int .i64 n] 3)).alloc (.cells #[.slice la ll lc] 34)).alloc (.cells #[.slice ta tl tc] 23):=by
 refine(callsIn_wide (n:=0)).1 (callsIn_of_wp func67 rfl trivial ?_ rfl)
 simp only[ntmps67,xcu,xaz,xde,Nat.reduceAdd,Nat.reduceSub,xea,xdz,xet,xeg,xci,xca]
 gi_wp2
 go_ret
 exact⟨rfl,rfl⟩
def cell_lt{W:World}{b:Nat}{v:Value}(h:W.cell? ⟨b,0,none⟩=some v):b<W.heap.size:=by
 unfold World.cell? at h
 cases hb:W.heap[b]? with
 |none=>simp[hb]at h
 |some o=>exact(xbg.1 hb).1
def zdm{X:Nat→Prop}{W W':World}{b:Nat}{v:Value}(h:W.cell? ⟨b,0,none⟩=some v)(hk:Kx X W W')(hx:¬X b):W'.cell? ⟨b,0,none⟩=some v:=
 (World.cell?_of_block (w:=W) (a:=⟨b,0,none⟩) (hk.block b (cell_lt h) hx)).trans h
def zjb(W:World)(v:Value)(t:TypeId):(W.alloc (.cells #[v] t)).cell? ⟨W.heap.size,0,none⟩=some v:=by
 unfold World.cell?
 rw[World.alloc_heap_new]
 simp
def loop_inv{P:Program}{c:Code}{Q:Exit→Act→World→Prop}(R:Nat→Act→World→Prop)(step:∀m a w,R m a w→c.wp P (Exit.then (fun a' w'=>∃m',m'<m∧R m' a' w') Q) a w){m:Nat}{a:Act}{w:World}(h:R m a w):(Code.loop c).wp P Q a w:=by
 refine wp_loop_rounds (m+1) ?_
 have key:∀(M m:Nat) (a:Act) (w:World),m<M→R m a w→Code.rounds P c Q M a w:=by
  intro M
  induction M with
  |zero=>intro m a w hm;omega
  |succ M ih=>
   intro m a w hm hr
   rw[rounds_succ]
   refine Code.wp_mono ?_ (step m a w hr)
   intro e a' w' hq
   cases e with
   |normal=>obtain⟨m',h1,h2⟩:=hq;exact ih m' a' w' (by omega) h2
   |_=>exact hq
 exact key (m+1) m a w (by omega) h
def marks(Ds:List Nat):List Deferred:=Ds.map fun D=>{target:=.collected D,args:=#[]}
def MarksOK(B:Nat)(Ds:List Nat)(w:World):Prop:=Ds.Nodup∧∀D∈Ds,B≤D∧w.heap[D]?=some (.deferred (some []))
def MarksOK.ext{B:Nat}{Ds:List Nat}{w w':World}(h:MarksOK B Ds w)(he:Ext w w'):MarksOK B Ds w':=
 ⟨h.1,fun D hD=>⟨(h.2 D hD).1,(he.block D (xbg.1 (h.2 D hD).2).1).trans (h.2 D hD).2⟩⟩
def zjy{P:Program}{fn:Func}{tmps:Array Value}{R:Ending→World→Prop}{v:Value}{B:Nat}(hres:∀w,(results fn tmps).run P w=.ok v w):∀(Ds:List Nat) (w:World),MarksOK B Ds w→(∀w',Rl B w w'→R (.returned v) w') →
  LeavesInM Fence.wide 0 P fn tmps R (marks Ds) .returning w
 | [],w,_,h=>⟨_,hres w,h w ⟨rfl,rfl,rfl,xak _,fun _ _ _=>rfl⟩⟩
 |D::Ds,w,hm,h=>by
  have hD:=hm.2 D (by simp)
  have hn:=xdx.1 hm.1
  have hr:Rl B w (w.putObj D (.deferred none)):=Rl.putObj hD.1 hD.2 rfl
  refine⟨by simp,.inl ⟨D,_,rfl,run_takeDeferred hD.2,zjy hres Ds _ ⟨hn.2,fun D' h'=>⟨(hm.2 D' (xap _ h')).1,?_⟩⟩ fun w' hw=>h w' ⟨hw.os.trans hr.os,hw.tape.trans hr.tape,hw.output.trans hr.output,xbb hr.size hw.size,fun b hb hx=>?_⟩⟩⟩
  ·have hne:D'≠D:=fun e=>hn.1 (e▸h')
   rw[World.putObj_heap_other hne]
   exact(hm.2 D' (xap _ h')).2
  ·have hbD:b≠D:=by
    rintro rfl
    rcases hx with hx|⟨o,h1,h2⟩
    ·omega
    ·rw[hD.2]at h1;cases h1;cases h2
   rw[←hr.block b hb hx]
   refine hw.block b (by simpa using hb) (hx.imp id fun⟨o,h1,h2⟩=>⟨o,?_,h2⟩)
   rw[World.putObj_heap_other hbD]
   exact h1
def Fr28(lr Bn Bl Bt By:Nat)(n:Int)(i:Nat)(Ds:List Nat)(a:Act):Prop:=∃(x5 x6 x7 x8 x9 x10 x11 x12 x13 x14 x15 x16 x17 x20 x21 x22 x23 x24 x25 x26 x27 x28 x29 x30 x31 x32 x33 x34 x35 x36 x37:Value),a={tmps:=#[.func (.yield lr) #[] #[],.pointer (some ⟨Bn,0,none⟩),.pointer (some ⟨Bl,0,none⟩),.pointer (some ⟨Bt,0,none⟩),.pointer (some ⟨By,0,none⟩),x5,x6,x7,x8,x9,x10,x11,x12,x13,x14,x15,x16,x17,.int .i64 n,.int .i64 (i:Int),x20,x21,x22,x23,x24,x25,x26,x27,x28,x29,x30,x31,x32,x33,x34,x35,x36,x37],defers:=marks Ds}
def Fr28.mk{lr Bn Bl Bt By:Nat}{n:Int}{i:Nat}{Ds:List Nat}{x5 x6 x7 x8 x9 x10 x11 x12 x13 x14 x15 x16 x17 x20 x21 x22 x23 x24 x25 x26 x27 x28 x29 x30 x31 x32 x33 x34 x35 x36 x37:Value}:Fr28 lr Bn Bl Bt By n i Ds {tmps:=#[.func (.yield lr) #[] #[],.pointer (some ⟨Bn,0,none⟩),.pointer (some ⟨Bl,0,none⟩),.pointer (some ⟨Bt,0,none⟩),.pointer (some ⟨By,0,none⟩),x5,x6,x7,x8,x9,x10,x11,x12,x13,x14,x15,x16,x17,.int .i64 n,.int .i64 (i:Int),x20,x21,x22,x23,x24,x25,x26,x27,x28,x29,x30,x31,x32,x33,x34,x35,x36,x37],defers:=marks Ds}:=⟨x5,x6,x7,x8,x9,x10,x11,x12,x13,x14,x15,x16,x17,x20,x21,x22,x23,x24,x25,x26,x27,x28,x29,x30,x31,x32,x33,x34,x35,x36,x37,rfl⟩
def enters28:zcf prog 117:=enters_of func117 (by kernel_rfl) rfl
set_option maxRecDepth 100000 in
set_option maxHeartbeats 4000000 in
def it_ok{n:Int}(hn:IntKind.i64.wrap n=n)(hn7:1≤n∧n≤7){l:List (Int×(Int×(Int×(List Int×Int))))}{C:List Int→Bool}(hC:∀t,isB n t→d118 n l t=some (C t)){lv:Value}{X F:Nat→Prop}(hFX:∀b,F b→¬X b) :
  ∀(k:Nat) (t:List Int),isB n t→t≠ []→n.toNat<k+t.length→∀(lr Lo Bn Bl Bt tb:Nat) (tv:Value) (J:List (List Int)→World→Prop) (W:World),
   LA F W lv l→W.cell? ⟨Bn,0,none⟩=some (.int .i64 n)→W.cell? ⟨Bl,0,none⟩=some lv→W.cell? ⟨Bt,0,none⟩=some tv→HI W tv t tb→¬X Bn→¬X Bl→¬X Bt→¬X tb→Lo≤tb→Lo≤W.heap.size→(∀b,X b→b<W.heap.size) →
   (∀pre W1 W2,Rl W.heap.size W1 W2→J pre W1→J pre W2)→J [] W →
   (∀pre x v b W',Kx X W W'→J pre W'→HI W' v x b→¬X b→Lo≤b→YieldAt Fence.wide 0 prog lr #[v] W' fun e W''=>e=.returned (.bool true)∧J (pre++[x]) W''∧Kx X W' W'') →
   Calls prog 117 #[.func (.yield lr) #[] #[],.pointer (some ⟨Bn,0,none⟩),.pointer (some ⟨Bl,0,none⟩),.pointer (some ⟨Bt,0,none⟩)] W fun e W'=>(∃v,e=.returned v)∧J (zdj n.toNat C k t) W'∧Kx X W W':=by
 intro k
 induction k with
 |zero=>
  intro t ht hne hk
  have:=zby n.toNat t ht.1 (fun x hx=>by have:=ht.2 x hx;omega)
  omega
 |succ k ih=>
  intro t ht hne hk lr Lo Bn Bl Bt tb tv J W hl cn cl ct hti xn xl xt xtb hlo hloW hX hJ hJ0 hY
  have htl:t.length≤7:=zfe ht hn7.2
  refine(callsIn_wide (n:=0)).1 (callsIn_of_wp_marks func117 rfl trivial ?_ rfl)
  simp only[ntmps117,xcu,xaz,xde,Nat.reduceAdd,Nat.reduceSub,xea,xdz,xet,xeg,xci,xca]
  have hlv:∃la ll lc,lv=.slice la ll lc:=by
   obtain⟨_,_,a,len,cap,h,_⟩:=hl.rel.1
   exact⟨a,len,cap,by simpa[zab,Ty.agg]using h⟩
  obtain⟨la,ll,lc,rfl⟩:=hlv
  have htv:∃cap,tv=.slice (some ⟨tb,0,none⟩) t.length cap:=by
   obtain⟨_,_,cap,cur,e,h,_⟩:=hti
   exact⟨cap,h⟩
  obtain⟨tc,rfl⟩:=htv
  have f29:Fence.wide.fn 118:=trivial
  have f30:Fence.wide.fn 30:=trivial
  have f16:Fence.wide.fn 67:=trivial
  have fd:Fence.wide.depth=none:=rfl
  have e0:Ext W (W.alloc (.cells #[.func (.yield lr) #[] #[]] 124)):=Ext.alloc _ _
  have k0:Kx X W (W.alloc (.cells #[.func (.yield lr) #[] #[]] 124)):=.of_ext e0
  have xy:¬X W.heap.size:=fun h=>by have:=hX _ h;omega
  have cn0:=zdm cn k0 xn
  have cl0:=zdm cl k0 xl
  have ct0:=zdm ct k0 xt
  have cy0:=zjb W (.func (.yield lr) #[] #[]) 124
  have c1:=con29 (n:=n) hn (hl.keep k0 hFX) (hti.keep k0 xtb) (by omega) (hC t ht)
  by_cases hCt:C t=true
  ·rw[hCt]at c1
   gi_wp2_with (gi_at_call 118;refine(callsIn_wide.2 c1).mono ?_;rintro e w' ⟨rfl,he1⟩)
   refine⟨_,results_none rfl _ _ _,⟨_,rfl⟩,?_,k0.trans (.of_ext he1)⟩
   have:zdj n.toNat C (k+1) t=[]:=by unfold zdj;rw[if_pos hCt]
   rw[this]
   exact hJ _ _ _ (.of_ext (e0.trans he1)) hJ0
  ·have hCf:C t=false:=by simpa using hCt
   rw[hCf]at c1
   by_cases hfull:(t.length:Int)=n
   ·gi_wp2_with (first
     |(gi_at_call 118;refine(callsIn_wide.2 c1).mono ?_;rintro e w' ⟨rfl,he1⟩;have k1:=k0.trans (Kx.of_ext (X:=X) he1);have cn1:=zdm cn k1 xn;have ct1:=zdm ct k1 xt;have cy1:=zdm cy0 (Kx.of_ext (X:=X) he1) xy;obtain⟨fn,tmps,assign,body,hy,hR⟩:=hY [] t _ tb w' k1 (hJ _ _ _ (.of_ext (e0.trans he1)) hJ0) (hti.keep k1 xtb) xtb hlo)
     |((try refine⟨fd,?_⟩);refine hR.mono ?_;clear hR;rintro e W3 ⟨rfl,hJ3,hk3⟩))
    refine⟨_,results_none rfl _ _ _,⟨_,rfl⟩,?_,k1.trans hk3⟩
    have:zdj n.toNat C (k+1) t=[t]:=by unfold zdj;rw[if_neg hCt,if_pos (by omega)]
    rw[this]
    exact hJ3
   ·gi_wp2_with (first
     |(gi_at_call 118;refine(callsIn_wide.2 c1).mono ?_;rintro e w' ⟨rfl,he1⟩;have k1:=k0.trans (Kx.of_ext (X:=X) he1);have cn1:=zdm cn k1 xn;have ct1:=zdm ct k1 xt;have cy1:=zdm cy0 (Kx.of_ext (X:=X) he1) xy;have cl1:=zdm cl k1 xl))
    refine wpIn_wide.2 (loop_inv (R:=fun m a w=>∃(i:Nat) (Ds:List Nat),m=n.toNat-i∧i≤n.toNat∧MarksOK W.heap.size Ds w∧J (((zbt n.toNat).take i).flatMap fun c=>if c∈t then []else zdj n.toNat C k (c::t)) w∧Kx X W w ∧
     w.cell? ⟨W.heap.size,0,none⟩=some (.func (.yield lr) #[] #[])∧Fr28 lr Bn Bl Bt W.heap.size n i Ds a) (m:=n.toNat) ?step ?init)
    case init=>
     refine⟨0,[],by omega,by omega,⟨xkm,fun _ h=>absurd h (by simp)⟩,?_,k1,cy1,Fr28.mk⟩
     exact hJ _ _ _ (.of_ext (e0.trans he1)) hJ0
    case step=>
     rintro m a w ⟨i,Ds,rfl,hi,hm,hJi,hkw,cyw,x5,x6,x7,x8,x9,x10,x11,x12,x13,x14,x15,x16,x17,x20,x21,x22,x23,x24,x25,x26,x27,x28,x29,x30,x31,x32,x33,x34,x35,x36,x37,rfl⟩
     refine(wpIn_wide (n:=0)).1 ?_
     have cnw:=zdm cn hkw xn
     have clw:=zdm cl hkw xl
     have ctw:=zdm ct hkw xt
     have hin:∀c:Int,0≤c→c≤n→IntKind.i64.wrap c=c:=fun c h0 h1=>w_id (by omega) (by omega)
     have xtw:=hti.keep hkw xtb
     rcases xcy i n.toNat with hlt|hge
     ·have hlt':(i:Int)<n:=by omega
      have c30:=con30 (c:=(i:Int)) (hin _ (by omega) (by omega)) xtw (by omega) (d30_eq (i:Int) (by omega))
      have hwi:IntKind.i64.wrap ((i:Int)+1)=((i+1:Nat):Int):=by rw[hin _ (by omega) (by omega)];omega
      have htake:(zbt n.toNat).take (i+1)=(zbt n.toNat).take i++[(i:Int)]:=by
       unfold zbt
       rw[←xhr,←xhr,xkd,xkd,xeo (by omega),xeo (by omega),xfx,xdd]
       rfl
      by_cases hmem:(i:Int)∈t
      ·simp only[hmem,xah]at c30
       gi_wp2_with (gi_at_call 30;refine(callsIn_wide.2 c30).mono ?_;rintro e w2 ⟨rfl,he2⟩)
       have k2:=Kx.of_ext (X:=X) he2
       refine⟨n.toNat-(i+1),by omega,i+1,Ds,rfl,by omega,hm.ext he2,?_,hkw.trans k2,zdm cyw k2 xy,Fr28.mk⟩
       rw[htake,xeq,xed,if_pos hmem]
       simp only[xhi,xco]
       exact hJ _ _ _ (.of_ext he2) hJi
      ·simp only[hmem,xal]at c30
       gi_wp2_with (gi_at_call 30;refine(callsIn_wide.2 c30).mono ?_;rintro e w2 ⟨rfl,he2⟩)
       have k2:=Kx.of_ext (X:=X) he2
       have kw2:=hkw.trans k2
       have cn2:=zdm cn kw2 xn
       have cl2:=zdm cl kw2 xl
       have ct2:=zdm ct kw2 xt
       have cy2:=zdm cyw k2 xy
       obtain⟨B8,hB8⟩:∃B8,w2.heap.size=B8:=⟨_,rfl⟩
       refine wpIn_wide.2 (ztz mixd (J:=fun D a w8=>Ext w2 w8∧∃y25 y26 y27 y28 y29 y30 y31:Value,
        (D 0=true→y25=.int .i64 n)∧(D 1=true→y26=.slice la ll lc)∧(D 2=true→y27=.int .i64 (i:Int))∧(D 3=true→D 5=false→w8.ownsRow B8 3 1 y28 1 [.int .i64 (i:Int)]) ∧
        (D 4=true→y29=.slice (some ⟨tb,0,none⟩) t.length tc)∧(D 5=true→∃b,B8≤b∧HI w8 y30 ((i:Int)::t) b) ∧
        (D 6=true→D 5=true∧∃(s:Nat),B8≤s∧y31=.func (.func 117) #[] #[.pointer (some ⟨s,0,none⟩),.pointer (some ⟨s+1,0,none⟩),.pointer (some ⟨s+2,0,none⟩)]∧w8.cell? ⟨s,0,none⟩=some (.int .i64 n)∧w8.cell? ⟨s+1,0,none⟩=some (.slice la ll lc)∧w8.cell? ⟨s+2,0,none⟩=some y30) ∧
        a={tmps:=#[.func (.yield lr) #[] #[],.pointer (some ⟨Bn,0,none⟩),.pointer (some ⟨Bl,0,none⟩),.pointer (some ⟨Bt,0,none⟩),.pointer (some ⟨W.heap.size,0,none⟩),.int .i64 (i:Int),x6,x7,x8,x9,x10,x11,x12,x13,x14,x15,x16,x17,.int .i64 n,.int .i64 (i:Int),.bool true,.int .i64 (i:Int),.slice (some ⟨tb,0,none⟩) t.length tc,.int .i64 (i:Int),.bool false,y25,y26,y27,y28,y29,y30,y31,x32,x33,x34,x35,x36,x37],defers:=marks Ds}) ?hac ?st ?fin ?h0)
       case hac=>
        intro k o ho
        rcases k with _|_|_|_|_|_|_|k<;>simp at ho<;>subst ho<;>simp
       case h0=>
        refine⟨(Ext.refl w2).drew,_,_,_,_,_,_,_,?_,?_,?_,?_,?_,?_,?_,rfl⟩<;>(intro h;cases h)
       case st=>
        rintro D j o a w8 ho hDj hed ⟨hE,y25,y26,y27,y28,y29,y30,y31,h0,h1,h2,h3,h4,h5,h6,rfl⟩
        have kE:=kw2.trans (Kx.of_ext hE)
        have cn8:=zdm cn kE xn
        have cl8:=zdm cl kE xl
        have ct8:=zdm ct kE xt
        have h5k:∀w9,Ext w8 w9→(D 5=true→∃b,B8≤b∧HI w9 y30 ((i:Int)::t) b):=fun w9 he h=>by
         obtain⟨b,hb1,hb2⟩:=h5 h
         exact⟨b,hb1,hb2.keep (Kx.of_ext (X:=fun _=>False) he) id⟩
        have h6k:∀w9,Ext w8 w9→(D 6=true→D 5=true∧∃(s:Nat),B8≤s∧y31=.func (.func 117) #[] #[.pointer (some ⟨s,0,none⟩),.pointer (some ⟨s+1,0,none⟩),.pointer (some ⟨s+2,0,none⟩)]∧w9.cell? ⟨s,0,none⟩=some (.int .i64 n)∧w9.cell? ⟨s+1,0,none⟩=some (.slice la ll lc)∧w9.cell? ⟨s+2,0,none⟩=some y30):=fun w9 he h=>by
         obtain⟨hb0,s,hb1,hb2,hb3,hb4,hb5⟩:=h6 h
         have hk:=Kx.of_ext (X:=fun _=>False) he
         exact⟨hb0,s,hb1,hb2,zdm hb3 hk id,zdm hb4 hk id,zdm hb5 hk id⟩
        rcases j with _|_|_|_|_|_|_|j<;>simp at ho<;>subst ho
        ·refine wpk fun K hK=>?_
         go_simp
         refine hK _ _ ⟨hE,_,_,_,_,_,_,_,fun _=>rfl,?_,?_,?_,?_,?_,?_,rfl⟩<;>simpa using by assumption
        ·refine wpk fun K hK=>?_
         go_simp
         refine hK _ _ ⟨hE,_,_,_,_,_,_,_,?_,fun _=>rfl,?_,?_,?_,?_,?_,rfl⟩<;>simpa using by assumption
        ·refine wpk fun K hK=>?_
         go_simp
         refine hK _ _ ⟨hE,_,_,_,_,_,_,_,?_,?_,fun _=>rfl,?_,?_,?_,?_,rfl⟩<;>simpa using by assumption
        ·simp only[xcu,xij,xbd,xgp,or_false,xjp,forall_eq]at hed
         obtain rfl:=h2 (hed rfl)
         have he:=Ext.alloc w8 (.cells #[.int .i64 (i:Int)] 3)
         refine wpk fun K hK=>?_
         go_simp
         refine hK _ _ ⟨hE.trans he,_,_,_,_,_,_,_,?_,?_,?_,fun _ _=>?_,?_,?_,?_,rfl⟩
         ·simpa using h0
         ·simpa using h1
         ·simpa using h2
         ·exact⟨rfl,.inr ⟨w8.heap.size,1,#[.int .i64 (i:Int)],rfl,by have:=hE.size;omega,World.alloc_heap_new _ _,by omega,by decide,rfl,rfl⟩⟩
         ·simpa using h4
         ·simpa using h5k _ he
         ·simpa using h6k _ he
        ·refine wpk fun K hK=>?_
         go_simp
         refine hK _ _ ⟨hE,_,_,_,_,_,_,_,?_,?_,?_,?_,fun _=>rfl,?_,?_,rfl⟩<;>simpa using by assumption
        ·simp only[xcu,xij,xbd,xgp,or_false,xjp,forall_eq]at hed
         obtain rfl:=h4 (hed.2 rfl)
         have hrow:=h3 (hed.1 rfl) hDj
         obtain⟨i0,hi1,hz0,hz1,hz2⟩:=info_parts info3
         obtain⟨q1,q2,cap,cur,et,q3,q4,q5,q6⟩:=hti.keep kE xtb
         refine wpk fun K hK=>wp_append_own w8 (.tmp 28) (.tmp 29) 23 rfl B8 3 i0 (.int .i64 0) 1 8 underlying23 hi1 hz0 hz1 hz2 rfl (by decide) y28 1 [.int .i64 (i:Int)] rfl hrow ⟨tb,0,none⟩ t.length tc (t.map (Value.int .i64)) rfl (by simp) (fun j u hu=>?_) (fun u hu=>?_) (by unfold maxLen;omega) (by omega) (by have:=hE.size;omega) fun v' w9 hown hg _=>?_
         ·rw[xcv]at hu
          obtain⟨x,hx1,rfl⟩:=xad.1 hu
          obtain⟨hx2,rfl⟩:=xew.1 hx1
          have:=q6 j hx2
          rw[zel]
          simp[World.cell?,q5,this]
         ·obtain⟨x,_,rfl⟩:=xdg.1 hu
          rfl
         ·have hE9:Ext w2 w9:=by
           refine⟨hg.os.trans hE.os,hg.tape.trans hE.tape,hg.output.trans hE.output,xbb hE.size hg.size,fun b hb=>?_⟩
           rw[hg.block b (xau hb hE.size) (fun e=>by have:=(hrow.lt b e.symm).1;omega)]
           exact hE.block b hb
          have hHI:∃b,B8≤b∧HI w9 v' ((i:Int)::t) b:=by
           rcases hown.2 with⟨_,h⟩|⟨g,cap',cur',r1,r2,r3,r4,r5,r6,r7⟩
           ·omega
           ·refine⟨g,r2,by simp,⟨by rw[xaz];omega,fun x hx=>?_⟩,cap',cur',3,?_,?_,r3,fun j hj=>?_⟩
            ·rcases xbd.1 hx with rfl|hx
             ·exact hin _ (by omega) (by omega)
             ·exact q2.2 x hx
            ·rw[r1,xaz,xgy]
            ·rw[xaz];omega
            ·have hj':j<1+t.length:=by rw[xaz]at hj;omega
             have:=xbx (fun l=>l[j]?) r7
             simp only[xdu,xdt,hj',if_true,xbm]at this
             rw[this]
             cases j with
             |zero=>rfl
             |succ j=>
              rw[xaz]at hj
              have hj2:j<t.length:=by omega
              simp[hj2]
          have hno:D 6=false:=by
           cases h:D 6 with
           |false=>rfl
           |true=>have:=(h6 h).1;rw[hDj]at this;cases this
          refine hK _ _ ⟨hE9,_,_,_,_,_,_,_,?_,?_,?_,fun _ h=>?_,fun _=>rfl,fun _=>hHI,fun h=>?_,rfl⟩
          ·simpa using h0
          ·simpa using h1
          ·simpa using h2
          ·simp at h
          ·simp[hno]at h
        ·simp only[xcu,xij,xbd,xgp,or_false,xjp,forall_eq]at hed
         have hD5:=hed.2.2.1 rfl
         obtain rfl:=h0 (hed.1 rfl)
         obtain rfl:=h1 (hed.2.1 rfl)
         obtain⟨b,hb1,hb2⟩:=h5 hD5
         obtain⟨_,_,cap,cur,et,rfl,_⟩:=id hb2
         refine wpk fun K hK=>?_
         go_simp
         refine(orders_in n la _ ll lc _ _ w8).mono ?_
         rintro e w9 ⟨rfl,rfl⟩
         have he1:=Ext.alloc w8 (.cells #[.int .i64 n] 3)
         have he2':=Ext.alloc (w8.alloc (.cells #[.int .i64 n] 3)) (.cells #[.slice la ll lc] 34)
         have he3:=Ext.alloc ((w8.alloc (.cells #[.int .i64 n] 3)).alloc (.cells #[.slice la ll lc] 34)) (.cells #[.slice (some ⟨b,0,none⟩) (t.length+1) cap] 23)
         have hee:=(he1.trans he2').trans he3
         refine hK _ _ ⟨hE.trans hee,_,_,_,_,_,_,_,?_,?_,?_,fun h h'=>?_,?_,?_,fun _=>⟨by simp[hD5],w8.heap.size,by have:=hE.size;omega,rfl,?_,?_,?_⟩,rfl⟩
         ·simpa using h0
         ·simpa using h1
         ·simpa using h2
         ·simp[hD5]at h'
         ·simpa using h4
         ·simpa using h5k _ hee
         ·exact zdm (zjb w8 _ 3) (Kx.of_ext (X:=fun _=>False) (he2'.trans he3)) id
         ·have:=zjb (w8.alloc (.cells #[.int .i64 n] 3)) (.slice la ll lc) 34
          rw[World.size_alloc]at this
          exact zdm this (Kx.of_ext (X:=fun _=>False) he3) id
         ·have:=zjb ((w8.alloc (.cells #[.int .i64 n] 3)).alloc (.cells #[.slice la ll lc] 34)) (.slice (some ⟨b,0,none⟩) (t.length+1) cap) 23
          rw[World.size_alloc,World.size_alloc]at this
          exact this
       case fin=>
        rintro D a w8 hall ⟨hE,y25,y26,y27,y28,y29,y30,y31,h0,h1,h2,h3,h4,h5,h6,rfl⟩
        obtain⟨b,hb1,hb2⟩:=h5 (hall 5 (by decide))
        obtain⟨_,s,hs1,rfl,hs2,hs3,hs4⟩:=h6 (hall 6 (by decide))
        clear h0 h1 h2 h3 h4 h5 h6 hall
        have kE:=kw2.trans (Kx.of_ext hE)
        have hct:isB n ((i:Int)::t):=⟨xdx.2 ⟨hmem,ht.1⟩,fun c hc=>by
         rcases xbd.1 hc with rfl|hc
         ·omega
         ·exact ht.2 c hc⟩
        have hsW:W.heap.size≤B8:=by rw[←hB8];exact kw2.size
        have hs8:B8≤w8.heap.size:=by rw[←hB8];exact hE.size
        have hXs:∀c,W.heap.size≤c→¬X c:=fun c hc h=>by have:=hX c h;omega
        have kw8:Kx X W w8:=kE
        have hm8:MarksOK W.heap.size Ds w8:=(hm.ext he2).ext hE
        have hDlt:∀D∈Ds,D<w8.heap.size:=fun D hD=>(xbg.1 (hm8.2 D hD).2).1
        have cy8:=zdm cy2 (Kx.of_ext (X:=X) hE) xy
        have hJ8:=hJ _ _ _ (.of_ext (he2.trans hE)) hJi
        have hc28:∀w9,Ext w8 w9→w9.cell? ⟨s,0,none⟩=some (.int .i64 n)∧w9.cell? ⟨s+1,0,none⟩=some (.slice la ll lc)∧w9.cell? ⟨s+2,0,none⟩=some y30:=fun w9 he=>
         ⟨zdm hs2 (Kx.of_ext (X:=fun _=>False) he) id,zdm hs3 (Kx.of_ext (X:=fun _=>False) he) id,zdm hs4 (Kx.of_ext (X:=fun _=>False) he) id⟩
        gi_wp2
        refine wpIn_wide.2 (range_all (gf:=117) (lb:=#[.pointer (some ⟨s,0,none⟩),.pointer (some ⟨s+1,0,none⟩),.pointer (some ⟨s+2,0,none⟩)]) (X:=X) (Lo:=Lo) rfl enters28 (fun c hc=>by have:=hX c hc;omega) (xs:=zdj n.toNat C k ((i:Int)::t)) ?hseq
         (fun pre W'=>J ((((zbt n.toNat).take i).flatMap fun c=>if c∈t then []else zdj n.toNat C k (c::t))++pre) W'∧Kx X W W'∧MarksOK W.heap.size Ds W'∧W'.cell? ⟨W.heap.size,0,none⟩=some (.func (.yield lr) #[] #[])) ?hI ⟨by rw[xco];exact hJ8,kw8,hm8,cy8⟩ ?hround ?hdone)
        case hseq=>
         intro l2 J2 W2 hE2 hJ2 h02 hY2
         have k28:=kw8.trans (Kx.of_ext hE2)
         obtain⟨g1,g2,g3⟩:=hc28 W2 hE2
         exact ih ((i:Int)::t) hct (by simp) (by rw[xaz];omega) l2 Lo s (s+1) (s+2) b y30 J2 W2 (hl.keep k28 hFX) g1 g2 g3 (hb2.keep (Kx.of_ext (X:=fun _=>False) hE2) id) (hXs _ (by omega)) (hXs _ (by omega)) (hXs _ (by omega)) (hXs _ (by omega)) (by omega) (by have:=hE2.size;omega) (fun c hc=>by have:=hX c hc;have:=hE2.size;omega) hJ2 h02 hY2
        case hI=>
         rintro pre W1 W2 hr ⟨i1,i2,i3,i4⟩
         refine⟨hJ _ _ _ (hr.le (by omega)) i1,⟨hr.os.trans i2.os,hr.tape.trans i2.tape,hr.output.trans i2.output,xbb i2.size hr.size,fun c hc hx=>(hr.block c (xau hc i2.size) (.inl (by omega))).trans (i2.block c hc hx)⟩,⟨i3.1,fun D hD=>⟨(i3.2 D hD).1,(hr.block D (xbg.1 (i3.2 D hD).2).1 (.inl (hDlt D hD))).trans (i3.2 D hD).2⟩⟩,?_⟩
         have hlt1:=cell_lt i4
         have hbx:W.heap.size<w8.heap.size:=cell_lt cy8
         exact(World.cell?_of_block (w:=W1) (a:=⟨W.heap.size,0,none⟩) (hr.block _ hlt1 (.inl hbx))).trans i4
        case hround=>
         rintro l2 pre x v b' W' hl1 hl2 hkw'-hHI hxb hlb
         refine⟨{tmps:=#[.func (.yield lr) #[] #[],.pointer (some ⟨Bn,0,none⟩),.pointer (some ⟨Bl,0,none⟩),.pointer (some ⟨Bt,0,none⟩),.pointer (some ⟨W.heap.size,0,none⟩),.int .i64 (i:Int),v,x7,x8,x9,x10,x11,x12,x13,x14,x15,x16,x17,.int .i64 n,.int .i64 (i:Int),.bool true,.int .i64 (i:Int),.slice (some ⟨tb,0,none⟩) t.length tc,.int .i64 (i:Int),.bool false,y25,y26,y27,y28,y29,y30,.func (.func 117) #[] #[.pointer (some ⟨s,0,none⟩),.pointer (some ⟨s+1,0,none⟩),.pointer (some ⟨s+2,0,none⟩)],v,x33,x34,x35,x36,x37],defers:=[]},?_,?_⟩
         ·gi_wp2
          first | exact⟨rfl,rfl⟩ | simp
         ·rintro Wb hrb hkb ⟨i1,i2,i3,i4⟩ hHb
          obtain⟨fn,tmps,assign,body,hy,hR⟩:=hY _ x v b' Wb i2 i1 hHb hxb hlb
          gi_wp2_with ((try refine⟨fd,?_⟩);refine(show RoundIn (Fence.wide.inRound l2) _ _ _ _ _ _ _ _ _ from hR).mono ?_;clear hR;rintro e W3 ⟨rfl,hJ3,hk3⟩)
          exact⟨by rw[←xcp];exact hJ3,i2.trans hk3,⟨i3.1,fun D hD=>⟨(i3.2 D hD).1,(hk3.block D (xbg.1 (i3.2 D hD).2).1 (hXs D (i3.2 D hD).1)).trans (i3.2 D hD).2⟩⟩,zdm i4 hk3 xy⟩
        case hdone=>
         rintro W' ⟨i1,i2,i3,i4⟩ hkw' hD
         gi_wp2
         refine⟨n.toNat-(i+1),by omega,i+1,w8.heap.size::Ds,rfl,by omega,⟨xdx.2 ⟨fun h=>by have:=hDlt _ h;omega,i3.1⟩,fun D hD'=>?_⟩,?_,i2,i4,Fr28.mk⟩
         ·rcases xbd.1 hD' with rfl|hD'
          ·exact⟨by omega,hD⟩
          ·exact i3.2 D hD'
         ·rw[htake,xeq,xed,if_neg hmem]
          simp only[xhi,xco]
          exact i1
     ·obtain rfl:i=n.toNat:=by omega
      have hge':¬((n.toNat:Nat):Int)<n:=by omega
      gi_wp2
      refine zjy (v:=.tuple #[]) (fun w=>results_none rfl _ _ _) Ds w hm fun w' hw=>⟨⟨_,rfl⟩,?_,⟨hw.os.trans hkw.os,hw.tape.trans hkw.tape,hw.output.trans hkw.output,xbb hkw.size hw.size,fun b hb hx=>(hw.block b (xau hb hkw.size) (.inl hb)).trans (hkw.block b hb hx)⟩⟩
      have:zdj n.toNat C (k+1) t=(zbt n.toNat).flatMap fun c=>if c∈t then []else zdj n.toNat C k (c::t):=by rw[ordersT_succ,if_neg hCt,if_neg (by omega)]
      rw[this]
      rw[xbi (by simp[zbt])]at hJi
      exact hJ _ _ _ hw hJi
end
section
attribute [local go_sem] Oper.semAt_some
def eqIn26(w:World)(d:Nat)(a:Option Addr)(l c:Nat):(Op.equalIn (d+1) 23 (.slice a l c) (.slice none 0 0)).run prog w=.ok a.isNone w:=by
 cases a<;>simp[Op.equalIn,run_underlying underlying23]
def eql26(w:World)(a:Option Addr)(l c:Nat):(binOp .eql 23 (.slice a l c) (.slice none 0 0)).run prog w=.ok (.bool a.isNone) w:=by
 simp only[binOp]
 simp[Op.equal,Op.maxDepth,eqIn26 w 9999 a l c]
def neq26(w:World)(a:Option Addr)(l c:Nat):(binOp .neq 23 (.slice a l c) (.slice none 0 0)).run prog w=.ok (.bool (!a.isNone)) w:=by
 simp only[binOp]
 simp[Op.equal,Op.maxDepth,eqIn26 w 9999 a l c]
attribute [local go_sem] eql26 neq26
def Fr6(n wn:Int)(la:Option Addr)(ll lc Bf:Nat)(i:Nat)(Ds:List Nat)(a:Act):Prop:=∃(x3 x4 x5 x9 x10 x11 x12 x13 x14 x15 x16 x17 x18 x19 x20 x21 x22 x23 x24 x25 x26 x27 x28 x29 x30 x33 x34 x35 x36 x37 x38 x39 x40 x41 x42 x43 x44 x45 x46 x47 x48 x49 x50 x51 x52 x53 x54 x55 x56:Value),a={tmps:=#[.int .i64 n,.int .i64 wn,.slice la ll lc,x3,x4,x5,.slice none 0 0,.bool false,.pointer (some ⟨Bf,0,none⟩),x9,x10,x11,x12,x13,x14,x15,x16,x17,x18,x19,x20,x21,x22,x23,x24,x25,x26,x27,x28,x29,x30,.int .i64 n,.int .i64 (i:Int),x33,x34,x35,x36,x37,x38,x39,x40,x41,x42,x43,x44,x45,x46,x47,x48,x49,x50,x51,x52,x53,x54,x55,x56],defers:=marks Ds}
def Fr6.mk{n wn:Int}{la:Option Addr}{ll lc Bf:Nat}{i:Nat}{Ds:List Nat}{x3 x4 x5 x9 x10 x11 x12 x13 x14 x15 x16 x17 x18 x19 x20 x21 x22 x23 x24 x25 x26 x27 x28 x29 x30 x33 x34 x35 x36 x37 x38 x39 x40 x41 x42 x43 x44 x45 x46 x47 x48 x49 x50 x51 x52 x53 x54 x55 x56:Value}:Fr6 n wn la ll lc Bf i Ds {tmps:=#[.int .i64 n,.int .i64 wn,.slice la ll lc,x3,x4,x5,.slice none 0 0,.bool false,.pointer (some ⟨Bf,0,none⟩),x9,x10,x11,x12,x13,x14,x15,x16,x17,x18,x19,x20,x21,x22,x23,x24,x25,x26,x27,x28,x29,x30,.int .i64 n,.int .i64 (i:Int),x33,x34,x35,x36,x37,x38,x39,x40,x41,x42,x43,x44,x45,x46,x47,x48,x49,x50,x51,x52,x53,x54,x55,x56],defers:=marks Ds}:=⟨x3,x4,x5,x9,x10,x11,x12,x13,x14,x15,x16,x17,x18,x19,x20,x21,x22,x23,x24,x25,x26,x27,x28,x29,x30,x33,x34,x35,x36,x37,x38,x39,x40,x41,x42,x43,x44,x45,x46,x47,x48,x49,x50,x51,x52,x53,x54,x55,x56,rfl⟩
def FO(Bf:Nat)(w:World)(best:Option (List Int)):Prop:=∃v,Boxed w Bf 23 v∧match best with
 |none=>v=.slice none 0 0
 |some o=>∃b,Bf<b∧HI w v o b
def FO.rl{Bf B:Nat}{w w':World}{best:Option (List Int)}(h:FO Bf w best)(hr:Rl B w w'):FO Bf w' best:=by
 obtain⟨v,h1,h2⟩:=h
 refine⟨v,(hr.block Bf h1.lt (.inr ⟨_,h1,rfl⟩)).trans h1,?_⟩
 cases best with
 |none=>exact h2
 |some o=>obtain⟨b,h3,h4⟩:=h2;exact⟨b,h3,h4.same (hr.block b h4.lt (.inr h4.cells))⟩
def zkn{Bf:Nat}{w:World}(v:Value):Kx (fun c=>c=Bf) w (w.setCell ⟨Bf,0,none⟩ v):=by
 have h:=grownBy_setCell' w Bf v
 exact⟨h.os,h.tape,h.output,h.size,fun b hb hx=>h.block b hb fun e=>hx (xbo e)⟩
def R6(n wn:Int)(la:Option Addr)(ll lc:Nat)(C:List Int→Bool)(W W1:World)(m:Nat)(a:Act)(w:World):Prop:=
 ∃(i:Nat) (Ds:List Nat),m=n.toNat-i∧i≤n.toNat∧MarksOK (W.heap.size+1) Ds w∧FO W.heap.size w (zjl none (zef n.toNat C wn ((zbt n.toNat).take i)))∧Kx (fun c=>c=W.heap.size) W1 w∧Fr6 n wn la ll lc W.heap.size i Ds a
set_option maxRecDepth 100000 in
set_option maxHeartbeats 4000000 in
def wit_ok{n wn:Int}(hn7:1≤n∧n≤7)(hwn:0≤wn∧wn<n){l:List (Int×(Int×(Int×(List Int×Int))))}(hll:l.length≤1400){C:List Int→Bool}(hC:∀t,isB n t→d118 n l t=some (C t)){lv:Value}{F:Nat→Prop}{W:World}(hl:LA F W lv l) :
  Calls prog 32 #[.int .i64 n,.int .i64 wn,lv] W fun e W'=>Ext W W'∧((witP n.toNat C wn=none∧e=.returned (.tuple #[.slice none 0 0,.bool false]))∨∃o v b,witP n.toNat C wn=some o∧e=.returned (.tuple #[v,.bool true])∧HI W' v o b∧W.heap.size≤b):=by
 have hin:∀c:Int,0≤c→c≤n→IntKind.i64.wrap c=c:=fun c h0 h1=>w_id (by omega) (by omega)
 refine(callsIn_wide (n:=0)).1 (callsIn_of_wp_marks func32 rfl trivial ?_ rfl)
 simp only[ntmps32,xcu,xaz,xde,Nat.reduceAdd,Nat.reduceSub,xea,xdz,xet,xeg,xci,xca]
 have hlv:∃la lc,lv=.slice la l.length lc:=by
  obtain⟨_,_,a,len,cap,h,h',_⟩:=hl.rel.1
  exact⟨a,cap,by subst h';simpa[zab,Ty.agg]using h⟩
 obtain⟨la,lc,rfl⟩:=hlv
 generalize hleq:l.length=ll at hl hll
 have f29:Fence.wide.fn 118:=trivial
 have f16:Fence.wide.fn 67:=trivial
 have f17:Fence.wide.fn 68:=trivial
 have fd:Fence.wide.depth=none:=rfl
 have g1:¬n<1:=by omega
 have g2:¬(7:Int)<n:=by omega
 have g3:¬wn<0:=by omega
 have g4:¬n≤wn:=by omega
 have g5:¬(1400:Int)<(ll:Int):=by omega
 gi_wp2
 have e0:Ext W (W.alloc (.cells #[.slice none 0 0] 23)):=Ext.alloc _ _
 have b0:Boxed (W.alloc (.cells #[.slice none 0 0] 23)) W.heap.size 23 (.slice none 0 0):=Boxed.new _ _ _
 have hs0:(W.alloc (.cells #[.slice none 0 0] 23)).heap.size=W.heap.size+1:=by simp
 obtain⟨W1,hW1⟩:∃W1,W.alloc (.cells #[.slice none 0 0] 23)=W1:=⟨_,rfl⟩
 rw[hW1]at e0 b0 hs0 ⊢
 have hFX:∀b,F b→¬(fun c=>c=W.heap.size) b:=fun b hb h=>by have:=hl.lt b hb;simp only at h;omega
 have hl1:LA F W1 (.slice la ll lc) l:=hl.keep (Kx.of_ext (X:=fun c=>c=W.heap.size) e0) hFX
 refine wpIn_wide.2 (loop_inv (R:=R6 n wn la ll lc C W W1) (m:=n.toNat) ?step ?init)
 case init=>
  refine⟨0,[],by omega,by omega,⟨xkm,fun _ h=>absurd h (by simp)⟩,⟨_,b0,rfl⟩,Kx.refl _ _,?_⟩
  exact Fr6.mk
 case step=>
  rintro m a w ⟨i,Ds,rfl,hi,hm,hfo,hkw,x3,x4,x5,x9,x10,x11,x12,x13,x14,x15,x16,x17,x18,x19,x20,x21,x22,x23,x24,x25,x26,x27,x28,x29,x30,x33,x34,x35,x36,x37,x38,x39,x40,x41,x42,x43,x44,x45,x46,x47,x48,x49,x50,x51,x52,x53,x54,x55,x56,rfl⟩
  refine(wpIn_wide (n:=0)).1 ?_
  rcases xcy i n.toNat with hlt|hge
  ·have hlt':(i:Int)<n:=by omega
   have hwi:IntKind.i64.wrap ((i:Int)+1)=((i+1:Nat):Int):=by rw[hin _ (by omega) (by omega)];omega
   have htake:(zbt n.toNat).take (i+1)=(zbt n.toNat).take i++[(i:Int)]:=by
    unfold zbt
    rw[←xhr,←xhr,xkd,xkd,xeo (by omega),xeo (by omega),xfx,xdd]
    rfl
   by_cases hw:(i:Int)=wn
   ·subst hw
    gi_wp2
    refine⟨n.toNat-(i+1),by omega,i+1,Ds,rfl,by omega,hm,?_,hkw,Fr6.mk⟩
    have:zef n.toNat C (i:Int) ((zbt n.toNat).take (i+1))=zef n.toNat C (i:Int) ((zbt n.toNat).take i):=by
     unfold zef
     rw[htake,xeq,xed,if_pos rfl]
     simp
    rw[this]
    exact hfo
   ·gi_wp2_with (gi_at_call 67;refine(callsIn_wide.2 (orders_in n la _ ll lc _ _ _)).mono ?_;rintro e w9 ⟨rfl,rfl⟩)
    have e1:Ext w (w.alloc (.cells #[.int .i64 (i:Int)] 3)):=Ext.alloc _ _
    have hHI:HI (w.alloc (.cells #[.int .i64 (i:Int)] 3)) (.slice (some ⟨w.heap.size,0,none⟩) 1 1) [(i:Int)] w.heap.size:=by
     refine⟨by simp,⟨by simp,fun x hx=>?_⟩,1,_,3,rfl,by simp,World.alloc_heap_new _ _,fun j hj=>?_⟩
     ·rw[xbn.1 hx];exact hin _ (by omega) (by omega)
     ·have:j=0:=by simpa using hj
      subst this;rfl
    have hs8:(w.alloc (.cells #[.int .i64 (i:Int)] 3)).heap.size=w.heap.size+1:=by simp
    obtain⟨w8,hw8⟩:∃w8,w.alloc (.cells #[.int .i64 (i:Int)] 3)=w8:=⟨_,rfl⟩
    rw[hw8]at e1 hHI hs8 ⊢
    have hXe:∀c,W.heap.size<c→¬(fun c=>c=W.heap.size) c:=fun c hc h=>by simp only at h;omega
    have hw1:W.heap.size<W1.heap.size:=by omega
    have hw8':W1.heap.size≤w8.heap.size:=xbb hkw.size e1.size
    have hww:W1.heap.size≤w.heap.size:=hkw.size
    have k8:Kx (fun c=>c=W.heap.size) W1 w8:=hkw.trans (Kx.of_ext e1)
    have hfo8:FO W.heap.size w8 (zjl none (zef n.toNat C wn ((zbt n.toNat).take i))):=hfo.rl (B:=0) (.of_ext e1)
    have hcb:isB n [(i:Int)]:=⟨by simp,fun x hx=>by rw[xbn.1 hx];omega⟩
    have hm8:=hm.ext e1
    have c0:=zjb w8 (.int .i64 n) 3
    have q1:=Ext.alloc w8 (.cells #[.int .i64 n] 3)
    have c1:=zjb (w8.alloc (.cells #[.int .i64 n] 3)) (.slice la ll lc) 34
    have q2:=Ext.alloc (w8.alloc (.cells #[.int .i64 n] 3)) (.cells #[.slice la ll lc] 34)
    have c2:=zjb ((w8.alloc (.cells #[.int .i64 n] 3)).alloc (.cells #[.slice la ll lc] 34)) (.slice (some ⟨w.heap.size,0,none⟩) 1 1) 23
    have q3:=Ext.alloc ((w8.alloc (.cells #[.int .i64 n] 3)).alloc (.cells #[.slice la ll lc] 34)) (.cells #[.slice (some ⟨w.heap.size,0,none⟩) 1 1] 23)
    have hs9:(((w8.alloc (.cells #[.int .i64 n] 3)).alloc (.cells #[.slice la ll lc] 34)).alloc (.cells #[.slice (some ⟨w.heap.size,0,none⟩) 1 1] 23)).heap.size=w8.heap.size+3:=by simp
    rw[World.size_alloc]at c1 c2
    rw[World.size_alloc]at c2
    have c0':=zdm c0 (Kx.of_ext (X:=fun _=>False) (q2.trans q3)) id
    have c1':=zdm c1 (Kx.of_ext (X:=fun _=>False) q3) id
    have q:=(q1.trans q2).trans q3
    obtain⟨w9,hw9⟩:∃w9,((w8.alloc (.cells #[.int .i64 n] 3)).alloc (.cells #[.slice la ll lc] 34)).alloc (.cells #[.slice (some ⟨w.heap.size,0,none⟩) 1 1] 23)=w9:=⟨_,rfl⟩
    rw[hw9]at c0' c1' c2 q hs9 ⊢
    rw[hs8]at c0' c1' c2 hs9
    have k9:=k8.trans (Kx.of_ext q)
    have hfo9:=hfo8.rl (B:=0) (.of_ext q)
    have hm9:=hm8.ext q
    have hDlt:∀D∈Ds,D<w9.heap.size:=fun D hD=>(xbg.1 (hm9.2 D hD).2).1
    refine wpIn_wide.2 (range_all (gf:=117) (lb:=#[.pointer (some ⟨w.heap.size+1,0,none⟩),.pointer (some ⟨w.heap.size+1+1,0,none⟩),.pointer (some ⟨w.heap.size+1+2,0,none⟩)]) (X:=fun c=>c=W.heap.size) (Lo:=W.heap.size+1) rfl enters28 (fun c hc=>by have hc':c=W.heap.size:=hc;omega) (xs:=zdj n.toNat C (n.toNat+1) [(i:Int)]) ?hseq
     (fun pre W'=>FO W.heap.size W' (zjl (zjl none (zef n.toNat C wn ((zbt n.toNat).take i))) pre)∧Kx (fun c=>c=W.heap.size) W1 W'∧MarksOK (W.heap.size+1) Ds W') ?hI ⟨hfo9,k9,hm9⟩ ?hround ?hdone)
    case hseq=>
     intro l2 J2 W2 hE2 hJ2 h02 hY2
     have k92:=k9.trans (Kx.of_ext hE2)
     have kF:=Kx.of_ext (X:=fun _=>False) hE2
     exact it_ok (hin n (by omega) (by omega)) hn7 hC hFX (n.toNat+1) [(i:Int)] hcb (by simp) (by rw[xid];omega) l2 (W.heap.size+1) (w.heap.size+1) (w.heap.size+1+1) (w.heap.size+1+2) w.heap.size _ J2 W2 (hl1.keep k92 hFX) (zdm c0' kF id) (zdm c1' kF id) (zdm c2 kF id)
      ((hHI.keep (Kx.of_ext (X:=fun _=>False) q) id).keep kF id) (hXe _ (by omega)) (hXe _ (by omega)) (hXe _ (by omega)) (hXe _ (by omega)) (by omega) (by have:=hE2.size;omega) (fun c hc=>by have hc':c=W.heap.size:=hc;have:=hE2.size;omega) hJ2 h02 hY2
    case hI=>
     rintro pre A B hr ⟨i1,i2,i3⟩
     exact⟨i1.rl hr,⟨hr.os.trans i2.os,hr.tape.trans i2.tape,hr.output.trans i2.output,xbb i2.size hr.size,fun c hc hx=>(hr.block c (xau hc i2.size) (.inl (by omega))).trans (i2.block c hc hx)⟩,⟨i3.1,fun D hD=>⟨(i3.2 D hD).1,(hr.block D (xbg.1 (i3.2 D hD).2).1 (.inl (hDlt D hD))).trans (i3.2 D hD).2⟩⟩⟩
    case hround=>
     rintro l2 pre x v b' W' hl1' hl2 hkw'-hHI' hxb hlb
     refine⟨{tmps:=#[.int .i64 n,.int .i64 wn,.slice la ll lc,x3,x4,x5,.slice none 0 0,.bool false,.pointer (some ⟨W.heap.size,0,none⟩),.int .i64 (i:Int),v,x11,x12,x13,x14,x15,x16,x17,x18,x19,x20,x21,x22,x23,x24,x25,x26,x27,x28,x29,x30,.int .i64 n,.int .i64 (i:Int),.bool true,.int .i64 (i:Int),.int .i64 (i:Int),.int .i64 wn,.bool false,.int .i64 n,.slice la ll lc,.int .i64 (i:Int),.slice (some ⟨w.heap.size,0,none⟩) 1 1,.func (.func 117) #[] #[.pointer (some ⟨w.heap.size+1,0,none⟩),.pointer (some ⟨w.heap.size+1+1,0,none⟩),.pointer (some ⟨w.heap.size+1+2,0,none⟩)],v,x44,x45,x46,x47,x48,x49,x50,x51,x52,x53,x54,x55,x56],defers:=[]},?_,?_⟩
     ·gi_wp2
      all_goals first | exact⟨rfl,rfl⟩ | simp
     ·rintro Wb hrb hkb ⟨⟨fv,fb,fm⟩,i2,i3⟩ hHb
      have cb:=fb.cell
      have cf:=fb.frozen
      have hvs:∃vb vc,v=.slice (some ⟨vb,0,none⟩) x.length vc:=by
       obtain⟨_,_,cap,cur,e,h,_⟩:=hHb
       exact⟨_,cap,h⟩
      obtain⟨vb,vc,rfl⟩:=hvs
      have hbb:W.heap.size<b':=hlb
      have hst:∀W2,Ext Wb W2→FO W.heap.size (W2.setCell ⟨W.heap.size,0,none⟩ (.slice (some ⟨vb,0,none⟩) x.length vc)) (some x):=fun W2 he=>by
       have hb2:Boxed W2 W.heap.size 23 fv:=(he.block _ fb.lt).trans fb
       refine⟨_,hb2.set _,b',hbb,(hHb.keep (Kx.of_ext (X:=fun _=>False) he) id).keep (zkn _) (hXe _ hbb)⟩
      have hms:∀W2,Kx (fun c=>c=W.heap.size) Wb W2→Kx (fun c=>c=W.heap.size) W1 W2∧MarksOK (W.heap.size+1) Ds W2:=fun W2 hk=>
       ⟨i2.trans hk,⟨i3.1,fun D hD=>⟨(i3.2 D hD).1,(hk.block D (xbg.1 (i3.2 D hD).2).1 (hXe D (i3.2 D hD).1)).trans (i3.2 D hD).2⟩⟩⟩
      simp only[bestO_snoc]
      cases hbest:zjl (zjl none (zef n.toNat C wn ((zbt n.toNat).take i))) pre with
      |none=>
       rw[hbest]at fm
       subst fm
       gi_wp2
       exact⟨⟨hst Wb (Ext.refl _),hms _ (zkn _)⟩,zkn _⟩
      |some o=>
       rw[hbest]at fm
       obtain⟨ob,hob,hHo⟩:=fm
       obtain⟨oc,rfl⟩:∃oc,fv=.slice (some ⟨ob,0,none⟩) o.length oc:=by
        obtain⟨_,_,cap,cur,e,h,_⟩:=hHo
        exact⟨cap,h⟩
       have c17:=con17 hHb hHb.2.1.1 hHo hHo.2.1.1 (d68_eq (by have:=hHb.2.1.1;omega) (by have:=hHo.2.1.1;omega))
       have cf':∀W2,Ext Wb W2→W2.frozen? ⟨W.heap.size,0,none⟩=false:=fun W2 he=>Boxed.frozen (W:=W2) (t:=23) ((he.block _ fb.lt).trans fb)
       have cb':∀W2,Ext Wb W2→W2.cell? ⟨W.heap.size,0,none⟩=some (.slice (some ⟨ob,0,none⟩) o.length oc):=fun W2 he=>Boxed.cell (W:=W2) (t:=23) ((he.block _ fb.lt).trans fb)
       by_cases hlo:x<o
       ·have hcm:cmpL x o=-1:=by unfold cmpL;rw[if_pos hlo]
        rw[hcm]at c17
        gi_wp2_with (gi_at_call 68;refine(CallsIn.inRound l2 (callsIn_wide.2 c17)).mono ?_;rintro e W2 ⟨rfl,he2⟩;have cf2:=cf' W2 he2;have cb2:=cb' W2 he2)
        have hl2':zuf (some o) x=some x:=if_pos hlo
        rw[hl2']
        have kk:=(Kx.of_ext (X:=fun c=>c=W.heap.size) he2).trans (zkn (.slice (some ⟨vb,0,none⟩) x.length vc))
        exact⟨⟨hst W2 he2,hms _ kk⟩,kk⟩
       ·have hcm:¬cmpL x o<0:=by unfold cmpL;rw[if_neg hlo];split<;>omega
        gi_wp2_with (gi_at_call 68;refine(CallsIn.inRound l2 (callsIn_wide.2 c17)).mono ?_;rintro e W2 ⟨rfl,he2⟩)
        have hl2':zuf (some o) x=some o:=if_neg hlo
        rw[hl2']
        have kk:=Kx.of_ext (X:=fun c=>c=W.heap.size) he2
        exact⟨⟨⟨_,(he2.block _ fb.lt).trans fb,ob,hob,hHo.keep kk (hXe _ hob)⟩,hms _ kk⟩,kk⟩
    case hdone=>
     rintro W' ⟨i1,i2,i3⟩ hkw' hD
     rw[hs9]at hD hDlt
     gi_wp2
     refine⟨n.toNat-(i+1),by omega,i+1,(w.heap.size+1+3)::Ds,rfl,by omega,⟨xdx.2 ⟨fun h=>by have:=hDlt _ h;omega,i3.1⟩,fun D hD'=>?_⟩,?_,i2,Fr6.mk⟩
     ·rcases xbd.1 hD' with rfl|hD'
      ·exact⟨by omega,hD⟩
      ·exact i3.2 D hD'
     ·have:zef n.toNat C wn ((zbt n.toNat).take (i+1))=zef n.toNat C wn ((zbt n.toNat).take i)++zdj n.toNat C (n.toNat+1) [(i:Int)]:=by
       unfold zef
       rw[htake,xeq,xed,if_neg hw]
       simp
      rw[this,bestO_app]
      exact i1
  ·obtain rfl:i=n.toNat:=by omega
   have hge':¬((n.toNat:Nat):Int)<n:=by omega
   have hk0:=(Kx.of_ext (X:=fun c=>c=W.heap.size) e0).trans hkw
   obtain⟨fv,fb,fm⟩:=hfo
   rw[xbi (by simp[zbt])]at fm
   have hval:fv=.slice none 0 0∧witP n.toNat C wn=none∨∃o ob oc,fv=.slice (some ⟨ob,0,none⟩) o.length oc∧witP n.toNat C wn=some o∧W.heap.size<ob∧HI w fv o ob:=by
    unfold witP
    cases hb:zjl none (zef n.toNat C wn (zbt n.toNat))with
    |none=>rw[hb]at fm;exact .inl ⟨fm,rfl⟩
    |some o=>
     rw[hb]at fm
     obtain⟨ob,h1,h2⟩:=fm
     obtain⟨_,_,cap,cur,e,h3,_⟩:=id h2
     exact .inr ⟨o,ob,cap,h3,rfl,h1,h2⟩
   have hend:∀w',Rl (W.heap.size+1) w w'→Ext W w':=fun w' hr=>⟨hr.os.trans hk0.os,hr.tape.trans hk0.tape,hr.output.trans hk0.output,xbb hk0.size hr.size,fun b hb=>(hr.block b (xau hb hk0.size) (.inl (by omega))).trans (hk0.block b hb (fun h=>by have h':b=W.heap.size:=h;omega))⟩
   have hmax:max n 0=n:=by omega
   gi_wp2
   try simp only[hmax]
   refine wpIn_wide.2 (ztz mixd (J:=fun D a w8=>Ext w w8∧∃y54 y55 y56 y6 y7:Value,(D 0=true→y54=fv)∧(D 1=true→y55=fv)∧(D 2=true→y56=.bool (witP n.toNat C wn).isSome)∧(D 3=true→y6=fv)∧(D 4=true→y7=.bool (witP n.toNat C wn).isSome) ∧
    a={tmps:=#[.int .i64 n,.int .i64 wn,.slice la ll lc,x3,x4,x5,y6,y7,.pointer (some ⟨W.heap.size,0,none⟩),x9,x10,x11,x12,x13,x14,x15,x16,x17,x18,x19,x20,x21,x22,x23,x24,x25,x26,x27,x28,x29,x30,.int .i64 n,.int .i64 n,.bool false,x34,x35,x36,x37,x38,x39,x40,x41,x42,x43,x44,x45,x46,x47,x48,x49,x50,x51,x52,x53,y54,y55,y56],defers:=marks Ds}) ?hac ?st ?fin ?h0)
   case hac=>
    intro k o ho
    rcases k with _|_|_|_|_|k<;>simp at ho<;>subst ho<;>refine⟨rfl,fun e he hb=>?_⟩<;>simp only[xcu,xij,xbd,xgp,or_false]at he
    ·rcases he with rfl
     exact absurd hb (by decide)
    ·rcases he with rfl|rfl
     ·decide
     ·exact absurd hb (by decide)
    ·rcases he with rfl|rfl|rfl|rfl<;>first|decide|exact absurd hb (by decide)
    ·rcases he with rfl|rfl|rfl|rfl|rfl|rfl<;>first|decide|exact absurd hb (by decide)
   case h0=>
    refine⟨(Ext.refl w).drew,_,_,_,_,_,?_,?_,?_,?_,?_,rfl⟩<;>(intro h;cases h)
   case st=>
    rintro D j o a w8 ho hDj hed ⟨hE,y54,y55,y56,y6,y7,h0,h1,h2,h3,h4,rfl⟩
    have cb8:=Boxed.cell (W:=w8) (t:=23) ((hE.block _ fb.lt).trans fb)
    rcases j with _|_|_|_|_|j<;>simp at ho<;>subst ho<;>simp only[xcu,xij,xbd,xgp,or_false,xjp,forall_eq]at hed
    ·refine wpk fun K hK=>?_
     go_simp
     refine hK _ _ ⟨hE,_,_,_,_,_,fun _=>rfl,?_,?_,?_,?_,rfl⟩<;>simpa using by assumption
    ·refine wpk fun K hK=>?_
     go_simp
     refine hK _ _ ⟨hE,_,_,_,_,_,?_,fun _=>rfl,?_,?_,?_,rfl⟩<;>simpa using by assumption
    ·obtain rfl:=h1 (hed.1 rfl)
     have hne:∀w',(binOp .neq 23 y55 (.slice none 0 0)).run prog w'=.ok (.bool (witP n.toNat C wn).isSome) w':=fun w'=>by
      rcases hval with⟨rfl,h⟩|⟨o,ob,oc,rfl,h,_⟩<;>rw[neq26,h]<;>rfl
     have hgu:∀w',(eqGuard .neq 23 (.tmp 55) (.const (.slice none 0 0)) y55 (.slice none 0 0)).run prog w'=.ok () w':=fun w'=>by
      rcases hval with⟨rfl,h⟩|⟨o,ob,oc,rfl,h,_⟩<;>rfl
     refine wpk fun K hK=>?_
     go_simp
     try simp only[hgu,hne,Result.andThen]
     refine hK _ _ ⟨hE,_,_,_,_,_,?_,?_,fun _=>rfl,?_,?_,rfl⟩<;>simpa using by assumption
    ·obtain rfl:=h0 (hed.1 rfl)
     refine wpk fun K hK=>?_
     go_simp
     refine hK _ _ ⟨hE,_,_,_,_,_,?_,?_,?_,fun _=>rfl,?_,rfl⟩<;>simpa using by assumption
    ·obtain rfl:=h2 (hed.1 rfl)
     refine wpk fun K hK=>?_
     go_simp
     refine hK _ _ ⟨hE,_,_,_,_,_,?_,?_,?_,?_,fun _=>rfl,rfl⟩<;>simpa using by assumption
   case fin=>
    rintro D a w8 hall ⟨hE,y54,y55,y56,y6,y7,h0,h1,h2,h3,h4,rfl⟩
    obtain rfl:=h3 (hall 3 (by decide))
    obtain rfl:=h4 (hall 4 (by decide))
    gi_wp2
    refine zjy (v:=.tuple #[y6,.bool (witP n.toNat C wn).isSome]) (fun w=>by rw[results_tmp2 (t:=6) (u:=7) rfl];rfl) Ds w8 (hm.ext hE) fun w' hw=>?_
    have hr:Rl (W.heap.size+1) w w':=⟨hw.os.trans hE.os,hw.tape.trans hE.tape,hw.output.trans hE.output,xbb hE.size hw.size,fun b hb hx=>(hw.block b (xau hb hE.size) (hx.imp id fun⟨o,h1,h2⟩=>⟨o,(hE.block b hb).trans h1,h2⟩)).trans (hE.block b hb)⟩
    refine⟨hend w' hr,?_⟩
    rcases hval with⟨rfl,h⟩|⟨o,ob,oc,rfl,h,hob,hHI⟩
    ·exact .inl ⟨h,by rw[h];rfl⟩
    ·exact .inr ⟨o,h,_,by rw[h];rfl,ob,hHI.same (hr.block ob hHI.lt (.inr hHI.cells)),by omega⟩
end
section
attribute [local go_sem] Oper.semAt_some
set_option maxRecDepth 100000 in
def wit_bad{n wn:Int}{la:Option Addr}{ll lc:Nat}{W:World}(hb:n<1∨7<n∨wn<0∨n≤wn∨(1400:Int)<(ll:Int)) :
  Calls prog 32 #[.int .i64 n,.int .i64 wn,.slice la ll lc] W fun e W'=>e=.returned (.tuple #[.slice none 0 0,.bool false])∧Ext W W':=by
 refine(callsIn_wide (n:=0)).1 (callsIn_of_wp_marks func32 rfl trivial ?_ rfl)
 simp only[ntmps32,xcu,xaz,xde,Nat.reduceAdd,Nat.reduceSub,xea,xdz,xet,xeg,xci,xca]
 by_cases g1:n<1
 ·gi_wp2
  exact⟨_,results_tmp2 (t:=6) (u:=7) rfl _ _ _,rfl,Ext.refl _⟩
 by_cases g2:(7:Int)<n
 ·gi_wp2
  exact⟨_,results_tmp2 (t:=6) (u:=7) rfl _ _ _,rfl,Ext.refl _⟩
 by_cases g3:wn<0
 ·gi_wp2
  exact⟨_,results_tmp2 (t:=6) (u:=7) rfl _ _ _,rfl,Ext.refl _⟩
 by_cases g4:n≤wn
 ·gi_wp2
  exact⟨_,results_tmp2 (t:=6) (u:=7) rfl _ _ _,rfl,Ext.refl _⟩
 have g5:(1400:Int)<(ll:Int):=by omega
 gi_wp2
 exact⟨_,results_tmp2 (t:=6) (u:=7) rfl _ _ _,rfl,Ext.refl _⟩
noncomputable def C29 (n:Int) (l:List (Int×(Int×(Int×(List Int×Int))))) (t:List Int):Bool:=(d118 n l t).getD false
def badW(n wn:Int)(l:List (Int×(Int×(Int×(List Int×Int))))):Prop:=n<1∨7<n∨wn<0∨n≤wn∨(1400:Int)<(l.length:Int)
def good_of{n wn:Int}{l:List (Int×(Int×(Int×(List Int×Int))))}(h:¬badW n wn l):1≤n∧n≤7∧0≤wn∧wn<n∧l.length≤1400:=by unfold badW at h;omega
instance(n wn:Int)(l:List (Int×(Int×(Int×(List Int×Int))))):Decidable (badW n wn l):=by unfold badW;infer_instance
open Classical in
noncomputable def d32 (n wn:Int) (l:List (Int×(Int×(Int×(List Int×Int))))):Option (List Int×Bool):=
 if badW n wn l then some ([],false)
 else if∀t,isB n t→(d118 n l t).isSome=true then some (match witP n.toNat (C29 n l) wn with | none=>([],false) | some o=>(o,true))
 else none
def sg32:Sig:=⟨[(y2,.sh),(y2,.sh),(y34,.bw)],[(y23,.sh),(y4,.sh)]⟩
def enters6:zcf prog 32:=enters_of func32 (by kernel_rfl) rfl
set_option maxRecDepth 100000 in
def sim32:Sim prog 32 sg32 d32:=by
 refine⟨enters6,fun xs y hy S hS vs hvs hargs=>?_⟩
 obtain⟨n,wn,l,u⟩:=xs
 have hy0:d32 n wn l=some y:=hy
 have hl:vs.length=3:=hvs
 obtain⟨v0,v1,v2,rfl⟩:∃v0 v1 v2,vs=[v0,v1,v2]:=by
  match vs,hl with
  | [a,b,c],_=>exact⟨a,b,c,rfl⟩
 obtain⟨q0,e0,r0⟩:=hargs 0 ⟨.int .i64,.sh,n⟩ rfl
 obtain⟨q1,e1,r1⟩:=hargs 1 ⟨.int .i64,.sh,wn⟩ rfl
 obtain⟨q2,e2,r2⟩:=hargs 2 ⟨y34,.bw,l⟩ rfl
 obtain rfl:v0=q0:=by simpa using e0
 obtain rfl:v1=q1:=by simpa using e1
 obtain rfl:v2=q2:=by simpa using e2
 dsimp only at r0 r1 r2
 obtain⟨h0,_⟩:=r0.1
 obtain⟨h1,_⟩:=r1.1
 obtain rfl:v0=.int .i64 n:=by simpa[zab,Ty.agg]using h0
 obtain rfl:v1=.int .i64 wn:=by simpa[zab,Ty.agg]using h1
 have hlv:∃la lc,v2=.slice la l.length lc:=by
  obtain⟨_,_,a,len,cap,h,h',_⟩:=r2.1
  exact⟨a,cap,by subst h';simpa[zab,Ty.agg]using h⟩
 have hnil:∀(S':St) (p:X.Place),SR prog (.slice (.int .i64)) S' .sh p ([]:List Int) (.slice none 0 0):=fun S' p=>⟨⟨by simp[maxL],by simp[Ty.size],none,0,0,by simp[zab,Ty.agg],rfl,xak _,.inl ⟨rfl,rfl⟩⟩,fun h=>by cases h⟩
 have hbo:∀(S':St) (p:X.Place) (b:Bool),SR prog .bool S' .sh p b (.bool b):=fun S' p b=>⟨by simp[Rel,zab,Ty.agg],fun h=>by cases h⟩
 have hsl:∀(S':St) (p:X.Place) (o:List Int) (v:Value) (b:Nat),HI S'.w v o b→S'.F b→SR prog (.slice (.int .i64)) S' .sh p o v:=fun S' p o v b hHI hF=>by
  obtain⟨h1,h2,cap,cur,e',rfl,h4,h5,h6⟩:=hHI
  refine⟨⟨xbb h2.1 (by decide),by simp[Ty.size],some ⟨b,0,none⟩,_,cap,by simp[zab,Ty.agg],rfl,h4,.inr ⟨b,0,rfl,fun _=>.inl hF,fun i hi=>⟨?_,h2.2 _ (xbc hi)⟩⟩⟩,fun h=>by cases h⟩
  have:=h6 i hi
  simp[blk,World.cell?,h5,Ty.size,this]
 have fin0:∀(e:Ending) (w':World),Ext S.w w'→e=.returned (.tuple #[.slice none 0 0,.bool false])→(([],false):List Int×Bool)=y →
   ∃v S',e=.returned v∧S'.w=w'∧Frm S S'∧zxb prog S' (Sig.resTM sg32 y) v∧∀(q:Nat) (e:TM),(q,e)∈Sig.outTM sg32 y→∃u,[Value.int .i64 n,.int .i64 wn,v2][q]?=some u∧SR prog e.t S' e.m (q+1,[]) e.x u:=fun e w' hx he hyy=>by
  subst hyy
  refine⟨_,{S with w:=w'},he,rfl,⟨fun _ h=>h,rfl,fun b hb=>⟨(hS.shared b hb).1,xau (hS.shared b hb).2 hx.size,.inl hb⟩,fun b hb=>(hS.borrowed b hb).1,fun b p hb=>⟨xau (hS.owned b p hb) hx.size,.inr (by rw[show S.own b=some p from hb];simp)⟩,hx.os,hx.tape,hx.output,hx.size,fun b hb _=>hx.block b hb⟩,⟨_,rfl,rfl,fun k e hk=>?_⟩,fun q e hq=>by cases hq⟩
  match k,hk with
  | 0,hk=>cases hk;exact⟨_,rfl,hnil _ _⟩
  | 1,hk=>cases hk;exact⟨_,rfl,hbo _ _ false⟩
  |k+2,hk=>cases hk
 have fin1:∀(e:Ending) (w':World) (o:List Int) (v:Value) (b:Nat),Ext S.w w'→e=.returned (.tuple #[v,.bool true])→HI w' v o b→S.w.heap.size≤b→((o,true):List Int×Bool)=y →
   ∃v S',e=.returned v∧S'.w=w'∧Frm S S'∧zxb prog S' (Sig.resTM sg32 y) v∧∀(q:Nat) (e:TM),(q,e)∈Sig.outTM sg32 y→∃u,[Value.int .i64 n,.int .i64 wn,v2][q]?=some u∧SR prog e.t S' e.m (q+1,[]) e.x u:=fun e w' o v b hx he hHI hbb hyy=>by
  subst hyy
  have hown:S.own b=none:=by
   cases h:S.own b with
   |none=>rfl
   |some p=>have:=hS.owned b p h;omega
  refine⟨_,{S with w:=w',F:=fun c=>S.F c∨c=b},he,rfl,⟨fun _ h=>.inl h,rfl,fun c hc=>?_,fun c hc=>(hS.borrowed c hc).1,fun c p hc=>⟨xau (hS.owned c p hc) hx.size,.inr (by rw[show S.own c=some p from hc];simp)⟩,hx.os,hx.tape,hx.output,hx.size,fun c hc _=>hx.block c hc⟩,⟨_,rfl,rfl,fun k e hk=>?_⟩,fun q e hq=>by cases hq⟩
  ·rcases hc with hc|rfl
   ·exact⟨(hS.shared c hc).1,xau (hS.shared c hc).2 hx.size,.inl hc⟩
   ·exact⟨hown,hHI.lt,.inr (.inl hbb)⟩
  match k,hk with
  | 0,hk=>cases hk;exact⟨_,rfl,hsl _ _ o v b hHI (.inr rfl)⟩
  | 1,hk=>cases hk;exact⟨_,rfl,hbo _ _ true⟩
  |k+2,hk=>cases hk
 unfold d32 at hy0
 by_cases hbad:badW n wn l
 ·rw[if_pos hbad]at hy0
  obtain⟨la,lc,rfl⟩:=hlv
  refine Calls.mono (wit_bad hbad) fun e w' ⟨he,hx⟩=>fin0 e w' hx he (xbo hy0)
 ·rw[if_neg hbad]at hy0
  split at hy0
  ·rename_i hall
   have hb2:=good_of hbad
   have hC:∀t,isB n t→d118 n l t=some (C29 n l t):=fun t ht=>by
    have:=hall t ht
    unfold C29
    cases hd:d118 n l t with
    |none=>rw[hd]at this;cases this
    |some b=>rfl
   have hla:LA (fun b=>S.F b∨S.B b) S.w v2 l:=⟨⟨r2.1.fut (.inr rfl) ⟨fun b hb=>.inl hb,fun b _ hb=>.inl (.inr hb),fun b _=>rfl⟩ fun _ _=>rfl,r2.2⟩,fun b hb=>hb.elim (fun h=>(hS.shared b h).2) fun h=>(hS.borrowed b h).2⟩
   refine Calls.mono (wit_ok ⟨hb2.1,hb2.2.1⟩ ⟨hb2.2.2.1,hb2.2.2.2.1⟩ hb2.2.2.2.2 hC hla) fun e w' ⟨hx,hr⟩=>?_
   rcases hr with⟨h1,h2⟩|⟨o,v,b,h1,h2,h3,h4⟩
   ·rw[h1]at hy0
    exact fin0 e w' hx h2 (xbo hy0)
   ·rw[h1]at hy0
    exact fin1 e w' o v b hx h2 h3 h4 (xbo hy0)
  ·cases hy0
noncomputable def E32:FnE prog:=⟨32,sg32,d32,sim32⟩
end
end Go.Proofs.YtfgjbkjddcjlfaaGreat
namespace Go.Proofs.YtfgjbkjddcjlfaaGreat
open Go Go.Proofs Go.X
open Tryz
set_option maxRecDepth 100000
noncomputable section
abbrev ui1:=(List Int×(List (List Int)×(Int×(Int×(Int×(Int×(Int×(Int×Int))))))))
abbrev ui3:=(Int×(Int×(Int×(List Int×Int))))
abbrev ui2:=(List ui3)
abbrev ui0:=((List Int)×ui2×ui1×Int)
abbrev ui4:=(Bool×(List Int×List Int))
def d34(a:ui3)(p1:ui3):Option Bool:=
 (d35 a p1).bind fun r=>
 some (decide (r=0))
def E34:=uqy 34 ⟨[(y57,.bw),((.ptr y57),.bw)],[(y4,.sh)]⟩ d34 func34 call34 [.fn E35] upai
def d12(p0:ui1)(p1:List Int)(p2:List ui3):Option Bool:=
 letJ (fun((n,ag,ah,ai,aj):(List Int)×ui2×ui1×Int×Bool)=>
   bif aj then
    some false
   else
    (zad (β:=ui0⊕Bool) (fun((e,j,k,g,c,l,b):(List Int)×ui2×ui1×Int×(List Int)×Int×Int)=>
      bif (decide (b<l))then
       bif (decide (0≤b)&&decide (b<(c.length:Int)))then
        letJ (fun((ak,al,am,an,ao,ap,aq,ar):(List Int)×ui2×ui1×Int×(List Int)×Int×Int×Bool)=>
          bif ar then
           some (Sum.inr (Sum.inr false))
          else
           some (Sum.inl (ak,al,am,an,ao,ap,(w (aq+1))))) fun o=>
        bif !(decide ((c.getD b.toNat 0)<0))then
         bif !(decide (g≤(c.getD b.toNat 0)))then
          bif (zbs 0 b e.length)then
           (d30 (List.drop 0 (List.take b.toNat e)) (c.getD b.toNat 0)).bind fun au=>
           o (e,j,k,g,c,l,b,au)
          else none
         else
          o (e,j,k,g,c,l,b,true)
        else
         o (e,j,k,g,c,l,b,true)
       else none
      else
       some (Sum.inr (Sum.inl (e,j,k,g)))) (n,ag,ah,ai,n,(n.length:Int),0)).bind fun
    |Sum.inl (av,p,ax,ay)=>
     (zad (β:=ui0⊕Bool) (fun((v,x,y,q,s,z,h):(List Int)×ui2×ui1×Int×ui2×Int×Int)=>
       bif (decide (h<z))then
        bif (decide (0≤h)&&decide (h<(s.length:Int)))then
         (d31 q (s.getD h.toNat (0,0,0,[],0))).bind fun az=>
         bif !az then
          some (Sum.inr (Sum.inr false))
         else
          some (Sum.inl (v,x,y,q,s,z,(w (h+1))))
        else none
       else
        some (Sum.inr (Sum.inl (v,x,y,q)))) (av,p,ax,ay,p,(p.length:Int),0)).bind fun
     |Sum.inl (f,aa,m,t)=>
      bif (decide (t≤m.2.2.2.1))then
       some (decide ((f.length:Int)=t))
      else
       bif !(decide ((f.length:Int)=m.2.2.2.1))then
        some false
       else
        bif (decide (m.2.2.1=1))then
         bif (decide (0≤0)&&decide (0<(f.length:Int)))then
          (d32 t (f.getD 0 0) aa).bind fun ba=>
          some (!ba.2)
         else none
        else
         (zad (β:=Unit⊕Bool) (fun((ab,ac,u,ae,i):ui2×ui1×(List Int)×Int×Int)=>
           bif (decide (i<ae))then
            bif (decide (0≤i)&&decide (i<(u.length:Int)))then
             (d33 ab (fun a=>d34 a (3,(u.getD i.toNat 0),0,[],(w (ac.2.2.2.1+1))))).bind fun bb=>
             bif !bb then
              some (Sum.inr (Sum.inr false))
             else
              some (Sum.inl (ab,ac,u,ae,(w (i+1))))
            else none
           else
            some (Sum.inr (Sum.inl ()))) (aa,m,f,(f.length:Int),0)).bind fun
         |Sum.inl _=>
          some true
         |Sum.inr bc=>
          some bc
     |Sum.inr be=>
      some be
    |Sum.inr bf=>
     some bf) fun af=>
 (d29 p0).bind fun r=>
 bif !(!r)then
  af (p1,p2,p0,(p0.2.1.length:Int),(decide (1400<(p2.length:Int))))
 else
  af (p1,p2,p0,(p0.2.1.length:Int),true)
def E12:=uqy 12 ⟨[(y26,.bw),(y23,.bw),(y34,.bw)],[(y4,.sh)]⟩ d12 func12 call12 [.fn E29,.fn E30,.fn E31,.fn E32,.fn E33,.fn E34] (uqs (uqs (.seq (.join uqr [ujaa,ujaj,ujab,(7,uqa),(27,uqc)] upaa) (.seq (uqs (.block (.loop [ujaa,ujaj,ujab,(7,uqa),(28,.v y23 .bw),(29,uqa),(30,uqa)] [(.brk 0,ulau),(.ret,ular)] (uqs (.seq upab (.seq (.block (uqs (.join uqr [ujaa,ujaj,ujab,(7,uqa),(28,.v y23 .bw),(29,uqa),(30,uqa),(48,uqc)] upaa))) uqr)))))) (.seq (uqs (.block (.loop [ujaa,ujaj,ujab,(7,uqa),(50,.v y34 .bw),(51,uqa),(52,uqa)] [(.brk 2,ulau),(.ret,ular)] upal))) (.seq upag (.seq upag (.seq upaq (.seq (uqs (.block (.loop [ujaj,ujab,(88,.v y23 .bw),(89,uqa),(90,uqa)] [(.brk 4,[]),(.ret,ular)] (uqs (.seq upab (.seq (.block (uqs (uqs upag))) uqr)))))) upac)))))))))
def d13:Option Bool:=
 (d32 3 0 [(1,0,1,[],0)]).bind fun r=>
 (d5 0 2 0 0 0).bind fun a=>
 (d12 a [0] [(1,0,1,[],0)]).bind fun b=>
 bif b then
 (d5 0 3 0 0 0).bind fun c=>
 (d12 c [0] [(1,0,1,[],0)]).bind fun e=>
 bif !e then
 bif r.2 then
 (d19 r.1 [1,0,2]).bind fun f=>
 some f
 else
 some false
 else
 some false
 else
 some false
def sg13:Sig:=⟨[],[(y4,.sh)]⟩
def plan13:Plan:=(uqs (uqs (.seq (.reg [] [{},{},{fl:=1}]) (uqs .nil))))
def ev13 (xs:Vals (ptys sg13.ps)):evF (P:=prog) tab [.fn E32,.fn E5,.fn E12,.fn E19] sg13 Tryz.f13.results.toList (code Tryz.f13) plan13 xs=d13  := by kernel_rfl
def sim13:Sim prog 13 sg13 d13:=zow mixd tabOK func13 (zfw rfl) call13 (uqn (by kernel_rfl)) (by kernel_rfl) plan13 _ fun xs y h=>(ev13 xs).trans h
def E13:FnE prog:=⟨13,sg13,d13,sim13⟩
def d3(p0:Int)(p1:Int)(p2:Int)(p3:Int)(p4:Int)(p5:Int)(p6:List (List Int))(p7:List (List Int))(p8:List Int)(p9:Int):Option Bool:=
 (d4 p0 4).bind fun r=>
 (d4 p3 3).bind fun k=>
 (d5 p1 (w (1+r)) p2 k p4).bind fun a=>
 (d7 p6 14).bind fun l=>
 (d6 (w (1+r)) l 14).bind fun c=>
 (d9 p8 9).bind fun m=>
 (d8 (w (1+r)) m).bind fun b=>
 bif (zbs 0 (bif (decide (a.2.2.2.1<(b.length:Int)))then a.2.2.2.1 else(b.length:Int)) b.length)then
 (d11 a (w (1+r)) c (List.take (Int.toNat (bif (decide (a.2.2.2.1<(b.length:Int)))then a.2.2.2.1 else(b.length:Int))) b) p7 p9).bind fun n=>
 (d10 (w (1+r)) c n).bind fun g=>
 (d12 a (List.take (Int.toNat (bif (decide (a.2.2.2.1<(b.length:Int)))then a.2.2.2.1 else(b.length:Int))) b) g).bind fun o=>
 bif !o then
 (d13).bind fun p=>
 bif p then
 (d14 a (List.take (Int.toNat (bif (decide (a.2.2.2.1<(b.length:Int)))then a.2.2.2.1 else(b.length:Int))) b) g).bind fun q=>
 some (!q)
 else
 some false
 else
 (d15 (w (1+r)) p5).bind fun e=>
 letJ (fun((s,t,u):(List Int)×(Int×(Int×(Int×(Int×(List (List ui4×(List ui4×(ui4×(ui4×(ui4×(List Int×(List Int×List Int)))))))×List Int)))))×Int)=>
 (d13).bind fun v=>
 bif v then
 bif (decide (u=0))then
 (d21 t.2.2.2.2.2).bind fun x=>
 (d21 s).bind fun y=>
 (d19 x y).bind fun z=>
 some z
 else
 some false
 else
 some false) fun f=>
 bif (decide (a.2.2.1=2))then
 (d16 a c e).bind fun h=>
 f ((List.take (Int.toNat (bif (decide (a.2.2.2.1<(b.length:Int)))then a.2.2.2.1 else(b.length:Int))) b),h.1,h.2)
 else
 bif (decide (a.2.2.1=3))then
 (d17 a c e).bind fun i=>
 f ((List.take (Int.toNat (bif (decide (a.2.2.2.1<(b.length:Int)))then a.2.2.2.1 else(b.length:Int))) b),i.1,i.2)
 else
 (d18 a c e).bind fun j=>
 (d20 (w (1+r)) c).bind fun aa=>
 (d19 aa (List.take (Int.toNat (bif (decide (a.2.2.2.1<(b.length:Int)))then a.2.2.2.1 else(b.length:Int))) b)).bind fun ab=>
 bif !ab then
 some false
 else
 f ((List.take (Int.toNat (bif (decide (a.2.2.2.1<(b.length:Int)))then a.2.2.2.1 else(b.length:Int))) b),j.1,j.2)
 else none
def sg3:Sig:=⟨[(y2,.sh),(y2,.sh),(y2,.sh),(y2,.sh),(y2,.sh),(y2,.sh),(y22,.sh),(y22,.bw),(y23,.sh),(y2,.sh)],[(y4,.sh)]⟩
def sim3:Sim prog 3 sg3 d3:=uqz func3 (zfw rfl) call3 (by kernel_rfl) (by kernel_rfl) [.fn E4,.fn E5,.fn E7,.fn E6,.fn E9,.fn E8,.fn E11,.fn E10,.fn E12,.fn E13,.fn E14,.fn E15,.fn E16,.fn E17,.fn E18,.fn E20,.fn E19,.fn E21] (uqs (uqs (uqs (uqs (uqs (uqs (.seq (.reg [] (uqk 9 [{frz:=[(60,[])]}])) (.seq upag (uqs (uqs (uqs (.join (uqs (.block (uqs (.cond upax (uqs (.cond upax (.seq upax upag))))))) [(8,.v y23 umad),(25,.v (.ptr y41) umaf),(26,uqa)] upac)))))))))))) fun xs=>by kernel_rfl
end
abbrev Con:=List Int×(List (List Int)×(Int×(Int×(Int×(Int×(Int×(Int×Int)))))))
def anyC(n:Int)(l:List Asn)(t:List Int):Bool:=l.any fun a=>zmy n a t
def any_false{α:Type}{l:List α}{g:α→Bool}{z:α}(h:∀i,i<l.length→g (l.getD i z)=false):l.any g=false:=by
 rw[xhz]
 intro x hx
 obtain⟨i,hi,rfl⟩:=xcm hx
 have:=h i hi
 rw[zag l z hi]at this
 simp[this]
def any_true{α:Type}{l:List α}{g:α→Bool}{z:α}{i:Nat}(hi:i<l.length)(h:g (l.getD i z)=true):l.any g=true:=by
 rw[xhj]
 exact⟨l.getD i z,by rw[zag l z hi];exact xbc _,h⟩
def zkj{α:Type}{l:List α}{g:α→Bool}{z:α}{i:Nat}(hi:i<l.length)(h:g (l.getD i z)=false):l.all g=false:=by
 rw[List.all_eq_false]
 exact⟨l.getD i z,by rw[zag l z hi];exact xbc _,by rw[h];simp⟩
def zne{α:Type}{l:List α}{g:α→Bool}{z:α}(h:∀i,i<l.length→g (l.getD i z)=true):l.all g=true:=by
 rw[xbt]
 intro x hx
 obtain⟨i,hi,rfl⟩:=xcm hx
 have:=h i hi
 rwa[zag l z hi]at this
def d33_eq{s:List Asn}{f:Asn→Option Bool}{g:Asn→Bool}(hf:∀a∈s,f a=some (g a))(hs:s.length≤281474976710656):d33 s f=some (s.any g):=by
 unfold d33 d69
 rw[Option.bind_assoc]
 refine zaw (fun i=>(s,f,(s.length:Int),(i:Int))) (fun i=>g (s.getD i (0,0,0,[],0))) s.length (fun i=>.inr (i:Int)) (.inl ()) rfl (fun i hi=>?_) ?_ (fun i hi hp hj=>?_) (fun hall=>?_)
 ·have h2:(i:Int)<(s.length:Int):=by omega
  have h3:(0:Int)≤(i:Int):=by omega
  have hw:w ((i:Int)+1)=((i+1:Nat):Int):=by rw[w_id (by omega) (by omega)];omega
  have hm:s.getD i (0,0,0,[],0)∈s:=by rw[zag _ _ hi];exact xbc _
  simp only[h2,h3,hw,xah,xab,xai,xaf,hf _ hm,xaa]
  cases g (s.getD i (0,0,0,[],0))
  ·simp only[xac,xaw,xbf]
  ·simp only[xab,if_true]
 ·simp
 ·have h3:(0:Int)≤(i:Int):=by omega
  simp only[xaa,h3,xah,any_true hi hp]
 ·simp only[xaa,any_false hall]
  rfl
def LOK(l:List Asn):Prop:=l.length≤281474976710656∧∀a∈l,a.2.2.2.1.length≤1001
def d118_eq{n:Int}{l:List Asn}{t:List Int}(hl:LOK l)(ht:t.length≤1000):d118 n l t=some (anyC n l t):=by
 unfold d118
 rw[d33_eq (g:=fun a=>zmy n a t) (fun a ha=>?_) hl.1]
 ·rfl
 ·unfold d156
  rw[d157_eq n (hl.2 a ha) ht]
  rfl
def Others.congr{n:Nat}{C D:List Int→Bool}(h:∀t,isB n t→C t=D t){w:Int}{o:List Int}:Others n C w o↔Others n D w o:=by
 unfold Others
 constructor
 ·rintro⟨h1,h2,h3,h4⟩
  exact⟨h1,h2,h3,fun j hj=>by rw[←h _ ⟨h1.1.sublist (List.drop_sublist _ _),fun x hx=>h1.2 x (xgi hx)⟩];exact h4 j hj⟩
 ·rintro⟨h1,h2,h3,h4⟩
  exact⟨h1,h2,h3,fun j hj=>by rw[h _ ⟨h1.1.sublist (List.drop_sublist _ _),fun x hx=>h1.2 x (xgi hx)⟩];exact h4 j hj⟩
def witP_congr{n:Nat}(hn:1≤n){C D:List Int→Bool}(h:∀t,isB n t→C t=D t)(w:Int):witP n C w=witP n D w:=by
 have h1:=zlv hn C w
 have h2:=zlv hn D w
 cases hc:witP n C w with
 |none=>
  rw[hc]at h1
  cases hd:witP n D w with
  |none=>rfl
  |some o=>rw[hd]at h2;exact absurd ((Others.congr h).2 h2.1) (h1 o)
 |some o=>
  rw[hc]at h1
  cases hd:witP n D w with
  |none=>rw[hd]at h2;exact absurd ((Others.congr h).1 h1.1) (h2 o)
  |some o'=>
   rw[hd]at h2
   rcases ziq o o' with h3|h3|h3
   ·exact absurd h3 (h2.2 o ((Others.congr h).1 h1.1))
   ·rw[h3]
   ·exact absurd h3 (h1.2 o' ((Others.congr h).2 h2.1))
def witA(n:Int)(l:List Asn)(wn:Int):Option (List Int):=witP n.toNat (anyC n l) wn
def toN_isB{n:Int}(h:0≤n){t:List Int}(ht:isB (n.toNat:Int) t):isB n t:=by rwa[show((n.toNat:Nat):Int)=n by omega]at ht
def d32_eq{n wn:Int}{l:List Asn}(hl:LOK l):d32 n wn l=some (if badW n wn l then([],false)else match witA n l wn with | none=>([],false) | some o=>(o,true)):=by
 unfold d32
 by_cases hb:badW n wn l
 ·rw[if_pos hb,if_pos hb]
 ·rw[if_neg hb,if_neg hb]
  have hg:=good_of hb
  have hd:∀t,isB n t→d118 n l t=some (anyC n l t):=fun t ht=>d118_eq hl (by have:=zfe ht hg.2.1;omega)
  rw[if_pos fun t ht=>by rw[hd t ht];rfl]
  have:witP n.toNat (C29 n l) wn=witA n l wn:=witP_congr (by omega) (fun t ht=>by
   unfold C29
   rw[hd t (toN_isB (by omega) ht)]
   rfl) wn
  rw[this]<;>cases witA n l wn<;>rfl
def fitB(c:Con):Bool:=
 decide (1≤c.2.2.1)&&decide (c.2.2.1≤3)&&decide (1≤c.2.1.length)&&decide (c.2.1.length≤7)&&decide (1≤c.2.2.2.1)&&decide (c.2.2.2.1≤5)&&(!decide (c.2.2.1=1)||decide (c.2.2.2.1=1)) &&
  (bif decide (c.2.2.1=2)then decide (1≤c.2.2.2.2.2.1)&&decide (c.2.2.2.2.2.1≤6)else decide (c.2.2.2.2.2.1=0))&&decide (1≤c.2.2.2.2.2.2.1)&&decide (c.2.2.2.2.2.2.1≤3)
def idL(n:Nat):List Int:=(List.range n).map fun(i:Nat)=>(i:Int)
def zlk(n:Nat):(idL n).length=n:=by simp[idL]
def idL_isB(n:Nat):isB (n:Int) (idL n):=⟨xjh.2 (xii.imp fun h e=>h (by omega)),fun x hx=>by
 obtain⟨i,h1,rfl⟩:=xdg.1 hx
 have:=xbu.1 h1
 omega⟩
def zku(n:Nat):idL (n+1)=idL n++[(n:Int)]:=by simp[idL,xfx]
def d77_nil{n:Int}(hn:n≤7):d77 n []=some true:=by
 rw[d77_eq hn (by simp) (by simp)]
 simp
def d78_id{n:Nat}(hn:n≤7):d78 (idL n) (n:Int)=some true:=by
 unfold d78
 rw[d121_eq (by omega) (by rw[zlk];omega)]
 have:=idL_isB n
 simp only[zlk,xah,xab,xaa,this]
def d42_ok(c:Con):((d42 c.2.2.1 c [] (idL (min 7 c.2.1.length))).bind fun r=>some (decide (r=0)))=some (fitB c):=by
 obtain⟨nm,cs,m,s,x1,dg,ti,x2,x3⟩:=c
 have g0:decide (m=m)=true:=by simp
 by_cases c1:m<1
 ·have c1':¬1≤m:=by omega
  simp only[d42,letJ,fitB,c1,c1',g0,xah,xal,xaq,xao,xac,xab,xbe,xdo,xax,xdn,xer,xaa,show ¬(5:Int)=0 by omega,show ¬(4:Int)=0 by omega]
 have c1':1≤m:=by omega
 by_cases c2:3<m
 ·have c2':¬m≤3:=by omega
  simp only[d42,letJ,fitB,c1,c1',c2,c2',g0,xah,xal,xaq,xao,xac,xab,xbe,xdo,xax,xdn,xer,xaa,show ¬(5:Int)=0 by omega,show ¬(4:Int)=0 by omega]
 have c2':m≤3:=by omega
 by_cases c3:cs.length<1
 ·have c3':¬1≤cs.length:=by omega
  have c3'':(cs.length:Int)<1:=by omega
  simp only[d42,letJ,fitB,c1,c1',c2,c2',c3',c3'',g0,xah,xal,xaq,xao,xac,xab,xbe,xdo,xax,xdn,xer,xaa,show ¬(5:Int)=0 by omega,show ¬(4:Int)=0 by omega]
 have c3':1≤cs.length:=by omega
 have c3'':¬(cs.length:Int)<1:=by omega
 by_cases c4:7<cs.length
 ·have c4':¬cs.length≤7:=by omega
  have c4'':(7:Int)<(cs.length:Int):=by omega
  simp only[d42,letJ,fitB,c1,c1',c2,c2',c3',c3'',c4',c4'',g0,xah,xal,xaq,xao,xac,xab,xbe,xdo,xax,xdn,xer,xaa,show ¬(5:Int)=0 by omega,show ¬(4:Int)=0 by omega]
 have c4':cs.length≤7:=by omega
 have c4'':¬(7:Int)<(cs.length:Int):=by omega
 by_cases c5:s<1
 ·have c5':¬1≤s:=by omega
  simp only[d42,letJ,fitB,c1,c1',c2,c2',c3',c3'',c4',c4'',c5,c5',g0,xah,xal,xaq,xao,xac,xab,xbe,xdo,xax,xdn,xer,xaa,show ¬(5:Int)=0 by omega,show ¬(4:Int)=0 by omega]
 have c5':1≤s:=by omega
 by_cases c6:5<s
 ·have c6':¬s≤5:=by omega
  simp only[d42,letJ,fitB,c1,c1',c2,c2',c3',c3'',c4',c4'',c5,c5',c6,c6',g0,xah,xal,xaq,xao,xac,xab,xbe,xdo,xax,xdn,xer,xaa,show ¬(5:Int)=0 by omega,show ¬(4:Int)=0 by omega]
 have c6':s≤5:=by omega
 have h45:=d77_nil (n:=(cs.length:Int)) (by omega)
 have h68:=d78_id c4'
 have ht1:decide (1≤ti)=!decide (ti<1):=by rw[←decide_not];exact xbv.2 (by omega)
 have ht2:decide (ti≤3)=!decide (3<ti):=by rw[←decide_not];exact xbv.2 (by omega)
 simp only[d42,letJ,fitB,c1,c1',c2,c2',c3',c3'',c4',c4'',c5,c5',c6,c6',h45,h68,ht1,ht2,xjr c4',g0,xah,xal,xaq,xao,xac,xab,xbe,xdo,xax,xdn,xer,xaa,show ¬(5:Int)=0 by omega,show ¬(4:Int)=0 by omega]
 generalize decide (m=2)=b1
 generalize decide (1≤dg)=b2
 generalize decide (dg≤6)=b3
 generalize decide (dg=0)=b4
 generalize decide (m=1)=b5
 generalize decide (s=1)=b6
 generalize decide (ti<1)=b7
 generalize decide (3<ti)=b8
 revert b1 b2 b3 b4 b5 b6 b7 b8
 decide +kernel
def d29_eq{c:Con}(hc:c.2.1.length≤281474976710656):d29 c=some (fitB c):=by
 unfold d29
 have hmin:(bif (decide (7<(c.2.1.length:Int)))then(7:Int)else(c.2.1.length:Int))=((min 7 c.2.1.length:Nat):Int):=by
  by_cases h:(7:Int)<(c.2.1.length:Int)
  ·simp only[h,xah,xab];omega
  ·simp only[h,xal,xac];omega
 rw[hmin]
 refine zaa (b:=(c,idL (min 7 c.2.1.length))) (fun i=>(c,idL i,((min 7 c.2.1.length:Nat):Int),(i:Int))) (min 7 c.2.1.length) rfl (fun i hi=>?_) ?_ ?_
 ·have e1:(i:Int)<((min 7 c.2.1.length:Nat):Int):=by omega
  have e2:w ((i:Int)+1)=((i+1:Nat):Int):=by rw[w_id (by omega) (by omega)];omega
  simp only[e1,e2,xah,xab,zdu (idL i) (i:Int) (by rw[zlk];omega),zku]
 ·have:¬(((min 7 c.2.1.length:Nat):Int)<((min 7 c.2.1.length:Nat):Int)):=by omega
  simp only[this,xal,xac]
 ·exact d42_ok c
def sufB(c:Con)(ws:List Int)(l:List Asn):Bool:=
 fitB c&&decide (l.length≤1400)&&decide (isB (c.2.1.length:Int) ws)&&(l.all fun a=>zar (c.2.1.length:Int) a) &&
  (if(c.2.1.length:Int)≤c.2.2.2.1 then decide (ws.length=c.2.1.length)else decide ((ws.length:Int)=c.2.2.2.1) &&
   (if c.2.2.1=1 then(witA (c.2.1.length:Int) l (ws.getD 0 0)).isNone else ws.all fun x=>l.any fun a=>decide (a=(3,x,0,[],c.2.2.2.1+1))))
def fit_n{c:Con}(h:fitB c=true):1≤c.2.1.length∧c.2.1.length≤7∧1≤c.2.2.2.1∧c.2.2.2.1≤5∧1≤c.2.2.1∧c.2.2.1≤3∧(c.2.2.1=1→c.2.2.2.1=1):=by
 unfold fitB at h
 simp only[xan,xam,xdj,xdw,xay]at h
 obtain⟨⟨⟨⟨⟨⟨⟨⟨⟨h1,h2⟩,h3⟩,h4⟩,h5⟩,h6⟩,h7⟩,h8⟩,h9⟩,h10⟩:=h
 exact⟨h3,h4,h5,h6,h1,h2,fun e=>h7.resolve_left fun k=>k e⟩
def d12_eq{c:Con}{ws:List Int}{l:List Asn}(hc:c.2.1.length≤281474976710656)(hws:ws.length≤281474976710656)(hl:LOK l):d12 c ws l=some (sufB c ws l):=by
 unfold d12 letJ
 simp only
 rw[d29_eq hc]
 simp only[xaa,Bool.not_not]
 unfold sufB
 cases hf:fitB c
 ·simp
 simp only[xab,xax]
 rcases(xig (l.length≤1400)).symm with h1|h1
 ·have h1':(1400:Int)<(l.length:Int):=by omega
  simp only[h1,h1',xah,xal,xab,xbe]
 have h1':¬(1400:Int)<(l.length:Int):=by omega
 simp only[h1,h1',xah,xal,xac,xax]
 obtain⟨f1,f2,f3,f4,f5,f6,f7⟩:=fit_n hf
 obtain⟨nm,cs,m,s,x1,dg,ti,x2,x3⟩:=c
 simp only at f1 f2 f3 f4 f5 f6 f7 ⊢
 obtain⟨n,hn⟩:∃n:Int,(cs.length:Int)=n:=⟨_,rfl⟩
 have hcn:∀k:Nat,(k=cs.length)↔((k:Int)=n):=fun k=>by omega
 simp only[hn,hcn]
 have hn1:1≤n:=by omega
 have hn7:n≤7:=by omega
 clear hcn hf f1 f2 hc
 refine zaw (fun i=>(ws,l,(nm,cs,m,s,x1,dg,ti,x2,x3),n,ws,(ws.length:Int),(i:Int))) (fun i=>decide (ws.getD i 0<0)||(decide (n≤ws.getD i 0)||decide (ws.getD i 0∈ws.take i))) ws.length (fun _=>.inr false) (.inl (ws,l,(nm,cs,m,s,x1,dg,ti,x2,x3),n)) rfl (fun i hi=>?_) ?_ (fun i hi hp hj=>?_) (fun hall=>?_)
 ·have h2:(i:Int)<(ws.length:Int):=by omega
  have h3:(0:Int)≤(i:Int):=by omega
  have hw:w ((i:Int)+1)=((i+1:Nat):Int):=by rw[w_id (by omega) (by omega)];omega
  simp only[h2,h3,xah,xab,xai,xaf,hw,zdi (xfm hi),xex,d30_eq (s:=ws.take i) _ (by simp;omega),xaa]
  by_cases c1:ws.getD i 0<0
  ·simp only[c1];rfl
  ·by_cases c2:n≤ws.getD i 0
   ·simp only[c1,c2];rfl
   ·by_cases c3:ws.getD i 0∈ws.take i
    ·simp only[c1,c2,c3];rfl
    ·simp only[c1,c2,c3];rfl
 ·have:¬((ws.length:Int)<(ws.length:Int)):=by omega
  simp only[this,xal,xac]
 ·have:¬isB n ws:=fun h=>by
   have:=(zjz n ws).1 h i hi
   simp only[xdj,xam]at hp
   rcases hp with hp|hp|hp
   ·omega
   ·omega
   ·exact this.2.2 hp
  simp only[this,xal,xbe]
 have hB:isB n ws:=(zjz n ws).2 fun i hi=>by
  have:=hall i hi
  simp only[xcj,xay]at this
  exact⟨by omega,by omega,this.2.2⟩
 have hwl:=zfe hB hn7
 simp only[hB,xah,xax]
 refine zaw (fun i=>(ws,l,(nm,cs,m,s,x1,dg,ti,x2,x3),n,l,(l.length:Int),(i:Int))) (fun i=>!zar n (l.getD i (0,0,0,[],0))) l.length (fun _=>.inr false) (.inl (ws,l,(nm,cs,m,s,x1,dg,ti,x2,x3),n)) rfl (fun i hi=>?_) ?_ (fun i hi hp hj=>?_) (fun hall2=>?_)
 ·have h2:(i:Int)<(l.length:Int):=by omega
  have h3:(0:Int)≤(i:Int):=by omega
  have hw:w ((i:Int)+1)=((i+1:Nat):Int):=by rw[w_id (by omega) (by omega)];omega
  have hm:l.getD i (0,0,0,[],0)∈l:=by rw[zag _ _ hi];exact xbc _
  have hlm:=hl.2 _ hm
  simp only[h2,h3,xah,xab,xai,xaf,hw,d31_eq n (a:=l.getD i (0,0,0,[],0)) (by omega),xaa]
  cases zar n (l.getD i (0,0,0,[],0))
  ·simp only[xao,xab,if_true]
  ·simp only[xaq,xac,xaw,xbf]
 ·have:¬((l.length:Int)<(l.length:Int)):=by omega
  simp only[this,xal,xac]
 ·rw[zkj hi (by simpa using hp)]
  simp only[xbe]
 have hV:(l.all fun a=>zar n a)=true:=zne fun i hi=>by simpa using hall2 i hi
 simp only[hV,xax]
 by_cases c1:n≤s
 ·simp only[c1,xah,xab,if_true]
 simp only[c1,xal,xac,xbf]
 rcases(xig ((ws.length:Int)=s)).symm with c2|c2
 ·simp only[c2,xal,xao,xab,xbe]
 have hpos:(0:Int)<(ws.length:Int):=by omega
 simp only[c2,xah,xaq,xac,xax]
 by_cases c3:m=1
 ·have hs0:(0:Int)<s:=by omega
  have hz:(0:Int)≤0:=by omega
  simp only[c3,hs0,xah,xab,if_true,xai,hz]
  have hw0:=hB.2 (ws.getD 0 0) (by rw[zag _ _ (by omega)];exact xbc _)
  rw[d32_eq hl,if_neg (show ¬badW n (ws.getD 0 0) l by unfold badW;omega)]
  cases witA n l (ws.getD 0 0)<;>rfl
 ·simp only[c3,xal,xac,xbf]
  have hsw:w (s+1)=s+1:=w_id (by omega) (by omega)
  refine zaw (fun i=>(l,(nm,cs,m,s,x1,dg,ti,x2,x3),ws,s,(i:Int))) (fun i=>!(l.any fun a=>decide (a=(3,ws.getD i 0,0,[],s+1)))) ws.length (fun _=>.inr false) (.inl ()) (by rw[←c2];rfl) (fun i hi=>?_) ?_ (fun i hi hp hj=>?_) (fun hall3=>?_)
  ·have h2:(i:Int)<s:=by omega
   have h2':(i:Int)<(ws.length:Int):=by omega
   have h3:(0:Int)≤(i:Int):=by omega
   have hw:w ((i:Int)+1)=((i+1:Nat):Int):=by rw[w_id (by omega) (by omega)];omega
   have e38:=d33_eq (s:=l) (f:=fun a=>d34 a (3,ws.getD i 0,0,[],s+1)) (g:=fun a=>decide (a=(3,ws.getD i 0,0,[],s+1))) (fun a ha=>by
    unfold d34
    rw[d35_eq (by have:=hl.2 a ha;omega) (by simp)]
    simp only[xaa,cmpA_zero]) hl.1
   simp only[h2,h2',h3,xah,xab,xai,xaf,hw,hsw,e38,xaa]
   cases(l.any fun a=>decide (a=(3,ws.getD i 0,0,[],s+1)))
   ·simp only[xao,xab,if_true]
   ·simp only[xaq,xac,xaw,xbf]
  ·have:¬((ws.length:Int)<s):=by omega
   simp only[this,xal,xac]
  ·rw[zkj (g:=fun x=>l.any fun a=>decide (a=(3,x,0,[],s+1))) hi (by simpa using hp)]
  ·rw[zne (g:=fun x=>l.any fun a=>decide (a=(3,x,0,[],s+1))) (z:=0) fun i hi=>by simpa using hall3 i hi]
def nms(n:Nat):List (List Int):=(List.range n).map fun(i:Nat)=>[97+(i:Int)]
def nms_succ(n:Nat):nms (n+1)=nms n++[[97+(n:Int)]]:=by simp[nms,xfx]
def nms_len(n:Nat):(nms n).length=n:=by simp[nms]
def d22_nms{n:Nat}(hn:n≤100):d22 (n:Int)=some (nms n):=by
 unfold d22
 refine zaa (b:=nms n) (fun i=>((n:Int),nms i,(i:Int))) n rfl (fun i hi=>?_) ?_ rfl
 ·have e1:(i:Int)<(n:Int):=by omega
  have e2:w ((i:Int)+1)=((i+1:Nat):Int):=by rw[w_id (by omega) (by omega)];omega
  have e3:wu8 (w (97+(i:Int)))=97+(i:Int):=by rw[w_id (by omega) (by omega)];exact w8_id (by omega) (by omega)
  simp only[e1,e2,e3,xah,xab,zdu (nms i) [97+(i:Int)] (by rw[nms_len];omega),nms_succ]
 ·have:¬((n:Int)<(n:Int)):=by omega
  simp only[this,xal,xac]
def conB(m:Int)(n:Nat)(s dg ti:Int):Con:=([99],nms n,1+m%3,(if 1+m%3=1 then 1 else 1+s%5),0,(if 1+m%3=2 then 1+dg%6 else 0),1+ti%3,0,0)
def d5_con{m s dg ti:Int}{n:Nat}(hn:n≤100)(hm:WT (.int .i64) m)(hs:WT (.int .i64) s)(hd:WT (.int .i64) dg)(ht:WT (.int .i64) ti):d5 m (n:Int) s dg ti=some (conB m n s dg ti):=by
 unfold d5 letJ
 rw[d22_nms hn,xaa,zlo hm (by omega) (by omega),xaa,zlo hs (by omega) (by omega),xaa,zlo ht (by omega) (by omega),xaa,zlo hd (by omega) (by omega)]
 have b1:=zbf m (n:=3) (by omega)
 have b2:=zbf s (n:=5) (by omega)
 have b3:=zbf ti (n:=3) (by omega)
 have b4:=zbf dg (n:=6) (by omega)
 have w1:w (1+m%3)=1+m%3:=w_id (by omega) (by omega)
 have w2:w (1+s%5)=1+s%5:=w_id (by omega) (by omega)
 have w3:w (1+ti%3)=1+ti%3:=w_id (by omega) (by omega)
 have w4:w (1+dg%6)=1+dg%6:=w_id (by omega) (by omega)
 simp only[w1,w2,w3,w4,xaa]
 unfold conB
 generalize 1+m%3=M
 by_cases h1:M=1
 ·have h2:¬M=2:=by omega
  simp only[h1,h2,xah,xal,xab,xac,if_true,xbf,show ¬(1:Int)=2 by omega]
 ·by_cases h2:M=2
  ·simp only[h1,h2,xah,xal,xab,xac,if_true,xbf,show ¬(2:Int)=1 by omega]
  ·simp only[h1,h2,xah,xal,xab,xac,if_true,xbf]
def zha{x:Int}(h:-1000000≤x∧x≤1000000):WT (.int .i64) x:=wt_of (by omega) (by omega)
def d13_eq:d13=some true:=by
 have hl:LOK [((1:Int),(0:Int),(1:Int),([]:List Int),(0:Int))]:=⟨by decide,by decide⟩
 unfold d13
 rw[d32_eq hl]
 have e1:witA 3 [((1:Int),(0:Int),(1:Int),([]:List Int),(0:Int))] 0=some [1,0,2]:=by decide +kernel
 rw[if_neg (by unfold badW;decide),e1]
 have e2:=d5_con (m:=0) (s:=0) (dg:=0) (ti:=0) (n:=2) (by omega) (zha (by omega)) (zha (by omega)) (zha (by omega)) (zha (by omega))
 have e3:=d5_con (m:=0) (s:=0) (dg:=0) (ti:=0) (n:=3) (by omega) (zha (by omega)) (zha (by omega)) (zha (by omega)) (zha (by omega))
 have e4:sufB (conB 0 2 0 0 0) [0] [((1:Int),(0:Int),(1:Int),([]:List Int),(0:Int))]=true:=by decide +kernel
 have e5:sufB (conB 0 3 0 0 0) [0] [((1:Int),(0:Int),(1:Int),([]:List Int),(0:Int))]=false:=by decide +kernel
 rw[xaa]
 rw[show(2:Int)=((2:Nat):Int)from rfl,e2,xaa,d12_eq (by decide) (by decide) hl,e4,xaa,xab]
 rw[show(3:Int)=((3:Nat):Int)from rfl,e3,xaa,d12_eq (by decide) (by decide) hl,e5,xaa]
 simp only[xao,xab]
 rw[d19_eq (by decide) (by decide)]
 rfl
def d73_eq(n:Int){l:List Int}(hl:l.length≤281474976710656):d73 n l=some (decide ((l.length:Int)=n)&&decide (isB n l)):=by
 unfold d73
 by_cases h:(l.length:Int)=n
 ·rw[zsu n hl]
  simp only[h,xah,xab,xaa,xax]
 ·simp only[h,xal,xac,xbe]
def znd{g:Nat→Bool}{n:Nat}:(List.range n).any g=true↔∃k,k<n∧g k=true:=by
 rw[xhj]
 exact⟨fun⟨k,h1,h2⟩=>⟨k,xbu.1 h1,h2⟩,fun⟨k,h1,h2⟩=>⟨k,xbu.2 h1,h2⟩⟩
def zja(n:Int)(o:List Int)(a:Asn):Bool:=(List.range n.toNat).any fun k=>zmy n a (o.drop k)
def d120_eq{n:Int}{o:List Int}{l:List Asn}(hn:0≤n∧n≤100)(ho:(o.length:Int)=n)(hl:LOK l):d120 n o l=some (l.any (zja n o)):=by
 unfold d120
 refine zaw (fun i=>(n,o,l,(i:Int))) (fun i=>zja n o (l.getD i (0,0,0,[],0))) l.length (fun _=>.inr true) (.inl ()) rfl (fun i hi=>?_) ?_ (fun i hi hp hj=>?_) (fun hall=>?_)
 ·have h2:(i:Int)<(l.length:Int):=by omega
  have h3:(0:Int)≤(i:Int):=by omega
  have hw:w ((i:Int)+1)=((i+1:Nat):Int):=by rw[w_id (by have:=hl.1;omega) (by have:=hl.1;omega)];omega
  have hm:l.getD i (0,0,0,[],0)∈l:=by rw[zag _ _ hi];exact xbc _
  simp only[h2,xah,xab]
  refine zaw (fun k=>(n,o,l,(i:Int),(k:Int))) (fun k=>zmy n (l.getD i (0,0,0,[],0)) (o.drop k)) n.toNat (fun _=>.inr true) (.inl (n,o,l,(i:Int))) rfl (fun k hk=>?_) ?_ (fun k hk hp hj=>?_) (fun hall=>?_)
  ·have k2:(k:Int)<n:=by omega
   have kw:w ((k:Int)+1)=((k+1:Nat):Int):=by rw[w_id (by omega) (by omega)];omega
   have hcut:zbs (k:Int) (o.length:Int) o.length=true:=zfg (by omega)
   simp only[h2,h3,k2,kw,hcut,xah,xab,xai,xaf,xbh,d158_eq n (a:=l.getD i (0,0,0,[],0)) (t:=o.drop k) (hl.2 _ hm) (by rw[xeh];omega),xaa]
   cases zmy n (l.getD i (0,0,0,[],0)) (o.drop k)
   ·simp only[xac,xaw,xbf]
   ·simp only[xab,if_true]
  ·have:¬((n.toNat:Int)<n):=by omega
   simp only[this,xal,xac]
  ·have:zja n o (l.getD i (0,0,0,[],0))=true:=znd.2 ⟨k,hk,hp⟩
   simp only[this,if_true]
  ·have:zja n o (l.getD i (0,0,0,[],0))=false:=by
    cases h:zja n o (l.getD i (0,0,0,[],0))with
    |false=>rfl
    |true=>
     obtain⟨k,h1,h2⟩:=znd.1 h
     rw[hall k h1]at h2
     cases h2
   simp only[this,xaw,xbf,hw]
 ·simp
 ·simp only[any_true hi hp]
 ·simp only[any_false hall]
def alls_valid{n:Int}(hn:2≤n)(hn':n≤7)(l:List (List Int)):∀a∈alls n l,zar n a=true:=fun a ha=>by
 obtain⟨x,_,rfl⟩:=xdg.1 ha
 exact mk_valid hn hn'
def contr_quota{n:Int}{a:Asn}(h1:a.1≠1)(h2:a.1≠2)(t:List Int):zmy n a t=false:=by
 unfold zmy
 simp[h1,h2]
def bind_decide{α β:Type}{x:Option α}{g:α→β}{y:β}(h:(x.bind fun r=>some (g r))=some y):∃r,x=some r∧g r=y:=by
 cases x with
 |none=>cases h
 |some r=>exact⟨r,rfl,xbo h⟩
def cands_get{n i:Nat}(hi:i<n):(zbt n)[i]?=some (i:Int):=by simp[zbt,hi]
def firstS_at{β:Type}{f:Int→Option β}{n i:Nat}(hi:i<n)(hp:(f (i:Int)).isSome=true)(hj:∀j:Nat,j<i→(f (j:Int)).isSome=false):zhv f (zbt n)=f (i:Int):=by
 cases hs:zhv f (zbt n)with
 |none=>
  have:=zlm hs (i:Int) (zdc.2 ⟨by omega,by omega⟩)
  rw[this]at hp;cases hp
 |some y=>
  obtain⟨a,x,b,h1,h2,h3⟩:=zit hs
  have hx:(zbt n)[a.length]?=some x:=by rw[h1];simp
  have hal:a.length<n:=by
   have:=xbx List.length h1
   simp[zbt]at this;omega
  rw[cands_get hal]at hx
  have hxe:=xbo hx
  rcases Nat.lt_trichotomy a.length i with h|h|h
  ·have:=hj _ h
   rw[hxe,h2]at this;cases this
  ·rw[←h,hxe,h2]
  ·have hm:(i:Int)∈a:=by
    have:(zbt n)[i]?=some (i:Int):=cands_get hi
    rw[h1,xek h]at this
    exact xhd this
   have:=h3 _ hm
   rw[this]at hp;cases hp
def firstS_no{β:Type}{f:Int→Option β}{n:Nat}(hj:∀j:Nat,j<n→(f (j:Int)).isSome=false):zhv f (zbt n)=none:=by
 cases hs:zhv f (zbt n)with
 |none=>rfl
 |some y=>
  obtain⟨a,x,b,h1,h2,_⟩:=zit hs
  have hx:x∈zbt n:=by rw[h1];simp
  have hb:=zdc.1 hx
  have:=hj x.toNat (by omega)
  rw[show((x.toNat:Nat):Int)=x by omega,h2]at this
  cases this
def ext_wit'{n:Nat}(hn:1≤n)(C:List Int→Bool)(w:Int){k:Nat}(hk:n<k):extO n C w k []=witP n C w:=by
 have h1:=zms (n:=n) (C:=C) (w:=w) k [] ⟨by simp,by simp⟩ (by simp;omega)
 have h2:=zlv hn C w
 cases he:extO n C w k []with
 |none=>
  rw[he]at h1
  cases hw:witP n C w with
  |none=>rfl
  |some o=>rw[hw]at h2;exact absurd h2.1 (h1 o)
 |some o=>
  rw[he]at h1
  cases hw:witP n C w with
  |none=>rw[hw]at h2;exact absurd h1.1 (h2 o)
  |some o'=>
   rw[hw]at h2
   rcases ziq o o' with h|h|h
   ·exact absurd h (h2.2 o h1.1)
   ·rw[h]
   ·exact absurd h (h1.2.2 o' h2.1)
def okO_eq{n:Int}{l:List Asn}{w:Int}{o:List Int}:okO n.toNat (anyC n l) w o=(!decide (o.getD (n.toNat-1) 0=w)&& !l.any (zja n o)):=by
 unfold okO
 congr 1
 rw[xff,xbt,xdw,xhz]
 constructor
 ·intro h a ha hc
  obtain⟨k,k1,k2⟩:=znd.1 hc
  have:=h k (xbu.2 k1)
  unfold anyC at this
  rw[xdw,xhz]at this
  exact this a ha k2
 ·intro h k hk
  unfold anyC
  rw[xdw,xhz]
  intro a ha hc
  exact h a ha (znd.2 ⟨k,xbu.1 hk,hc⟩)
def extO_succ(n:Nat)(C:List Int→Bool)(w:Int)(k:Nat)(b:List Int):extO n C w (k+1) b=if b.length=n then(if okO n C w b then some b else none)else zhv (fun c=>if c∈b then none else extO n C w k (b++[c])) (zbt n):=rfl
def wres(n:Int)(l:List Asn)(wn:Int)(k:Nat)(b:List Int):List Int×Bool:=match extO n.toNat (anyC n l) wn k b with
 |some o=>(o,true)
 |none=>(if b.length=n.toNat then b else [],false)
def wres_get(n:Int)(l:List Asn)(wn:Int)(k:Nat)(b:List Int):(wres n l wn k b).2=(extO n.toNat (anyC n l) wn k b).isSome:=by
 unfold wres;cases extO n.toNat (anyC n l) wn k b<;>rfl
def d75N_eq{n wn:Int}{l:List Asn}(h1:1≤n)(hn:n≤7)(hl:LOK l):∀(k:Nat) (b:List Int),isB n b→n.toNat<k+b.length→d75N k n wn b l=some (wres n l wn k b)
 | 0,b,hb,hk=>by
  have:=zby n.toNat b hb.1 fun x hx=>by have:=hb.2 x hx;omega
  omega
 |k+1,b,hb,hk=>by
  have hbl:=zby n.toNat b hb.1 fun x hx=>by have:=hb.2 x hx;omega
  show d75F (d75N k) n wn b l=_
  unfold d75F
  by_cases c0:b.length=n.toNat
  ·have c0':(b.length:Int)=n:=by omega
   have hw2:w (n-1)=n-1:=w_id (by omega) (by omega)
   have i1:(0:Int)≤n-1:=by omega
   have i2:n-1<(b.length:Int):=by omega
   have i3:(n-1).toNat=n.toNat-1:=by omega
   have hx:extO n.toNat (anyC n l) wn (k+1) b=if okO n.toNat (anyC n l) wn b then some b else none:=by
    unfold extO;rw[if_pos c0]
   simp only[c0',hw2,i1,show n-1<n by omega,i3,xah,xab,xai]
   unfold wres
   rw[hx,okO_eq,d120_eq ⟨by omega,by omega⟩ c0' hl]
   by_cases c1:b.getD (n.toNat-1) 0=wn
   ·simp only[c1,xah,xaq,xac,xbe,xaw,xbf,c0,if_true]
   ·simp only[c1,xal,xao,xab,xax,xaa]
    cases l.any (zja n b)<;>simp[c0]
  ·have c0':¬(b.length:Int)=n:=by omega
   simp only[c0',xal,xac]
   have hx:extO n.toNat (anyC n l) wn (k+1) b=zhv (fun c=>if c∈b then none else extO n.toNat (anyC n l) wn k (b++[c])) (zbt n.toNat):=by
    rw[extO_succ,if_neg c0]
   have hfin:∀i:Nat,(i:Int)∉b→i<n.toNat→d75N k n wn (b++[(i:Int)]) l=some (wres n l wn k (b++[(i:Int)])):=fun i hi hin=>by
    refine d75N_eq h1 hn hl k (b++[(i:Int)]) ⟨xdp.2 ⟨hb.1,by simp,fun x hx y hy e=>hi (by rw[xbn.1 hy]at e;rw[←e];exact hx)⟩,fun x hx=>?_⟩ (by simp;omega)
    rcases xbq.1 hx with hx|hx
    ·exact hb.2 x hx
    ·rw[xbn.1 hx];omega
   obtain⟨F,hF⟩:∃F:Int→Option (List Int),F=fun c=>if c∈b then none else extO n.toNat (anyC n l) wn k (b++[c]):=⟨_,rfl⟩
   rw[←hF]at hx
   refine zaw (fun i=>(n,wn,b,l,(i:Int))) (fun i=>(F (i:Int)).isSome) n.toNat (fun i=>.inr ((F (i:Int)).getD [],true)) (.inl ()) rfl (fun i hi=>?_) ?_ (fun i hi hp hj=>?_) (fun hall=>?_)
   ·have e1:(i:Int)<n:=by omega
    have e2:w ((i:Int)+1)=((i+1:Nat):Int):=by rw[w_id (by omega) (by omega)];omega
    have l1:((([]:List Int).length:Int)+(b.length:Int)≤LIM):=by rw[zbv];simp;omega
    have l2:=zdu b (i:Int) (by omega)
    simp only[e1,e2,l1,l2,xah,xab,letJ,zke (l:=b) (i:Int) (by omega),xaa]
    by_cases hm:(i:Int)∈b
    ·have hFi:F (i:Int)=none:=by rw[hF];simp only[hm,if_true]
     simp only[hm,xah,xaq,xac,hFi,Option.isSome_none,xaw,xbf]
    ·have hFi:F (i:Int)=extO n.toNat (anyC n l) wn k (b++[(i:Int)]):=by rw[hF];simp only[hm,xbf]
     have hr:=wres_get n l wn k (b++[(i:Int)])
     simp only[hm,xal,xao,xab,hfin i hm hi,xaa,hr,hFi]
     unfold wres
     cases extO n.toNat (anyC n l) wn k (b++[(i:Int)])with
     |none=>simp only[Option.isSome_none,xac,xaw,xbf]
     |some o=>simp only[Option.isSome_some,xab,if_true,xjq]
   ·have:¬((n.toNat:Int)<n):=by omega
    simp only[this,xal,xac]
   ·unfold wres
    rw[hx,firstS_at hi hp hj]
    cases hq:F (i:Int)with
    |none=>rw[hq]at hp;cases hp
    |some o=>rfl
   ·unfold wres
    rw[hx,firstS_no hall]
    simp only[c0,xbf]
def d40_eq{n wn:Int}{l:List Asn}(hl:LOK l):d40 n wn l=some (if badW n wn l then([],false)else match witA n l wn with | none=>([],false) | some o=>(o,true)):=by
 unfold d40 letJ
 by_cases c1:n<1
 ·rw[if_pos (show badW n wn l by unfold badW;omega)]
  simp only[c1,xah,xaq,xac,xab]
 by_cases c2:7<n
 ·rw[if_pos (show badW n wn l by unfold badW;omega)]
  simp only[c1,c2,xah,xal,xaq,xao,xac,xab]
 by_cases c3:wn<0
 ·rw[if_pos (show badW n wn l by unfold badW;omega)]
  simp only[c1,c2,c3,xah,xal,xaq,xao,xac,xab]
 by_cases c4:n≤wn
 ·rw[if_pos (show badW n wn l by unfold badW;omega)]
  simp only[c1,c2,c3,c4,xah,xal,xaq,xao,xac,xab]
 by_cases c5:(1400:Int)<(l.length:Int)
 ·rw[if_pos (show badW n wn l by unfold badW;omega)]
  simp only[c1,c2,c3,c4,c5,xah,xal,xaq,xao,xac,xab]
 rw[if_neg (show ¬badW n wn l by unfold badW;omega)]
 simp only[c1,c2,c3,c4,c5,xah,xal,xaq,xao,xac,xab]
 have e:d75 n wn [] l=some (wres n l wn 10 []):=d75N_eq (by omega) (by omega) hl 10 [] ⟨by simp,by simp⟩ (by simp;omega)
 rw[e,xaa]
 unfold wres witA
 rw[ext_wit' (by omega) (anyC n l) wn (by omega)]
 have:¬([]:List Int).length=n.toNat:=by simp;omega
 cases witP n.toNat (anyC n l) wn with
 |none=>simp only[this,xbf]
 |some o=>rfl
def d37_eq{n:Nat}(hn:n≤100000):d37 (n:Int)=some (idL n):=by
 unfold d37
 refine zaa (b:=idL n) (fun i=>((n:Int),idL i,(i:Int))) n rfl (fun i hi=>?_) ?_ rfl
 ·have e1:(i:Int)<(n:Int):=by omega
  have e2:w ((i:Int)+1)=((i+1:Nat):Int):=by rw[w_id (by omega) (by omega)];omega
  simp only[e1,e2,xah,xab,zdu (idL i) (i:Int) (by rw[zlk];omega),zku]
 ·have:¬((n:Int)<(n:Int)):=by omega
  simp only[this,xal,xac]
def d73_id{n:Nat}(hn:n≤7):d73 (n:Int) (idL n)=some true:=by
 rw[d73_eq _ (by rw[zlk];omega)]
 have:=idL_isB n
 simp only[zlk,this,xah,xai]
def d36_ok(c:Con){gs:List Grp}(hg:GsOK gs):∃r:Int,d36 c.2.2.1 c gs (idL c.2.1.length)=some r∧decide (r=0)=(fitB c&&pileB (c.2.1.length:Int) gs):=by
 refine bind_decide ?_
 obtain⟨nm,cs,m,s,x1,dg,ti,x2,x3⟩:=c
 have g0:decide (m=m)=true:=by simp
 by_cases c1:m<1
 ·have c1':¬1≤m:=by omega
  simp only[d36,letJ,fitB,c1,c1',g0,xah,xal,xaq,xao,xac,xab,xbe,xdo,xax,xdn,xer,xaa,show ¬(5:Int)=0 by omega,show ¬(4:Int)=0 by omega]
 have c1':1≤m:=by omega
 by_cases c2:3<m
 ·have c2':¬m≤3:=by omega
  simp only[d36,letJ,fitB,c1,c1',c2,c2',g0,xah,xal,xaq,xao,xac,xab,xbe,xdo,xax,xdn,xer,xaa,show ¬(5:Int)=0 by omega,show ¬(4:Int)=0 by omega]
 have c2':m≤3:=by omega
 by_cases c3:cs.length<1
 ·have c3':¬1≤cs.length:=by omega
  have c3'':(cs.length:Int)<1:=by omega
  simp only[d36,letJ,fitB,c1,c1',c2,c2',c3',c3'',g0,xah,xal,xaq,xao,xac,xab,xbe,xdo,xax,xdn,xer,xaa,show ¬(5:Int)=0 by omega,show ¬(4:Int)=0 by omega]
 have c3':1≤cs.length:=by omega
 have c3'':¬(cs.length:Int)<1:=by omega
 by_cases c4:7<cs.length
 ·have c4':¬cs.length≤7:=by omega
  have c4'':(7:Int)<(cs.length:Int):=by omega
  simp only[d36,letJ,fitB,c1,c1',c2,c2',c3',c3'',c4',c4'',g0,xah,xal,xaq,xao,xac,xab,xbe,xdo,xax,xdn,xer,xaa,show ¬(5:Int)=0 by omega,show ¬(4:Int)=0 by omega]
 have c4':cs.length≤7:=by omega
 have c4'':¬(7:Int)<(cs.length:Int):=by omega
 by_cases c5:s<1
 ·have c5':¬1≤s:=by omega
  simp only[d36,letJ,fitB,c1,c1',c2,c2',c3',c3'',c4',c4'',c5,c5',g0,xah,xal,xaq,xao,xac,xab,xbe,xdo,xax,xdn,xer,xaa,show ¬(5:Int)=0 by omega,show ¬(4:Int)=0 by omega]
 have c5':1≤s:=by omega
 by_cases c6:5<s
 ·have c6':¬s≤5:=by omega
  simp only[d36,letJ,fitB,c1,c1',c2,c2',c3',c3'',c4',c4'',c5,c5',c6,c6',g0,xah,xal,xaq,xao,xac,xab,xbe,xdo,xax,xdn,xer,xaa,show ¬(5:Int)=0 by omega,show ¬(4:Int)=0 by omega]
 have c6':s≤5:=by omega
 have h54:=d72_eq (n:=(cs.length:Int)) hg
 have h55:=d73_id c4'
 have ht1:decide (1≤ti)=!decide (ti<1):=by rw[←decide_not];exact xbv.2 (by omega)
 have ht2:decide (ti≤3)=!decide (3<ti):=by rw[←decide_not];exact xbv.2 (by omega)
 simp only[d36,letJ,fitB,c1,c1',c2,c2',c3',c3'',c4',c4'',c5,c5',c6,c6',h54,h55,ht1,ht2,g0,xah,xal,xaq,xao,xac,xab,xbe,xdo,xax,xdn,xer,xaa,show ¬(5:Int)=0 by omega,show ¬(4:Int)=0 by omega]
 generalize decide (m=2)=b1
 generalize decide (1≤dg)=b2
 generalize decide (dg≤6)=b3
 generalize decide (dg=0)=b4
 generalize decide (m=1)=b5
 generalize decide (s=1)=b6
 generalize decide (ti<1)=b7
 generalize decide (3<ti)=b8
 generalize pileB (cs.length:Int) gs=b9
 revert b1 b2 b3 b4 b5 b6 b7 b8 b9
 decide +kernel
def pileB_nil{n:Int}(h1:1≤n)(h2:n≤7):pileB n []=true:=by
 unfold pileB goodP
 simp[h1,h2]
def gsOK_nil:GsOK []:=⟨by simp,by simp⟩
def d14_eq{c:Con}{ws:List Int}{l:List Asn}(hc:c.2.1.length≤100000)(hws:ws.length≤281474976710656)(hl:LOK l):d14 c ws l=some (sufB c ws l):=by
 unfold d14 letJ
 simp only
 rw[d37_eq hc]
 obtain⟨r,hr1,hr2⟩:=d36_ok c gsOK_nil
 simp only[xaa,Bool.not_not,hr1,hr2,zsu (c.2.1.length:Int) hws]
 unfold sufB
 cases hf:fitB c
 ·simp
 obtain⟨f1,f2,f3,f4,f5,f6,f7⟩:=fit_n hf
 rw[pileB_nil (n:=(c.2.1.length:Int)) (by omega) (by omega)]
 simp only[xai,xab,xax]
 rcases(xig (isB (c.2.1.length:Int) ws)).symm with hB|hB
 ·simp[hB]
 simp only[hB,xah,xab,xdn]
 rcases(xig (l.length≤1400)).symm with h1|h1
 ·have h1':(1400:Int)<(l.length:Int):=by omega
  simp only[h1,h1',xah,xal,xab,xbe]
 have h1':¬(1400:Int)<(l.length:Int):=by omega
 simp only[h1,h1',xah,xal,xac,xax]
 obtain⟨nm,cs,m,s,x1,dg,ti,x2,x3⟩:=c
 simp only at f1 f2 f3 f4 f5 f6 f7 hB ⊢
 obtain⟨n,hn⟩:∃n:Int,(cs.length:Int)=n:=⟨_,rfl⟩
 have hcn:∀k:Nat,(k=cs.length)↔((k:Int)=n):=fun k=>by omega
 rw[hn]at hB
 simp only[hn,hcn]
 have hn1:1≤n:=by omega
 have hn7:n≤7:=by omega
 clear hcn hf f1 f2 hc hr1 hr2
 have hwl:=zfe hB hn7
 refine zaw (fun i=>(ws,l,(nm,cs,m,s,x1,dg,ti,x2,x3),n,(i:Int))) (fun i=>!zar n (l.getD i (0,0,0,[],0))) l.length (fun _=>.inr false) (.inl (ws,l,(nm,cs,m,s,x1,dg,ti,x2,x3),n)) rfl (fun i hi=>?_) ?_ (fun i hi hp hj=>?_) (fun hall2=>?_)
 ·have h2:(i:Int)<(l.length:Int):=by omega
  have h3:(0:Int)≤(i:Int):=by omega
  have hw:w ((i:Int)+1)=((i+1:Nat):Int):=by rw[w_id (by omega) (by omega)];omega
  have hm:l.getD i (0,0,0,[],0)∈l:=by rw[zag _ _ hi];exact xbc _
  have hlm:=hl.2 _ hm
  simp only[h2,h3,xah,xab,xai,xaf,hw,d39_eq n (a:=l.getD i (0,0,0,[],0)) (by omega),xaa]
  cases zar n (l.getD i (0,0,0,[],0))
  ·simp only[xao,xab,if_true]
  ·simp only[xaq,xac,xaw,xbf]
 ·have:¬((l.length:Int)<(l.length:Int)):=by omega
  simp only[this,xal,xac]
 ·rw[zkj hi (by simpa using hp)]
  simp only[xbe]
 have hV:(l.all fun a=>zar n a)=true:=zne fun i hi=>by simpa using hall2 i hi
 simp only[hV,xax]
 by_cases c1:n≤s
 ·simp only[c1,xah,xab,if_true]
 simp only[c1,xal,xac,xbf]
 rcases(xig ((ws.length:Int)=s)).symm with c2|c2
 ·simp only[c2,xal,xao,xab,xbe]
 have hpos:(0:Int)<(ws.length:Int):=by omega
 simp only[c2,xah,xaq,xac,xax]
 by_cases c3:m=1
 ·have hs0:(0:Int)<s:=by omega
  have hz:(0:Int)≤0:=by omega
  simp only[c3,hs0,xah,xab,if_true,xai,hz]
  have hw0:=hB.2 (ws.getD 0 0) (by rw[zag _ _ (by omega)];exact xbc _)
  rw[d40_eq hl,if_neg (show ¬badW n (ws.getD 0 0) l by unfold badW;omega)]
  cases witA n l (ws.getD 0 0)<;>rfl
 ·simp only[c3,xal,xac,xbf]
  have hsw:w (s+1)=s+1:=w_id (by omega) (by omega)
  refine zaw (fun i=>(ws,l,(nm,cs,m,s,x1,dg,ti,x2,x3),(i:Int))) (fun i=>!(l.any fun a=>decide (a=(3,ws.getD i 0,0,[],s+1)))) ws.length (fun _=>.inr false) (.inl ()) rfl (fun i hi=>?_) ?_ (fun i hi hp hj=>?_) (fun hall3=>?_)
  ·have h2:(i:Int)<s:=by omega
   have h2':(i:Int)<(ws.length:Int):=by omega
   have h3:(0:Int)≤(i:Int):=by omega
   have hw:w ((i:Int)+1)=((i+1:Nat):Int):=by rw[w_id (by omega) (by omega)];omega
   simp only[c2,h2,xah,xab]
   refine zaa (b:=(ws,l,(nm,cs,m,s,x1,dg,ti,x2,x3),(i:Int),l.any fun a=>decide (a=(3,ws.getD i 0,0,[],s+1)))) (fun k=>(ws,l,(nm,cs,m,s,x1,dg,ti,x2,x3),(i:Int),(l.take k).any fun a=>decide (a=(3,ws.getD i 0,0,[],s+1)),(k:Int))) l.length rfl (fun k hk=>?_) ?_ ?_
   ·have k1:(k:Int)<(l.length:Int):=by omega
    have k2:(0:Int)≤(k:Int):=by omega
    have kw:w ((k:Int)+1)=((k+1:Nat):Int):=by rw[w_id (by have:=hl.1;omega) (by have:=hl.1;omega)];omega
    have hm:l.getD k (0,0,0,[],0)∈l:=by rw[zag _ _ hk];exact xbc _
    have e39:=d41_eq (a:=l.getD k (0,0,0,[],0)) (b:=(3,ws.getD i 0,0,[],s+1)) (by have:=hl.2 _ hm;omega) (by simp)
    have ht:(l.take (k+1)).any (fun a=>decide (a=(3,ws.getD i 0,0,[],s+1)))=((l.take k).any (fun a=>decide (a=(3,ws.getD i 0,0,[],s+1)))||decide (l.getD k (0,0,0,[],0)=(3,ws.getD i 0,0,[],s+1))):=by
     rw[zdx l (0,0,0,[],0) hk,List.any_append]
     simp only[List.any_cons,List.any_nil,xcx]
    simp only[c2,k1,k2,kw,h2,h3,xah,xab,xai,xaf,hsw,ht]
    cases(l.take k).any (fun a=>decide (a=(3,ws.getD i 0,0,[],s+1)))
    ·simp only[xao,xab,e39,xaa,cmpA_zero,xbp]
    ·simp only[xaq,xac,xcw]
   ·have:¬((l.length:Int)<(l.length:Int)):=by omega
    simp only[this,xal,xac,xbh]
   ·simp only[hw]
    cases(l.any fun a=>decide (a=(3,ws.getD i 0,0,[],s+1)))
    ·simp only[xao,xab,if_true]
    ·simp only[xaq,xac,xaw,xbf]
  ·have:¬((ws.length:Int)<(ws.length:Int)):=by omega
   simp only[this,xal,xac]
  ·rw[zkj (g:=fun x=>l.any fun a=>decide (a=(3,x,0,[],s+1))) hi (by simpa using hp)]
  ·rw[zne (g:=fun x=>l.any fun a=>decide (a=(3,x,0,[],s+1))) (z:=0) fun i hi=>by simpa using hall3 i hi]
def zA:Asn:=(0,0,0,[],0)
def zth(l:List Int)(i:Nat):List Int:=(idL i).filter fun x=>decide (x∈l)
def risL(l:List Int):List Int:=zth l 7
def risTo_succ(l:List Int)(i:Nat):zth l (i+1)=if(i:Int)∈l then zth l i++[(i:Int)]else zth l i:=by
 unfold zth
 rw[zku,xfe]
 by_cases h:(i:Int)∈l<;>simp[List.filter,h]
def risTo_len(l:List Int)(i:Nat):(zth l i).length≤i:=by
 have:=xfn (fun x=>decide (x∈l)) (idL i)
 rw[zlk]at this
 exact this
def zvr{l:List Int}{x:Int}:x∈risL l↔(0≤x∧x<7)∧x∈l:=by
 unfold risL zth
 rw[xfy,xam]
 have:x∈idL 7↔0≤x∧x<7:=by
  have:=zdc (n:=7) (c:=x)
  simpa[zbt,idL]using this
 rw[this]
def idL_lt(n:Nat):(idL n).Pairwise (·< ·):=xjh.2 (List.pairwise_lt_range.imp fun h=>by omega)
def risL_lt(l:List Int):(risL l).Pairwise (·< ·):=by unfold risL zth;exact(idL_lt 7).filter _
def d174_eq{l:List Int}(hl:l.length≤281474976710656):d174 l=some (risL l):=by
 unfold d174
 refine zaa (b:=risL l) (fun i=>(l,zth l i,(i:Int))) 7 rfl (fun i hi=>?_) ?_ rfl
 ·have e1:(i:Int)<7:=by omega
  have e2:w ((i:Int)+1)=((i+1:Nat):Int):=by rw[w_id (by omega) (by omega)];omega
  have hlen:=risTo_len l i
  simp only[e1,e2,xah,xab,letJ,zke (l:=l) (i:Int) hl,xaa,risTo_succ]
  by_cases h:(i:Int)∈l
  ·simp only[h,xah,xab,if_true,zdu (zth l i) (i:Int) (by omega)]
  ·simp only[h,xal,xac,xbf]
 ·simp only[show ¬(((7:Nat):Int)<7) by omega,xal,xac]
  rfl
def mrg(n:Int)(gs:List Grp)(a:Asn):Int:=(tal n gs a).1-(tal n gs a).2
def d26_eq{n:Int}{gs:List Grp}(h:GsOK gs){a:Asn}(hl:a.2.2.2.1.length≤1000):d26 n gs a=some (mrg n gs a):=by
 unfold d26
 rw[d61_eq h hl]
 have:=tal_bounds n gs a
 simp only[xaa,w_id (show -9223372036854775808≤(tal n gs a).1-(tal n gs a).2 by omega) (by omega)]
 rfl
def ownA(tail:List Int)(x:Int):Asn:=if x∈tail then(2,tail.getD 0 0,x,risL tail,0)else(1,x,tail.getD 0 0,[],0)
def ownA_len(tail:List Int)(x:Int):(ownA tail x).2.2.2.1.length≤7:=by
 unfold ownA
 split
 ·exact risTo_len tail 7
 ·simp
def zwx(st:Asn×(Int×Bool))(a:Asn)(m:Int):Bool:=!st.2.2||(decide (st.2.1<m)||(decide (m=st.2.1)&&decide (cmpA a st.1<0)))
def zju(n:Int)(gs:List Grp)(tail:List Int)(st:Asn×(Int×Bool))(x:Int):Asn×(Int×Bool):=
 if x=tail.getD 0 0 then st else if zwx st (ownA tail x) (mrg n gs (ownA tail x))then(ownA tail x,mrg n gs (ownA tail x),true)else st
def zli(n:Int)(gs:List Grp)(tail:List Int)(i:Nat):Asn×(Int×Bool):=(idL i).foldl (zju n gs tail) (zA,0,false)
def znw(n:Int)(gs:List Grp)(tail:List Int)(i:Nat):zli n gs tail (i+1)=zju n gs tail (zli n gs tail i) (i:Int):=by
 unfold zli
 rw[zku,xec]
 rfl
def zrs(n:Int)(gs:List Grp)(tail:List Int):∀i,(zli n gs tail i).1.2.2.2.1.length≤7
 | 0=>by simp[zli,idL,zA]
 |i+1=>by
  rw[znw]
  unfold zju
  split
  ·exact zrs n gs tail i
  ·split
   ·exact ownA_len tail i
   ·exact zrs n gs tail i
def ownP(n:Nat)(gs:List Grp)(tail:List Int):Asn×(Int×Bool):=zli (n:Int) gs tail n
def d154_eq{n:Nat}{gs:List Grp}(h:GsOK gs)(hn:n≤7){tail:List Int}(ht:0<tail.length)(htl:tail.length≤1000):d154 (n:Int) gs tail=some ((ownP n gs tail).1,(ownP n gs tail).2.1):=by
 unfold d154
 have t0:(0:Int)<(tail.length:Int):=by omega
 have z0:(0:Int)≤0:=by omega
 refine zaa (b:=(zA,(ownP n gs tail).1,(ownP n gs tail).2.1)) (fun i=>((n:Int),gs,tail,zA,(zli (n:Int) gs tail i).1,(zli (n:Int) gs tail i).2.1,(zli (n:Int) gs tail i).2.2,(i:Int))) n rfl (fun i hi=>?_) ?_ rfl
 ·have e1:(i:Int)<(n:Int):=by omega
  have e2:w ((i:Int)+1)=((i+1:Nat):Int):=by rw[w_id (by omega) (by omega)];omega
  have hol:=zrs (n:Int) gs tail i
  have hal:=ownA_len tail (i:Int)
  rw[znw]
  obtain⟨⟨A,M,B⟩,hst⟩:∃st,zli (n:Int) gs tail i=st:=⟨_,rfl⟩
  rw[hst]at hol ⊢
  simp only at hol
  have hA:((bif decide ((i:Int)∈tail)then(2,tail.getD 0 0,(i:Int),risL tail,0)else(1,(i:Int),tail.getD 0 0,[],0)):Asn)=ownA tail (i:Int):=by
   unfold ownA
   by_cases hm:(i:Int)∈tail<;>simp only[hm,xah,xal,xab,xac,if_true,xbf]
  have e42:=d26_eq (n:=(n:Int)) h (a:=ownA tail (i:Int)) (by omega)
  have e39:=d41_eq (a:=ownA tail (i:Int)) (b:=A) (by omega) (by omega)
  simp only[e1,e2,t0,z0,xah,xab,xai,letJ,zke (l:=tail) (i:Int) (by omega),xaa]
  have hmain:∀a:Asn,a=ownA tail (i:Int)→(bif decide ((i:Int)=tail.getD 0 0)then(some (Sum.inl ((n:Int),gs,tail,zA,A,M,B,((i+1:Nat):Int))):Option ((Int×(List Grp×(List Int×(Asn×(Asn×(Int×(Bool×Int)))))))⊕(Asn×(Asn×Int))))else
    (d26 (n:Int) gs a).bind fun r_2=>bif !(!B)then bif !(decide (M<r_2))then bif (decide (r_2=M))then(d41 a A).bind fun r_3=>bif decide (r_3<0)then some (Sum.inl ((n:Int),gs,tail,zA,a,r_2,true,((i+1:Nat):Int)))else some (Sum.inl ((n:Int),gs,tail,zA,A,M,B,((i+1:Nat):Int)))else(some (Sum.inl ((n:Int),gs,tail,zA,A,M,B,((i+1:Nat):Int))))else some (Sum.inl ((n:Int),gs,tail,zA,a,r_2,true,((i+1:Nat):Int)))else some (Sum.inl ((n:Int),gs,tail,zA,a,r_2,true,((i+1:Nat):Int)))) =
    some (Sum.inl ((n:Int),gs,tail,zA,(zju (n:Int) gs tail (A,M,B) (i:Int)).1,(zju (n:Int) gs tail (A,M,B) (i:Int)).2.1,(zju (n:Int) gs tail (A,M,B) (i:Int)).2.2,((i+1:Nat):Int))):=by
   rintro a rfl
   unfold zju
   by_cases c1:(i:Int)=tail.getD 0 0
   ·simp only[c1,xah,xab,if_true]
   ·simp only[c1,xal,xac,xbf,e42,xaa]
    unfold zwx
    generalize mrg (n:Int) gs (ownA tail (i:Int))=m
    cases B
    ·simp only[xao,xaq,xac,xcw,if_true]
    ·by_cases c2:M<m
     ·simp only[xaq,xao,xab,c2,xah,xac,xbp,xcw,if_true]
     ·by_cases c3:m=M
      ·simp only[xaq,xao,xab,c2,c3,xah,xal,xac,xbp,xax,e39,xaa,show ¬M<M by omega]
       by_cases c4:cmpA (ownA tail (i:Int)) A<0
       ·simp only[c4,xah,xab,if_true]
       ·simp only[c4,xal,xac,xaw,xbf]
      ·simp only[xaq,xao,xab,c2,c3,xal,xac,xbp,xbe,xaw,xbf]
  by_cases hm:(i:Int)∈tail
  ·simp only[hm,xah,xab,d174_eq (l:=tail) (by omega),xaa]
   have:=hmain (2,tail.getD 0 0,(i:Int),risL tail,0) (by rw[←hA];simp only[hm,xah,xab])
   exact this
  ·simp only[hm,xal,xac]
   have:=hmain (1,(i:Int),tail.getD 0 0,[],0) (by rw[←hA];simp only[hm,xal,xac])
   exact this
 ·have:¬((n:Int)<(n:Int)):=by omega
  simp only[this,xal,xac]
  rfl
abbrev VSt:=Int×(Bool×List Asn)
def zqo(f:List Int→Int×List Asn)(tail:List Int)(st:VSt)(c:Int):VSt:=
 if c∈tail then st else(if !st.2.1||decide ((f (c::tail)).1<st.1)then((f (c::tail)).1,true,st.2.2++(f (c::tail)).2)else(st.1,st.2.1,st.2.2++(f (c::tail)).2))
def zgb(f:List Int→Int×List Asn)(tail:List Int)(i:Nat):VSt:=(idL i).foldl (zqo f tail) (0,false,[])
def znj(f:List Int→Int×List Asn)(tail:List Int)(i:Nat):zgb f tail (i+1)=zqo f tail (zgb f tail i) (i:Int):=by
 unfold zgb
 rw[zku,xec]
 rfl
def valP(n:Nat)(gs:List Grp):Nat→List Int→Int×List Asn
 | 0,_=>(0,[])
 |k+1,tail=>
  if tail.length=n then((ownP n gs tail).2.1,[(ownP n gs tail).1])
  else if(zgb (valP n gs k) tail n).1≤(ownP n gs tail).2.1 then((ownP n gs tail).2.1,[(ownP n gs tail).1])
  else((zgb (valP n gs k) tail n).1,(zgb (valP n gs k) tail n).2.2)
def zqp(n:Nat)(gs:List Grp)(k:Nat)(tail:List Int):valP n gs (k+1) tail=if tail.length=n then((ownP n gs tail).2.1,[(ownP n gs tail).1])
  else if(zgb (valP n gs k) tail n).1≤(ownP n gs tail).2.1 then((ownP n gs tail).2.1,[(ownP n gs tail).1])
  else((zgb (valP n gs k) tail n).1,(zgb (valP n gs k) tail n).2.2):=rfl
def zqn{f:List Int→Int×List Asn}{tail:List Int}{B:Nat}:∀i,(∀j:Nat,j<i→(j:Int)∉tail→(f ((j:Int)::tail)).2.length≤B)→(zgb f tail i).2.2.length≤i*B
 | 0,_=>by simp[zgb,idL]
 |i+1,h=>by
  have ih:=zqn i fun j hj=>h j (by omega)
  rw[znj,xgn]
  unfold zqo
  by_cases c:(i:Int)∈tail
  ·rw[if_pos c];omega
  ·rw[if_neg c]
   have:=h i (by omega) c
   split<;>(simp only[xbk];omega)
def valTo_all{f:List Int→Int×List Asn}{tail:List Int}{P:Asn→Prop}:∀i,(∀j:Nat,j<i→(j:Int)∉tail→∀a∈(f ((j:Int)::tail)).2,P a)→∀a∈(zgb f tail i).2.2,P a
 | 0,_=>by simp[zgb,idL]
 |i+1,h=>by
  have ih:=valTo_all i fun j hj=>h j (by omega)
  rw[znj]
  unfold zqo
  by_cases c:(i:Int)∈tail
  ·rw[if_pos c];exact ih
  ·rw[if_neg c]
   have:=h i (by omega) c
   intro a ha
   split at ha<;>(rcases xbq.1 ha with ha|ha;exact ih a ha;exact this a ha)
def zmm{n:Nat}{j:Nat}{tail:List Int}(h:isB n tail)(hj:j<n)(hm:(j:Int)∉tail):isB n ((j:Int)::tail):=⟨xdx.2 ⟨hm,h.1⟩,fun x hx=>by
 rcases xbd.1 hx with rfl|hx
 ·omega
 ·exact h.2 x hx⟩
def zlx{n:Nat}(hn:n≤7)(gs:List Grp):∀(k:Nat) (tail:List Int),isB n tail→(valP n gs k tail).2.length≤7^(n-tail.length)
 | 0,tail,_=>by simp[valP]
 |k+1,tail,ht=>by
  have h1:1≤7^(n-tail.length):=xgf (by omega)
  have htl:=zby n tail ht.1 ht.2
  rw[zqp]
  split
  ·simpa using h1
  ·split
   ·simpa using h1
   ·rename_i c1 c2
    have hp:7^(n-tail.length)=7*7^(n-tail.length-1):=by
     rw[show n-tail.length=(n-tail.length-1)+1 by omega,xch,xby];rfl
    have:=zqn (f:=valP n gs k) (tail:=tail) (B:=7^(n-tail.length-1)) n (fun j hj hm=>by
     have:=zlx hn gs k ((j:Int)::tail) (zmm ht hj hm)
     rw[xaz,show n-(tail.length+1)=n-tail.length-1 by omega]at this
     exact this)
    have h7:=xav (7^(n-tail.length-1)) hn
    show(zgb (valP n gs k) tail n).2.2.length≤_
    omega
def pow7{n k:Nat}(hn:n≤7):7^(n-k)≤823543:=xbb (xck (by omega) (show n-k≤7 by omega)) (by decide)
def d155_eq{x:Int}{l:List Int}(hl:l.length≤1000000):d155 x l=some (x::l):=by
 unfold d155
 have:((([x]:List Int).length:Int)+(l.length:Int)≤LIM):=by rw[zbv];simp;omega
 simp only[this,xah,xab]
 rfl
def zwe{α:Type}(l m:List α)(h:l.length≤6000000)(h':m.length≤1000000):((l.length:Int)+(m.length:Int)≤LIM):=by rw[zbv];omega
def d116N_eq{n:Nat}{gs:List Grp}(h:GsOK gs)(hn:n≤7):∀(k:Nat) (tail:List Int),isB n tail→0<tail.length→n<k+tail.length→d116N k (n:Int) gs tail=some (valP n gs k tail)
 | 0,tail,ht,_,hk=>by
  have:=zby n tail ht.1 ht.2
  omega
 |k+1,tail,ht,h0,hk=>by
  have htl:=zby n tail ht.1 ht.2
  show d116F (d116N k) (n:Int) gs tail=_
  unfold d116F
  rw[d154_eq h hn h0 (by omega),zqp]
  simp only[xaa]
  by_cases c0:tail.length=n
  ·have c0':(tail.length:Int)=(n:Int):=by omega
   simp only[c0,c0',xah,xab,if_true]
  ·have c0':¬(tail.length:Int)=(n:Int):=by omega
   simp only[c0,c0',xal,xac,xbf]
   generalize ownP n gs tail=o
   obtain⟨f,hf⟩:∃f,valP n gs k=f:=⟨_,rfl⟩
   have hfl:∀i,i≤n→(zgb f tail i).2.2.length≤5764801:=fun i hi=>by
    have:=zqn (f:=f) (tail:=tail) (B:=823543) i (fun j hj hm=>by rw[←hf];exact xbb (zlx hn gs k _ (zmm ht (by omega) hm)) (pow7 hn))
    have h7:i≤7:=by omega
    omega
   rw[hf]
   refine zaa (b:=(o.1,o.2.1,(zgb f tail n).1,(zgb f tail n).2.2)) (fun i=>((n:Int),gs,tail,o.1,o.2.1,(zgb f tail i).1,(zgb f tail i).2.1,(zgb f tail i).2.2,(i:Int))) n rfl (fun i hi=>?_) ?_ ?_
   ·have e1:(i:Int)<(n:Int):=by omega
    have e2:w ((i:Int)+1)=((i+1:Nat):Int):=by rw[w_id (by omega) (by omega)];omega
    rw[znj]
    have hlen:=hfl i (by omega)
    simp only[e1,e2,xah,xab,letJ,zke (l:=tail) (i:Int) (by omega),xaa]
    unfold zqo
    by_cases hm:(i:Int)∈tail
    ·simp only[hm,xah,xab,if_true]
    ·have hrec:d116N k (n:Int) gs ((i:Int)::tail)=some (f ((i:Int)::tail)):=by
      rw[←hf]
      exact d116N_eq h hn k ((i:Int)::tail) (zmm ht hi hm) (by simp) (by simp;omega)
     have hvl:(f ((i:Int)::tail)).2.length≤1000000:=by
      rw[←hf]
      exact xbb (xbb (zlx hn gs k _ (zmm ht hi hm)) (pow7 hn)) (by omega)
     simp only[hm,xal,xac,xbf,d155_eq (x:=(i:Int)) (l:=tail) (by omega),xaa,hrec,zwe _ _ (show(zgb f tail i).2.2.length≤6000000 by omega) hvl,xah,xab]
     cases(zgb f tail i).2.1
     ·simp only[xao,xaq,xac,xab,xcw,if_true]
     ·simp only[xaq,xao,xab,xbp]
      by_cases c2:(f ((i:Int)::tail)).1<(zgb f tail i).1
      ·simp only[c2,xah,xab,if_true]
      ·simp only[c2,xal,xac,xaw,xbf]
   ·have:¬((n:Int)<(n:Int)):=by omega
    simp only[this,xal,xac]
   ·simp only
    by_cases c2:(zgb f tail n).1≤o.2.1
    ·simp only[c2,xah,xab,if_true]
    ·simp only[c2,xal,xac,xbf]
def d116_eq{n:Nat}{gs:List Grp}(h:GsOK gs)(hn:n≤7){tail:List Int}(ht:isB n tail)(h0:0<tail.length):d116 (n:Int) gs tail=some (valP n gs 10 tail):=d116N_eq h hn 10 tail ht h0 (by omega)
def zrf(n:Nat)(gs:List Grp)(wn:Int)(st:Int×List Asn)(x:Int):Int×List Asn:=
 if x=wn then st else((if(valP n gs 10 [x]).1<st.1 then(valP n gs 10 [x]).1 else st.1),st.2++(valP n gs 10 [x]).2)
def zjo(n:Nat)(gs:List Grp)(wn:Int)(i:Nat):Int×List Asn:=(idL i).foldl (zrf n gs wn) (100000,[])
def znt(n:Nat)(gs:List Grp)(wn:Int)(i:Nat):zjo n gs wn (i+1)=zrf n gs wn (zjo n gs wn i) (i:Int):=by
 unfold zjo
 rw[zku,xec]
 rfl
def zwj{n i:Nat}(hi:i<n):isB n [(i:Int)]:=⟨by simp,fun x hx=>by rw[xbn.1 hx];omega⟩
def zre{n:Nat}(hn:n≤7)(gs:List Grp)(wn:Int):∀i,i≤n→(zjo n gs wn i).2.length≤i*823543
 | 0,_=>by simp[zjo,idL]
 |i+1,hi=>by
  have ih:=zre hn gs wn i (by omega)
  have:=xbb (zlx hn gs 10 [(i:Int)] (zwj (by omega))) (pow7 hn)
  rw[znt,xgn]
  unfold zrf
  split
  ·exact xbb ih (Nat.le_add_right _ _)
  ·simp only[xbk];exact Nat.add_le_add ih this
def setP(n:Nat)(gs:List Grp)(wn:Int):Int×List Asn:=
 if pileB (n:Int) gs=true∧0≤wn∧wn<(n:Int)then((if(zjo n gs wn n).1<0 then 0 else(zjo n gs wn n).1),(zjo n gs wn n).2)else(0,[])
def d62_eq{n:Nat}{gs:List Grp}(h:GsOK gs)(wn:Int):d62 (n:Int) gs wn=some (setP n gs wn):=by
 unfold d62 setP letJ
 rw[d72_eq h]
 simp only[xaa]
 cases hp:pileB (n:Int) gs
 ·simp only[xao,xaq,xac,xab,xaw,xjg,xbf]
 obtain⟨p1,p2,_⟩:=zpv hp
 have hn:n≤7:=by omega
 by_cases c1:wn<0
 ·have:¬(0≤wn):=by omega
  simp only[xao,xaq,xac,xab,c1,this,xah,xjg,and_false,xbf]
 by_cases c2:(n:Int)≤wn
 ·have:¬(wn<(n:Int)):=by omega
  simp only[xao,xaq,xac,xab,c1,c2,this,xah,xal,xjg,and_false,xbf]
 have c1':0≤wn:=by omega
 have c2':wn<(n:Int):=by omega
 simp only[xao,xaq,xac,xab,c1,c2,c1',c2',xah,xal,and_self,if_true]
 refine zaa (b:=zjo n gs wn n) (fun i=>((n:Int),gs,wn,(zjo n gs wn i).1,(zjo n gs wn i).2,(i:Int))) n rfl (fun i hi=>?_) ?_ ?_
 ·have e1:(i:Int)<(n:Int):=by omega
  have e2:w ((i:Int)+1)=((i+1:Nat):Int):=by rw[w_id (by omega) (by omega)];omega
  have hlen:=zre hn gs wn i (by omega)
  have hl7:i≤7:=by omega
  have hvl:=xbb (zlx hn gs 10 [(i:Int)] (zwj hi)) (pow7 hn)
  rw[znt]
  unfold zrf
  simp only[e1,e2,xah,xab]
  by_cases c3:(i:Int)=wn
  ·simp only[c3,xah,xaq,xac,if_true]
  ·simp only[c3,xal,xao,xab,xbf,d116_eq h hn (zwj hi) (by simp),xaa,zwe _ _ (show(zjo n gs wn i).2.length≤6000000 by omega) (show(valP n gs 10 [(i:Int)]).2.length≤1000000 by omega),xah]
   by_cases c4:(valP n gs 10 [(i:Int)]).1<(zjo n gs wn i).1
   ·simp only[c4,xah,xab,if_true]
   ·simp only[c4,xal,xac,xbf]
 ·have:¬((n:Int)<(n:Int)):=by omega
  simp only[this,xal,xac]
 ·by_cases c4:(zjo n gs wn n).1<0
  ·simp only[c4,xah,xab,if_true]
  ·simp only[c4,xal,xac,xbf]
def firstN_is{p:Nat→Bool}{n i:Nat}(hi:i<n)(hp:p i=true)(hj:∀j,j<i→p j=false):zbr p n=i:=by
 rcases Nat.lt_trichotomy (zbr p n) i with h|h|h
 ·have:=zeh p n (by omega)
  rw[hj _ h]at this;cases this
 ·exact h
 ·have:=zcv p n i h
  rw[hp]at this;cases this
def firstN_no{p:Nat→Bool}{n:Nat}(h:∀j,j<n→p j=false):zbr p n=n:=by
 have:=zdw p n
 by_cases c:zbr p n<n
 ·have h2:=zeh p n c
  rw[h _ c]at h2;cases h2
 ·omega
def insAt(out:List Asn)(a:Asn):Nat:=zbr (fun k=>!decide (cmpA (out.getD k zA) a<0)) out.length
def insA(out:List Asn)(a:Asn):List Asn:=if insAt out a<out.length∧cmpA (out.getD (insAt out a) zA) a=0 then out else(out.take (insAt out a)++[a])++out.drop (insAt out a)
def zih(l:List Asn):List Asn:=l.foldl insA []
def insA_len(out:List Asn)(a:Asn):(insA out a).length≤out.length+1:=by
 unfold insA
 split
 ·omega
 ·have:=zdw (fun k=>!decide (cmpA (out.getD k zA) a<0)) out.length
  simp only[xbk,xbj,xeh,xid]
  omega
def insA_mem{out:List Asn}{a x:Asn}(h:x∈insA out a):x=a∨x∈out:=by
 unfold insA at h
 split at h
 ·exact .inr h
 ·rcases xbq.1 h with h|h
  ·rcases xbq.1 h with h|h
   ·exact .inr (xcq h)
   ·exact .inl (xbn.1 h)
  ·exact .inr (xgi h)
def foldl_take{α β:Type}(f:β→α→β)(b:β)(l:List α)(d:α){i:Nat}(h:i<l.length):(l.take (i+1)).foldl f b=f ((l.take i).foldl f b) (l.getD i d):=by
 rw[zdx l d h,xec]
 rfl
def zhn:∀(l out:List Asn),(l.foldl insA out).length≤out.length+l.length∧∀x∈l.foldl insA out,x∈out∨x∈l
 | [],out=>by simp
 |a::l,out=>by
  obtain⟨h1,h2⟩:=zhn l (insA out a)
  have:=insA_len out a
  refine⟨by simp only[xgk,xaz];omega,fun x hx=>?_⟩
  rcases h2 x hx with h|h
  ·rcases insA_mem h with rfl|h
   ·exact .inr (by simp)
   ·exact .inl h
  ·exact .inr (xap _ h)
def zts{l:List Asn}{x:Asn}(h:x∈zih l):x∈l:=by
 rcases(zhn l []).2 x h with h|h
 ·simp at h
 ·exact h
def d63_eq{l:List Asn}(hl:l.length≤6000000)(ha:∀a∈l,a.2.2.2.1.length≤1001):d63 l=some (zih l):=by
 unfold d63
 refine zaa (b:=zih l) (fun i=>(l,(l.take i).foldl insA [],(i:Int))) l.length rfl (fun i hi=>?_) ?_ rfl
 ·have e1:(i:Int)<(l.length:Int):=by omega
  have e0:(0:Int)≤(i:Int):=by omega
  have e2:w ((i:Int)+1)=((i+1:Nat):Int):=by rw[w_id (by omega) (by omega)];omega
  obtain⟨s1,s2⟩:=zhn (l.take i) []
  rw[foldl_take insA [] l zA hi]
  have hout:∀a∈(l.take i).foldl insA [],a.2.2.2.1.length≤1001:=fun a h=>by
   rcases s2 a h with h|h
   ·simp at h
   ·exact ha a (xcq h)
  have hx:(l.getD i zA).2.2.2.1.length≤1001:=ha _ (by rw[zag _ _ hi];exact xbc _)
  have hz:((0:Int),(0:Int),(0:Int),([]:List Int),(0:Int))=zA:=rfl
  have hol:((l.take i).foldl insA []).length≤i:=by
   have:(l.take i).length≤i:=by simp;omega
   simp only[xde]at s1;omega
  generalize(l.take i).foldl insA []=out at hout hol
  simp only[e1,e0,e2,xah,xab,xai,letJ,xaf,hz]
  have hcmp:∀k,k<out.length→d41 (out.getD k zA) (l.getD i zA)=some (cmpA (out.getD k zA) (l.getD i zA)):=fun k hk=>
   d41_eq (by have:=hout _ (show out.getD k zA∈out by rw[zag _ _ hk];exact xbc _);omega) (by omega)
  have hle:=zdw (fun k=>!decide (cmpA (out.getD k zA) (l.getD i zA)<0)) out.length
  refine zaw (fun k=>(l,out,(i:Int),(k:Int))) (fun k=>!decide (cmpA (out.getD k zA) (l.getD i zA)<0)) out.length (fun k=>(l,out,(i:Int),(k:Int))) (l,out,(i:Int),(out.length:Int)) rfl (fun k hk=>?_) ?_ (fun k hk hp hj=>?_) (fun hall=>?_)
  ·have k1:(k:Int)<(out.length:Int):=by omega
   have k0:(0:Int)≤(k:Int):=by omega
   have kw:w ((k:Int)+1)=((k+1:Nat):Int):=by rw[w_id (by omega) (by omega)];omega
   simp only[k1,k0,kw,e0,e1,xah,xab,xai,xaf,hcmp k hk,xaa]
   by_cases c:cmpA (out.getD k zA) (l.getD i zA)<0
   ·simp only[c,xah,xab,xaq,xaw,xbf]
   ·simp only[c,xal,xac,xao,if_true]
  ·have:¬((out.length:Int)<(out.length:Int)):=by omega
   simp only[this,xal,xac]
  ·have hat:insAt out (l.getD i zA)=k:=firstN_is hk hp hj
   have k1:(k:Int)<(out.length:Int):=by omega
   have k0:(0:Int)≤(k:Int):=by omega
   unfold insA
   rw[hat]
   simp only[k1,k0,e0,e1,xah,xab,xai,xaf,hcmp k hk,xaa,hk,xgt]
   by_cases c:cmpA (out.getD k zA) (l.getD i zA)=0
   ·simp only[c,xah,xab,if_true,e2]
   ·have l1:((([]:List Asn).length:Int)+((List.take k out).length:Int)≤LIM):=by rw[zbv];simp;omega
    have l2:(((List.take k out).length:Int)+(([l.getD i zA]:List Asn).length:Int)≤LIM):=by rw[zbv];simp;omega
    have l3:(((List.take k out++[l.getD i zA]).length:Int)+((List.drop k out).length:Int)≤LIM):=by rw[zbv];simp;omega
    simp only[c,xal,xac,xbf,zdi (xfm hk),zfg (xfm hk),xex,xbh,l1,l2,l3,xah,xab,e2]
  ·have hat:insAt out (l.getD i zA)=out.length:=firstN_no hall
   unfold insA
   rw[hat]
   have k1:¬((out.length:Int)<(out.length:Int)):=by omega
   have l1:((([]:List Asn).length:Int)+(out.length:Int)≤LIM):=by rw[zbv];simp;omega
   have l2:((out.length:Int)+(([l.getD i zA]:List Asn).length:Int)≤LIM):=by rw[zbv];simp;omega
   have l3:(((out++[l.getD i zA]).length:Int)+((List.drop out.length out).length:Int)≤LIM):=by rw[zbv];simp;omega
   simp only[k1,e0,e1,Nat.lt_irrefl,xjg,xbf,xah,xal,xab,xac,xai,xaf,zdi (xak _),zfg (xak _),xex,xbh,l1,l2,l3,e2]
 ·have:¬((l.length:Int)<(l.length:Int)):=by omega
  simp only[this,xal,xac,xbh]
  rfl
def zee(x s:Int):Asn:=(3,x,0,[],s+1)
def derP(c:Con)(gs:List Grp)(ws:List Int):List Asn×Bool:=
 if(fitB c&&pileB (c.2.1.length:Int) gs)=true∧isB (c.2.1.length:Int) ws then
  if(c.2.1.length:Int)≤c.2.2.2.1 then([],decide ((ws.length:Int)=(c.2.1.length:Int)))
  else if(ws.length:Int)=c.2.2.2.1 then
   if c.2.2.1=1 then(if(setP c.2.1.length gs (ws.getD 0 0)).1<1 then([],false)else(zih (setP c.2.1.length gs (ws.getD 0 0)).2,true))
   else if(ws.all fun x=>decide (1≤mrg (c.2.1.length:Int) gs (zee x c.2.2.2.1)))=true then(zih (ws.map fun x=>zee x c.2.2.2.1),true)else([],false)
  else([],false)
 else([],false)
def ownA_valid{n:Nat}(hn:n≤7){tail:List Int}(ht:isB n tail)(h0:0<tail.length){x:Int}(hx:0≤x∧x<(n:Int))(hne:x≠tail.getD 0 0):zar (n:Int) (ownA tail x)=true:=by
 have hm0:tail.getD 0 0∈tail:=by rw[zag _ _ h0];exact xbc _
 have hb0:=ht.2 _ hm0
 have g1:¬(n:Int)<1:=by omega
 have g2:¬(7:Int)<(n:Int):=by omega
 have g3:¬x<0:=by omega
 have g4:¬(n:Int)≤x:=by omega
 unfold ownA
 generalize tail.getD 0 0=t at *
 have g5:¬t<0:=by omega
 have g6:¬(n:Int)≤t:=by omega
 by_cases hm:x∈tail
 ·have hasc:asc (n:Int) (risL tail)=true:=(zoo _ _).2 ⟨risL_lt tail,fun y hy=>ht.2 y (zvr.1 hy).2⟩
  have m1:t∈risL tail:=zvr.2 ⟨by omega,hm0⟩
  have m2:x∈risL tail:=zvr.2 ⟨by omega,hm⟩
  unfold zar
  simp only[hm,if_true,g1,g2,g3,g4,g5,g6,hasc,m1,m2,xah,xal,xao,xai,xdn,show ¬(2:Int)=1 by omega,xbf,Ne.symm hne,ne_eq,xjf]
 ·unfold zar
  simp only[hm,if_true,xbf,g1,g2,g3,g4,g5,g6,xah,xal,xao,xai,xdn,xde,hne,ne_eq,xjf]
def ownTo_ok{n:Nat}(hn:n≤7)(gs:List Grp){tail:List Int}(ht:isB n tail)(h0:0<tail.length):∀i,i≤n→((zli (n:Int) gs tail i).2.2=true→zar (n:Int) (zli (n:Int) gs tail i).1=true)∧((∃j:Nat,j<i∧(j:Int)≠tail.getD 0 0)→(zli (n:Int) gs tail i).2.2=true)
 | 0,_=>⟨fun h=>by simp[zli,idL]at h,fun⟨j,hj,_⟩=>by omega⟩
 |i+1,hi=>by
  obtain⟨h1,h2⟩:=ownTo_ok hn gs ht h0 i (by omega)
  rw[znw]
  unfold zju
  by_cases c:(i:Int)=tail.getD 0 0
  ·rw[if_pos c]
   refine⟨h1,fun⟨j,hj,hne⟩=>h2 ⟨j,?_,hne⟩⟩
   have:j≠i:=fun e=>hne (by rw[e];exact c)
   omega
  ·rw[if_neg c]
   by_cases hb:zwx (zli (n:Int) gs tail i) (ownA tail (i:Int)) (mrg (n:Int) gs (ownA tail (i:Int)))=true
   ·rw[if_pos hb]
    exact⟨fun _=>ownA_valid hn ht h0 (by omega) c,fun _=>rfl⟩
   ·rw[if_neg hb]
    refine⟨h1,fun _=>?_⟩
    unfold zwx at hb
    simp only[xdj,not_or,xdw,Bool.not_eq_false]at hb
    exact hb.1
def ownP_valid{n:Nat}(h2:2≤n)(hn:n≤7)(gs:List Grp){tail:List Int}(ht:isB n tail)(h0:0<tail.length):zar (n:Int) (ownP n gs tail).1=true:=by
 obtain⟨a,b⟩:=ownTo_ok hn gs ht h0 n (xak n)
 refine a (b ?_)
 by_cases c:(0:Int)=tail.getD 0 0
 ·exact⟨1,by omega,by rw[←c];decide⟩
 ·exact⟨0,by omega,c⟩
def ztm{n:Nat}(h2:2≤n)(hn:n≤7)(gs:List Grp):∀(k:Nat) (tail:List Int),isB n tail→0<tail.length→∀a∈(valP n gs k tail).2,zar (n:Int) a=true
 | 0,tail,_,_=>by simp[valP]
 |k+1,tail,ht,h0=>by
  rw[zqp]
  have hown:=ownP_valid h2 hn gs ht h0
  split
  ·intro a ha;rw[xbn.1 ha];exact hown
  ·split
   ·intro a ha;rw[xbn.1 ha];exact hown
   ·exact valTo_all (f:=valP n gs k) (tail:=tail) (P:=fun a=>zar (n:Int) a=true) n fun j hj hm=>ztm h2 hn gs k _ (zmm ht hj hm) (by simp)
def zrd{n:Nat}(h2:2≤n)(hn:n≤7)(gs:List Grp)(wn:Int):∀i,i≤n→∀a∈(zjo n gs wn i).2,zar (n:Int) a=true
 | 0,_=>by simp[zjo,idL]
 |i+1,hi=>by
  have ih:=zrd h2 hn gs wn i (by omega)
  rw[znt]
  unfold zrf
  split
  ·exact ih
  ·intro a ha
   rcases xbq.1 ha with ha|ha
   ·exact ih a ha
   ·exact ztm h2 hn gs 10 [(i:Int)] (zwj (by omega)) (by simp) a ha
def ztu{n:Nat}(h2:2≤n)(hn:n≤7)(gs:List Grp)(wn:Int):∀a∈(setP n gs wn).2,zar (n:Int) a=true:=by
 unfold setP
 split
 ·exact zrd h2 hn gs wn n (xak n)
 ·simp
def setP_len{n:Nat}(hn:n≤7)(gs:List Grp)(wn:Int):(setP n gs wn).2.length≤5764801:=by
 unfold setP
 split
 ·have:=zre hn gs wn n (xak n)
  show(zjo n gs wn n).2.length≤_
  omega
 ·simp
def quotaA_valid{n:Int}(h1:1≤n)(hn:n≤7){x s:Int}(hx:0≤x∧x<n)(hs:1≤s∧s≤5):zar n (zee x s)=true:=by
 unfold zar zee
 simp
 omega
def derP_valid(c:Con)(gs:List Grp)(ws:List Int):∀a∈(derP c gs ws).1,zar (c.2.1.length:Int) a=true:=by
 unfold derP
 intro a ha
 split at ha
 ·rename_i h
  obtain⟨h1,h2⟩:=h
  simp only[xan]at h1
  obtain⟨f1,f2,f3,f4,f5,f6,f7⟩:=fit_n h1.1
  split at ha
  ·simp at ha
  ·rename_i hns
   split at ha
   ·split at ha
    ·split at ha
     ·simp at ha
     ·exact ztu (by omega) f2 gs _ a (zts ha)
    ·split at ha
     ·obtain⟨x,hx,rfl⟩:=xdg.1 (zts ha)
      exact quotaA_valid (by omega) (by omega) (h2.2 x hx) ⟨f3,f4⟩
     ·simp at ha
   ·simp at ha
 ·simp at ha
def derP_len(c:Con)(gs:List Grp)(ws:List Int):(derP c gs ws).1.length≤5764801:=by
 unfold derP
 split
 ·rename_i h
  obtain⟨h1,h2⟩:=h
  simp only[xan]at h1
  obtain⟨f1,f2,f3,f4,f5,f6,f7⟩:=fit_n h1.1
  split
  ·simp
  ·split
   ·split
    ·split
     ·simp
     ·have:=(zhn (setP c.2.1.length gs (ws.getD 0 0)).2 []).1
      have h3:=setP_len f2 gs (ws.getD 0 0)
      simp only[xde]at this
      show(zih _).length≤_
      unfold zih
      omega
    ·split
     ·have:=(zhn (ws.map fun x=>zee x c.2.2.2.1) []).1
      have h3:=zfe h2 (by omega)
      simp only[xde,xbw]at this
      show(zih _).length≤_
      unfold zih
      omega
     ·simp
   ·simp
 ·simp
def d27_eq{c:Con}{gs:List Grp}{ws:List Int}(hc:c.2.1.length≤100000)(hg:GsOK gs)(hws:ws.length≤281474976710656):d27 c gs ws=some (derP c gs ws):=by
 unfold d27 letJ
 simp only
 rw[d37_eq hc]
 obtain⟨r,hr1,hr2⟩:=d36_ok c hg
 simp only[xaa,Bool.not_not,hr1,hr2,zsu (c.2.1.length:Int) hws]
 unfold derP
 cases hf:(fitB c&&pileB (c.2.1.length:Int) gs)
 ·simp
 simp only[xan]at hf
 obtain⟨f1,f2,f3,f4,f5,f6,f7⟩:=fit_n hf.1
 rcases(xig (isB (c.2.1.length:Int) ws)).symm with hB|hB
 ·simp[hB]
 simp only[hB,xah,xab,xaq,xac,and_self,if_true]
 by_cases c1:(c.2.1.length:Int)≤c.2.2.2.1
 ·simp only[c1,xah,xab,if_true]
 simp only[c1,xal,xac,xbf]
 rcases(xig ((ws.length:Int)=c.2.2.2.1)).symm with c2|c2
 ·simp only[c2,xal,xao,xab,xbf]
 simp only[c2,xah,xaq,xac,if_true]
 have hs0:(0:Int)<c.2.2.2.1:=by omega
 have hz:(0:Int)≤0:=by omega
 by_cases c3:c.2.2.1=1
 ·simp only[c3,hs0,hz,xah,xab,xai,if_true,d62_eq hg,xaa]
  by_cases c4:(setP c.2.1.length gs (ws.getD 0 0)).1<1
  ·simp only[c4,xah,xab,if_true]
   rfl
  ·have hv:=ztu (n:=c.2.1.length) (by omega) f2 gs (ws.getD 0 0)
   have hl:=setP_len f2 gs (ws.getD 0 0)
   simp only[c4,xal,xac,xbf,d63_eq (l:=(setP c.2.1.length gs (ws.getD 0 0)).2) (by omega) (fun a ha=>by have:=zlg (hv a ha);omega),xaa]
   rfl
 ·simp only[c3,xal,xac,xbf]
  have hwl:=zfe hB (by omega)
  have hsw:w (c.2.2.2.1+1)=c.2.2.2.1+1:=w_id (by omega) (by omega)
  refine zaw (fun i=>(gs,ws,c,(c.2.1.length:Int),(ws.take i).map (fun x=>zee x c.2.2.2.1),(i:Int))) (fun i=>!decide (1≤mrg (c.2.1.length:Int) gs (zee (ws.getD i 0) c.2.2.2.1))) ws.length (fun _=>.inr ([],false)) (.inl (ws.map fun x=>zee x c.2.2.2.1)) rfl (fun i hi=>?_) ?_ (fun i hi hp hj=>?_) (fun hall=>?_)
  ·have h2:(i:Int)<c.2.2.2.1:=by omega
   have h2':(i:Int)<(ws.length:Int):=by omega
   have h3:(0:Int)≤(i:Int):=by omega
   have hw:w ((i:Int)+1)=((i+1:Nat):Int):=by rw[w_id (by omega) (by omega)];omega
   have e42:=d26_eq (n:=(c.2.1.length:Int)) hg (a:=zee (ws.getD i 0) c.2.2.2.1) (by simp[zee])
   have hq:((3:Int),ws.getD i 0,(0:Int),([]:List Int),c.2.2.2.1+1)=zee (ws.getD i 0) c.2.2.2.1:=rfl
   have hlim:=zdu ((ws.take i).map (fun x=>zee x c.2.2.2.1)) (zee (ws.getD i 0) c.2.2.2.1) (by simp;omega)
   have ht:(ws.take (i+1)).map (fun x=>zee x c.2.2.2.1)=(ws.take i).map (fun x=>zee x c.2.2.2.1)++[zee (ws.getD i 0) c.2.2.2.1]:=by rw[zdx ws 0 hi,xdd];rfl
   simp only[h2,h2',h3,hw,hsw,hq,c2,xah,xab,xai,xaf,e42,xaa,hlim,ht]
   by_cases c4:mrg (c.2.1.length:Int) gs (zee (ws.getD i 0) c.2.2.2.1)<1
   ·have c4':¬1≤mrg (c.2.1.length:Int) gs (zee (ws.getD i 0) c.2.2.2.1):=by omega
    simp only[c4,c4',xah,xal,xab,xao,if_true]
   ·have c4':1≤mrg (c.2.1.length:Int) gs (zee (ws.getD i 0) c.2.2.2.1):=by omega
    simp only[c4,c4',xah,xal,xac,xaq,xaw,xbf]
  ·have:¬((ws.length:Int)<(ws.length:Int)):=by omega
   simp only[this,xal,xac,xbh]
  ·rw[zkj (g:=fun x=>decide (1≤mrg (c.2.1.length:Int) gs (zee x c.2.2.2.1))) (z:=0) hi (by simpa using hp)]
   simp only[xaw,xbf]
  ·rw[zne (g:=fun x=>decide (1≤mrg (c.2.1.length:Int) gs (zee x c.2.2.2.1))) (z:=0) fun i hi=>by simpa using hall i hi]
   simp only[if_true]
   rw[d63_eq (by simp;omega) (fun a ha=>by
    obtain⟨x,_,rfl⟩:=xdg.1 ha
    simp[zee])]
   rfl
def zlj(l:List Asn)(drop:Int):Nat→List Asn
 | 0=>[]
 |i+1=>if drop<0∨(i:Int)≠drop%(l.length:Int)then zlj l drop i++[l.getD i zA]else zlj l drop i
def zmk(l:List Asn)(drop:Int):∀i,(zlj l drop i).length≤i
 | 0=>by simp[zlj]
 |i+1=>by have:=zmk l drop i;unfold zlj;split<;>simp<;>omega
def zru{l:List Asn}{drop:Int}{a:Asn}:∀i,i≤l.length→a∈zlj l drop i→a∈l
 | 0,_,h=>by simp[zlj]at h
 |i+1,hi,h=>by
  unfold zlj at h
  split at h
  ·rcases xbq.1 h with h|h
   ·exact zru i (by omega) h
   ·rw[xbn.1 h,zag _ _ (by omega)];exact xbc _
  ·exact zru i (by omega) h
def mixP(c:Con)(n:Int)(gs:List Grp)(ws:List Int)(x:List (List Int))(drop:Int):List Asn:=
 zlj (derP c gs ws).1 drop (min (derP c gs ws).1.length 30)++(if 2≤n then alls n x else [])
def mixP_ok{c:Con}{n:Int}(hn:(c.2.1.length:Int)=n)(hn7:n≤7)(gs:List Grp)(ws:List Int)(x:List (List Int))(drop:Int):(mixP c n gs ws x drop).length≤42∧∀a∈mixP c n gs ws x drop,zar n a=true:=by
 unfold mixP
 refine⟨?_,fun a ha=>?_⟩
 ·have h1:=zmk (derP c gs ws).1 drop (min (derP c gs ws).1.length 30)
  rw[xbk]
  split
  ·rename_i h2
   have:=(alls_ok h2 hn7 x).1
   omega
  ·simp only[xde];omega
 ·rcases xbq.1 ha with ha|ha
  ·have:=zru _ (xio _ _) ha
   rw[←hn]
   exact derP_valid c gs ws a this
  ·split at ha
   ·rename_i h2
    exact alls_valid h2 hn7 x a ha
   ·simp at ha
def lok_of{n:Int}{l:List Asn}(hl:l.length≤100000)(h:∀a∈l,zar n a=true):LOK l:=⟨by omega,fun a ha=>by have:=zlg (h a ha);omega⟩
def d11_eq{c:Con}{n:Int}{gs:List Grp}{ws:List Int}{x:List (List Int)}{drop:Int}(hc:c.2.1.length≤100000)(hg:GsOK gs)(hws:ws.length≤281474976710656)(hn:n≤7)(hx:x.length≤281474976710656)(hw:∀y∈x,WT (.slice (.int .i64)) y)(hd:WT (.int .i64) drop) :
  d11 c n gs ws x drop=some (mixP c n gs ws x drop):=by
 unfold d11
 rw[d27_eq hc hg hws]
 simp only[xaa]
 unfold mixP
 have hlen:=derP_len c gs ws
 generalize(derP c gs ws).1=l at hlen
 refine zaa (b:=(n,x,zlj l drop (min l.length 30))) (fun i=>(n,x,drop,l,zlj l drop i,(i:Int))) (min l.length 30) rfl (fun i hi=>?_) ?_ ?_
 ·have e1:(i:Int)<(l.length:Int):=by omega
  have e2:(i:Int)<30:=by omega
  have e0:(0:Int)≤(i:Int):=by omega
  have ew:w ((i:Int)+1)=((i+1:Nat):Int):=by rw[w_id (by omega) (by omega)];omega
  have hml:=zmk l drop i
  have hz:((0:Int),(0:Int),(0:Int),([]:List Int),(0:Int))=zA:=rfl
  simp only[e1,e2,xah,xab,letJ,hz,zlj]
  by_cases c1:drop<0
  ·simp only[c1,xah,xaq,xac,xab,e0,e1,xai,xaf,zdu (zlj l drop i) (l.getD i zA) (by omega),true_or,if_true,ew]
  ·have e7:=zlo (x:=drop) (n:=(l.length:Int)) hd (by omega) (by omega)
   simp only[c1,xal,xao,xab,e7,xaa,false_or]
   by_cases c2:(i:Int)=drop%(l.length:Int)
   ·simp only[c2,xah,xaq,xac,ne_eq,not_true_eq_false,xbf]
    rw[←c2,ew]
   ·simp only[c2,xal,xao,xab,ne_eq,xjf,if_true,e0,e1,xah,xai,xaf,zdu (zlj l drop i) (l.getD i zA) (by omega),ew]
 ·by_cases c1:l.length≤30
  ·have:¬(((min l.length 30:Nat):Int)<(l.length:Int)):=by omega
   simp only[this,xal,xac,letJ]
  ·have k1:((min l.length 30:Nat):Int)<(l.length:Int):=by omega
   have k2:¬((min l.length 30:Nat):Int)<30:=by omega
   simp only[k1,k2,xah,xal,xab,xac,letJ]
 ·have hml:=zmk l drop (min l.length 30)
  simp only[letJ]
  by_cases c1:2≤n
  ·have:=(alls_ok c1 hn x).1
   simp only[c1,xah,xab,d28_eq c1 hn hx hw,xaa,zwe (zlj l drop (min l.length 30)) (alls n x) (by omega) (by omega),if_true]
  ·simp only[c1,xal,xac,xbf,xco]
def winP(n s:Int)(ws:List Int):List Int:=(bal n ws).take (if s<((bal n ws).length:Int)then s else((bal n ws).length:Int)).toNat
def win_min{s:Int}{b:List Int}(hs:1≤s):(bif decide (s<(b.length:Int))then s else(b.length:Int))=(if s<(b.length:Int)then s else(b.length:Int))∧zbs 0 (if s<(b.length:Int)then s else(b.length:Int)) b.length=true:=by
 constructor
 ·by_cases c:s<(b.length:Int)<;>simp[c]
 ·have:=zdi (i:=(if s<(b.length:Int)then s else(b.length:Int)).toNat) (n:=b.length) (by split<;>omega)
  rwa[show(((if s<(b.length:Int)then s else(b.length:Int)).toNat:Nat):Int)=(if s<(b.length:Int)then s else(b.length:Int)) by split<;>omega]at this
def winP_len{n s:Int}(hn:0<n)(hn':n≤7)(ws:List Int):(winP n s ws).length≤7:=by
 unfold winP
 have:=zfe (bal_isB hn ws) hn'
 rw[xbj]
 omega
end Go.Proofs.YtfgjbkjddcjlfaaGreat
namespace Go.Proofs.YtfgjbkjddcjlfaaGreat
open Tryz
open Go Go.X
def mup(a b:Nat):Nat:=(a+b-1)/b
structure MP where
 P:GP
 one:Nat
 om:Nat
def mw(one:Nat)(kp:Nat→Nat)(p:List Int):Nat→Nat
 | 0=>one
 |j+1=>mw one kp p j-mup (mw one kp p j*kp (p.getD j 0).toNat) one
def zgc(one:Nat)(kp:Nat→Nat)(p:List Int)(j:Nat):Nat:=mup (mw one kp p j*kp (p.getD j 0).toNat) one
def zti(one:Nat)(kp:Nat→Nat)(p:List Int)(c:Nat):Nat:=sumN (fun j=>if p.getD j 0=(c:Int)then zgc one kp p j else 0) p.length
def mvo(P:GP)(one:Nat)(kp:Nat→Nat)(c:Nat):Nat:=sumN (fun g=>P.k g*zti one kp (P.p g) c) P.G
def mro(P:GP)(one:Nat)(kp:Nat→Nat):Nat:=sumN (fun g=>P.k g*mw one kp (P.p g) (P.p g).length) P.G
structure MS where
 st:Nat→Nat
 kp:Nat→Nat
 since:Nat
 bef:Option Nat
def MS.v(Q:MP)(s:MS)(c:Nat):Nat:=mvo Q.P Q.one s.kp c
def MS.rest(Q:MP)(s:MS):Nat:=mro Q.P Q.one s.kp
def MS.quo(Q:MP)(s:MS):Nat:=sumN (s.v Q) Q.P.n/(Q.P.seats+1)+1
def MS.reach(Q:MP)(s:MS)(i:Nat):Bool:=decide (s.st i=0)&&decide (s.quo Q≤s.v Q i)
def zfa(v:Nat→Nat)(lots:List Int)(d i:Nat):Bool:=decide (v i<v d)||(decide (v d=v i)&&decide (zdb lots (d:Int)<zdb lots (i:Int)))
def MS.fl(Q:MP)(s:MS):Nat:=cntN (fun i=>decide (s.st i=1)) Q.P.n
def MS.rank(Q:MP)(s:MS)(i:Nat):Nat:=cntN (fun d=>s.reach Q d&&zfa (s.v Q) Q.P.lots d i) Q.P.n
def MS.el(Q:MP)(s:MS)(i:Nat):Bool:=s.reach Q i&&decide (s.rank Q i<Q.P.seats-s.fl Q)
def MS.st1(Q:MP)(s:MS)(i:Nat):Nat:=if s.el Q i then 1 else s.st i
def MS.sur(Q:MP)(s:MS):Nat:=sumN (fun i=>if s.st1 Q i=1 then s.v Q i-s.quo Q else 0) Q.P.n
def MS.f1(Q:MP)(s:MS):Nat:=cntN (fun i=>decide (s.st1 Q i=1)) Q.P.n
def MS.h1(Q:MP)(s:MS):Nat:=cntN (fun i=>decide (s.st1 Q i=0)) Q.P.n
def MS.some1(Q:MP)(s:MS):Bool:=decide (0<cntN (s.el Q) Q.P.n)
def MS.stall(Q:MP)(s:MS):Bool:=decide (s.sur Q<Q.om)||decide (60≤s.since+1)||(match s.bef with | some b=>decide (b≤s.sur Q) | none=>false)
def MS.near(Q:MP)(s:MS)(i:Nat):Bool:=decide (s.st i=0)&&(List.range Q.P.n).all fun k=>!decide (s.st k=0)||decide (s.v Q i≤s.v Q k+s.sur Q)
def MS.tied(Q:MP)(s:MS):List Int:=selI (s.near Q) Q.P.n
def MS.pick(Q:MP)(E:List (List Rat))(s:MS):Int:=if(s.tied Q).length=1 then(s.tied Q).headD 0 else tieB Q.P.ties E (s.tied Q) Q.P.lots true
def MS.rd0(Q:MP)(s:MS):Rd:=
 {votes:=lst (fun i=>frac (s.v Q i) Q.one) Q.P.n
  keep:=lst (fun i=>frac (s.kp i) Q.one) Q.P.n
  quota:=frac (s.quo Q) Q.one
  exh:=frac (s.rest Q) Q.one
  sur:=frac (s.sur Q) Q.one
  el:=selI (s.el Q) Q.P.n
  ex:=[]
  ti:=[]}
def MS.fin(Q:MP)(s:MS):Bool:=decide (s.f1 Q=Q.P.seats)||decide (s.f1 Q+s.h1 Q≤Q.P.seats)
def MS.done(Q:MP)(s:MS):Rd:={s.rd0 Q with el:=if s.f1 Q=Q.P.seats then selI (s.el Q) Q.P.n else selI (fun i=>s.el Q i||decide (s.st1 Q i=0)) Q.P.n}
def MS.excl(Q:MP)(E:List (List Rat))(s:MS):MS:={st:=upd s.st (s.pick Q E).toNat 2,kp:=upd s.kp (s.pick Q E).toNat 0,since:=0,bef:=none}
def MS.kp1(Q:MP)(s:MS)(i:Nat):Nat:=if s.st1 Q i=1∧0<s.v Q i then min Q.one (mup (mup (s.kp i*s.quo Q) Q.one*Q.one) (s.v Q i))else s.kp i
def MS.redu(Q:MP)(s:MS):MS:={st:=s.st1 Q,kp:=s.kp1 Q,since:=if s.some1 Q then 0 else s.since+1,bef:=some (s.sur Q)}
def MS.exR(Q:MP)(E:List (List Rat))(s:MS):Rd:={s.rd0 Q with ex:=[s.pick Q E],ti:=if(s.tied Q).length=1 then []else s.tied Q}
def MS.cut(Q:MP)(s:MS):Bool:=!s.some1 Q&&s.stall Q
def mstep(Q:MP)(E:List (List Rat))(s:MS):Rd×Option MS:=
 if s.fin Q then(s.done Q,none)
 else if s.cut Q then(s.exR Q E,some (s.excl Q E))
 else(s.rd0 Q,some (s.redu Q))
def mrun(Q:MP):Nat→List Rd→MS→List Rd
 | 0,rs,_=>rs
 |k+1,rs,s=>match mstep Q (rs.map Rd.votes) s with
  |(r,none)=>rs++[r]
  |(r,some s')=>mrun Q k (rs++[r]) s'
def MP.s0(Q:MP):MS:={st:=fun _=>0,kp:=fun _=>Q.one,since:=0,bef:=none}
def zjh(Q:MP):List Rd:=mrun Q 500 [] Q.s0
def mup_le{a b c:Nat}(hb:0<b)(h:a≤c*b):mup a b≤c:=by
 unfold mup
 have:(a+b-1)/b<c+1:=by
  rw[xep hb,xcl]
  omega
 omega
def mup_pos{a b:Nat}(hb:0<b)(ha:0<a):0<mup a b:=by
 unfold mup
 exact Nat.div_pos (by omega) hb
def mup_zero{b:Nat}(hb:0<b):mup 0 b=0:=by
 unfold mup
 exact xfp (by omega)
def mup_mul{a b:Nat}(hb:0<b):mup (a*b) b=a:=by
 unfold mup
 rw[show a*b+b-1=b-1+a*b by omega,Nat.add_mul_div_right _ _ hb,xfp (by omega),xdc]
section
variable {one:Nat} {kp:Nat→Nat} (h1:0<one) (hk:∀c,kp c≤one)
include h1 hk
def zpy(p:List Int)(j:Nat):zgc one kp p j≤mw one kp p j:=mup_le h1 (xdk _ (hk _))
def mw_step(p:List Int)(j:Nat):mw one kp p (j+1)+zgc one kp p j=mw one kp p j:=by
 have:=zpy h1 hk p j
 show mw one kp p j-zgc one kp p j+_=_
 omega
def mw_sum(p:List Int):∀j,sumN (zgc one kp p) j+mw one kp p j=one
 | 0=>by show 0+one=one;omega
 |j+1=>by
  have h2:=mw_sum p j
  have h3:=mw_step h1 hk p j
  rw[sumN]
  omega
def mw_le(p:List Int)(j:Nat):mw one kp p j≤one:=by have:=mw_sum h1 hk p j;omega
def mgive_sum{n:Nat}{p:List Int}(hp:∀c∈p,∃i:Nat,c=(i:Int)∧i<n):sumN (zti one kp p) n+mw one kp p p.length=one:=by
 have hm:=mw_sum h1 hk p p.length
 refine Eq.trans ?_ hm
 congr 1
 unfold zti
 rw[zma (fun c j=>if p.getD j 0=(c:Int)then zgc one kp p j else 0)]
 refine zak fun j hj=>?_
 obtain⟨i,e,hi⟩:=hp _ (zci hj)
 rw[e]
 have:sumN (fun c:Nat=>if(i:Int)=(c:Int)then zgc one kp p j else 0) n=sumN (fun c=>if c=i then zgc one kp p j else 0) n:=zak fun c _=>by
  by_cases h:c=i
  ·subst h;rw[if_pos rfl,if_pos rfl]
  ·rw[if_neg h,if_neg (by omega)]
 rw[this,zvh,if_pos hi]
def mv_sum{P:GP}(hP:P.OK):sumN (mvo P one kp) P.n+mro P one kp=P.tot*one:=by
 unfold mvo mro
 rw[zma (fun c g=>P.k g*zti one kp (P.p g) c),←zbz,←hP.total,←zfh]
 refine zak fun g hg=>?_
 have h2:=mgive_sum h1 hk (n:=P.n) (hP.prefs g hg)
 have h3:sumN (fun c=>P.k g*zti one kp (P.p g) c) P.n=P.k g*sumN (zti one kp (P.p g)) P.n:=by
  rw[xby,←zfh]
  exact zak fun c _=>xby _ _
 rw[h3,←xcz,h2]
def mv_le{P:GP}(hP:P.OK){c:Nat}(hc:c<P.n):mvo P one kp c≤P.tot*one:=by
 have h2:=mv_sum h1 hk hP
 have h3:=zgo (f:=mvo P one kp) hc
 omega
end
structure MP.OK(Q:MP):Prop where
 P:Q.P.OK
 one1:0<Q.one
 one6:Q.one≤1000000
 om:0<Q.om
structure MI(Q:MP)(s:MS):Prop where
 st2:∀c,s.st c≤2
 kp1:∀c,s.kp c≤Q.one
 hop:∀c,s.st c=0→s.kp c=Q.one
 elc:∀c,s.st c=1→0<s.kp c
 exc:∀c,s.st c=2→s.kp c=0
 since:s.since≤59
 fill:s.fl Q<Q.P.seats
 left:0<cntN (fun i=>decide (s.st i=0)) Q.P.n
variable {Q:MP} {s:MS}
def MS.v_le(hQ:Q.OK)(hI:MI Q s){c:Nat}(hc:c<Q.P.n):s.v Q c≤Q.P.tot*Q.one:=mv_le hQ.one1 hI.kp1 hQ.P hc
def MS.sum_le(hQ:Q.OK)(hI:MI Q s):sumN (s.v Q) Q.P.n+s.rest Q=Q.P.tot*Q.one:=mv_sum hQ.one1 hI.kp1 hQ.P
def MS.tot_le(hQ:Q.OK):Q.P.tot*Q.one≤100000000000:=xbb (xdf hQ.P.tot5 hQ.one6) (by decide)
def MS.quo_le(hQ:Q.OK)(hI:MI Q s):s.quo Q≤Q.P.tot*Q.one+1:=by
 have h1:=MS.sum_le hQ hI
 have h2:=xfc (sumN (s.v Q) Q.P.n) (Q.P.seats+1)
 unfold MS.quo
 omega
def zcg(c:Nat):(s.el Q c=true∧s.st c=0∧s.st1 Q c=1∧s.quo Q≤s.v Q c)∨(s.el Q c=false∧s.st1 Q c=s.st c):=by
 unfold MS.st1
 cases h:s.el Q c
 ·exact .inr ⟨rfl,rfl⟩
 ·unfold MS.el MS.reach at h
  rw[xan,xan,xam,xam]at h
  exact .inl ⟨rfl,h.1.1,rfl,h.1.2⟩
def f1_eq:s.f1 Q=s.fl Q+cntN (s.el Q) Q.P.n:=by
 unfold MS.f1 MS.fl cntN
 rw[←zbz]
 refine zak fun i hi=>?_
 rcases zcg (Q:=Q) (s:=s) i with⟨h0,h1,h2,_⟩|⟨h0,h2⟩
 ·simp[h0,h1,h2]
 ·simp[h0,h2]
def h1_eq:s.h1 Q+cntN (s.el Q) Q.P.n=cntN (fun i=>decide (s.st i=0)) Q.P.n:=by
 unfold MS.h1 cntN
 rw[←zbz]
 refine zak fun i hi=>?_
 rcases zcg (Q:=Q) (s:=s) i with⟨h0,h1,h2,_⟩|⟨h0,h2⟩
 ·simp[h0,h1,h2]
 ·simp[h0,h2]
def MS.meas(Q:MP)(s:MS):Nat:=cntN (fun i=>decide (s.st i=0)) Q.P.n*61+(60-s.since)
end Go.Proofs.YtfgjbkjddcjlfaaGreat
