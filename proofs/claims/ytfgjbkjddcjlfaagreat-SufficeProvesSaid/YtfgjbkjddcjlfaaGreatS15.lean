/- Part 15 of what stands below the statement. -/
import Derived.RangeFuncBox
import Derived.RangeFuncLeaves
import Derived.Shelf.Abstract
import Derived.Maps.AppendAt
import Derived.Shelf.SlIterI.Sorted
import Derived.Test.YtfgjbkjddcjlfaaGreatS14
set_option linter.defProp false
set_option linter.unusedSimpArgs false
set_option linter.unusedVariables false
namespace Go.Proofs.YtfgjbkjddcjlfaaGreat
open Tryz
open Go Go.Proofs Go.RowKit Go.Shelf
section
attribute [local go_sem] Oper.semAt_some
def upto{α:Type}(f:Nat→α)(k:Nat):List α:=(List.range k).map f
def upto_succ{α:Type}(f:Nat→α)(k:Nat):upto f (k+1)=upto f k++[f k]:=by simp[upto,xfx]
def upto_length{α:Type}(f:Nat→α)(k:Nat):(upto f k).length=k:=by simp[upto]
def upto_all(zs:List Int):upto (fun j=>zs[j]?.getD 0) zs.length=zs:=by
 apply xfq
 ·simp[upto]
 ·intro i h1 h2
  simp[upto,h2]
set_option maxRecDepth 100000 in
set_option maxHeartbeats 2000000 in
def values1_in(F:Fence)(n:Nat)(h7:F.fn 201)(hro:F.round=none)(hn:1≤n)(l Bs Bo n₀ b off len cap:Nat)(zs:List Int)(hreach:len*8≤140737488351232)(hb:b<n₀)(J Jx:List Int→World→Prop)
  (hY:∀pre x W,J pre W→pre.length<len→YieldAt F (n-1) prog l #[.int .i64 x] W fun e W'=>
   (e=.returned (.bool true)∧J (pre++[x]) W'∧Below n₀ W W')∨(e=.returned (.bool false)∧Jx (pre++[x]) W'))
  (W:World) (hBs:W.cell? ⟨Bs,Bo,none⟩=some (.slice (some ⟨b,off,none⟩) len cap)) (hc:∀j,j<len→W.cell? ⟨b,off+j,none⟩=some (.int .i64 (zs[j]?.getD 0))) (h0:J [] W) :
  CallsIn F n prog 201 #[.func (.yield l) #[] #[],.pointer (some ⟨Bs,Bo,none⟩)] W fun e W'=>(∃v,e=.returned v) ∧
   ((∃ys,ys=upto (fun j=>zs[j]?.getD 0) len∧J ys W')∨(∃pre,(∃k,k≤len∧pre=upto (fun j=>zs[j]?.getD 0) k)∧Jx pre W')):=by
 refine callsIn_of_wp func201 rfl h7 ?_ hro
 simp only[ntmps201,xcu,xaz,xde,Nat.reduceAdd,Nat.reduceSub,xea,xdz,xet,xeg,xci,xca]
 gi_wp2
 gi_loopw [7] (fun i wr=>∃k:Nat,k≤len∧i=.int .i64 k∧J (upto (fun j=>zs[j]?.getD 0) k) wr∧Below n₀ W wr)
  (fun i _=>len-(intOf i).toNat)
 case atStart=>exact⟨0,xbz _,rfl,h0,Below.refl _ _⟩
 case round=>
  obtain⟨k,hk,rfl,hJs,hnx⟩:=hrel
  have hcx:k<len→wr.cell? ⟨b,off+k,none⟩=some (.int .i64 (zs[k]?.getD 0)):=fun h=>(hnx.cell (p:=⟨b,off+k,none⟩) hb).trans (hc k h)
  by_cases hlt:k<len
  ·obtain⟨fn,tmps,assign,body,hy,hR⟩:=hY _ (zs[k]?.getD 0) wr hJs (by rw[upto_length];exact hlt)
   have hcx':=hcx hlt
   gi_wp2
   refine hR.mono ?_
   rintro e W3 (⟨rfl,hJ3,hk3⟩|⟨rfl,hJx3⟩)
   ·gi_wp2
    go_roundw
    case rel=>exact⟨k+1,by omega,by simp,by rw[upto_succ];exact hJ3,hnx.trans hk3⟩
    case measure=>simp[intOf];omega
   ·gi_wp2
    refine bodyPost_ret (results_none rfl _ _ _) rfl ?_
    exact⟨⟨_,rfl⟩,.inr ⟨_,⟨k+1,by omega,(upto_succ _ _).symm⟩,hJx3⟩⟩
  ·obtain rfl:k=len:=by omega
   gi_wp2
   go_end0
   exact⟨⟨_,rfl⟩,.inl ⟨_,rfl,hJs⟩⟩
def upto_take(zs:List Int){k:Nat}(hk:k≤zs.length):upto (fun j=>zs[j]?.getD 0) k=zs.take k:=by
 apply xfq
 ·simp[upto,hk]
 ·intro i h1 h2
  have:i<zs.length:=by simp[upto]at h1;omega
  simp[upto,this]
def IntsAt(n₀:Nat)(W:World)(sv:Value)(zs:List Int):Prop:=
 (∃a cap,sv=.slice a 0 cap∧zs=[])∨∃b off cap,sv=.slice (some ⟨b,off,none⟩) zs.length cap∧b<n₀∧∀j,j<zs.length→W.cell? ⟨b,off+j,none⟩=some (.int .i64 (zs[j]?.getD 0))
def IntsAt.below{n₀:Nat}{A B:World}(h:Below n₀ A B){sv:Value}{zs:List Int}:IntsAt n₀ A sv zs→IntsAt n₀ B sv zs
 | .inl e=>.inl e
 | .inr ⟨b,off,cap,e,hb,hc⟩=>.inr ⟨b,off,cap,e,hb,fun j hj=>(h.cell (p:=⟨b,off+j,none⟩) hb).trans (hc j hj)⟩
set_option maxRecDepth 100000 in
set_option maxHeartbeats 1000000 in
def ztf(F:Fence)(n:Nat)(h7:F.fn 201)(hro:F.round=none)(l Bs Bo:Nat)(a:Option Addr)(cap:Nat)(J:List Int→World→Prop)(W:World)(hBs:W.cell? ⟨Bs,Bo,none⟩=some (.slice a 0 cap))(h0:J [] W) :
  CallsIn F n prog 201 #[.func (.yield l) #[] #[],.pointer (some ⟨Bs,Bo,none⟩)] W fun e W'=>(∃v,e=.returned v)∧J [] W':=by
 refine callsIn_of_wp func201 rfl h7 ?_ hro
 simp only[ntmps201,xcu,xaz,xde,Nat.reduceAdd,Nat.reduceSub,xea,xdz,xet,xeg,xci,xca]
 gi_wp2
 gi_loopw [7] (fun i wr=>i=.int .i64 0∧J [] wr) (fun _ _=>0)
 case atStart=>exact⟨rfl,h0⟩
 case round=>
  obtain⟨rfl,hJs⟩:=hrel
  gi_wp2
  go_end0
  exact⟨⟨_,rfl⟩,hJs⟩
set_option maxHeartbeats 1000000 in
def values_in(F:Fence)(n:Nat)(h5:F.fn 178)(hro:F.round=none)(a:Option Addr)(len cap:Nat)(w:World) :
  CallsIn F n prog 178 #[.slice a len cap] w fun e w'=>e=.returned (.func (.func 201) #[] #[.pointer (some ⟨w.heap.size,0,none⟩)])∧w'=w.alloc (.cells #[.slice a len cap] 23):=by
 refine callsIn_of_wp func178 rfl h5 ?_ hro
 simp only[ntmps178,xcu,xaz,xde,Nat.reduceAdd,Nat.reduceSub,xea,xdz,xet,xeg,xci,xca]
 gi_wp2
 go_ret
 exact⟨rfl,rfl⟩
def values_stops(F:Fence)(n:Nat)(h7:F.fn 201)(hro:F.round=none)(hn:1≤n)(Bs Bo n₀:Nat)(sv:Value)(zs:List Int)(hreach:zs.length*8≤140737488351232)(w:World)(hBs:Bs<w.heap.size)(hn₀:n₀≤w.heap.size)
  (hc:w.cell? ⟨Bs,Bo,none⟩=some sv) (hI:IntsAt n₀ w sv zs) :
  SeqStopsK F n prog 201 #[.pointer (some ⟨Bs,Bo,none⟩)] (fun x:Int=>#[Value.int .i64 x]) (Below n₀) (fun ys=>ys=zs) (fun pre=>pre <+: zs) zs.length w:=fun l J Jx W hW _ _ hY h0=>by
 have hc':=(hW.cell (p:=⟨Bs,Bo,none⟩) hBs).trans hc
 rcases hI.below (hW.mono hn₀)with⟨a,cap,rfl,rfl⟩|⟨b,off,cap,rfl,hb,hcs⟩
 ·exact(ztf F n h7 hro l Bs Bo a cap J W hc' h0).mono fun e W' ⟨he,hj⟩=>⟨he,.inl ⟨_,rfl,hj⟩⟩
 ·refine(values1_in F n h7 hro hn l Bs Bo n₀ b off zs.length cap zs hreach hb J Jx hY W hc' hcs h0).mono ?_
  rintro e W' ⟨he,⟨ys,rfl,hj⟩|⟨pre,⟨k,hk,rfl⟩,hj⟩⟩
  ·exact⟨he,.inl ⟨_,upto_all zs,hj⟩⟩
  ·exact⟨he,.inr ⟨_,by rw[upto_take zs hk];exact List.take_prefix _ _,hj⟩⟩
end
section
attribute [local go_sem] Oper.semAt_some
def info3i:(prog.info? 3).map (fun i=>(i.zero,i.size,i.bytes))=some (some (.int .i64 0),1,8):=by kernel_rfl
set_option maxRecDepth 100000 in
set_option maxHeartbeats 2000000 in
def appendSeq_in(F:Fence)(n:Nat)(h210:F.fn 210)(h201:F.fn 201)(hro:F.round=none)(hn:3≤n)(Bs Bo:Nat)(sv:Value)(zs:List Int)(hlen:zs.length≤4294967296)(w:World)(hBs:Bs<w.heap.size)
  (hc:w.cell? ⟨Bs,Bo,none⟩=some sv) (hI:IntsAt w.heap.size w sv zs) :
  CallsIn F n prog 210 #[.slice none 0 0,.func (.func 201) #[] #[.pointer (some ⟨Bs,Bo,none⟩)]] w fun e W'=>∃v,e=.returned v∧W'.ownsRow w.heap.size 3 1 v zs.length (zs.map (Value.int .i64))∧(v=.slice none 0 0↔zs=[])∧Below w.heap.size w W':=by
 have h1:1≤n:=by omega
 obtain⟨i0,hi,hz0,hz1,hz2⟩:=info_parts info3i
 refine callsIn_of_wp_marks func210 rfl h210 ?_ hro
 simp only[ntmps210,xcu,xaz,xde,Nat.reduceAdd,Nat.reduceSub,xea,xdz,xet,xeg,xci,xca]
 gi_wp2
 have bO:=Boxed.new w 23 (.slice none 0 0)
 have hB0:Below w.heap.size w (w.alloc (.cells #[.slice none 0 0] 23)):=(Below.refl _ w).alloc (xak _) _
 refine wpIn_rangeFunc_ownG hro h1 (gf:=201) (lb:=#[.pointer (some ⟨Bs,Bo,none⟩)]) rfl h201 (enters_of func201 (by kernel_rfl) rfl)
  (values_stops F (n-1) h201 hro (by omega) Bs Bo w.heap.size sv zs (by omega) _ (by simp;omega) (by simp) ((hB0.cell (p:=⟨Bs,Bo,none⟩) hBs).trans hc) (hI.below hB0)) belowK_t (belowK_b (by simp)) (Below.refl _ _) (fun _=>rfl)
  (fun pre W=>(∃v,Boxed W w.heap.size 23 v∧W.ownsRow w.heap.size 3 1 v pre.length (pre.map (Value.int .i64))∧(v=.slice none 0 0↔pre=[]))∧Below w.heap.size w W)
  (fun _ _ _=>False)
  (OwnFrom.and (Own.from (holdsRow_own w.heap.size w.heap.size 23 3 1 (fun pre:List Int=>pre.length) (fun pre=>pre.map (Value.int .i64)) (fun pre v=>v=.slice none 0 0↔pre=[])) _) (ownFrom_below (xak _) (by simp)))
  (fun _ _ _ _ _ hs _ _=>hs)
  ⟨⟨_,bO,World.ownsRow_nil _ _ _ _,by simp⟩,hB0⟩
  (fun x=>{tmps:=#[.slice none 0 0,.func (.func 201) #[] #[.pointer (some ⟨Bs,Bo,none⟩)],.pointer (some ⟨w.heap.size,0,none⟩),undef,.slice none 0 0,.int .i64 x,.func (.func 201) #[] #[.pointer (some ⟨Bs,Bo,none⟩)],.int .i64 x,undef,undef,undef,undef,undef],defers:=[]}) ?assign ?body ?done ?stop
 case assign=>
  intro l x W K hK
  gi_wp2
  exact hK
 case body=>
  rintro l pre x W ⟨⟨v,hv,hrow,hnil⟩,hB⟩ hlt
  have hc:=hv.cell
  gi_wp2_with (gi_at_builtin;refine wpListIn_append_own _ rfl _ _ 23 rfl w.heap.size 3 i0 (.int .i64 0) 1 8 underlying23 hi hz0 hz1 hz2 rfl (by decide) _ _ _ rfl (hrow.alloc _) ⟨W.heap.size,0,none⟩ 1 1 [.int .i64 x] rfl rfl (cell_one_new _ _ _) (by simp[Value.oneCell']) (by unfold maxLen;omega) (by omega) (by have:=hB.size;simp;omega) ?_;intro v' w1 hown' hgrow _;obtain⟨g',cap',rfl⟩:=ownsRow_succ hown';obtain⟨hv1,hv2,hr2,hk2,hb2⟩:=hv.appended (by decide) hrow hB.size (xak _) hown' hgrow;have hc1:=hv1.cell;have hf1:=hv1.frozen)
  exact⟨hk2.from _,hb2,⟨_,hv2,by simpa using hr2,by simp⟩,hB.trans hb2⟩
 case done=>
  rintro D ys W hD rfl ⟨⟨v,hv,hrow,hnil⟩,hB⟩ hK
  have hc:=hv.cell
  gi_wp2
  refine⟨by simp,.inl ⟨_,_,rfl,run_takeDeferred hK,?_⟩⟩
  exact⟨_,results_tmp rfl _ _ _,v,rfl,ownsRow_putObj hrow _ hK rfl,hnil,hB.trans (belowK_b (w:=w) (xak _) W D _ _ (by simp at hD;omega) hK rfl rfl)⟩
 case stop=>
  rintro D c pre W _ _ h _
  exact h.elim
set_option maxRecDepth 100000 in
set_option maxHeartbeats 2000000 in
def collect_in(F:Fence)(n:Nat)(h200:F.fn 200)(h210:F.fn 210)(h201:F.fn 201)(hro:F.round=none)(hn:4≤n)(Bs Bo:Nat)(sv:Value)(zs:List Int)(hlen:zs.length≤4294967296)(w:World)(hBs:Bs<w.heap.size)
  (hc:w.cell? ⟨Bs,Bo,none⟩=some sv) (hI:IntsAt w.heap.size w sv zs) :
  CallsIn F n prog 200 #[.func (.func 201) #[] #[.pointer (some ⟨Bs,Bo,none⟩)]] w fun e W'=>∃v,e=.returned v∧W'.ownsRow w.heap.size 3 1 v zs.length (zs.map (Value.int .i64))∧(v=.slice none 0 0↔zs=[])∧Below w.heap.size w W':=by
 have h1:1≤n:=by omega
 refine callsIn_of_wp func200 rfl h200 ?_ hro
 simp only[ntmps200,xcu,xaz,xde,Nat.reduceAdd,Nat.reduceSub,xea,xdz,xet,xeg,xci,xca]
 gi_wp2_with (gi_at_call 210;refine(appendSeq_in F (n-1) h210 h201 hro (by omega) Bs Bo sv zs hlen _ hBs hc hI).mono ?_;rintro e w' ⟨v,rfl,hrow,hnil,hb⟩)
 go_ret
 exact⟨v,rfl,hrow,hnil,hb⟩
end
end Go.Proofs.YtfgjbkjddcjlfaaGreat
namespace Go.Proofs.YtfgjbkjddcjlfaaGreat
open Tryz
open Go Go.Proofs Go.RowKit Go.Shelf Go.Sort Go.Maps
attribute [local go_sem] Oper.semAt_some
def sort_some(blk off cap:Nat)(ss:List Int)(W:World)(hH:Holds (Value.int .i64) W blk off ss.toArray)(hblk:blk<W.heap.size)(hsz:ss.length<4611686018427387904)(m:Nat) :
  CallsIn Fence.wide m prog 125 #[.slice (some ⟨blk,off,none⟩) ss.length cap] W fun e w'=>e=.returned (.tuple #[])∧∃k os,w'=grow (putRow (Value.int .i64) (Sort.ahead W k) blk off (ss.mergeSort fun x y=>decide (x≤y)).toArray) os:=
 callsIn_wide.2 (AnyM.slices_Sort_int Tryz.sortA blk off cap ss W hH hblk hsz)
def sort_none(p:Option Addr)(cap:Nat)(W:World)(m:Nat):CallsIn Fence.wide m prog 125 #[.slice p 0 cap] W fun e w'=>e=.returned (.tuple #[])∧w'=W:=
 callsIn_wide.2 (AnyM.slices_Sort_int_none Tryz.sortA p cap W)
set_option maxRecDepth 100000 in
set_option maxHeartbeats 2000000 in
def sorted_in(Bs Bo:Nat)(sv:Value)(zs:List Int)(hlen:zs.length≤4294967296)(w:World)(hBs:Bs<w.heap.size)
  (hc:w.cell? ⟨Bs,Bo,none⟩=some sv) (hI:IntsAt w.heap.size w sv zs) :
  CallsIn Fence.wide 5 prog 177 #[.func (.func 201) #[] #[.pointer (some ⟨Bs,Bo,none⟩)]] w fun e W'=>∃v,e=.returned v ∧
   W'.ownsRow w.heap.size 3 1 v zs.length ((zs.mergeSort fun x y=>decide (x≤y)).map (Value.int .i64))∧(v=.slice none 0 0↔zs=[])∧Below w.heap.size w W':=by
 have h1:1≤5:=by omega
 have hro:Fence.wide.round=none:=rfl
 have cC:=collect_in Fence.wide 4 trivial trivial trivial rfl (by omega) Bs Bo sv zs hlen w hBs hc hI
 have hfC:Fence.wide.fn 200:=trivial
 have hfS:Fence.wide.fn 125:=trivial
 refine callsIn_of_wp func177 rfl trivial ?_ rfl
 simp only[ntmps177,xcu,xaz,xde,Nat.reduceAdd,Nat.reduceSub,xea,xdz,xet,xeg,xci,xca]
 gi_wp2_with (gi_at_call 200;refine cC.mono ?_;rintro e W ⟨v,rfl,hrow,hnil,hb⟩)
 rcases hrow.2 with⟨rfl,hz⟩|⟨gb,cap,cur,rfl,hbase,hgb,r1,r2,r3,r4⟩
 ·have hss:zs=[]:=xcf hz
  subst hss
  gi_wp2_with (gi_at_call 125;refine(sort_none none 0 W _).mono ?_;rintro e w' ⟨rfl,rfl⟩)
  go_ret
  exact⟨.slice none 0 0,rfl,by simpa using hrow,by simp,hb⟩
 ·have hH:Holds (Value.int .i64) W gb 0 zs.toArray:=holds_of_block_i hgb (by simpa using r4)
  have hgl:gb<W.heap.size:=(xbg.1 hgb).1
  have hsz:zs.length<4611686018427387904:=by omega
  have cS:=fun m=>sort_some gb 0 cap zs W hH hgl hsz m
  gi_wp2_with (gi_at_call 125;refine(cS _).mono ?_;rintro e w' ⟨rfl,nn,os,rfl⟩)
  go_ret
  exact⟨_,rfl,ownsRow_sorted_i (by simp) hbase hgb r1 r2 r3,hnil,hb.grown (grownBy_sorted_i _) hb.size (fun j hj=>by cases hj;exact hbase)⟩
end Go.Proofs.YtfgjbkjddcjlfaaGreat
namespace Go.Proofs.YtfgjbkjddcjlfaaGreat
open Tryz
open Go Go.Proofs Go.RowKit Go.X
def ext_of_below{w w':World}(h:Below w.heap.size w w'):Ext w w':=⟨h.os,h.tape,h.output,h.size,h.block⟩
def entV:zcf prog 178:=enters_of func178 (by kernel_rfl) rfl
def entS:zcf prog 177:=enters_of func177 (by kernel_rfl) rfl
noncomputable def sqE:SqE prog where
 fv:=178
 g:=201
 fs:=177
 e:=3
 entV:=entV
 entS:=entS
 vals w A len cap:=(callsIn_wide (n:=0)).1 ((values_in Fence.wide 0 trivial rfl A len cap w).mono fun e w' h=>⟨w.heap.size,h.1,by rw[h.2];exact Ext.alloc _ _,xak _,by rw[h.2];simp,by rw[h.2];exact cell_one_new _ _ _ 0 _ rfl⟩)
 sorts w Bs Bo A cap xs hl hB hc hx:=by
  refine(callsIn_wide (n:=5)).1 ((sorted_in Bs Bo _ xs hl w hB hc ?_).mono ?_)
  ·rcases hx with rfl|⟨b,o,rfl,hb,h⟩
   ·exact .inl ⟨A,cap,rfl,rfl⟩
   ·refine .inr ⟨b,o,cap,rfl,hb,fun j hj=>?_⟩
    rw[h j hj,xar hj]
    rfl
  ·rintro e w' ⟨v,rfl,hrow,hnil,hb⟩
   refine⟨v,rfl,ext_of_below hb,?_⟩
   obtain⟨h1,h2⟩:=hrow
   rcases h2 with⟨h2,_⟩|⟨g,k,cur,h2,h3,h4,h5,h6,h7,h8⟩
   ·exact .inl ⟨h2,hnil.1 h2⟩
   ·refine .inr ⟨g,k,cur,h2,h3,h4,h5,h6,by simpa using h7,fun i hi=>?_⟩
    have hi':i<xs.length:=by rw[zeq]at hi;exact hi
    have:=xbx (fun l=>l[i]?) h8
    simp only[xdt,xdu,hi',if_true,xcv]at this
    have h9:(xs.mergeSort fun x y=>decide (x≤y))[i]?=some (zdq xs)[i]:=xar hi
    rw[h9]at this
    simpa using this
end Go.Proofs.YtfgjbkjddcjlfaaGreat
namespace Go.Proofs.YtfgjbkjddcjlfaaGreat
open Go Go.Proofs Go.X
open Tryz
set_option maxRecDepth 100000
noncomputable section
abbrev uf7:=(List Int×Int)
abbrev uf4:=(Int×(Int×(Int×uf7)))
abbrev uf0:=(uf4×uf4)
abbrev uf3:=(List uf4)
abbrev uf2:=(Int×uf3)
abbrev uf5:=(List uf7)
abbrev uf8:=(List Bool)
abbrev uf9:=(List Int)
abbrev uf1:=(List Int×(List uf9×(Int×(Int×(Int×(Int×(Int×(Int×Int))))))))
abbrev uf6:=(List uf9)
def d4(x:Int)(n:Int):Option Int:=
 bif (!decide (n=0))then
 bif (!decide (n=0))then
 some (w (Int.tmod (w ((w (Int.tmod x n))+n)) n))
 else none
 else none
def E4:=uqy 4 ⟨[(y2,.sh),(y2,.sh)],[(y2,.sh)]⟩ d4 func4 call4 [] upai
def d22(n:Int):Option uf6:=
 (zad (β:=uf6) (fun((a,out,i):Int×uf6×Int)=>
 bif (decide (i<a))then
 bif (decide ((out.length:Int)+(([[(wu8 (w (97+i)))]]:List uf9).length:Int)≤LIM))then
 some (Sum.inl (a,(out++[[(wu8 (w (97+i)))]]),(w (i+1))))
 else none
 else
 some (Sum.inr out)) (n,[],0)).bind fun(b:List uf9)=>
 some b
def E22:=uqy 22 ⟨[(y2,.sh)],[(y25,(.own 9 .sh))]⟩ d22 func22 call22 [] (uqs (.seq upaf (.seq (uqs (.block (.loop [(0,uqa),(3,.v y25 (.own 9 .sh)),(4,uqa)] [(.brk 0,[(3,.v y25 (.own 9 .sh))])] upbe))) upac)))
def d5(method:Int)(n:Int)(seats:Int)(digits:Int)(ties:Int):Option uf1:=
 (d22 n).bind fun r=>
 (d4 method 3).bind fun a=>
 (d4 seats 5).bind fun b=>
 (d4 ties 3).bind fun e=>
 letJ (fun((f,c):uf1×uf1)=>
 letJ (fun((k,i):uf1×uf1)=>
 some i) fun g=>
 bif (decide (c.2.2.1=1))then
 g (f,(c.1,c.2.1,c.2.2.1,1,c.2.2.2.2))
 else
 g (f,c)) fun h=>
 bif (decide ((w (1+a))=2))then
 (d4 digits 6).bind fun j=>
 h (([],[],0,0,0,0,0,0,0),([99],r,(w (1+a)),(w (1+b)),0,(w (1+j)),(w (1+e)),0,0))
 else
 h (([],[],0,0,0,0,0,0,0),([99],r,(w (1+a)),(w (1+b)),0,0,(w (1+e)),0,0))
def E5:=uqy 5 ⟨[(y2,.sh),(y2,.sh),(y2,.sh),(y2,.sh),(y2,.sh)],[(y26,.sh)]⟩ d5 func5 call5 [.fn E22,.fn E4] (uqs (.seq (.reg [] (uqk 11 [{frz:=[(13,[])]}])) (.join upae ulad (.join upae ulad upac))))
def d25(l:List Int)(x:Int):Option Bool:=
 (zad (β:=Unit⊕Bool) (fun((a,b,i):uf9×Int×Int)=>
   bif (decide (i<(a.length:Int)))then
    bif (decide (0≤i)&&decide (i<(a.length:Int)))then
     bif (decide ((a.getD i.toNat 0)=b))then
      some (Sum.inr (Sum.inr true))
     else
      some (Sum.inl (a,b,(w (i+1))))
    else none
   else
    some (Sum.inr (Sum.inl ()))) (l,x,0)).bind fun
 |Sum.inl _=>
  some false
 |Sum.inr c=>
  some c
def E25:=uqy 25 ⟨[(y23,.bw),(y2,.sh)],[(y4,.sh)]⟩ d25 func25 call25 [] (uqs (.seq (uqs (.block (.loop [ujai,(1,uqa),(5,uqa)] uxaa upar))) upac))
def d8(n:Int)(l:List Int):Option uf9:=
 (zad (β:=uf9) (fun((e,f,out,i):Int×uf9×uf9×Int)=>
 letJ (fun((g,c,a,b,k):Int×uf9×uf9×Int×Bool)=>
 bif k then
 letJ (fun((m,o,p,q):Int×uf9×uf9×Int)=>
 some (Sum.inl (m,o,p,(w (q+1))))) fun h=>
 bif (decide (0≤b)&&decide (b<(c.length:Int)))then
 (d4 (c.getD b.toNat 0) g).bind fun r=>
 (d25 a r).bind fun s=>
 bif !s then
 bif (decide ((a.length:Int)+(([r]:List Int).length:Int)≤LIM))then
 h (g,c,(a++[r]),b)
 else none
 else
 h (g,c,a,b)
 else none
 else
 some (Sum.inr a)) fun j=>
 bif (decide (i<(f.length:Int)))then
 j (e,f,out,i,(decide ((out.length:Int)<e)))
 else
 j (e,f,out,i,false)) (n,l,[],0)).bind fun(t:List Int)=>
 some t
def E8:=uqy 8 ⟨[(y2,.sh),(y23,.bw)],[(y23,umad)]⟩ d8 func8 call8 [.fn E4,.fn E25] (uqs (.seq upaf (.seq (uqs (.block (.loop [(0,uqa),ujaa,ujah,(6,uqa)] [(.brk 0,[ujah])] (.seq (.join uqr [(0,uqa),ujaa,ujah,(6,uqa),(17,uqc)] upab) (.join upaz [(0,uqa),ujaa,ujah,(6,uqa)] uqr))))) upac)))
def d24(n:Int)(l:List uf9)(most:Int):Option uf6:=
 (zad (β:=uf6) (fun((g,c,e,out,i):Int×uf6×Int×uf6×Int)=>
 letJ (fun((h,b,k,f,a,m):Int×uf6×Int×uf6×Int×Bool)=>
 bif m then
 bif (decide (0≤a)&&decide (a<(b.length:Int)))then
 bif (decide (0≤a)&&decide (a<(b.length:Int)))then
 bif (zbs 0 (bif (decide (12<((b.getD a.toNat []).length:Int)))then 12 else((b.getD a.toNat []).length:Int)) (b.getD a.toNat []).length)then
 (d8 h (List.drop 0 (List.take (Int.toNat (bif (decide (12<((b.getD a.toNat []).length:Int)))then 12 else((b.getD a.toNat []).length:Int))) (b.getD a.toNat [])))).bind fun r=>
 bif (decide ((f.length:Int)+(([r]:List uf9).length:Int)≤LIM))then
 some (Sum.inl (h,b,k,(f++[r]),(w (a+1))))
 else none
 else none
 else none
 else none
 else
 some (Sum.inr f)) fun j=>
 bif (decide (i<(c.length:Int)))then
 j (g,c,e,out,i,(decide (i<e)))
 else
 j (g,c,e,out,i,false)) (n,l,most,[],0)).bind fun(o:List uf9)=>
 some o
def E24:=uqy 24 ⟨[(y2,.sh),(y22,.bw),(y2,.sh)],[(y22,umam)]⟩ d24 func24 call24 [.fn E8] (uqs (.seq upaf (.seq (uqs (.block (.loop [(0,uqa),ujbd,(2,uqa),(7,.v y22 umam),(8,uqa)] [(.brk 0,[(7,.v y22 umam)])] (.seq (.join uqr [(0,uqa),ujbd,(2,uqa),(7,.v y22 umam),(8,uqa),(17,uqc)] upab) (.seq (.block (.reg [] (uqk 14 [{frz:=[(33,[])]}]))) uqr))))) upac)))
def d38(n:Int)(p:List Int):Option Bool:=
 (zad (β:=Unit⊕Bool) (fun((b,a,i):Int×uf9×Int)=>
   bif (decide (i<(a.length:Int)))then
    letJ (fun((e,f,g,h):Int×uf9×Int×Bool)=>
      bif h then
       some (Sum.inr (Sum.inr false))
      else
       some (Sum.inl (e,f,(w (g+1))))) fun c=>
    bif (decide (0≤i)&&decide (i<(a.length:Int)))then
     bif !(decide ((a.getD i.toNat 0)<0))then
      bif (decide (0≤i)&&decide (i<(a.length:Int)))then
       bif !(decide (b≤(a.getD i.toNat 0)))then
        bif (zbs 0 i a.length)then
         bif (decide (0≤i)&&decide (i<(a.length:Int)))then
          (d25 (List.drop 0 (List.take i.toNat a)) (a.getD i.toNat 0)).bind fun r=>
          c (b,a,i,r)
         else none
        else none
       else
        c (b,a,i,true)
      else none
     else
      c (b,a,i,true)
    else none
   else
    some (Sum.inr (Sum.inl ()))) (n,p,0)).bind fun
 |Sum.inl _=>
  some true
 |Sum.inr j=>
  some j
def E38:=uqy 38 ⟨[(y2,.sh),(y23,.bw)],[(y4,.sh)]⟩ d38 func38 call38 [.fn E25] (uqs (.seq (uqs (.block (.loop [(0,uqa),ujaa,(5,uqa)] uxaa (.seq upak (.seq (.block (.join uqr [(0,uqa),ujaa,(5,uqa),(34,uqc)] upaa)) uqr))))) upac))
def d58(a:List Int)(b:List Int):Option Bool:=
 (zad (β:=(uf9×uf9)⊕Bool) (fun((g,h,i):uf9×uf9×Int)=>
   letJ (fun((e,f,c,k):uf9×uf9×Int×Bool)=>
     bif k then
      bif (decide (0≤c)&&decide (c<(e.length:Int)))then
       bif (decide (0≤c)&&decide (c<(f.length:Int)))then
        bif !(decide ((e.getD c.toNat 0)=(f.getD c.toNat 0)))then
         bif (decide (0≤c)&&decide (c<(e.length:Int)))then
          bif (decide (0≤c)&&decide (c<(f.length:Int)))then
           some (Sum.inr (Sum.inr (decide ((e.getD c.toNat 0)<(f.getD c.toNat 0)))))
          else none
         else none
        else
         some (Sum.inl (e,f,(w (c+1))))
       else none
      else none
     else
      some (Sum.inr (Sum.inl (e,f)))) fun j=>
   bif (decide (i<(g.length:Int)))then
    j (g,h,i,(decide (i<(h.length:Int))))
   else
    j (g,h,i,false)) (a,b,0)).bind fun
 |Sum.inl (l,m)=>
  some (decide ((l.length:Int)<(m.length:Int)))
 |Sum.inr n=>
  some n
def E58:=uqy 58 ⟨[(y23,.bw),(y23,.bw)],[(y4,.sh)]⟩ d58 func58 call58 [] (uqs (.seq (uqs (.block (.loop [ujai,ujaa,(5,uqa)] [(.brk 0,[ujai,ujaa]),(.ret,[(4,uqc)])] (.seq (.join uqr [ujai,ujaa,(5,uqa),(15,uqc)] upab) (.seq (.block upag) uqr))))) upac))
def d19(a:List Int)(b:List Int):Option Bool:=
 (d58 a b).bind fun r=>
 bif !r then
 (d58 b a).bind fun c=>
 some (!c)
 else
 some false
def E19:=uqy 19 ⟨[(y23,.bw),(y23,.bw)],[(y4,.sh)]⟩ d19 func19 call19 [.fn E58] upai
def d60(gs:List uf7)(p:List Int)(k:Int):Option uf5:=
 (zad (β:=(uf9×Int×uf5×Bool)) (fun((a,f,h,out,done,i):uf5×uf9×Int×uf5×Bool×Int)=>
 bif (decide (i<(a.length:Int)))then
 letJ (fun((y,z,aa,ab,ac,ae):uf5×uf9×Int×uf5×Bool×Int)=>
 some (Sum.inl (y,z,aa,ab,ac,(w (ae+1))))) fun n=>
 bif (decide (0≤i)&&decide (i<(a.length:Int)))then
 letJ (fun((af,ag,ah,o,ai,aj,q):uf5×uf9×Int×uf5×Bool×Int×uf7)=>
 bif (decide ((o.length:Int)+(([q]:List uf7).length:Int)≤LIM))then
 n (af,ag,ah,(o++[q]),ai,aj)
 else none) fun s=>
 letJ (fun((j,c,b,e,ak,l,g,al):uf5×uf9×Int×uf5×Bool×Int×uf7×Bool)=>
 bif al then
 (d19 g.1 c).bind fun am=>
 bif am then
 bif (decide ((e.length:Int)+(([(g.1,(w (g.2+b)))]:List uf7).length:Int)≤LIM))then
 n (j,c,b,(e++[(g.1,(w (g.2+b)))]),true,l)
 else none
 else
 bif (decide ((e.length:Int)+(([(c,b)]:List uf7).length:Int)≤LIM))then
 s (j,c,b,(e++[(c,b)]),true,l,g)
 else none
 else
 s (j,c,b,e,ak,l,g)) fun t=>
 bif !done then
 (d58 ((a.getD i.toNat ([],0)).1) f).bind fun r=>
 t (a,f,h,out,done,i,(a.getD i.toNat ([],0)),!r)
 else
 t (a,f,h,out,done,i,(a.getD i.toNat ([],0)),false)
 else none
 else
 some (Sum.inr (f,h,out,done))) (gs,p,k,[],false,0)).bind fun((u,v,m,an):uf9×Int×uf5×Bool)=>
 letJ (fun(ao:List uf7)=>
 some ao) fun x=>
 bif !an then
 bif (decide ((m.length:Int)+(([(u,v)]:List uf7).length:Int)≤LIM))then
 x (m++[(u,v)])
 else none
 else
 x m
def E60:=uqy 60 ⟨[(y29,.sh),(y23,.sh),(y2,.sh)],[(y29,(.own 88 .sh))]⟩ d60 func60 call60 [.fn E58,.fn E19] (uqs (.seq upaf (uqs (.seq (uqs (.block (.loop ulap [(.brk 0,[ujax,(2,uqa),ujas,(8,uqc)])] (.seq upak (.join (.block (uqs (.join (.join uqr [(0,.v y29 .sh),ujax,(2,uqa),ujas,(8,uqc),(9,uqa),(10,.v (.ptr y88) umaf),(29,uqc)] (.cond (uqs (.seq upag uqr)) .nil)) [(0,.v y29 .sh),ujax,(2,uqa),ujas,(8,uqc),(9,uqa),(10,.v (.ptr y88) umaf)] uqr))) ulap uqr))))) (.join upae [ujas] upac)))))
def d23(n:Int)(ballots:List uf9):Option (uf5×Int):=
 letJ (fun((f,b,g):Int×uf6×Bool)=>
   bif g then
    some ([],4)
   else
    bif (decide (100000<(b.length:Int)))then
     some ([],7)
    else
     (zad (β:=uf5⊕(uf5×Int)) (fun((c,a,gs,i):Int×uf6×uf5×Int)=>
       bif (decide (i<(a.length:Int)))then
        bif (decide (0≤i)&&decide (i<(a.length:Int)))then
         (d38 c (a.getD i.toNat [])).bind fun r=>
         bif !r then
          some (Sum.inr (Sum.inr ([],8)))
         else
          bif (decide (0≤i)&&decide (i<(a.length:Int)))then
           bif (decide ((([]:List Int).length:Int)+((a.getD i.toNat []).length:Int)≤LIM))then
            (d60 gs (a.getD i.toNat []) 1).bind fun h=>
            some (Sum.inl (c,a,h,(w (i+1))))
           else none
          else none
        else none
       else
        some (Sum.inr (Sum.inl gs))) (f,b,[],0)).bind fun
     |Sum.inl j=>
      some (j,0)
     |Sum.inr (k,l)=>
      some (k,l)) fun e=>
 bif !(decide (n<1))then
  e (n,ballots,(decide (7<n)))
 else
  e (n,ballots,true)
def E23:=uqy 23 ⟨[(y2,.sh),(y22,.bw)],[(y29,.sh),(y2,.sh)]⟩ d23 func23 call23 [.fn E38,.fn E60] (.post (uqs (.seq (.join uqr [(0,uqa),ujbd,(13,uqc)] upaa) (.seq upag (.seq upaf (.seq (uqs (.block (.loop [(0,uqa),ujbd,(6,.v y29 (.own 88 .sh)),(7,uqa)] [(.brk 0,[(6,.v y29 (.own 88 .sh))]),(.ret,[(4,.v y29 .sh),(5,uqa)])] (.seq upak (.seq (.block (.seq upag (.reg [(6,[])] (uqk 6 [{frz:=[(35,[])]}])))) uqr))))) upac))))) [(4,[])])
def d6(n:Int)(l:List uf9)(most:Int):Option uf5:=
 (d24 n l most).bind fun r=>
 (d23 n r).bind fun a=>
 some a.1
def E6:=uqy 6 ⟨[(y2,.sh),(y22,.bw),(y2,.sh)],[(y29,.sh)]⟩ d6 func6 call6 [.fn E24,.fn E23] (uqs (.seq upaw upac))
def d7(l:List uf9)(n:Int):Option uf6:=
 (zad (β:=uf6) (fun((c,e,out,i):uf6×Int×uf6×Int)=>
 letJ (fun((b,h,f,a,j):uf6×Int×uf6×Int×Bool)=>
 bif j then
 bif (decide (0≤a)&&decide (a<(b.length:Int)))then
 bif (decide (0≤a)&&decide (a<(b.length:Int)))then
 bif (zbs 0 (bif (decide (8<((b.getD a.toNat []).length:Int)))then 8 else((b.getD a.toNat []).length:Int)) (b.getD a.toNat []).length)then
 bif (decide ((f.length:Int)+(([(List.drop 0 (List.take (Int.toNat (bif (decide (8<((b.getD a.toNat []).length:Int)))then 8 else((b.getD a.toNat []).length:Int))) (b.getD a.toNat [])))]:List uf9).length:Int)≤LIM))then
 some (Sum.inl (b,h,(f++[(List.drop 0 (List.take (Int.toNat (bif (decide (8<((b.getD a.toNat []).length:Int)))then 8 else((b.getD a.toNat []).length:Int))) (b.getD a.toNat [])))]),(w (a+1))))
 else none
 else none
 else none
 else none
 else
 some (Sum.inr f)) fun g=>
 bif (decide (i<(c.length:Int)))then
 g (c,e,out,i,(decide (i<e)))
 else
 g (c,e,out,i,false)) (l,n,[],0)).bind fun(k:List uf9)=>
 some k
def E7:=uqy 7 ⟨[(y22,.sh),(y2,.sh)],[(y22,umam)]⟩ d7 func7 call7 [] (uqs (.seq upaf (.seq (uqs (.block (.loop [(0,.v y22 .sh),(1,uqa),(5,.v y22 umam),(6,uqa)] [(.brk 0,[(5,.v y22 umam)])] (.seq (.join uqr [(0,.v y22 .sh),(1,uqa),(5,.v y22 umam),(6,uqa),(15,uqc)] upab) upap)))) upac)))
def d9(l:List Int)(n:Int):Option uf9:=
 bif (zbs 0 (bif (decide (n<(l.length:Int)))then n else(l.length:Int)) l.length)then
 some (List.drop 0 (List.take (Int.toNat (bif (decide (n<(l.length:Int)))then n else(l.length:Int))) l))
 else none
def E9:=uqy 9 ⟨[(y23,.sh),(y2,.sh)],[(y23,.sh)]⟩ d9 func9 call9 [] upai
def d74(l:List Int):Option Bool:=
 (zad (β:=Unit⊕Bool) (fun((a,i):uf9×Int)=>
   bif (decide (i<(a.length:Int)))then
    bif (decide (0≤(w (i-1)))&&decide ((w (i-1))<(a.length:Int)))then
     bif (decide (0≤i)&&decide (i<(a.length:Int)))then
      bif (decide ((a.getD i.toNat 0)≤(a.getD (Int.toNat (w (i-1))) 0)))then
       some (Sum.inr (Sum.inr false))
      else
       some (Sum.inl (a,(w (i+1))))
     else none
    else none
   else
    some (Sum.inr (Sum.inl ()))) (l,1)).bind fun
 |Sum.inl _=>
  some true
 |Sum.inr b=>
  some b
def E74:=uqy 74 ⟨[(y23,.bw)],[(y4,.sh)]⟩ d74 func74 call74 [] (uqs (.seq (uqs (.block (.loop [ujai,(3,uqa)] [(.brk 0,[]),(.ret,[(2,uqc)])] upar))) upac))
def d39(p0:Int)(p1:uf4):Option Bool:=
 letJ (fun((c,a,e):Int×uf4×Bool)=>
 bif e then
 some false
 else
 bif (decide (a.1=1))then
 bif !(decide (a.2.1=a.2.2.1))then
 bif (decide ((a.2.2.2.1.length:Int)=0))then
 some (decide (a.2.2.2.2=0))
 else
 some false
 else
 some false
 else
 bif (decide (a.1=2))then
 bif !(decide (a.2.1=a.2.2.1))then
 (d38 c a.2.2.2.1).bind fun r=>
 bif r then
 (d74 a.2.2.2.1).bind fun f=>
 bif f then
 (d25 a.2.2.2.1 a.2.1).bind fun g=>
 bif g then
 (d25 a.2.2.2.1 a.2.2.1).bind fun h=>
 bif h then
 some (decide (a.2.2.2.2=0))
 else
 some false
 else
 some false
 else
 some false
 else
 some false
 else
 some false
 else
 bif (decide (a.1=3))then
 bif (decide (a.2.2.1=0))then
 bif (decide ((a.2.2.2.1.length:Int)=0))then
 bif (decide (2≤a.2.2.2.2))then
 some (decide (a.2.2.2.2≤6))
 else
 some false
 else
 some false
 else
 some false
 else
 some false) fun b=>
 bif !(decide (p0<1))then
 bif !(decide (7<p0))then
 bif !(decide (p1.2.1<0))then
 bif !(decide (p0≤p1.2.1))then
 bif !(decide (p1.2.2.1<0))then
 b (p0,p1,(decide (p0≤p1.2.2.1)))
 else
 b (p0,p1,true)
 else
 b (p0,p1,true)
 else
 b (p0,p1,true)
 else
 b (p0,p1,true)
 else
 b (p0,p1,true)
def E39:=uqy 39 ⟨[(y2,.sh),(y57,.bw)],[(y4,.sh)]⟩ d39 func39 call39 [.fn E38,.fn E74,.fn E25] upat
def d72(p0:Int)(p1:List uf7):Option Bool:=
 letJ (fun((j,k,l):Int×uf5×Bool)=>
   bif l then
    some false
   else
    (zad (β:=Unit⊕Bool) (fun((c,b,e,a):Int×uf5×Int×Int)=>
      bif (decide (a<(b.length:Int)))then
       letJ (fun((m,h,n,g,o):Int×uf5×Int×Int×Bool)=>
         bif o then
          some (Sum.inr (Sum.inr false))
         else
          bif (decide (0≤g)&&decide (g<(h.length:Int)))then
           some (Sum.inl (m,h,(w (n-((h.getD g.toNat ([],0)).2))),(w (g+1))))
          else none) fun f=>
       bif (decide (0≤a)&&decide (a<(b.length:Int)))then
        (d38 c ((b.getD a.toNat ([],0)).1)).bind fun r=>
        bif !(!r)then
         bif (decide (0≤a)&&decide (a<(b.length:Int)))then
          bif !(decide ((b.getD a.toNat ([],0)).2<1))then
           bif (decide (0≤a)&&decide (a<(b.length:Int)))then
            bif !(decide (e<(b.getD a.toNat ([],0)).2))then
             bif (decide (0<a))then
              bif (decide (0≤(w (a-1)))&&decide ((w (a-1))<(b.length:Int)))then
               bif (decide (0≤a)&&decide (a<(b.length:Int)))then
                (d58 ((b.getD (Int.toNat (w (a-1))) ([],0)).1) ((b.getD a.toNat ([],0)).1)).bind fun p=>
                f (c,b,e,a,!p)
               else none
              else none
             else
              f (c,b,e,a,false)
            else
             f (c,b,e,a,true)
           else none
          else
           f (c,b,e,a,true)
         else none
        else
         f (c,b,e,a,true)
       else none
      else
       some (Sum.inr (Sum.inl ()))) (j,k,100000,0)).bind fun
    |Sum.inl _=>
     some true
    |Sum.inr q=>
     some q) fun i=>
 bif !(decide (p0<1))then
  i (p0,p1,(decide (7<p0)))
 else
  i (p0,p1,true)
def E72:=uqy 72 ⟨[(y2,.sh),(y29,.bw)],[(y4,.sh)]⟩ d72 func72 call72 [.fn E38,.fn E58] (uqs (.seq (.join uqr [(0,uqa),ujad,(12,uqc)] upaa) (uqs (.seq (uqs (.block (.loop [(0,uqa),ujad,(5,uqa),(6,uqa)] uxaa (.seq upak (.seq (.block (.seq (.join uqr [(0,uqa),ujad,(5,uqa),(6,uqa),(62,uqc)] upaa) uqr)) uqr))))) upac))))
def d112(n:Int):Option uf8:=
 bif (decide (n=n)&&(decide (0≤n)&&decide (n≤LIM)))then
 (zad (β:=uf8) (fun((a,out,i):Int×uf8×Int)=>
 bif (decide (i<a))then
 bif (decide (0≤i)&&decide (i<(out.length:Int)))then
 some (Sum.inl (a,(List.set out i.toNat true),(w (i+1))))
 else none
 else
 some (Sum.inr out)) (n,(List.replicate n.toNat false),0)).bind fun(b:List Bool)=>
 some b
 else none
def E112:=uqy 112 ⟨[(y2,.sh)],[(y95,umao)]⟩ d112 func112 call112 [] (uqs (uqs (.seq (uqs (.block (.loop [(0,uqa),(3,.v y95 umao),(4,uqa)] [(.brk 0,[(3,.v y95 umao)])] upbe))) upac)))
def d150(gs:List uf7):Option Bool:=
 (d72 7 gs).bind fun r=>
 some r
def E150:=uqy 150 ⟨[(y29,.bw)],[(y4,.sh)]⟩ d150 func150 call150 [.fn E72] upai
def d173(remain:List Bool)(i:Int):Option Bool:=
 bif (decide (0≤i))then
 bif (decide (i<(remain.length:Int)))then
 bif (decide (0≤i)&&decide (i<(remain.length:Int)))then
 some (remain.getD i.toNat false)
 else none
 else
 some false
 else
 some false
def E173:=uqy 173 ⟨[(y95,.bw),(y2,.sh)],[(y4,.sh)]⟩ d173 func173 call173 [] upai
def d151(p:List Int)(remain:List Bool):Option uf9:=
 (zad (β:=uf9) (fun((a,b,out,i):uf9×uf8×uf9×Int)=>
 bif (decide (i<(a.length:Int)))then
 letJ (fun((e,f,g,h):uf9×uf8×uf9×Int)=>
 some (Sum.inl (e,f,g,(w (h+1))))) fun c=>
 bif (decide (0≤i)&&decide (i<(a.length:Int)))then
 (d173 b (a.getD i.toNat 0)).bind fun r=>
 bif r then
 bif (decide (0≤i)&&decide (i<(a.length:Int)))then
 bif (decide ((out.length:Int)+(([(a.getD i.toNat 0)]:List Int).length:Int)≤LIM))then
 c (a,b,(out++[(a.getD i.toNat 0)]),i)
 else none
 else none
 else
 c (a,b,out,i)
 else none
 else
 some (Sum.inr out)) (p,remain,[],0)).bind fun(j:List Int)=>
 some j
def E151:=uqy 151 ⟨[(y23,.bw),(y95,.bw)],[(y23,umad)]⟩ d151 func151 call151 [.fn E173] (uqs (.seq upaf (.seq (uqs (.block (.loop [ujai,(1,.v y95 .bw),ujah,(6,uqa)] [(.brk 0,[ujah])] (.seq upak (.join upbf [ujai,(1,.v y95 .bw),ujah,(6,uqa)] uqr))))) upac)))
def d111(gs:List uf7)(remain:List Bool):Option (uf9×Int):=
 letJ (fun((h,c,j):uf5×uf8×Bool)=>
 bif j then
 some ([],0)
 else
 bif (decide ((c.length:Int)=(c.length:Int))&&(decide (0≤(c.length:Int))&&decide ((c.length:Int)≤LIM)))then
 (zad (β:=(uf9×Int)) (fun((a,e,votes,rest,i):uf5×uf8×uf9×Int×Int)=>
 bif (decide (i<(a.length:Int)))then
 letJ (fun((k,l,m,n,o):uf5×uf8×uf9×Int×Int)=>
 some (Sum.inl (k,l,m,n,(w (o+1))))) fun f=>
 bif (decide (0≤i)&&decide (i<(a.length:Int)))then
 (d151 ((a.getD i.toNat ([],0)).1) e).bind fun b=>
 bif (decide (0<(b.length:Int)))then
 bif (decide (0≤0)&&decide (0<(b.length:Int)))then
 bif (decide (0≤(b.getD 0 0))&&decide ((b.getD 0 0)<(votes.length:Int)))then
 bif (decide (0≤i)&&decide (i<(a.length:Int)))then
 bif (decide (0≤(b.getD 0 0))&&decide ((b.getD 0 0)<(votes.length:Int)))then
 f (a,e,(List.set votes (Int.toNat (b.getD 0 0)) (w ((votes.getD (Int.toNat (b.getD 0 0)) 0)+((a.getD i.toNat ([],0)).2)))),rest,i)
 else none
 else none
 else none
 else none
 else
 bif (decide (0≤i)&&decide (i<(a.length:Int)))then
 f (a,e,votes,(w (rest+((a.getD i.toNat ([],0)).2))),i)
 else none
 else none
 else
 some (Sum.inr (votes,rest))) (h,c,(List.replicate (Int.toNat (c.length:Int)) 0),0,0)).bind fun((p,q):uf9×Int)=>
 some (p,q)
 else none) fun g=>
 bif !(decide (7<(remain.length:Int)))then
 (d150 gs).bind fun r=>
 g (gs,remain,!r)
 else
 g (gs,remain,true)
def E111:=uqy 111 ⟨[(y29,.bw),(y95,.bw)],[(y23,.sh),(y2,.sh)]⟩ d111 func111 call111 [.fn E150,.fn E151] (.post (uqs (.seq (.join uqr [ujaw,(1,.v y95 .bw),(17,uqc)] upaa) (uqs (uqs (.seq (uqs (.block (.loop ulaw [(.brk 0,[ujbi,(7,uqa)])] (.seq upak (.join (.block (uqs (uqs (.cond uqr uqr)))) ulaw uqr))))) upac))))) [(4,[])])
def d152(p:List Int)(x:Int):Option Int:=
 (zad (β:=uf9⊕Int) (fun((a,b,i):uf9×Int×Int)=>
   bif (decide (i<(a.length:Int)))then
    bif (decide (0≤i)&&decide (i<(a.length:Int)))then
     bif (decide ((a.getD i.toNat 0)=b))then
      some (Sum.inr (Sum.inr i))
     else
      some (Sum.inl (a,b,(w (i+1))))
    else none
   else
    some (Sum.inr (Sum.inl a))) (p,x,0)).bind fun
 |Sum.inl c=>
  some (c.length:Int)
 |Sum.inr e=>
  some e
def E152:=uqy 152 ⟨[(y23,.bw),(y2,.sh)],[(y2,.sh)]⟩ d152 func152 call152 [] (uqs (.seq (uqs (.block (.loop [ujai,(1,uqa),(5,uqa)] [(.brk 0,[ujai]),(.ret,[(4,uqa)])] upar))) upac))
def d113(gs:List uf7)(a:Int)(b:Int):Option Int:=
 (zad (β:=Int) (fun((f,k,l,n,i):uf5×Int×Int×Int×Int)=>
 letJ (fun((e,g,h,j,c,p):uf5×Int×Int×Int×Int×Bool)=>
 bif p then
 letJ (fun((q,s,t,u,v):uf5×Int×Int×Int×Int)=>
 some (Sum.inl (q,s,t,u,(w (v+1))))) fun m=>
 bif (decide (0≤c)&&decide (c<(e.length:Int)))then
 (d152 ((e.getD c.toNat ([],0)).1) g).bind fun x=>
 bif (decide (0≤c)&&decide (c<(e.length:Int)))then
 (d152 ((e.getD c.toNat ([],0)).1) h).bind fun y=>
 bif (decide (x<y))then
 bif (decide (0≤c)&&decide (c<(e.length:Int)))then
 m (e,g,h,(w (j+((e.getD c.toNat ([],0)).2))),c)
 else none
 else
 m (e,g,h,j,c)
 else none
 else none
 else
 some (Sum.inr j)) fun o=>
 bif (decide (i<(f.length:Int)))then
 (d150 f).bind fun r=>
 o (f,k,l,n,i,r)
 else
 o (f,k,l,n,i,false)) (gs,a,b,0,0)).bind fun(z:Int)=>
 some z
def E113:=uqy 113 ⟨[(y29,.bw),(y2,.sh),(y2,.sh)],[(y2,.sh)]⟩ d113 func113 call113 [.fn E150,.fn E152] (uqs (uqs (.seq (uqs (.block (.loop ulba [(.brk 0,[(7,uqa)])] (.seq (.join uqr [ujaw,(1,uqa),(2,uqa),(7,uqa),(8,uqa),(16,uqc)] upab) (.join upbf ulba uqr))))) upac)))
def d114(n:Int)(l:List Int):Option uf8:=
 bif (decide (n=n)&&(decide (0≤n)&&decide (n≤LIM)))then
 (zad (β:=uf8) (fun((a,out,i):uf9×uf8×Int)=>
 bif (decide (i<(a.length:Int)))then
 bif (decide (0≤i)&&decide (i<(a.length:Int)))then
 bif (decide (0≤(a.getD i.toNat 0))&&decide ((a.getD i.toNat 0)<(out.length:Int)))then
 some (Sum.inl (a,(List.set out (Int.toNat (a.getD i.toNat 0)) true),(w (i+1))))
 else none
 else none
 else
 some (Sum.inr out)) (l,(List.replicate n.toNat false),0)).bind fun(b:List Bool)=>
 some b
 else none
def E114:=uqy 114 ⟨[(y2,.sh),(y23,.bw)],[(y95,umao)]⟩ d114 func114 call114 [] (uqs (uqs (.seq (uqs (.block (.loop [ujaa,ujae,(6,uqa)] [(.brk 0,[ujae])] upbe))) upac)))
def d153(gs:List uf7):Option Int:=
 (zad (β:=Int) (fun((a,n,i):uf5×Int×Int)=>
 letJ (fun((c,e,b,g):uf5×Int×Int×Bool)=>
 bif g then
 bif (decide (0≤b)&&decide (b<(c.length:Int)))then
 some (Sum.inl (c,(w (e+((c.getD b.toNat ([],0)).2))),(w (b+1))))
 else none
 else
 some (Sum.inr e)) fun f=>
 bif (decide (i<(a.length:Int)))then
 (d150 a).bind fun r=>
 f (a,n,i,r)
 else
 f (a,n,i,false)) (gs,0,0)).bind fun(h:Int)=>
 some h
def E153:=uqy 153 ⟨[(y29,.bw)],[(y2,.sh)]⟩ d153 func153 call153 [.fn E150] (uqs (uqs (.seq (uqs (.block (.loop [ujaw,(3,uqa),(4,uqa)] [(.brk 0,[(3,uqa)])] (.seq (.join uqr [ujaw,(3,uqa),(4,uqa),(12,uqc)] upab) upap)))) upac)))
def d115(gs:List uf7):Option Int:=
 (d153 gs).bind fun r=>
 letJ (fun(e:Int)=>
 some e) fun a=>
 letJ (fun((b,n,f):uf5×Int×Bool)=>
 bif f then
 bif (decide (0≤0)&&decide (0<(b.length:Int)))then
 a (w (n-((b.getD 0 ([],0)).2)))
 else none
 else
 a n) fun c=>
 bif (decide (0<r))then
 bif (decide (0≤0)&&decide (0<(gs.length:Int)))then
 c (gs,r,(decide ((((gs.getD 0 ([],0)).1).length:Int)=0)))
 else none
 else
 c (gs,r,false)
def E115:=uqy 115 ⟨[(y29,.bw)],[(y2,.sh)]⟩ d115 func115 call115 [.fn E153] (uqs (uqs (.join (.join uqr [ujaw,(3,uqa),(15,uqc)] upbc) [(3,uqa)] upac)))
def d61(p0:Int)(p1:List uf7)(p2:uf4):Option (Int×Int):=
 letJ (fun((f,b,a,h):Int×uf5×uf4×Bool)=>
 bif h then
 some (0,0)
 else
 (d112 f).bind fun i=>
 (d111 b i).bind fun c=>
 bif (decide (a.1=1))then
 bif (decide (0≤a.2.1)&&decide (a.2.1<(c.1.length:Int)))then
 (d113 b a.2.2.1 a.2.1).bind fun j=>
 some ((c.1.getD a.2.1.toNat 0),j)
 else none
 else
 bif (decide (a.1=2))then
 (d114 f a.2.2.2.1).bind fun k=>
 (d111 b k).bind fun e=>
 bif (decide (0≤a.2.1)&&decide (a.2.1<(e.1.length:Int)))then
 bif (decide (0≤a.2.2.1)&&decide (a.2.2.1<(e.1.length:Int)))then
 some ((e.1.getD a.2.1.toNat 0),(e.1.getD a.2.2.1.toNat 0))
 else none
 else none
 else
 bif (decide (0≤a.2.1)&&decide (a.2.1<(c.1.length:Int)))then
 (d115 b).bind fun l=>
 some ((w (a.2.2.2.2*(c.1.getD a.2.1.toNat 0))),l)
 else none) fun g=>
 (d39 p0 p2).bind fun r=>
 bif !(!r)then
 (d72 p0 p1).bind fun m=>
 g (p0,p1,p2,!m)
 else
 g (p0,p1,p2,true)
def E61:=uqy 61 ⟨[(y2,.sh),(y29,.bw),(y57,.bw)],[(y2,.sh),(y2,.sh)]⟩ d61 func61 call61 [.fn E39,.fn E72,.fn E112,.fn E111,.fn E113,.fn E114,.fn E115] (uqs (.seq (.join uqr [(0,uqa),ujad,(5,.v (.ptr y57) umai),(21,uqc)] upaa) (.seq upau (.seq (uqs (.block (uqs (.cond upac upaq)))) upac))))
def d26(n:Int)(gs:List uf7)(a:uf4):Option Int:=
 (d61 n gs a).bind fun r=>
 some (w (r.1-r.2))
def E26:=uqy 26 ⟨[(y2,.sh),(y29,.bw),(y57,.bw)],[(y2,.sh)]⟩ d26 func26 call26 [.fn E61] (uqs (.seq upau upac))
def d10(n:Int)(gs:List uf7)(l:List uf4):Option uf3:=
 (zad (β:=uf3) (fun((b,c,a,out,i):Int×uf5×uf3×uf3×Int)=>
 bif (decide (i<(a.length:Int)))then
 letJ (fun((f,g,h,j,k):Int×uf5×uf3×uf3×Int)=>
 some (Sum.inl (f,g,h,j,(w (k+1))))) fun e=>
 bif (decide (0≤i)&&decide (i<(a.length:Int)))then
 (d26 b c (a.getD i.toNat (0,0,0,[],0))).bind fun r=>
 bif (decide (0<r))then
 bif (decide (0≤i)&&decide (i<(a.length:Int)))then
 bif (decide ((out.length:Int)+(([(a.getD i.toNat (0,0,0,[],0))]:List uf4).length:Int)≤LIM))then
 e (b,c,a,(out++[(a.getD i.toNat (0,0,0,[],0))]),i)
 else none
 else none
 else
 e (b,c,a,out,i)
 else none
 else
 some (Sum.inr out)) (n,gs,l,[],0)).bind fun(m:List uf4)=>
 some m
def E10:=uqy 10 ⟨[(y2,.sh),(y29,.bw),(y34,.sh)],[(y34,umah)]⟩ d10 func10 call10 [.fn E26] (uqs (.seq upaf (.seq (uqs (.block (.loop ulam [(.brk 0,[(7,.v y34 umah)])] (.seq upak (.join upbf ulam uqr))))) upac)))
def d37(n:Int):Option uf9:=
 (zad (β:=uf9) (fun((a,out,i):Int×uf9×Int)=>
 bif (decide (i<a))then
 bif (decide ((out.length:Int)+(([i]:List Int).length:Int)≤LIM))then
 some (Sum.inl (a,(out++[i]),(w (i+1))))
 else none
 else
 some (Sum.inr out)) (n,[],0)).bind fun(b:List Int)=>
 some b
def E37:=uqy 37 ⟨[(y2,.sh)],[(y23,umad)]⟩ d37 func37 call37 [] (uqs (.seq upaf (.seq (uqs (.block (.loop [(0,uqa),ujat,(4,uqa)] [(.brk 0,[ujat])] upbe))) upac)))
def d73(n:Int)(l:List Int):Option Bool:=
 bif (decide ((l.length:Int)=n))then
 (d38 n l).bind fun r=>
 some r
 else
 some false
def E73:=uqy 73 ⟨[(y2,.sh),(y23,.bw)],[(y4,.sh)]⟩ d73 func73 call73 [.fn E38] upai
def d36(p0:Int)(p1:uf1)(p2:List uf7)(p3:List Int):Option Int:=
 letJ (fun((h,i,j,g,k,p):Int×uf5×uf9×uf1×Int×Bool)=>
 bif p then
 some 5
 else
 letJ (fun((q,b,c,f,a,n):Int×uf5×uf9×uf1×Int×Bool)=>
 letJ (fun((s,t,o,u):uf5×uf9×Int×Bool)=>
 bif u then
 some 4
 else
 (d72 o s).bind fun r=>
 bif !r then
 some 8
 else
 (d73 o t).bind fun v=>
 bif !v then
 some 13
 else
 some 0) fun e=>
 bif !(decide (a<1))then
 bif !(decide (7<a))then
 bif !(decide (f.2.2.2.1<1))then
 bif !(decide (5<f.2.2.2.1))then
 bif (decide (q=1))then
 bif !(!(decide (f.2.2.2.1=1)))then
 bif !(!n)then
 bif !(decide (f.2.2.2.2.2.2.1<1))then
 e (b,c,a,(decide (3<f.2.2.2.2.2.2.1)))
 else
 e (b,c,a,true)
 else
 e (b,c,a,true)
 else
 e (b,c,a,true)
 else
 bif !(!n)then
 bif !(decide (f.2.2.2.2.2.2.1<1))then
 e (b,c,a,(decide (3<f.2.2.2.2.2.2.1)))
 else
 e (b,c,a,true)
 else
 e (b,c,a,true)
 else
 e (b,c,a,true)
 else
 e (b,c,a,true)
 else
 e (b,c,a,true)
 else
 e (b,c,a,true)) fun l=>
 bif (decide (h=2))then
 bif (decide (1≤g.2.2.2.2.2.1))then
 l (h,i,j,g,k,(decide (g.2.2.2.2.2.1≤6)))
 else
 l (h,i,j,g,k,false)
 else
 l (h,i,j,g,k,(decide (g.2.2.2.2.2.1=0)))) fun m=>
 bif !(decide (p0<1))then
 bif !(decide (3<p0))then
 m (p0,p2,p3,p1,(p1.2.1.length:Int),!(decide (p1.2.2.1=p0)))
 else
 m (p0,p2,p3,p1,(p1.2.1.length:Int),true)
 else
 m (p0,p2,p3,p1,(p1.2.1.length:Int),true)
def E36:=uqy 36 ⟨[(y2,.sh),(y26,.bw),(y29,.bw),(y23,.bw)],[(y2,.sh)]⟩ d36 func36 call36 [.fn E72,.fn E73] (uqs (uqs (.seq (.join uqr [(0,uqa),ujao,ujbc,ujaq,(9,uqa),(25,uqc)] upaa) (uqs (.join upae ulax (.seq (.join uqr [ujao,ujbc,(9,uqa),(77,uqc)] upaa) (.seq upag upao)))))))
def d174(l:List Int):Option uf9:=
 (zad (β:=uf9) (fun((a,out,x):uf9×uf9×Int)=>
 bif (decide (x<7))then
 letJ (fun((c,e,f):uf9×uf9×Int)=>
 some (Sum.inl (c,e,(w (f+1))))) fun b=>
 (d25 a x).bind fun r=>
 bif r then
 bif (decide ((out.length:Int)+(([x]:List Int).length:Int)≤LIM))then
 b (a,(out++[x]),x)
 else none
 else
 b (a,out,x)
 else
 some (Sum.inr out)) (l,[],0)).bind fun(g:List Int)=>
 some g
def E174:=uqy 174 ⟨[(y23,.bw)],[(y23,umad)]⟩ d174 func174 call174 [.fn E25] upan
def d76(a:Int)(b:Int):Option Int:=
 bif (decide (a<b))then
 some (-1)
 else
 bif (decide (b<a))then
 some 1
 else
 some 0
def E76:=uqy 76 ⟨[(y2,.sh),(y2,.sh)],[(y2,.sh)]⟩ d76 func76 call76 [] (uqs (.seq (.block upav) upac))
def d41(a:uf4)(b:uf4):Option Int:=
 (d76 a.1 b.1).bind fun r=>
 (d76 a.2.1 b.2.1).bind fun j=>
 (d76 a.2.2.1 b.2.2.1).bind fun k=>
 (d76 (a.2.2.2.1.length:Int) (b.2.2.2.1.length:Int)).bind fun l=>
 (zad (β:=uf0⊕Int) (fun((h,i,e,c):uf4×uf4×uf9×Int)=>
   bif (decide (c<4))then
    bif (decide (0≤c)&&decide (c<4))then
     bif !(decide ((e.getD c.toNat 0)=0))then
      some (Sum.inr (Sum.inr (e.getD c.toNat 0)))
     else
      some (Sum.inl (h,i,e,(w (c+1))))
    else none
   else
    some (Sum.inr (Sum.inl (h,i)))) (a,b,[r,j,k,l],0)).bind fun
 |Sum.inl (f,g)=>
  (d58 f.2.2.2.1 g.2.2.2.1).bind fun m=>
  bif m then
   some (-1)
  else
   (d58 g.2.2.2.1 f.2.2.2.1).bind fun n=>
   bif n then
    some 1
   else
    (d76 f.2.2.2.2 g.2.2.2.2).bind fun o=>
    some o
 |Sum.inr p=>
  some p
def E41:=uqy 41 ⟨[(y57,.bw),(y57,.bw)],[(y2,.sh)]⟩ d41 func41 call41 [.fn E76,.fn E58] (uqs (.seq (uqs (.block (.loop [(2,.v (.ptr y57) umai),(3,.v (.ptr y57) umai),(29,.v y126 .sh),(30,uqa)] [(.brk 0,[(2,.v (.ptr y57) umai),(3,.v (.ptr y57) umai)]),(.ret,[(4,uqa)])] upal))) (.seq upag upao)))
def d154(p0:Int)(p1:List uf7)(p2:List Int):Option (uf4×Int):=
 (zad (β:=(uf4×uf4×Int)) (fun((o,u,a,p,q,s,v,e):Int×uf5×uf9×uf4×uf4×Int×Bool×Int)=>
 bif (decide (e<o))then
 letJ (fun((ae,af,ag,ah,ai,aj,ak,al):Int×uf5×uf9×uf4×uf4×Int×Bool×Int)=>
 some (Sum.inl (ae,af,ag,ah,ai,aj,ak,(w (al+1))))) fun t=>
 bif (decide (0≤0)&&decide (0<(a.length:Int)))then
 letJ (fun((f,g,b,m,h,c,i,j,k):Int×uf5×uf9×uf4×uf4×Int×Bool×Int×uf4)=>
 bif (decide (0≤0)&&decide (0<(b.length:Int)))then
 bif (decide (j=(b.getD 0 0)))then
 t (f,g,b,m,h,c,i,j)
 else
 (d26 f g k).bind fun l=>
 letJ (fun((x,y,z,aa,am,an,ao,ab,ap,aq,ar):Int×uf5×uf9×uf4×uf4×Int×Bool×Int×uf4×Int×Bool)=>
 bif ar then
 t (x,y,z,aa,ap,aq,true,ab)
 else
 t (x,y,z,aa,am,an,ao,ab)) fun n=>
 bif !(!i)then
 bif !(decide (c<l))then
 bif (decide (l=c))then
 (d41 k h).bind fun au=>
 n (f,g,b,m,h,c,i,j,k,l,(decide (au<0)))
 else
 n (f,g,b,m,h,c,i,j,k,l,false)
 else
 n (f,g,b,m,h,c,i,j,k,l,true)
 else
 n (f,g,b,m,h,c,i,j,k,l,true)
 else none) fun ac=>
 (d25 a e).bind fun r=>
 bif r then
 bif (decide (0≤0)&&decide (0<(a.length:Int)))then
 (d174 a).bind fun av=>
 ac (o,u,a,p,q,s,v,e,(2,(a.getD 0 0),e,av,0))
 else none
 else
 ac (o,u,a,p,q,s,v,e,(1,e,(a.getD 0 0),[],0))
 else none
 else
 some (Sum.inr (p,q,s))) (p0,p1,p2,(0,0,0,[],0),(0,0,0,[],0),0,false,0)).bind fun((az,ax,ay):uf4×uf4×Int)=>
 some (ax,ay)
def E154:=uqy 154 ⟨[(y2,.sh),(y29,.bw),(y23,.bw)],[(y57,.sh),(y2,.sh)]⟩ d154 func154 call154 [.fn E25,.fn E174,.fn E26,.fn E41] (uqs (uqs (uqs (.seq (uqs (.block (.loop ulab [(.brk 0,[ujbq,ujbr,(9,uqa)])] (.seq upak (.join (.block (uqs (.join (uqs (.cond (.reg [] (uqk 6 [{frz:=[(32,[])]}])) .nil)) [(0,uqa),ujad,ujav,ujbq,ujbr,(9,uqa),(10,uqc),ujau,(12,.v (.ptr y57) (.own 0 umaj))] (.seq upak (uqs (.join uqr [(0,uqa),ujad,ujav,ujbq,ujbr,(9,uqa),(10,uqc),ujau,(12,.v (.ptr y57) (.own 0 umaj)),ujbh,(60,uqc)] upbc)))))) ulab uqr))))) upac))))
def d155(x:Int)(l:List Int):Option uf9:=
 bif (decide ((([x]:List Int).length:Int)+(l.length:Int)≤LIM))then
 some ([x]++l)
 else none
def E155:=uqy 155 ⟨[(y2,.sh),(y23,.bw)],[(y23,umad)]⟩ d155 func155 call155 [] upai
def d116F(ac:Int→uf5→uf9→Option uf2)(p0:Int)(p1:List uf7)(p2:List Int):Option uf2:=
 (d154 p0 p1 p2).bind fun r=>
 bif (decide ((p2.length:Int)=p0))then
 some (r.2,[r.1])
 else
 (zad (β:=(uf4×Int×Int×uf3)) (fun((b,g,c,h,i,e,j,k,a):Int×uf5×uf9×uf4×Int×Int×Bool×uf3×Int)=>
 bif (decide (a<b))then
 letJ (fun((ae,af,ag,ah,ai,aj,ak,al,am):Int×uf5×uf9×uf4×Int×Int×Bool×uf3×Int)=>
 some (Sum.inl (ae,af,ag,ah,ai,aj,ak,al,(w (am+1))))) fun l=>
 (d25 c a).bind fun an=>
 bif an then
 l (b,g,c,h,i,e,j,k,a)
 else
 (d155 a c).bind fun ao=>
 (ac b g ao).bind fun f=>
 letJ (fun((ap,aq,ar,au,av,ax,ay,m,az,n):Int×uf5×uf9×uf4×Int×Int×Bool×uf3×Int×uf3)=>
 bif (decide ((m.length:Int)+(n.length:Int)≤LIM))then
 l (ap,aq,ar,au,av,ax,ay,(m++n),az)
 else none) fun o=>
 letJ (fun((p,q,s,t,u,ba,bb,v,x,bc,y,be):Int×uf5×uf9×uf4×Int×Int×Bool×uf3×Int×Int×uf3×Bool)=>
 bif be then
 o (p,q,s,t,u,bc,true,v,x,y)
 else
 o (p,q,s,t,u,ba,bb,v,x,y)) fun z=>
 bif !(!j)then
 z (b,g,c,h,i,e,j,k,a,f.1,f.2,(decide (f.1<e)))
 else
 z (b,g,c,h,i,e,j,k,a,f.1,f.2,true)
 else
 some (Sum.inr (h,i,e,k))) (p0,p1,p2,r.1,r.2,0,false,[],0)).bind fun((bf,aa,ab,bg):uf4×Int×Int×uf3)=>
 bif (decide (ab≤aa))then
 some (aa,[bf])
 else
 some (ab,bg)
def sg116:Sig:=⟨[(y2,.sh),(y29,.bw),(y23,.sh)],[(y2,.sh),(y34,.sh)]⟩
def plan116:Plan:=(.post (uqs (.seq (.reg [] [{},{},{},{},{fl:=1}]) (.seq (uqs (.cond (uqs .nil) .nil)) (uqs (.seq (.reg [] [{fl:=2}]) (.seq (uqs (.block (.loop [(0,uqa),(1,.v y29 .bw),(2,.v y23 .sh),(8,.v (.ptr y57) (.own 0 .sh)),(9,uqa),(10,uqa),(11,uqc),(12,.v y34 (.own 57 .sh)),(13,uqa)] [(.brk 0,[(8,.v (.ptr y57) (.own 0 .sh)),(9,uqa),(10,uqa),(12,.v y34 (.own 57 .sh))])] (.seq (uqs (.cond .nil .nil)) (.join (.block (.seq (uqs (.cond .nil .nil)) (.seq (.reg [] [{},{},{},{},{},{frz:=[(43,[])]},{fl:=1}]) (.join (.join uqr [(0,uqa),(1,.v y29 .bw),(2,.v y23 .sh),(8,.v (.ptr y57) (.own 0 .sh)),(9,uqa),(10,uqa),(11,uqc),(12,.v y34 (.own 57 .sh)),(13,uqa),(14,uqa),(15,.v y34 .sh),(53,uqc)] (.cond uqr .nil)) [(0,uqa),(1,.v y29 .bw),(2,.v y23 .sh),(8,.v (.ptr y57) (.own 0 .sh)),(9,uqa),(10,uqa),(11,uqc),(12,.v y34 (.own 57 .sh)),(13,uqa),(15,.v y34 .sh)] uqr)))) [(0,uqa),(1,.v y29 .bw),(2,.v y23 .sh),(8,.v (.ptr y57) (.own 0 .sh)),(9,uqa),(10,uqa),(11,uqc),(12,.v y34 (.own 57 .sh)),(13,uqa)] uqr))))) (.seq (uqs (.cond (uqs .nil) .nil)) (uqs .nil)))))))) [(7,[])])
def d116N:Nat→Arr (ptys sg116.ps) (Option (Ret sg116.res))
 | 0=>fun _ _ _=>none
 |k+1=>d116F (d116N k)
def ev116(g:Arr (ptys sg116.ps) (Option (Ret sg116.res)))(h:Sim prog 116 sg116 g)(xs:Vals (ptys sg116.ps)):evF (P:=prog) tab [.fn E154,.fn E25,.fn E155,.fn ⟨116,sg116,g,h⟩] sg116 Tryz.f116.results.toList (code Tryz.f116) plan116 xs=d116F g xs.1 xs.2.1 xs.2.2.1:=by kernel_rfl
def sim116N:∀k,Sim prog 116 sg116 (d116N k)
 | 0=>⟨call116,fun xs y h=>absurd (show(none:Option _)=some y from h) (by simp)⟩
 |k+1=>zow mixd tabOK func116 (zfw rfl) call116 (uqn (by kernel_rfl)) (by kernel_rfl) plan116 _ fun xs y h=>(ev116 _ (sim116N k) xs).trans h
def d116(p0:Int)(p1:List uf7)(p2:List Int):Option uf2:=d116N 10 p0 p1 p2
def sim116:Sim prog 116 sg116 d116:=sim116N 10
def E116:FnE prog:=⟨116,sg116,d116,sim116⟩
def d62(n:Int)(gs:List uf7)(winner:Int):Option uf2:=
 letJ (fun((i,j,k,l):Int×uf5×Int×Bool)=>
 bif l then
 some (0,[])
 else
 (zad (β:=uf2) (fun((a,c,e,best,all,x):Int×uf5×Int×Int×uf3×Int)=>
 bif (decide (x<a))then
 letJ (fun((m,o,p,q,s,t):Int×uf5×Int×Int×uf3×Int)=>
 some (Sum.inl (m,o,p,q,s,(w (t+1))))) fun g=>
 bif !(decide (x=e))then
 (d116 a c [x]).bind fun b=>
 bif (decide ((all.length:Int)+(b.2.length:Int)≤LIM))then
 g (a,c,e,(bif (decide (b.1<best))then b.1 else best),(all++b.2),x)
 else none
 else
 g (a,c,e,best,all,x)
 else
 some (Sum.inr (best,all))) (i,j,k,100000,[],0)).bind fun((h,u):Int×uf3)=>
 some ((bif (decide (h<0))then 0 else h),u)) fun f=>
 (d72 n gs).bind fun r=>
 bif !(!r)then
 bif !(decide (winner<0))then
 f (n,gs,winner,(decide (n≤winner)))
 else
 f (n,gs,winner,true)
 else
 f (n,gs,winner,true)
def E62:=uqy 62 ⟨[(y2,.sh),(y29,.bw),(y2,.sh)],[(y2,.sh),(y34,.sh)]⟩ d62 func62 call62 [.fn E72,.fn E116] (.post (uqs (.seq (.join uqr [(0,uqa),ujad,(2,uqa),(25,uqc)] upaa) (uqs (.seq upaf (.seq (uqs (.block (.loop ulan [(.brk 0,[(8,uqa),(9,.v y34 umah)])] (.seq upak (.join (.block (uqs (.cond (.seq (.reg [] [{},{},{},{},{frz:=[(38,[])]},{fl:=1}]) upay) .nil))) ulan uqr))))) upac))))) [(7,[])])
def d63(l:List uf4):Option uf3:=
 (zad (β:=uf3) (fun((p,out,i):uf3×uf3×Int)=>
 bif (decide (i<(p.length:Int)))then
 letJ (fun((z,aa,ab):uf3×uf3×Int)=>
 some (Sum.inl (z,aa,(w (ab+1))))) fun q=>
 (zad (β:=(uf3×uf3×Int×Int)) (fun((n,g,h,k):uf3×uf3×Int×Int)=>
 letJ (fun((s,t,u,v,ac):uf3×uf3×Int×Int×Bool)=>
 bif ac then
 some (Sum.inl (s,t,u,(w (v+1))))
 else
 some (Sum.inr (s,t,u,v))) fun x=>
 bif (decide (k<(g.length:Int)))then
 bif (decide (0≤k)&&decide (k<(g.length:Int)))then
 bif (decide (0≤h)&&decide (h<(n.length:Int)))then
 (d41 (g.getD k.toNat (0,0,0,[],0)) (n.getD h.toNat (0,0,0,[],0))).bind fun r=>
 x (n,g,h,k,(decide (r<0)))
 else none
 else none
 else
 x (n,g,h,k,false)) (p,out,i,0)).bind fun((o,j,m,e):uf3×uf3×Int×Int)=>
 letJ (fun((f,a,c,b,ae):uf3×uf3×Int×Int×Bool)=>
 bif ae then
 q (f,a,c)
 else
 bif (zbs 0 b a.length)then
 bif (decide ((([]:List uf4).length:Int)+((List.drop 0 (List.take b.toNat a)).length:Int)≤LIM))then
 bif (decide (0≤c)&&decide (c<(f.length:Int)))then
 bif (decide (((List.drop 0 (List.take b.toNat a)).length:Int)+(([(f.getD c.toNat (0,0,0,[],0))]:List uf4).length:Int)≤LIM))then
 bif (zbs b (a.length:Int) a.length)then
 bif (decide ((((List.drop 0 (List.take b.toNat a))++[(f.getD c.toNat (0,0,0,[],0))]).length:Int)+((List.drop b.toNat (List.take (Int.toNat (a.length:Int)) a)).length:Int)≤LIM))then
 q (f,(((List.drop 0 (List.take b.toNat a))++[(f.getD c.toNat (0,0,0,[],0))])++(List.drop b.toNat (List.take (Int.toNat (a.length:Int)) a))),c)
 else none
 else none
 else none
 else none
 else none
 else none) fun y=>
 bif (decide (e<(j.length:Int)))then
 bif (decide (0≤e)&&decide (e<(j.length:Int)))then
 bif (decide (0≤m)&&decide (m<(o.length:Int)))then
 (d41 (j.getD e.toNat (0,0,0,[],0)) (o.getD m.toNat (0,0,0,[],0))).bind fun af=>
 y (o,j,m,e,(decide (af=0)))
 else none
 else none
 else
 y (o,j,m,e,false)
 else
 some (Sum.inr out)) (l,[],0)).bind fun(ag:List uf4)=>
 some ag
def E63:=uqy 63 ⟨[(y34,.sh)],[(y34,umah)]⟩ d63 func63 call63 [.fn E41] (uqs (.seq upaf (.seq (uqs (.block (.loop [ujbx,ujbj,(4,uqa)] [(.brk 0,[ujbj])] (.seq upak (.join (.block (uqs (.seq (.block (.loop [ujbx,ujbj,(4,uqa),(5,uqa)] [(.brk 2,[ujbx,ujbj,(4,uqa),(5,uqa)])] (.seq (.join uqr [ujbx,ujbj,(4,uqa),(5,uqa),(27,uqc)] upab) (.block uqr)))) (.seq (.join uqr [ujbx,ujbj,(4,uqa),(5,uqa),(45,uqc)] upab) (.reg [(3,[])] []))))) [ujbx,ujbj,(4,uqa)] uqr))))) upac)))
def d27(p0:uf1)(p1:List uf7)(p2:List Int):Option (uf3×Bool):=
 letJ (fun((i,c,e,f,n):uf5×uf9×uf1×Int×Bool)=>
   bif n then
    some ([],false)
   else
    bif (decide (f≤e.2.2.2.1))then
     some ([],(decide ((c.length:Int)=f)))
    else
     bif !(decide ((c.length:Int)=e.2.2.2.1))then
      some ([],false)
     else
      bif (decide (e.2.2.1=1))then
       bif (decide (0≤0)&&decide (0<(c.length:Int)))then
        (d62 f i (c.getD 0 0)).bind fun j=>
        bif (decide (j.1<1))then
         some ([],false)
        else
         (d63 j.2).bind fun o=>
         some (o,true)
       else none
      else
       (zad (β:=uf3⊕(uf3×Bool)) (fun((k,b,g,l,h,a):uf5×uf9×uf1×Int×uf3×Int)=>
         bif (decide (a<(b.length:Int)))then
          bif (decide (0≤a)&&decide (a<(b.length:Int)))then
           (d26 l k (3,(b.getD a.toNat 0),0,[],(w (g.2.2.2.1+1)))).bind fun p=>
           bif (decide (p<1))then
            some (Sum.inr (Sum.inr ([],false)))
           else
            bif (decide ((h.length:Int)+(([(3,(b.getD a.toNat 0),0,[],(w (g.2.2.2.1+1)))]:List uf4).length:Int)≤LIM))then
             some (Sum.inl (k,b,g,l,(h++[(3,(b.getD a.toNat 0),0,[],(w (g.2.2.2.1+1)))]),(w (a+1))))
            else none
          else none
         else
          some (Sum.inr (Sum.inl h))) (i,c,e,f,[],0)).bind fun
       |Sum.inl q=>
        (d63 q).bind fun s=>
        some (s,true)
       |Sum.inr (t,u)=>
        some (t,u)) fun m=>
 (d37 (p0.2.1.length:Int)).bind fun r=>
 (d36 p0.2.2.1 p0 p1 r).bind fun v=>
 bif !(!(decide (v=0)))then
  (d38 (p0.2.1.length:Int) p2).bind fun x=>
  m (p1,p2,p0,(p0.2.1.length:Int),!x)
 else
  m (p1,p2,p0,(p0.2.1.length:Int),true)
def E27:=uqy 27 ⟨[(y26,.bw),(y29,.bw),(y23,.bw)],[(y34,.sh),(y4,.sh)]⟩ d27 func27 call27 [.fn E37,.fn E36,.fn E38,.fn E62,.fn E63,.fn E26] (.post (uqs (uqs (.seq (.join uqr [ujad,ujav,ujab,(8,uqa),(30,uqc)] upaa) (.seq upag (.seq upag (.seq upaf (.seq (uqs (.cond (.seq upaw upao) .nil)) (.seq (uqs (.block (.loop [ujad,ujav,ujab,(8,uqa),(9,.v y34 umah),ujcc] [(.brk 0,[(9,.v y34 umah)]),(.ret,[(6,.v y34 .sh),(7,uqc)])] (.seq upak (.seq (.block (uqs (.seq upag uqr))) uqr))))) (.seq (.reg [(9,[])] []) .nil))))))))) [(6,[])])
def d64(p0:Int)(p1:Int)(p2:Int)(p3:Int)(p4:Int)(p5:Int):Option uf4:=
 (d4 p1 3).bind fun r=>
 (d4 p2 p0).bind fun e=>
 bif (decide ((w (1+r))=3))then
 (d4 p5 5).bind fun q=>
 some ((w (1+r)),e,0,[],(w (2+q)))
 else
 (d4 p3 (w (p0-1))).bind fun s=>
 (d4 (w ((w (e+1))+s)) p0).bind fun k=>
 letJ (fun((af,t):uf4×uf4)=>
 some t) fun l=>
 bif (decide ((w (1+r))=2))then
 (zad (β:=uf0) (fun((f,g,h,c,a):Int×Int×uf4×uf4×Int)=>
 bif (decide (a<f))then
 letJ (fun((u,v,x,y,z):Int×Int×uf4×uf4×Int)=>
 some (Sum.inl (u,v,x,y,(w (z+1))))) fun m=>
 letJ (fun((n,o,p,b,i,aa):Int×Int×uf4×uf4×Int×Bool)=>
 bif aa then
 bif (decide ((b.2.2.2.1.length:Int)+(([i]:List Int).length:Int)≤LIM))then
 m (n,o,p,(b.1,b.2.1,b.2.2.1,(b.2.2.2.1++[i]),b.2.2.2.2),i)
 else none
 else
 m (n,o,p,b,i)) fun j=>
 bif !(decide (a=c.2.1))then
 bif !(decide (a=c.2.2.1))then
 (d4 g 128).bind fun ab=>
 bif (decide (0≤(wu64 a)))then
 j (f,g,h,c,a,(decide ((w ((BitVec.ofInt 64 (w (Int.fdiv ab (2^(min (Int.toNat (wu64 a)) 64))))&&&BitVec.ofInt 64 1).toNat:Int))=1)))
 else none
 else
 j (f,g,h,c,a,true)
 else
 j (f,g,h,c,a,true)
 else
 some (Sum.inr (h,c))) (p0,p4,(0,0,0,[],0),((w (1+r)),e,k,[],0),0)).bind fun((ac,ae):uf4×uf4)=>
 l (ac,ae)
 else
 l ((0,0,0,[],0),((w (1+r)),e,k,[],0))
def E64:=uqy 64 ⟨[(y2,.sh),(y2,.sh),(y2,.sh),(y2,.sh),(y2,.sh),(y2,.sh)],[(y57,.sh)]⟩ d64 func64 call64 [.fn E4] (uqs (.seq (.reg [] (uqk 6 [{fl:=7}])) (.seq (uqs (.cond (uqs upbg) .nil)) (uqs (.join (uqs (.cond (uqs (.block (.loop [(0,uqa),(4,uqa),ujbg,ujac,(14,uqa)] [(.brk 0,[ujbg,ujac])] (.seq upak (.join (.block (.join uqr [(0,uqa),(4,uqa),ujbg,ujac,(14,uqa),(67,uqc)] upbc)) [(0,uqa),(4,uqa),ujbg,ujac,(14,uqa)] uqr))))) .nil)) [ujbg,ujac] upbg)))))
def d28(n:Int)(l:List uf9):Option uf3:=
 (zad (β:=uf3) (fun((m,j,out,i):Int×uf6×uf3×Int)=>
 letJ (fun((aa,ab,o,ac,ae):Int×uf6×uf3×Int×Bool)=>
 bif ae then
 (zad (β:=(Int×uf6×uf3×Int×uf9)) (fun((p,g,q,c,k,h):Int×uf6×uf3×Int×uf9×Int)=>
 letJ (fun((s,e,t,b,u,a,af):Int×uf6×uf3×Int×uf9×Int×Bool)=>
 bif af then
 bif (decide (0≤b)&&decide (b<(e.length:Int)))then
 bif (decide (0≤a)&&decide (a<((e.getD b.toNat []).length:Int)))then
 bif (decide (0≤a)&&decide (a<5))then
 some (Sum.inl (s,e,t,b,(List.set u a.toNat (List.getD (e.getD b.toNat []) a.toNat 0)),(w (a+1))))
 else none
 else none
 else none
 else
 some (Sum.inr (s,e,t,b,u))) fun v=>
 bif (decide (h<5))then
 bif (decide (0≤c)&&decide (c<(g.length:Int)))then
 v (p,g,q,c,k,h,(decide (h<((g.getD c.toNat []).length:Int))))
 else none
 else
 v (p,g,q,c,k,h,false)) (aa,ab,o,ac,[0,0,0,0,0],0)).bind fun((x,ag,y,ah,f):Int×uf6×uf3×Int×uf9)=>
 (d64 x (f.getD 0 0) (f.getD 1 0) (f.getD 2 0) (f.getD 3 0) (f.getD 4 0)).bind fun r=>
 bif (decide ((y.length:Int)+(([r]:List uf4).length:Int)≤LIM))then
 some (Sum.inl (x,ag,(y++[r]),(w (ah+1))))
 else none
 else
 some (Sum.inr o)) fun z=>
 bif (decide (i<(j.length:Int)))then
 z (m,j,out,i,(decide (i<12)))
 else
 z (m,j,out,i,false)) (n,l,[],0)).bind fun(ai:List uf4)=>
 some ai
def E28:=uqy 28 ⟨[(y2,.sh),(y22,.bw)],[(y34,umah)]⟩ d28 func28 call28 [.fn E64] (uqs (.seq upaf (.seq (uqs (.block (.loop [(0,uqa),ujbd,ujbn,(6,uqa)] [(.brk 0,[ujbn])] (.seq (.join uqr [(0,uqa),ujbd,ujbn,(6,uqa),(16,uqc)] upab) (.seq (.block (uqs (.seq (uqs (.block (.loop [(0,uqa),ujbd,ujbn,(6,uqa),ujci,(8,uqa)] [(.brk 2,[(0,uqa),ujbd,ujbn,(6,uqa),ujci])] (.seq (.join uqr [(0,uqa),ujbd,ujbn,(6,uqa),ujci,(8,uqa),(29,uqc)] upab) upap)))) uqr))) uqr))))) upac)))
def d11(c:uf1)(n:Int)(gs:List uf7)(winners:List Int)(x:List uf9)(drop:Int):Option uf3:=
 (d27 c gs winners).bind fun r=>
 (zad (β:=(Int×uf6×uf3)) (fun((p,q,s,l,out,i):Int×uf6×Int×uf3×uf3×Int)=>
 letJ (fun((f,g,e,h,j,k,af):Int×uf6×Int×uf3×uf3×Int×Bool)=>
 bif af then
 letJ (fun((ag,ah,ai,aj,ak,al):Int×uf6×Int×uf3×uf3×Int)=>
 some (Sum.inl (ag,ah,ai,aj,ak,(w (al+1))))) fun t=>
 letJ (fun((u,v,y,b,m,a,am):Int×uf6×Int×uf3×uf3×Int×Bool)=>
 bif am then
 bif (decide (0≤a)&&decide (a<(b.length:Int)))then
 bif (decide ((m.length:Int)+(([(b.getD a.toNat (0,0,0,[],0))]:List uf4).length:Int)≤LIM))then
 t (u,v,y,b,(m++[(b.getD a.toNat (0,0,0,[],0))]),a)
 else none
 else none
 else
 t (u,v,y,b,m,a)) fun z=>
 bif !(decide (e<0))then
 (d4 e (h.length:Int)).bind fun an=>
 z (f,g,e,h,j,k,!(decide (k=an)))
 else
 z (f,g,e,h,j,k,true)
 else
 some (Sum.inr (f,g,j))) fun aa=>
 bif (decide (i<(l.length:Int)))then
 aa (p,q,s,l,out,i,(decide (i<30)))
 else
 aa (p,q,s,l,out,i,false)) (n,x,drop,r.1,[],0)).bind fun((ab,ao,o):Int×uf6×uf3)=>
 letJ (fun(ap:List uf4)=>
 some ap) fun ac=>
 bif (decide (2≤ab))then
 (d28 ab ao).bind fun ae=>
 bif (decide ((o.length:Int)+(ae.length:Int)≤LIM))then
 ac (o++ae)
 else none
 else
 ac o
def E11:=uqy 11 ⟨[(y26,.bw),(y2,.sh),(y29,.bw),(y23,.bw),(y22,.bw),(y2,.sh)],[(y34,umah)]⟩ d11 func11 call11 [.fn E27,.fn E4,.fn E28] (uqs (.seq upau (.seq upaf (.seq (uqs (.block (.loop ulah [(.brk 0,[(1,uqa),(4,.v y22 .bw),ujca])] (.seq (.join uqr [(1,uqa),(4,.v y22 .bw),(5,uqa),(13,.v y34 .sh),ujca,(16,uqa),(31,uqc)] upab) (.join (.block (.join uqr [(1,uqa),(4,.v y22 .bw),(5,uqa),(13,.v y34 .sh),ujca,(16,uqa),(43,uqc)] upbc)) ulah uqr))))) (.join upae [ujca] upac)))))
def d179(n:Int)(l:List Int):Option Bool:=
 bif (decide (0<(l.length:Int)))then
 (d38 n l).bind fun r=>
 some r
 else
 some false
def E179:=uqy 179 ⟨[(y2,.sh),(y23,.bw)],[(y4,.sh)]⟩ d179 func179 call179 [.fn E38] upai
def d158(p0:Int)(p1:uf4)(p2:List Int):Option Bool:=
 letJ (fun((a,b,k):uf9×uf4×Bool)=>
   bif k then
    some false
   else
    bif (decide (b.1=1))then
     (d152 a b.2.2.1).bind fun g=>
     bif (decide (g<(a.length:Int)))then
      bif (zbs g (a.length:Int) a.length)then
       (d25 (List.drop g.toNat (List.take (Int.toNat (a.length:Int)) a)) b.2.1).bind fun l=>
       some (!l)
      else none
     else
      some false
    else
     bif (decide (b.1=2))then
      letJ (fun((m,n,o,p):uf9×uf4×Int×Bool)=>
        bif p then
         some false
        else
         (zad (β:=Unit⊕Bool) (fun((c,f,h,e):uf9×uf4×Int×Int)=>
           bif (decide (e<(f.2.2.2.1.length:Int)))then
            bif (zbs h (c.length:Int) c.length)then
             bif (decide (0≤e)&&decide (e<(f.2.2.2.1.length:Int)))then
              (d25 (List.drop h.toNat (List.take (Int.toNat (c.length:Int)) c)) (f.2.2.2.1.getD e.toNat 0)).bind fun q=>
              bif !q then
               some (Sum.inr (Sum.inr false))
              else
               some (Sum.inl (c,f,h,(w (e+1))))
             else none
            else none
           else
            some (Sum.inr (Sum.inl ()))) (m,n,o,0)).bind fun
         |Sum.inl _=>
          some true
         |Sum.inr s=>
          some s) fun i=>
      bif !(decide ((w ((a.length:Int)-(b.2.2.2.1.length:Int)))<0))then
       bif (decide (0≤(w ((a.length:Int)-(b.2.2.2.1.length:Int))))&&decide ((w ((a.length:Int)-(b.2.2.2.1.length:Int)))<(a.length:Int)))then
        i (a,b,(w ((a.length:Int)-(b.2.2.2.1.length:Int))),!(decide ((a.getD (Int.toNat (w ((a.length:Int)-(b.2.2.2.1.length:Int)))) 0)=b.2.1)))
       else none
      else
       i (a,b,(w ((a.length:Int)-(b.2.2.2.1.length:Int))),true)
     else
      some false) fun j=>
 (d39 p0 p1).bind fun r=>
 bif !(!r)then
  (d179 p0 p2).bind fun t=>
  j (p2,p1,!t)
 else
  j (p2,p1,true)
def E158:=uqy 158 ⟨[(y2,.sh),(y57,.bw),(y23,.bw)],[(y4,.sh)]⟩ d158 func158 call158 [.fn E39,.fn E179,.fn E152,.fn E25] (uqs (.seq (.join uqr [ujav,ujbs,(19,uqc)] upaa) (.seq (uqs (.block (uqs (.cond upai (uqs (.cond (uqs (.seq (.join uqr [ujav,ujbs,(8,uqa),(59,uqc)] upaa) (.seq (uqs (.block (.loop [ujav,ujbs,(8,uqa),(9,uqa)] [(.brk 1,[]),(.ret,ular)] upar))) upac))) .nil)))))) upac)))
def d120(n:Int)(order:List Int)(l:List uf4):Option Bool:=
 (zad (β:=Unit⊕Bool) (fun((g,h,f,i):Int×uf9×uf3×Int)=>
   bif (decide (i<(f.length:Int)))then
    (zad (β:=(Int×uf9×uf3×Int)⊕Bool) (fun((c,a,e,b,k):Int×uf9×uf3×Int×Int)=>
      bif (decide (k<c))then
       bif (decide (0≤b)&&decide (b<(e.length:Int)))then
        bif (zbs k (a.length:Int) a.length)then
         (d158 c (e.getD b.toNat (0,0,0,[],0)) (List.drop k.toNat (List.take (Int.toNat (a.length:Int)) a))).bind fun r=>
         bif r then
          some (Sum.inr (Sum.inr true))
         else
          some (Sum.inl (c,a,e,b,(w (k+1))))
        else none
       else none
      else
       some (Sum.inr (Sum.inl (c,a,e,b)))) (g,h,f,i,0)).bind fun
    |Sum.inl (j,m,o,p)=>
     some (Sum.inl (j,m,o,(w (p+1))))
    |Sum.inr q=>
     some (Sum.inr (Sum.inr q))
   else
    some (Sum.inr (Sum.inl ()))) (n,order,l,0)).bind fun
 |Sum.inl _=>
  some false
 |Sum.inr s=>
  some s
def E120:=uqy 120 ⟨[(y2,.sh),(y23,.bw),(y34,.bw)],[(y4,.sh)]⟩ d120 func120 call120 [.fn E158] (uqs (.seq (uqs (.block (.loop [(0,uqa),ujaa,ujaj,(7,uqa)] [(.brk 0,[]),(.ret,ular)] (.seq upak (.seq (.block (uqs (.block (.loop [(0,uqa),ujaa,ujaj,(7,uqa),(8,uqa)] [(.brk 2,[(0,uqa),ujaa,ujaj,(7,uqa)]),(.ret,ular)] upar)))) uqr))))) upac))
def d75F(h:Int→Int→uf9→uf3→Option (uf9×Bool))(n:Int)(winner:Int)(begin:List Int)(l:List uf4):Option (uf9×Bool):=
 bif (decide ((begin.length:Int)=n))then
  bif (decide (0≤(w (n-1)))&&decide ((w (n-1))<(begin.length:Int)))then
   bif !(decide ((begin.getD (Int.toNat (w (n-1))) 0)=winner))then
    (d120 n begin l).bind fun r=>
    some (begin,!r)
   else
    some (begin,false)
  else none
 else
  (zad (β:=Unit⊕(uf9×Bool)) (fun((b,c,a,e,x):Int×Int×uf9×uf3×Int)=>
    bif (decide (x<b))then
     letJ (fun((i,j,k,m,o):Int×Int×uf9×uf3×Int)=>
       some (Sum.inl (i,j,k,m,(w (o+1))))) fun f=>
     (d25 a x).bind fun p=>
     bif !p then
      bif (decide ((([]:List Int).length:Int)+(a.length:Int)≤LIM))then
       bif (decide ((a.length:Int)+(([x]:List Int).length:Int)≤LIM))then
        (h b c (a++[x]) e).bind fun g=>
        bif g.2 then
         some (Sum.inr (Sum.inr (g.1,true)))
        else
         f (b,c,a,e,x)
       else none
      else none
     else
      f (b,c,a,e,x)
    else
     some (Sum.inr (Sum.inl ()))) (n,winner,begin,l,0)).bind fun
  |Sum.inl _=>
   some ([],false)
  |Sum.inr (q,s)=>
   some (q,s)
def sg75:Sig:=⟨[(y2,.sh),(y2,.sh),(y23,.sh),(y34,.bw)],[(y23,.sh),(y4,.sh)]⟩
def plan75:Plan:=(uqs (.seq (uqs (.cond (uqs .nil) .nil)) (.seq (uqs (.block (.loop [(0,uqa),(1,uqa),(2,.v y23 .sh),(3,.v y34 .bw),(10,uqa)] [(.brk 0,[]),(.ret,[(8,.v y23 .sh),(9,uqc)])] (.seq (uqs (.cond .nil .nil)) (.join (.block (uqs (.cond (.seq (.reg [] [{},{},{},{},{},{},{},{},{frz:=[(48,[])]},{fl:=1}]) (uqs (.cond (uqs .nil) .nil))) .nil))) [(0,uqa),(1,uqa),(2,.v y23 .sh),(3,.v y34 .bw),(10,uqa)] uqr))))) (uqs .nil))))
def d75N:Nat→Arr (ptys sg75.ps) (Option (Ret sg75.res))
 | 0=>fun _ _ _ _=>none
 |k+1=>d75F (d75N k)
def ev75(g:Arr (ptys sg75.ps) (Option (Ret sg75.res)))(h:Sim prog 75 sg75 g)(xs:Vals (ptys sg75.ps)):evF (P:=prog) tab [.fn E120,.fn E25,.fn ⟨75,sg75,g,h⟩] sg75 Tryz.f75.results.toList (code Tryz.f75) plan75 xs=d75F g xs.1 xs.2.1 xs.2.2.1 xs.2.2.2.1:=by kernel_rfl
def sim75N:∀k,Sim prog 75 sg75 (d75N k)
 | 0=>⟨call75,fun xs y h=>absurd (show(none:Option _)=some y from h) (by simp)⟩
 |k+1=>zow mixd tabOK func75 (zfw rfl) call75 (uqn (by kernel_rfl)) (by kernel_rfl) plan75 _ fun xs y h=>(ev75 _ (sim75N k) xs).trans h
def d75(n:Int)(winner:Int)(begin:List Int)(l:List uf4):Option (uf9×Bool):=d75N 10 n winner begin l
def sim75:Sim prog 75 sg75 d75:=sim75N 10
def E75:FnE prog:=⟨75,sg75,d75,sim75⟩
def d40(n:Int)(winner:Int)(l:List uf4):Option (uf9×Bool):=
 letJ (fun((b,c,e,f):Int×Int×uf3×Bool)=>
 bif f then
 some ([],false)
 else
 (d75 b c [] e).bind fun r=>
 some (r.1,r.2)) fun a=>
 bif !(decide (n<1))then
 bif !(decide (7<n))then
 bif !(decide (winner<0))then
 bif !(decide (n≤winner))then
 a (n,winner,l,(decide (1400<(l.length:Int))))
 else
 a (n,winner,l,true)
 else
 a (n,winner,l,true)
 else
 a (n,winner,l,true)
 else
 a (n,winner,l,true)
def E40:=uqy 40 ⟨[(y2,.sh),(y2,.sh),(y34,.bw)],[(y23,.sh),(y4,.sh)]⟩ d40 func40 call40 [.fn E75] (uqs (.seq (.join uqr [(0,uqa),(1,uqa),ujaj,(27,uqc)] upaa) upac))
def d14(p0:uf1)(p1:List Int)(p2:List uf4):Option Bool:=
 letJ (fun((v,x,y,z,aa):uf9×uf3×uf1×Int×Bool)=>
   bif aa then
    some false
   else
    (zad (β:=(uf9×uf3×uf1×Int)⊕Bool) (fun((n,e,o,k,f):uf9×uf3×uf1×Int×Int)=>
      bif (decide (f<(e.length:Int)))then
       bif (decide (0≤f)&&decide (f<(e.length:Int)))then
        (d39 k (e.getD f.toNat (0,0,0,[],0))).bind fun ab=>
        bif !ab then
         some (Sum.inr (Sum.inr false))
        else
         some (Sum.inl (n,e,o,k,(w (f+1))))
       else none
      else
       some (Sum.inr (Sum.inl (n,e,o,k)))) (v,x,y,z,0)).bind fun
    |Sum.inl (g,p,i,l)=>
     bif (decide (l≤i.2.2.2.1))then
      some (decide ((g.length:Int)=l))
     else
      bif !(decide ((g.length:Int)=i.2.2.2.1))then
       some false
      else
       bif (decide (i.2.2.1=1))then
        bif (decide (0≤0)&&decide (0<(g.length:Int)))then
         (d40 l (g.getD 0 0) p).bind fun ac=>
         some (!ac.2)
        else none
       else
        (zad (β:=Unit⊕Bool) (fun((q,ae,af,s):uf9×uf3×uf1×Int)=>
          bif (decide (s<(q.length:Int)))then
           (zad (β:=(uf9×uf3×uf1×Int×Bool)) (fun((h,a,j,b,t,c):uf9×uf3×uf1×Int×Bool×Int)=>
             bif (decide (c<(a.length:Int)))then
              letJ (fun((ag,ah,ai,aj,ak,al):uf9×uf3×uf1×Int×Bool×Int)=>
                some (Sum.inl (ag,ah,ai,aj,ak,(w (al+1))))) fun u=>
              bif !t then
               bif (decide (0≤c)&&decide (c<(a.length:Int)))then
                bif (decide (0≤b)&&decide (b<(h.length:Int)))then
                 (d41 (a.getD c.toNat (0,0,0,[],0)) (3,(h.getD b.toNat 0),0,[],(w (j.2.2.2.1+1)))).bind fun am=>
                 u (h,a,j,b,(decide (am=0)),c)
                else none
               else none
              else
               u (h,a,j,b,true,c)
             else
              some (Sum.inr (h,a,j,b,t))) (q,ae,af,s,false,0)).bind fun((an,ao,ap,aq,ar):uf9×uf3×uf1×Int×Bool)=>
           bif !ar then
            some (Sum.inr (Sum.inr false))
           else
            some (Sum.inl (an,ao,ap,(w (aq+1))))
          else
           some (Sum.inr (Sum.inl ()))) (g,p,i,0)).bind fun
        |Sum.inl _=>
         some true
        |Sum.inr au=>
         some au
    |Sum.inr av=>
     some av) fun m=>
 (d37 (p0.2.1.length:Int)).bind fun r=>
 (d36 p0.2.2.1 p0 [] r).bind fun ax=>
 bif !(!(decide (ax=0)))then
  (d38 (p0.2.1.length:Int) p1).bind fun ay=>
  bif !(!ay)then
   m (p1,p2,p0,(p0.2.1.length:Int),(decide (1400<(p2.length:Int))))
  else
   m (p1,p2,p0,(p0.2.1.length:Int),true)
 else
  m (p1,p2,p0,(p0.2.1.length:Int),true)
def E14:=uqy 14 ⟨[(y26,.bw),(y23,.bw),(y34,.bw)],[(y4,.sh)]⟩ d14 func14 call14 [.fn E37,.fn E36,.fn E38,.fn E39,.fn E40,.fn E41] (uqs (uqs (.seq (.join uqr [ujaa,ujaj,ujab,(7,uqa),(34,uqc)] upaa) (.seq (uqs (.block (.loop [ujaa,ujaj,ujab,(7,uqa),(8,uqa)] [(.brk 0,ulau),(.ret,ular)] upar))) (.seq upag (.seq upag (.seq upaq (.seq (uqs (.block (.loop [ujaa,ujaj,ujab,ujau] [(.brk 2,[]),(.ret,ular)] (.seq upak (.seq (.block (uqs (.seq (uqs (.block (.loop [ujaa,ujaj,ujab,ujau,(12,uqc),ujbh] [(.brk 4,[ujaa,ujaj,ujab,ujau,(12,uqc)])] (.seq upak (.join (.block uqr) [ujaa,ujaj,ujab,ujau,(12,uqc),ujbh] uqr))))) upag))) uqr))))) upac))))))))
def d15(n:Int)(c:Int):Option uf9:=
 (zad (β:=uf9) (fun((a,b,out,i):Int×Int×uf9×Int)=>
 bif (decide (i<a))then
 (d4 b (w (i+1))).bind fun r=>
 bif (!decide ((w (i+1))=0))then
 bif (zbs 0 r out.length)then
 bif (decide ((([]:List Int).length:Int)+((List.drop 0 (List.take r.toNat out)).length:Int)≤LIM))then
 bif (decide (((List.drop 0 (List.take r.toNat out)).length:Int)+(([i]:List Int).length:Int)≤LIM))then
 bif (zbs r (out.length:Int) out.length)then
 bif (decide ((((List.drop 0 (List.take r.toNat out))++[i]).length:Int)+((List.drop r.toNat (List.take (Int.toNat (out.length:Int)) out)).length:Int)≤LIM))then
 some (Sum.inl (a,(w (Int.tdiv b (w (i+1)))),(((List.drop 0 (List.take r.toNat out))++[i])++(List.drop r.toNat (List.take (Int.toNat (out.length:Int)) out))),(w (i+1))))
 else none
 else none
 else none
 else none
 else none
 else none
 else
 some (Sum.inr out)) (n,c,[],0)).bind fun(e:List Int)=>
 some e
def E15:=uqy 15 ⟨[(y2,.sh),(y2,.sh)],[(y23,umad)]⟩ d15 func15 call15 [.fn E4] (uqs (.seq upaf (.seq (uqs (.block (.loop [(0,uqa),(1,uqa),ujah,(6,uqa)] [(.brk 0,[ujah])] (.seq upak (.seq (.block (uqs (uqs (.reg [(5,[])] [])))) uqr))))) upac)))
def d20(p0:Int)(p1:List uf7):Option uf9:=
 (d59 p0 p1).bind fun r=>
 bif !r then
 some []
 else
 bif (decide (0≤p0))then
 bif (decide ((w (1*2^(min p0.toNat 64)))=(w (1*2^(min p0.toNat 64))))&&(decide (0≤(w (1*2^(min p0.toNat 64))))&&decide ((w (1*2^(min p0.toNat 64)))≤LIM)))then
 bif (decide (0≤p0))then
 bif (decide (0≤(w ((w (1*2^(min p0.toNat 64)))-1)))&&decide ((w ((w (1*2^(min p0.toNat 64)))-1))<((List.replicate (Int.toNat (w (1*2^(min p0.toNat 64)))) false).length:Int)))then
 bif (decide (0≤p0))then
 (zad (β:=(Int×uf8)) (fun((b,af,k,h):Int×uf5×uf8×Int)=>
 bif (decide (0<h))then
 letJ (fun((bh,bi,bj,bk):Int×uf5×uf8×Int)=>
 some (Sum.inl (bh,bi,bj,(w (bk-1))))) fun ag=>
 bif (decide (0≤h)&&decide (h<(k.length:Int)))then
 bif !(k.getD h.toNat false)then
 ag (b,af,k,h)
 else
 bif (decide (b=b)&&(decide (0≤b)&&decide (b≤LIM)))then
 (zad (β:=(Int×uf5×uf8×Int×uf8)) (fun((ah,ai,aj,y,z,ak,f):Int×uf5×uf8×Int×uf8×Int×Int)=>
 bif (decide (f<ak))then
 bif (decide (0≤f))then
 bif (decide (0≤f)&&decide (f<(z.length:Int)))then
 some (Sum.inl (ah,ai,aj,y,(List.set z f.toNat (decide ((w ((BitVec.ofInt 64 (w (Int.fdiv y (2^(min f.toNat 64))))&&&BitVec.ofInt 64 1).toNat:Int))=1))),ak,(w (f+1))))
 else none
 else none
 else
 some (Sum.inr (ah,ai,aj,y,z))) (b,af,k,h,(List.replicate b.toNat false),((List.replicate b.toNat false).length:Int),0)).bind fun((bl,al,bm,bn,am):Int×uf5×uf8×Int×uf8)=>
 (d52 al am).bind fun an=>
 (zad (β:=(Int×uf5×uf8×Int)) (fun((ao,ap,aq,ar,aa,au,av,i):Int×uf5×uf8×Int×uf8×uf9×Int×Int)=>
 bif (decide (i<av))then
 letJ (fun((bo,bp,bq,br,bs,bt,bu,bv):Int×uf5×uf8×Int×uf8×uf9×Int×Int)=>
 some (Sum.inl (bo,bp,bq,br,bs,bt,bu,(w (bv+1))))) fun ax=>
 bif (decide (0≤i)&&decide (i<(aa.length:Int)))then
 (zad (β:=(Int×uf5×uf8×Int×uf8×uf9×Int×Bool×Int×Int)) (fun((m,n,o,p,j,e,g,ay,q,s,t,a):Int×uf5×uf8×Int×uf8×uf9×Int×Bool×Int×Int×Int×Int)=>
 bif (decide (a<t))then
 letJ (fun((bx,bz,ca,cb,cc,ce,cf,cg,ch,ci,cj,ck):Int×uf5×uf8×Int×uf8×uf9×Int×Bool×Int×Int×Int×Int)=>
 some (Sum.inl (bx,bz,ca,cb,cc,ce,cf,cg,ch,ci,cj,(w (ck+1))))) fun ab=>
 bif ay then
 bif (decide (0≤a)&&decide (a<(j.length:Int)))then
 bif !(!(j.getD a.toNat false))then
 bif (decide (0≤g)&&decide (g<(e.length:Int)))then
 bif (decide (0≤a)&&decide (a<(e.length:Int)))then
 ab (m,n,o,p,j,e,g,(decide ((e.getD g.toNat 0)≤(e.getD a.toNat 0))),q,s,t,a)
 else none
 else none
 else
 ab (m,n,o,p,j,e,g,true,q,s,t,a)
 else none
 else
 ab (m,n,o,p,j,e,g,false,q,s,t,a)
 else
 some (Sum.inr (m,n,o,p,j,e,g,ay,q,s))) (ao,ap,aq,ar,aa,au,i,(aa.getD i.toNat false),av,i,(au.length:Int),0)).bind fun((az,ba,ac,l,bb,bc,u,cl,be,bf):Int×uf5×uf8×Int×uf8×uf9×Int×Bool×Int×Int)=>
 bif cl then
 bif (decide (0≤u))then
 bif (decide (0≤(w ((BitVec.ofInt 64 l&&& ~~~(BitVec.ofInt 64 (w (1*2^(min u.toNat 64))))).toNat:Int)))&&decide ((w ((BitVec.ofInt 64 l&&& ~~~(BitVec.ofInt 64 (w (1*2^(min u.toNat 64))))).toNat:Int))<(ac.length:Int)))then
 ax (az,ba,(List.set ac (Int.toNat (w ((BitVec.ofInt 64 l&&& ~~~(BitVec.ofInt 64 (w (1*2^(min u.toNat 64))))).toNat:Int))) true),l,bb,bc,be,bf)
 else none
 else none
 else
 ax (az,ba,ac,l,bb,bc,be,bf)
 else none
 else
 some (Sum.inr (ao,ap,aq,ar))) (bl,al,bm,bn,am,an.1,(an.1.length:Int),0)).bind fun((cm,cn,co,cp):Int×uf5×uf8×Int)=>
 ag (cm,cn,co,cp)
 else none
 else none
 else
 some (Sum.inr (b,k))) (p0,p1,(List.set (List.replicate (Int.toNat (w (1*2^(min p0.toNat 64)))) false) (Int.toNat (w ((w (1*2^(min p0.toNat 64)))-1))) true),(w ((w (1*2^(min p0.toNat 64)))-1)))).bind fun((cq,cr):Int×uf8)=>
 (zad (β:=uf9) (fun((v,x,ae,c):uf8×uf9×Int×Int)=>
 bif (decide (c<ae))then
 letJ (fun((cs,ct,cu,cv):uf8×uf9×Int×Int)=>
 some (Sum.inl (cs,ct,cu,(w (cv+1))))) fun bg=>
 bif (decide (0≤c))then
 bif (decide (0≤(w (1*2^(min c.toNat 64))))&&decide ((w (1*2^(min c.toNat 64)))<(v.length:Int)))then
 bif (v.getD (Int.toNat (w (1*2^(min c.toNat 64)))) false)then
 bif (decide ((x.length:Int)+(([c]:List Int).length:Int)≤LIM))then
 bg (v,(x++[c]),ae,c)
 else none
 else
 bg (v,x,ae,c)
 else none
 else none
 else
 some (Sum.inr x)) (cr,[],cq,0)).bind fun(cx:List Int)=>
 some cx
 else none
 else none
 else none
 else none
 else none
def E20:=uqy 20 ⟨[(y2,.sh),(y29,.bw)],[(y23,.sh)]⟩ d20 func20 call20 [.fn E59,.fn E52] (.post (uqs (.seq upag (uqs (uqs (.seq (uqs (.block (.loop ulaq [(.brk 0,[(0,uqa),ujae])] (.seq upak (.join (.block (.seq upak (uqs (.seq (uqs (.block (.loop [(0,uqa),ujad,ujae,(6,uqa),ujam,(43,uqa),(44,uqa)] [(.brk 2,[(0,uqa),ujad,ujae,(6,uqa),ujam])] upad))) (.seq upas (uqs (.block (.loop ulaj [(.brk 4,ulaq)] (uqs (.seq upab (.join (.block (uqs (uqs (.seq (uqs (.block (.loop ulac [(.brk 6,[(0,uqa),ujad,ujae,(6,uqa),ujam,(9,.v y23 .sh),ujau,(12,uqc),(63,uqa),(64,uqa)])] (uqs (.seq upab (.join (.block upay) ulac uqr)))))) upae)))) ulaj uqr))))))))))) ulaq uqr))))) (.seq upaf (.seq (uqs (.block (.loop ulav [(.brk 8,[(14,.v y23 umad)])] (uqs (.seq upab (.join upaz ulav uqr)))))) upac))))))) [(4,[])])
def d21(l:List Int):Option uf9:=
 (zad (β:=uf9) (fun((a,out,x):uf9×uf9×Int)=>
 bif (decide (x<12))then
 letJ (fun((c,e,f):uf9×uf9×Int)=>
 some (Sum.inl (c,e,(w (f+1))))) fun b=>
 (d25 a x).bind fun r=>
 bif r then
 bif (decide ((out.length:Int)+(([x]:List Int).length:Int)≤LIM))then
 b (a,(out++[x]),x)
 else none
 else
 b (a,out,x)
 else
 some (Sum.inr out)) (l,[],0)).bind fun(g:List Int)=>
 some g
def E21:=uqy 21 ⟨[(y23,.bw)],[(y23,umad)]⟩ d21 func21 call21 [.fn E25] upan
def d29(c:uf1):Option Bool:=
 (zad (β:=(uf1×uf9)) (fun((b,lots,e,a):uf1×uf9×Int×Int)=>
 bif (decide (a<e))then
 bif (decide ((lots.length:Int)+(([a]:List Int).length:Int)≤LIM))then
 some (Sum.inl (b,(lots++[a]),e,(w (a+1))))
 else none
 else
 some (Sum.inr (b,lots))) (c,[],(bif (decide (7<(c.2.1.length:Int)))then 7 else(c.2.1.length:Int)),0)).bind fun((f,g):uf1×uf9)=>
 (d42 f.2.2.1 f [] g).bind fun r=>
 some (decide (r=0))
def E29:=uqy 29 ⟨[(y26,.bw)],[(y4,.sh)]⟩ d29 func29 call29 [.fn E42] (uqs (.seq upaf (.seq (uqs (.block (.loop [(1,.v (.ptr y26) umai),ujat,(8,uqa),(9,uqa)] [(.brk 0,[(1,.v (.ptr y26) umai),ujat])] upad))) upac)))
def d66(n:Int)(l:List Int):Option Bool:=
 (zad (β:=Unit⊕Bool) (fun((e,c,b,f,a):Int×uf9×uf9×Int×Int)=>
   bif (decide (a<f))then
    bif (decide (0≤a)&&decide (a<(b.length:Int)))then
     letJ (fun((h,i,j,k,m,o):Int×uf9×uf9×Int×Int×Bool)=>
       bif o then
        some (Sum.inr (Sum.inr false))
       else
        some (Sum.inl (h,i,j,k,(w (m+1))))) fun g=>
     bif !(decide ((b.getD a.toNat 0)<0))then
      bif !(decide (e≤(b.getD a.toNat 0)))then
       bif (decide (0<a))then
        bif (decide (0≤(w (a-1)))&&decide ((w (a-1))<(c.length:Int)))then
         g (e,c,b,f,a,(decide ((b.getD a.toNat 0)≤(c.getD (Int.toNat (w (a-1))) 0))))
        else none
       else
        g (e,c,b,f,a,false)
      else
       g (e,c,b,f,a,true)
     else
      g (e,c,b,f,a,true)
    else none
   else
    some (Sum.inr (Sum.inl ()))) (n,l,l,(l.length:Int),0)).bind fun
 |Sum.inl _=>
  some true
 |Sum.inr p=>
  some p
def E66:=uqy 66 ⟨[(y2,.sh),(y23,.bw)],[(y4,.sh)]⟩ d66 func66 call66 [] (uqs (.seq (uqs (.block (.loop ulat uxaa (uqs (.seq upab (.seq (.block (uqs (.join uqr [(0,uqa),ujaa,(7,.v y23 .bw),(8,uqa),(9,uqa),(33,uqc)] upaa))) uqr)))))) upac))
def d30(s:List Int)(v:Int):Option Bool:=
 (d65 s v).bind fun r=>
 some (decide (0≤r))
def sg30:Sig:=⟨[(y23,.bw),(y2,.sh)],[(y4,.sh)]⟩
def sim30:Sim prog 30 sg30 d30:=uqz func30 (zfw rfl) call30 (by kernel_rfl) (by kernel_rfl) [.fn E65] upai fun xs=>by kernel_rfl
def E30:FnE prog:=⟨30,sg30,d30,sim30⟩
def d31(p0:Int)(p1:uf4):Option Bool:=
 letJ (fun((c,a,e):Int×uf4×Bool)=>
 bif e then
 some false
 else
 bif (decide (a.1=1))then
 bif !(decide (a.2.1=a.2.2.1))then
 bif (decide ((a.2.2.2.1.length:Int)=0))then
 some (decide (a.2.2.2.2=0))
 else
 some false
 else
 some false
 else
 bif (decide (a.1=2))then
 bif !(decide (a.2.1=a.2.2.1))then
 bif (decide (a.2.2.2.2=0))then
 (d66 c a.2.2.2.1).bind fun r=>
 bif r then
 (d30 a.2.2.2.1 a.2.1).bind fun f=>
 bif f then
 (d30 a.2.2.2.1 a.2.2.1).bind fun g=>
 some g
 else
 some false
 else
 some false
 else
 some false
 else
 some false
 else
 bif (decide (a.1=3))then
 bif (decide (a.2.2.1=0))then
 bif (decide ((a.2.2.2.1.length:Int)=0))then
 bif (decide (2≤a.2.2.2.2))then
 some (decide (a.2.2.2.2≤6))
 else
 some false
 else
 some false
 else
 some false
 else
 some false) fun b=>
 bif !(decide (p0<1))then
 bif !(decide (7<p0))then
 bif !(decide (p1.2.1<0))then
 bif !(decide (p0≤p1.2.1))then
 bif !(decide (p1.2.2.1<0))then
 b (p0,p1,(decide (p0≤p1.2.2.1)))
 else
 b (p0,p1,true)
 else
 b (p0,p1,true)
 else
 b (p0,p1,true)
 else
 b (p0,p1,true)
 else
 b (p0,p1,true)
def E31:=uqy 31 ⟨[(y2,.sh),(y57,.bw)],[(y4,.sh)]⟩ d31 func31 call31 [.fn E66,.fn E30] upat
def d175(n:Int)(tail:List Int):Option Bool:=
 (zad (β:=uf9⊕Bool) (fun((e,c,b,f,a):Int×uf9×uf9×Int×Int)=>
   bif (decide (a<f))then
    bif (decide (0≤a)&&decide (a<(b.length:Int)))then
     letJ (fun((h,i,j,k,l,m):Int×uf9×uf9×Int×Int×Bool)=>
       bif m then
        some (Sum.inr (Sum.inr false))
       else
        some (Sum.inl (h,i,j,k,(w (l+1))))) fun g=>
     bif !(decide ((b.getD a.toNat 0)<0))then
      bif !(decide (e≤(b.getD a.toNat 0)))then
       bif (zbs 0 a c.length)then
        (d30 (List.drop 0 (List.take a.toNat c)) (b.getD a.toNat 0)).bind fun r=>
        g (e,c,b,f,a,r)
       else none
      else
       g (e,c,b,f,a,true)
     else
      g (e,c,b,f,a,true)
    else none
   else
    some (Sum.inr (Sum.inl c))) (n,tail,tail,(tail.length:Int),0)).bind fun
 |Sum.inl o=>
  some (decide (0<(o.length:Int)))
 |Sum.inr p=>
  some p
def E175:=uqy 175 ⟨[(y2,.sh),(y23,.bw)],[(y4,.sh)]⟩ d175 func175 call175 [.fn E30] (uqs (.seq (uqs (.block (.loop ulat [(.brk 0,[ujaa]),(.ret,[(4,uqc)])] (uqs (.seq upab (.seq (.block (uqs (.join uqr [(0,uqa),ujaa,(7,.v y23 .bw),(8,uqa),(9,uqa),(27,uqc)] upaa))) uqr)))))) upac))
def d176(s1:List Int)(s2:List Int):Option Bool:=
 bif !(decide ((s1.length:Int)=(s2.length:Int)))then
  some false
 else
  (zad (β:=Unit⊕Bool) (fun((b,c,e,a):uf9×uf9×Int×Int)=>
    bif (decide (a<e))then
     bif (decide (0≤a)&&decide (a<(b.length:Int)))then
      bif (decide (0≤a)&&decide (a<(c.length:Int)))then
       bif !(decide ((b.getD a.toNat 0)=(c.getD a.toNat 0)))then
        some (Sum.inr (Sum.inr false))
       else
        some (Sum.inl (b,c,e,(w (a+1))))
      else none
     else none
    else
     some (Sum.inr (Sum.inl ()))) (s1,s2,(s1.length:Int),0)).bind fun
  |Sum.inl _=>
   some true
  |Sum.inr f=>
   some f
def E176:=uqy 176 ⟨[(y23,.bw),(y23,.bw)],[(y4,.sh)]⟩ d176 func176 call176 [] (uqs (.seq upag (.seq (uqs (.block (.loop [ujai,ujaa,ujcc,ujbh] uxaa upal))) upac)))
def d157(p0:Int)(p1:uf4)(p2:List Int):Option Bool:=
 letJ (fun((a,b,f):uf9×uf4×Bool)=>
 bif f then
 some false
 else
 bif (decide (b.1=1))then
 (d65 a b.2.2.1).bind fun c=>
 bif (decide (0≤c))then
 bif (zbs c (a.length:Int) a.length)then
 (d30 (List.drop c.toNat (List.take (Int.toNat (a.length:Int)) a)) b.2.1).bind fun g=>
 some (!g)
 else none
 else
 some false
 else
 bif (decide (b.1=2))then
 bif (decide (0≤(w ((a.length:Int)-(b.2.2.2.1.length:Int)))))then
 bif (decide (0≤(w ((a.length:Int)-(b.2.2.2.1.length:Int))))&&decide ((w ((a.length:Int)-(b.2.2.2.1.length:Int)))<(a.length:Int)))then
 bif (decide ((a.getD (Int.toNat (w ((a.length:Int)-(b.2.2.2.1.length:Int)))) 0)=b.2.1))then
 bif (zbs (w ((a.length:Int)-(b.2.2.2.1.length:Int))) (a.length:Int) a.length)then
 (bif decide (((List.drop (Int.toNat (w ((a.length:Int)-(b.2.2.2.1.length:Int)))) (List.take (Int.toNat (a.length:Int)) a)).length:Int)≤LIM)then some ()else none).bind fun u=>
 (d176 (zdq (List.drop (Int.toNat (w ((a.length:Int)-(b.2.2.2.1.length:Int)))) (List.take (Int.toNat (a.length:Int)) a))) b.2.2.2.1).bind fun h=>
 some h
 else none
 else
 some false
 else none
 else
 some false
 else
 some false) fun e=>
 (d31 p0 p1).bind fun r=>
 bif !(!r)then
 (d175 p0 p2).bind fun i=>
 e (p2,p1,!i)
 else
 e (p2,p1,true)
def E157:=uqy 157 ⟨[(y2,.sh),(y57,.bw),(y23,.bw)],[(y4,.sh)]⟩ d157 func157 call157 [.fn E31,.fn E175,.fn E65,.fn E30,.sq sqE,.fn E176] (uqs (.seq (.join uqr [ujav,ujbs,(18,uqc)] upaa) (.seq (uqs (.block (uqs (.cond upai (uqs (.cond upai .nil)))))) upac)))
def d156(a:uf4)(p1:Int)(p2:List Int):Option Bool:=
 (d157 p1 a p2).bind fun r=>
 some r
def E156:=uqy 156 ⟨[(y57,.bw),(y224,.bw),((.ptr y23),.bw)],[(y4,.sh)]⟩ d156 func156 call156 [.fn E157] upai
def d69(s:List uf4)(f:(uf4→Option Bool)):Option Int:=
 (zad (β:=Unit⊕Int) (fun((b,c,e,a):uf3×(uf4→Option Bool)×Int×Int)=>
   bif (decide (a<e))then
    bif (decide (0≤a)&&decide (a<(b.length:Int)))then
     (c (b.getD a.toNat (0,0,0,[],0))).bind fun r=>
     bif r then
      some (Sum.inr (Sum.inr a))
     else
      some (Sum.inl (b,c,e,(w (a+1))))
    else none
   else
    some (Sum.inr (Sum.inl ()))) (s,f,(s.length:Int),0)).bind fun
 |Sum.inl _=>
  some (-1)
 |Sum.inr g=>
  some g
def E69:=uqy 69 ⟨[(y34,.bw),(y67,.bw)],[(y2,.sh)]⟩ d69 func69 call69 [] (uqs (.seq (uqs (.block (.loop [(0,.v y34 .bw),(1,.v y67 .bw),(7,uqa),(8,uqa)] uxab upal))) upac))
def d33(s:List uf4)(f:(uf4→Option Bool)):Option Bool:=
 (d69 s f).bind fun r=>
 some (decide (0≤r))
def E33:=uqy 33 ⟨[(y34,.bw),(y67,.bw)],[(y4,.sh)]⟩ d33 func33 call33 [.fn E69] upai
def d118(n:Int)(l:List uf4)(tail:List Int):Option Bool:=
 (d33 l (fun a=>d156 a n tail)).bind fun r=>
 some r
def sg118:Sig:=⟨[(y2,.sh),(y34,.bw),(y23,.bw)],[(y4,.sh)]⟩
def sim118:Sim prog 118 sg118 d118:=uqz func118 (zfw rfl) call118 (by kernel_rfl) (by kernel_rfl) [.fn E33,.fn E156] upai fun xs=>by kernel_rfl
end
def w_id{n:Int}(h0:-9223372036854775808≤n)(h1:n≤9223372036854775807):w n=n:=IntWalk.i64_in n ⟨h0,h1⟩
def wt_int{n:Int}(h:WT (.int .i64) n):-9223372036854775808≤n∧n≤9223372036854775807:=by
 have h':IntKind.i64.wrap n=n:=h
 rw[IntKind.wrap_i64]at h'
 omega
def wt_len{l:List Int}(h:WT (.slice (.int .i64)) l):l.length≤281474976710656:=h.1
def while_up{α β:Type}{f:α→Option (α⊕β)}(st:Nat→α){b:β}:∀(n:Nat),(∀i,i<n→f (st i)=some (.inl (st (i+1))))→f (st n)=some (.inr b)→zad f (st 0)=some b:=by
 intro n hs he
 have key:∀k,k≤n→zad f (st (n-k))=some b:=by
  intro k
  induction k with
  |zero=>intro _;exact zgi he
  |succ k ih=>
   intro hk
   have h1:=hs (n-(k+1)) (by omega)
   rw[show n-(k+1)+1=n-k by omega]at h1
   exact zkl h1 (ih (by omega))
 have:=key n (xak n)
 rwa[xho]at this
def zaa{α β γ:Type}{f:α→Option (α⊕β)}{k:β→Option γ}{a0:α}{b:β}{r:Option γ}(st:Nat→α)(n:Nat)(h0:st 0=a0)(hs:∀i,i<n→f (st i)=some (.inl (st (i+1))))(he:f (st n)=some (.inr b))(hk:k b=r):(zad f a0).bind k=r:=by
 rw[←h0,while_up st n hs he]
 exact hk
def zac(p:Int→Bool):List Int→Nat
 | []=>0
 |x::l=>if p x then 0 else zac p l+1
def zet(p:Int→Bool):∀l,zac p l≤l.length
 | []=>xak 0
 |x::l=>by
  unfold zac
  split
  ·exact xbz _
  ·have:=zet p l;simp;omega
def zcw(p:Int→Bool):∀l (i:Nat),i<zac p l→p (l.getD i 0)=false
 | [],i,h=>by simp[zac]at h
 |x::l,i,h=>by
  unfold zac at h
  split at h
  ·omega
  ·rename_i hx
   cases i with
   |zero=>simpa using hx
   |succ i=>
    have:=zcw p l i (by omega)
    simpa using this
def zdh(p:Int→Bool):∀l,zac p l<l.length→p (l.getD (zac p l) 0)=true
 | [],h=>by simp at h
 |x::l,h=>by
  unfold zac at h ⊢
  split at h
  ·rename_i hx;rw[if_pos hx];simpa using hx
  ·rename_i hx
   rw[if_neg hx]
   have:=zdh p l (by simp at h;omega)
   simpa using this
def ziu(p:Int→Bool):∀l,zac p l<l.length↔∃x∈l,p x=true
 | []=>by simp[zac]
 |x::l=>by
  unfold zac
  by_cases hx:p x=true
  ·rw[if_pos hx];simp[hx]
  ·rw[if_neg hx]
   have:=ziu p l
   simp[hx]at this ⊢
   exact this
def zlo{x n:Int}(hx:WT (.int .i64) x)(hn:0<n)(hn':n≤4611686018427387904):d4 x n=some (x%n):=by
 have hx':=wt_int hx
 unfold d4
 have h0:n≠0:=by omega
 have h1:-n<Int.tmod x n:=Int.lt_tmod_of_pos x hn
 have h2:Int.tmod x n<n:=Int.tmod_lt_of_pos x hn
 have h3:w (Int.tmod x n)=Int.tmod x n:=w_id (by omega) (by omega)
 have h4:w (Int.tmod x n+n)=Int.tmod x n+n:=w_id (by omega) (by omega)
 have h5:Int.tmod (Int.tmod x n+n) n=x%n:=by
  have h6:0≤Int.tmod x n+n:=by omega
  rw[Int.tmod_eq_emod_of_nonneg h6,Int.add_emod_right]
  rw[Int.tmod_eq_emod]
  split
  ·simp
  ·have:((n.natAbs:Int))=n:=Int.natAbs_of_nonneg (by omega)
   rw[this,Int.sub_emod_right]
   exact Int.emod_emod_of_dvd x (Int.dvd_refl n)
 have h7:w (x%n)=x%n:=w_id (by have:=xha x h0;omega) (by have:=xge x hn;omega)
 simp[h0,h3,h4,h5,h7]
def zbf(x:Int){n:Int}(hn:0<n):0≤x%n∧x%n<n:=⟨xha x (by omega),xge x hn⟩
def d9_eq{l:List Int}(hl:WT (.slice (.int .i64)) l):d9 l 9=some (l.take 9):=by
 have h:=wt_len hl
 unfold d9 zbs
 by_cases h9:9<l.length
 ·have:(9:Int)<(l.length:Int):=by omega
  have h9':(9:Int)≤(l.length:Int):=by omega
  simp[this,h9']
 ·have:¬(9:Int)<(l.length:Int):=by omega
  simp[this]
  rw[xbi (by omega)]
def zuq{s:List Int}(v:Int)(hs:s.length≤281474976710656):d65 s v=some (if zac (fun x=>decide (v=x)) s<s.length then(zac (fun x=>decide (v=x)) s:Int)else -1):=by
 unfold d65
 have hle:=zet (fun x=>decide (v=x)) s
 have hstep:∀i,i<zac (fun x=>decide (v=x)) s→w ((i:Int)+1)=((i+1:Nat):Int):=fun i hi=>by rw[w_id (by omega) (by omega)];omega
 by_cases h:zac (fun x=>decide (v=x)) s<s.length
 ·have hat:=zdh _ s h
  refine zaa (b:=.inr (zac (fun x=>decide (v=x)) s:Int)) (fun i=>(s,v,(s.length:Int),(i:Int))) (zac (fun x=>decide (v=x)) s) rfl ?_ ?_ (by simp[h])
  ·intro i hi
   have h1:=zcw _ s i hi
   have h2:(i:Int)<(s.length:Int):=by omega
   have h3:(0:Int)≤(i:Int):=by omega
   simp only[xay,xae]at h1
   simp[h2,h3,h1,hstep i hi]
  ·have h2:(zac (fun x=>decide (v=x)) s:Int)<(s.length:Int):=by omega
   have h3:(0:Int)≤(zac (fun x=>decide (v=x)) s:Int):=by omega
   simp only[xam,xae]at hat
   simp[h2,h3,←hat]
 ·refine zaa (b:=.inl ()) (fun i=>(s,v,(s.length:Int),(i:Int))) s.length rfl ?_ ?_ (by simp[h])
  ·intro i hi
   have h1:=zcw (fun x=>decide (v=x)) s i (by omega)
   have h2:(i:Int)<(s.length:Int):=by omega
   have h3:(0:Int)≤(i:Int):=by omega
   simp only[xay,xae]at h1
   simp[h2,h3,h1,hstep i (by omega)]
  ·simp
def d30_eq{s:List Int}(v:Int)(hs:s.length≤281474976710656):d30 s v=some (decide (v∈s)):=by
 unfold d30
 rw[zuq v hs]
 have hm:=ziu (fun x=>decide (v=x)) s
 by_cases h:zac (fun x=>decide (v=x)) s<s.length
 ·have:v∈s:=by obtain⟨x,h1,h2⟩:=hm.1 h;have:=xbl h2;rw[this];exact h1
  simp[h,this]
 ·have:v∉s:=fun hv=>h (hm.2 ⟨v,hv,by simp⟩)
  simp[h,this]
def zke{l:List Int}(x:Int)(hs:l.length≤281474976710656):d25 l x=some (decide (x∈l)):=by
 unfold d25
 have hle:=zet (fun y=>decide (y=x)) l
 have hm:=ziu (fun y=>decide (y=x)) l
 have hstep:∀i,i<zac (fun y=>decide (y=x)) l→w ((i:Int)+1)=((i+1:Nat):Int):=fun i hi=>by rw[w_id (by omega) (by omega)];omega
 by_cases h:zac (fun y=>decide (y=x)) l<l.length
 ·have hat:=zdh _ l h
  have hx:x∈l:=by obtain⟨z,h1,h2⟩:=hm.1 h;have:=xbl h2;rw[←this];exact h1
  refine zaa (b:=.inr true) (fun i=>(l,x,(i:Int))) (zac (fun y=>decide (y=x)) l) rfl ?_ ?_ (by simp[hx])
  ·intro i hi
   have h1:=zcw _ l i hi
   have h2:(i:Int)<(l.length:Int):=by omega
   have h3:(0:Int)≤(i:Int):=by omega
   simp only[xay,xae]at h1
   simp[h2,h3,h1,hstep i hi]
  ·have h2:(zac (fun y=>decide (y=x)) l:Int)<(l.length:Int):=by omega
   have h3:(0:Int)≤(zac (fun y=>decide (y=x)) l:Int):=by omega
   simp only[xam,xae]at hat
   simp[h2,h3,hat]
 ·have hx:x∉l:=fun hv=>h (hm.2 ⟨x,hv,by simp⟩)
  refine zaa (b:=.inl ()) (fun i=>(l,x,(i:Int))) l.length rfl ?_ ?_ (by simp[hx])
  ·intro i hi
   have h1:=zcw (fun y=>decide (y=x)) l i (by omega)
   have h2:(i:Int)<(l.length:Int):=by omega
   have h3:(0:Int)≤(i:Int):=by omega
   simp only[xay,xae]at h1
   simp[h2,h3,h1,hstep i (by omega)]
  ·simp
def zbr(p:Nat→Bool):Nat→Nat
 | 0=>0
 |n+1=>if zbr p n<n then zbr p n else if p n then n else n+1
def zdw(p:Nat→Bool):∀n,zbr p n≤n
 | 0=>xak 0
 |n+1=>by
  unfold zbr
  have:=zdw p n
  split
  ·omega
  ·split<;>omega
def zcv(p:Nat→Bool):∀n i,i<zbr p n→p i=false
 | 0,i,h=>by simp[zbr]at h
 |n+1,i,h=>by
  unfold zbr at h
  have hle:=zdw p n
  split at h
  ·exact zcv p n i h
  ·split at h
   ·rename_i h1 h2
    exact zcv p n i (by omega)
   ·rename_i h1 h2
    rcases xcy i n with h3|h3
    ·exact zcv p n i (by omega)
    ·have:i=n:=by omega
     subst this
     simpa using h2
def zeh(p:Nat→Bool):∀n,zbr p n<n→p (zbr p n)=true
 | 0,h=>by simp at h
 |n+1,h=>by
  unfold zbr at h ⊢
  have hle:=zdw p n
  split
  ·rename_i h1;exact zeh p n h1
  ·rename_i h1
   rw[if_neg h1]at h
   split
   ·rename_i h2;exact h2
   ·rename_i h2;rw[if_neg h2]at h;omega
def zhw(p:Nat→Bool)(n:Nat):¬zbr p n<n↔∀i,i<n→p i=false:=by
 constructor
 ·intro h i hi
  have:=zdw p n
  exact zcv p n i (by omega)
 ·intro h hlt
  have:=zeh p n hlt
  rw[h _ hlt]at this
  cases this
def zon(n:Int)(l:List Int)(i:Nat):Bool:=decide (l.getD i 0<0)||decide (n≤l.getD i 0)||(decide (0<i)&&decide (l.getD i 0≤l.getD (i-1) 0))
def d66_eq(n:Int){l:List Int}(hl:l.length≤281474976710656):d66 n l=some (decide (¬zbr (zon n l) l.length<l.length)):=by
 unfold d66
 have hle:=zdw (zon n l) l.length
 have hstep:∀i:Nat,i<l.length→w ((i:Int)+1)=((i+1:Nat):Int):=fun i hi=>by rw[w_id (by omega) (by omega)];omega
 have hpre:∀i:Nat,i<l.length→0<i→w ((i:Int)-1)=((i-1:Nat):Int):=fun i hi h0=>by rw[w_id (by omega) (by omega)];omega
 have body:∀i:Nat,i<l.length→(fun((n_1,l_1,t7,t8,t9):Int×(List Int)×(List Int)×Int×Int)=>
   bif (decide (t9<t8))then
    bif (decide (0≤t9)&&decide (t9<(t7.length:Int)))then
     letJ (fun((n_2,l_2,t7_1,t8_1,t9_1,t33):Int×(List Int)×(List Int)×Int×Int×Bool)=>
       bif t33 then
        some (Sum.inr (Sum.inr false))
       else
        some (Sum.inl (n_2,l_2,t7_1,t8_1,(w (t9_1+1))))) fun j_=>
     bif !(decide ((List.getD t7 (Int.toNat t9) 0)<0))then
      bif !(decide (n_1≤(List.getD t7 (Int.toNat t9) 0)))then
       bif (decide (0<t9))then
        bif (decide (0≤(w (t9-1)))&&decide ((w (t9-1))<(l_1.length:Int)))then
         j_ (n_1,l_1,t7,t8,t9,(decide ((List.getD t7 (Int.toNat t9) 0)≤(List.getD l_1 (Int.toNat (w (t9-1))) 0))))
        else none
       else
        j_ (n_1,l_1,t7,t8,t9,false)
      else
       j_ (n_1,l_1,t7,t8,t9,true)
     else
      j_ (n_1,l_1,t7,t8,t9,true)
    else none
   else
    some (Sum.inr (Sum.inl ())):Int×(List Int)×(List Int)×Int×Int→Option ((Int×(List Int)×(List Int)×Int×Int)⊕(Unit⊕Bool))) (n,l,l,(l.length:Int),(i:Int))=if zon n l i then some (.inr (.inr false))else some (.inl (n,l,l,(l.length:Int),((i+1:Nat):Int))):=fun i hi=>by
  have h2:(i:Int)<(l.length:Int):=by omega
  have h3:(0:Int)≤(i:Int):=by omega
  unfold zon letJ
  simp only[h2,h3,xah,xab,xai,xaf,hstep i hi]
  by_cases c1:l.getD i 0<0
  ·simp only[c1];rfl
  ·by_cases c2:n≤l.getD i 0
   ·simp only[c1,c2];rfl
   ·by_cases c3:0<i
    ·have h4:(0:Int)<(i:Int):=by omega
     have h5:(0:Int)≤((i-1:Nat):Int):=by omega
     have h6:((i-1:Nat):Int)<(l.length:Int):=by omega
     simp only[c1,c2,c3,h4,hpre i hi c3,h5,h6,xaf]
     by_cases c4:l.getD i 0≤l.getD (i-1) 0
     ·simp only[c4];rfl
     ·simp only[c4];rfl
    ·have h4:¬(0:Int)<(i:Int):=by omega
     simp only[c1,c2,c3,h4];rfl
 by_cases h:zbr (zon n l) l.length<l.length
 ·refine zaa (b:=.inr false) (fun i=>(n,l,l,(l.length:Int),(i:Int))) (zbr (zon n l) l.length) rfl (fun i hi=>?_) ?_ (by simp[h])
  ·have:=body i (by omega)
   rw[zcv _ _ i hi]at this
   exact this
  ·have:=body _ h
   rw[zeh _ _ h]at this
   exact this
 ·have hall:=(zhw (zon n l) l.length).1 h
  refine zaa (b:=.inl ()) (fun i=>(n,l,l,(l.length:Int),(i:Int))) l.length rfl (fun i hi=>?_) ?_ (by simp[h])
  ·have:=body i hi
   rw[hall i hi]at this
   exact this
  ·simp
def asc(n:Int)(l:List Int):Bool:=decide (¬zbr (zon n l) l.length<l.length)
def zar(n:Int)(a:Int×(Int×(Int×(List Int×Int)))):Bool:=
  !(decide (n<1))&& !(decide (7<n))&& !(decide (a.2.1<0))&& !(decide (n≤a.2.1))&& !(decide (a.2.2.1<0))&& !(decide (n≤a.2.2.1)) &&
  (if a.1=1 then decide (a.2.1≠a.2.2.1)&&decide (a.2.2.2.1.length=0)&&decide (a.2.2.2.2=0)
   else if a.1=2 then decide (a.2.1≠a.2.2.1)&&decide (a.2.2.2.2=0)&&asc n a.2.2.2.1&&decide (a.2.1∈a.2.2.2.1)&&decide (a.2.2.1∈a.2.2.2.1)
   else if a.1=3 then decide (a.2.2.1=0)&&decide (a.2.2.2.1.length=0)&&decide (2≤a.2.2.2.2)&&decide (a.2.2.2.2≤6)else false)
def d31_eq(n:Int){a:Int×(Int×(Int×(List Int×Int)))}(hl:a.2.2.2.1.length≤281474976710656):d31 n a=some (zar n a):=by
 obtain⟨k,A,B,l,q⟩:=a
 simp only at hl
 unfold d31 zar letJ
 simp only
 by_cases c1:n<1
 ·simp[c1]
 by_cases c2:7<n
 ·simp[c2]
 by_cases c3:A<0
 ·simp[c1,c2,c3]
 by_cases c4:n≤A
 ·simp[c1,c2,c3,c4]
 by_cases c5:B<0
 ·simp[c1,c2,c3,c4,c5]
 by_cases c6:n≤B
 ·simp[c1,c2,c3,c4,c5,c6]
 simp only[c1,c2,c3,c4,c5,c6,xal,xao,xab,xac,xax,xdn]
 by_cases k1:k=1
 ·subst k1
  by_cases d1:A=B
  ·simp[d1]
  ·by_cases d2:l.length=0
   ·have:l=[]:=xcf d2
    simp[d1,this]
   ·have:l≠ []:=fun h=>d2 (by simp[h])
    have h':¬((l.length:Int)=0):=by omega
    simp[d1,this]
 ·by_cases k2:k=2
  ·subst k2
   by_cases d1:A=B
   ·simp[d1]
   ·by_cases d2:q=0
    ·simp only[d1,d2,d66_eq n hl,d30_eq _ hl]
     show _=some _
     have hasc:asc n l=decide (¬zbr (zon n l) l.length<l.length):=rfl
     rw[hasc]
     cases decide (¬zbr (zon n l) l.length<l.length)
     ·simp
     ·by_cases d3:A∈l
      ·simp[d1,d3]
      ·simp[d3]
    ·simp[d1,d2]
  ·by_cases k3:k=3
   ·subst k3
    by_cases d1:B=0
    ·by_cases d2:l.length=0
     ·have:l=[]:=xcf d2
      by_cases d3:2≤q
      ·simp[d1,this,d3]
      ·simp[d1,this,d3]
     ·have:l≠ []:=fun h=>d2 (by simp[h])
      simp[d1,this]
    ·simp[d1]
   ·simp[k1,k2,k3]
def zox(l:List Int):Nat→List Bool
 | 0=>[false,false,false,false,false,false,false]
 |i+1=>(zox l i).set (Int.toNat (l.getD i 0)) true
def bitB(r:Int)(i:Int):Bool:=decide ((w ((BitVec.ofInt 64 (w (Int.fdiv r (2^(min (Int.toNat (wu64 i)) 64))))&&&BitVec.ofInt 64 1).toNat:Int))=1)
def amL(A B r:Int):Nat→List Int
 | 0=>[]
 |i+1=>if decide ((i:Int)=A)||decide ((i:Int)=B)||bitB r i then amL A B r i++[(i:Int)]else amL A B r i
def amL_lt(A B r:Int):∀(n:Nat),(amL A B r n).length≤n∧∀x∈amL A B r n,0≤x∧x<(n:Int)
 | 0=>⟨xak 0,fun x hx=>by simp[amL]at hx⟩
 |n+1=>by
  obtain⟨h1,h2⟩:=amL_lt A B r n
  unfold amL
  split
  ·refine⟨by simp;omega,fun x hx=>?_⟩
   rcases xbq.1 hx with hx|hx
   ·have:=h2 x hx;omega
   ·simp at hx;omega
  ·exact⟨by omega,fun x hx=>by have:=h2 x hx;omega⟩
def amL_mem(A B r:Int):∀(n:Nat) (x:Nat),x<n→((x:Int)=A∨(x:Int)=B)→(x:Int)∈amL A B r n
 | 0,x,h,_=>by omega
 |n+1,x,h,hx=>by
  unfold amL
  rcases xcy x n with h1|h1
  ·have:=amL_mem A B r n x h1 hx
   split
   ·exact xel _ this
   ·exact this
  ·have:x=n:=by omega
   subst this
   have hc:(decide ((x:Int)=A)||decide ((x:Int)=B)||bitB r x)=true:=by rcases hx with h|h<;>simp[h]
   rw[if_pos hc]
   simp
def zop(A B r:Int):∀(n:Nat),(amL A B r n).Pairwise (·< ·)
 | 0=>List.Pairwise.nil
 |n+1=>by
  unfold amL
  split
  ·refine xfr.2 ⟨zop A B r n,by simp,fun x hx y hy=>?_⟩
   have:=(amL_lt A B r n).2 x hx
   simp at hy
   omega
  ·exact zop A B r n
def znc{n:Int}{l:List Int}(hs:l.Pairwise (·< ·))(hb:∀x∈l,0≤x∧x<n):asc n l=true:=by
 unfold asc
 refine xag ((zhw _ _).2 fun i hi=>?_)
 unfold zon
 have hm:l.getD i 0∈l:=by rw[xae,xar hi];exact xbc hi
 have h1:=hb _ hm
 have c1:¬l.getD i 0<0:=by omega
 have c2:¬n≤l.getD i 0:=by omega
 simp only[c1,c2,xal,xbp]
 by_cases c3:0<i
 ·have h2:l.getD (i-1) 0<l.getD i 0:=by
   rw[xae,xae,xar hi,xar (by omega:i-1<l.length)]
   exact xej.1 hs (i-1) i (by omega) hi (by omega)
  have:¬l.getD i 0≤l.getD (i-1) 0:=by omega
  simp only[this,xal,xdo]
 ·simp[c3]
def mk(n k a b m q:Int):Int×(Int×(Int×(List Int×Int))):=
 if 1+k%3=3 then(3,a%n,0,[],2+q%5)
 else if 1+k%3=2 then(2,a%n,(a%n+1+b%(n-1))%n,amL (a%n) ((a%n+1+b%(n-1))%n) (m%128) n.toNat,0)
 else(1+k%3,a%n,(a%n+1+b%(n-1))%n,[],0)
def d64_eq{n k a b m q:Int}(hn:2≤n)(hn':n≤7)(hk:WT (.int .i64) k)(ha:WT (.int .i64) a)(hb:WT (.int .i64) b)(hm:WT (.int .i64) m)(hq:WT (.int .i64) q):d64 n k a b m q=some (mk n k a b m q):=by
 unfold d64 mk
 have b1:=zbf k (n:=3) (by omega)
 have b2:=zbf a (n:=n) (by omega)
 have b3:=zbf q (n:=5) (by omega)
 have b4:=zbf b (n:=n-1) (by omega)
 have b5:=zbf m (n:=128) (by omega)
 rw[zlo hk (by omega) (by omega),zlo ha (by omega) (by omega)]
 simp only[xaa]
 have w1:w (1+k%3)=1+k%3:=w_id (by omega) (by omega)
 rw[w1]
 by_cases k3:1+k%3=3
 ·simp only[k3,xah,xab,if_true]
  rw[zlo hq (by omega) (by omega)]
  have w2:w (2+q%5)=2+q%5:=w_id (by omega) (by omega)
  simp[w2]
 ·have w2:w (n-1)=n-1:=w_id (by omega) (by omega)
  have w3:w (a%n+1)=a%n+1:=w_id (by omega) (by omega)
  simp only[k3,xal,xac,xbf]
  rw[w2,zlo hb (by omega) (by omega)]
  simp only[xaa]
  have w4:w (a%n+1+b%(n-1))=a%n+1+b%(n-1):=w_id (by omega) (by omega)
  rw[w3,w4,zlo (x:=a%n+1+b%(n-1)) w4 (by omega) (by omega)]
  simp only[xaa]
  generalize hA:a%n=A
  generalize hB:(A+1+b%(n-1))%n=B
  by_cases k2:1+k%3=2
  ·simp only[k2,xah,xab,if_true]
   show(zad _ _).bind _=_
   have hnn:((n.toNat:Nat):Int)=n:=by omega
   refine zaa (b:=(((0,0,0,[],0):Int×(Int×(Int×(List Int×Int)))),((2,A,B,amL A B (m%128) n.toNat,0):Int×(Int×(Int×(List Int×Int)))))) (fun i=>(n,m,((0,0,0,[],0):Int×(Int×(Int×(List Int×Int)))),((2,A,B,amL A B (m%128) i,0):Int×(Int×(Int×(List Int×Int)))),(i:Int))) n.toNat rfl (fun i hi=>?_) ?_ rfl
   ·have h2:(i:Int)<n:=by omega
    have w5:w ((i:Int)+1)=((i+1:Nat):Int):=by rw[w_id (by omega) (by omega)];omega
    have hlen:=(amL_lt A B (m%128) i).1
    have hlim:((amL A B (m%128) i).length:Int)+(([(i:Int)]:List Int).length:Int)≤LIM:=by rw[zbv];simp;omega
    simp only[h2,xah,xab,letJ,zlo hm (show(0:Int)<128 by omega) (by omega),xaa]
    have hu:(0:Int)≤wu64 (i:Int):=by
     have:wu64 (i:Int)=(i:Int):=IntWalk.u64_in _ ⟨by omega,by omega⟩
     rw[this];omega
    have e:amL A B (m%128) (i+1)=if decide ((i:Int)=A)||decide ((i:Int)=B)||bitB (m%128) i then amL A B (m%128) i++[(i:Int)]else amL A B (m%128) i:=rfl
    by_cases c1:(i:Int)=A
    ·simp only[c1,xah,xaq,xac,xab,xcw,if_true]at e ⊢
     rw[c1]at hlim w5
     simp only[hlim,xah,xab,w5,e]
    ·by_cases c2:(i:Int)=B
     ·simp only[c1,c2,xah,xal,xaq,xao,xac,xab,xcw,xbp,if_true]at e ⊢
      rw[c2]at hlim w5 c1
      simp only[c1,hlim,xah,xal,xao,xab,w5,e]
      simp
     ·simp only[c1,c2,xal,xao,xab,hu,xah,xbp]at e ⊢
      have hbit:decide ((w ((BitVec.ofInt 64 (w (Int.fdiv (m%128) (2^(min (Int.toNat (wu64 (i:Int))) 64))))&&&BitVec.ofInt 64 1).toNat:Int))=1)=bitB (m%128) i:=rfl
      rw[hbit]
      cases hbb:bitB (m%128) i
      ·rw[hbb]at e
       simp only[xac,w5,e]
       simp
      ·rw[hbb]at e
       simp only[xab,hlim,xah,w5,e]
       simp
   ·have h2:¬((n.toNat:Nat):Int)<n:=by omega
    simp only[h2,xal,xac]
  ·simp[k2,letJ]
def outs(n:Int)(l:List Int):Nat→List Int
 | 0=>[]
 |i+1=>if l.getD i 0%n∈outs n l i then outs n l i else outs n l i++[l.getD i 0%n]
def bal(n:Int)(l:List Int):List Int:=outs n l (zbr (fun i=>decide (n≤((outs n l i).length:Int))) l.length)
def outs_len(n:Int)(l:List Int):∀i,(outs n l i).length≤i
 | 0=>xak 0
 |i+1=>by
  have:=outs_len n l i
  unfold outs
  split
  ·omega
  ·simp;omega
def outs_in{n:Int}(hn:0<n)(l:List Int):∀i,∀x∈outs n l i,0≤x∧x<n
 | 0,x,hx=>by simp[outs]at hx
 |i+1,x,hx=>by
  unfold outs at hx
  split at hx
  ·exact outs_in hn l i x hx
  ·rcases xbq.1 hx with hx|hx
   ·exact outs_in hn l i x hx
   ·simp at hx
    rw[hx]
    exact zbf _ hn
def znx(n:Int)(l:List Int):∀i,(outs n l i).Nodup
 | 0=>xkm
 |i+1=>by
  unfold outs
  split
  ·exact znx n l i
  ·rename_i h
   refine xdp.2 ⟨znx n l i,by simp,fun x hx y hy=>?_⟩
   simp at hy
   rintro rfl
   exact h (by rw[xae,←hy];exact hx)
def d8_eq{n:Int}{l:List Int}(hn:0<n)(hn':n≤1000)(hl:WT (.slice (.int .i64)) l):d8 n l=some (bal n l):=by
 unfold d8 bal
 have hlen:=wt_len hl
 have hle:=zdw (fun i=>decide (n≤((outs n l i).length:Int))) l.length
 have hstep:∀i:Nat,i<l.length→w ((i:Int)+1)=((i+1:Nat):Int):=fun i hi=>by rw[w_id (by omega) (by omega)];omega
 refine zaa (b:=outs n l (zbr (fun i=>decide (n≤((outs n l i).length:Int))) l.length)) (fun i=>(n,l,outs n l i,(i:Int))) (zbr (fun i=>decide (n≤((outs n l i).length:Int))) l.length) rfl (fun i hi=>?_) ?_ rfl
 ·have h1:=zcv _ _ i hi
  simp only[xay]at h1
  have h1':((outs n l i).length:Int)<n:=by omega
  have h2:(i:Int)<(l.length:Int):=by omega
  have h3:(0:Int)≤(i:Int):=by omega
  have hx:WT (.int .i64) (l.getD i 0):=by
   rw[xae,xar (by omega)]
   exact hl.2 _ (xbc _)
  have hlim:((outs n l i).length:Int)+(([l.getD i 0%n]:List Int).length:Int)≤LIM:=by rw[zbv];simp;omega
  have ho:=outs_len n l i
  simp only[h2,h3,h1',xah,xab,xai,letJ,xaf,zlo hx hn (by omega),xaa,zke (l:=outs n l i) _ (by omega),hstep i (by omega),hlim]
  have e:outs n l (i+1)=if l.getD i 0%n∈outs n l i then outs n l i else outs n l i++[l.getD i 0%n]:=rfl
  by_cases c:l.getD i 0%n∈outs n l i
  ·rw[if_pos c]at e
   simp only[c,e];rfl
  ·rw[if_neg c]at e
   simp only[c,e];rfl
 ·by_cases h:zbr (fun i=>decide (n≤((outs n l i).length:Int))) l.length<l.length
  ·have h1:=zeh _ _ h
   simp only[xam]at h1
   have h1':¬((outs n l (zbr (fun i=>decide (n≤((outs n l i).length:Int))) l.length)).length:Int)<n:=by omega
   have h2:((zbr (fun i=>decide (n≤((outs n l i).length:Int))) l.length:Nat):Int)<(l.length:Int):=by omega
   simp only[h2,h1',letJ,xah,xal,xab,xac]
  ·have h2:¬((zbr (fun i=>decide (n≤((outs n l i).length:Int))) l.length:Nat):Int)<(l.length:Int):=by omega
   simp only[h2,letJ,xal,xac]
def zaw{α β γ:Type}{f:α→Option (α⊕β)}{k:β→Option γ}{a0:α}{r:Option γ}(st:Nat→α)(p:Nat→Bool)(n:Nat)(bx:Nat→β)(e:β)(h0:st 0=a0)
  (hs:∀i,i<n→f (st i)=if p i then some (.inr (bx i))else some (.inl (st (i+1)))) (he:f (st n)=some (.inr e))
  (h1:∀i,i<n→p i=true→(∀j,j<i→p j=false)→k (bx i)=r) (h2:(∀i,i<n→p i=false)→k e=r):(zad f a0).bind k=r:=by
 have hle:=zdw p n
 by_cases h:zbr p n<n
 ·refine zaa (b:=bx (zbr p n)) st (zbr p n) h0 (fun i hi=>?_) ?_ (h1 _ h (zeh p n h) (zcv p n))
  ·have:=hs i (by omega)
   rw[zcv p n i hi]at this
   exact this
  ·have:=hs _ h
   rw[zeh p n h]at this
   exact this
 ·have hall:=(zhw p n).1 h
  refine zaa (b:=e) st n h0 (fun i hi=>?_) he (h2 hall)
  have:=hs i hi
  rw[hall i hi]at this
  exact this
def zag{α:Type}(l:List α)(d:α){i:Nat}(h:i<l.length):l.getD i d=l[i]:=by
 rw[xae,xar h,xjq]
def isB(n:Int)(l:List Int):Prop:=l.Nodup∧∀x∈l,0≤x∧x<n
instance(n:Int)(l:List Int):Decidable (isB n l):=inferInstanceAs (Decidable (_∧_))
def zjz(n:Int)(l:List Int):isB n l↔∀i,i<l.length→0≤l.getD i 0∧l.getD i 0<n∧l.getD i 0∉l.take i:=by
 constructor
 ·rintro⟨h1,h2⟩ i hi
  rw[zag l 0 hi]
  refine⟨(h2 _ (xbc hi)).1,(h2 _ (xbc hi)).2,fun hm=>?_⟩
  obtain⟨j,hj,e⟩:=xjb.1 hm
  exact xej.1 h1 j i (by omega) hi (by omega) e
 ·intro h
  refine⟨xej.2 fun i j hi hj hij e=>?_,fun x hx=>?_⟩
  ·have:=(h j hj).2.2
   rw[zag l 0 hj,←e]at this
   exact this (xjb.2 ⟨i,by omega,rfl⟩)
  ·obtain⟨i,hi,rfl⟩:=xcm hx
   have:=h i hi
   rw[zag l 0 hi]at this
   exact⟨this.1,this.2.1⟩
def ztx(l:List Int):∀i,(zox l i).length=7
 | 0=>rfl
 |i+1=>by unfold zox;rw[xcd];exact ztx l i
def zri(l:List Int):∀i,i≤l.length→(∀j,j<i→0≤l.getD j 0∧l.getD j 0<7)→∀c:Nat,c<7→(zox l i).getD c false=decide ((c:Int)∈l.take i)
 | 0,_,_,c,hc=>by
  have:c=0∨c=1∨c=2∨c=3∨c=4∨c=5∨c=6:=by omega
  rcases this with h|h|h|h|h|h|h<;>subst h<;>rfl
 |i+1,hi,hb,c,hc=>by
  have ih:=zri l i (by omega) (fun j hj=>hb j (by omega)) c hc
  have hl:=ztx l i
  have hx:=hb i (by omega)
  unfold zox
  rw[xff,xgc]at ih
  rw[xff,xgc,xae,xfw,hl,xhb,xbq,←ih,xar (by omega:i<l.length)]
  rw[zag l 0 (by omega:i<l.length)]at hx ⊢
  generalize l[i]=x at hx
  by_cases e:x.toNat=c
  ·have e':(c:Int)=x:=by omega
   rw[if_pos e,if_pos (by omega)]
   simp[e']
  ·have e':¬(c:Int)=x:=by omega
   rw[if_neg e]
   simp[e',xae]
def zdi{i n:Nat}(h:i≤n):zbs 0 (i:Int) n=true:=by
 unfold zbs
 simp only[xan,xam]
 omega
def zsu(n:Int){l:List Int}(hl:l.length≤281474976710656):d38 n l=some (decide (isB n l)):=by
 unfold d38
 have hstep:∀i:Nat,i<l.length→w ((i:Int)+1)=((i+1:Nat):Int):=fun i hi=>by rw[w_id (by omega) (by omega)];omega
 refine zaw (fun i=>(n,l,(i:Int))) (fun i=>decide (l.getD i 0<0)||(decide (n≤l.getD i 0)||decide (l.getD i 0∈l.take i))) l.length (fun _=>.inr false) (.inl ()) rfl (fun i hi=>?_) ?_ (fun i hi hp hj=>?_) (fun hall=>?_)
 ·have h2:(i:Int)<(l.length:Int):=by omega
  have h3:(0:Int)≤(i:Int):=by omega
  simp only[h2,h3,letJ,xah,xab,xai,xaf,hstep i hi,zdi (xfm hi),xex,zke (l:=l.take i) _ (by simp;omega),xaa]
  by_cases c1:l.getD i 0<0
  ·simp only[c1];rfl
  ·by_cases c2:n≤l.getD i 0
   ·simp only[c1,c2];rfl
   ·by_cases c3:l.getD i 0∈l.take i
    ·simp only[c1,c2,c3];rfl
    ·simp only[c1,c2,c3];rfl
 ·simp
 ·have:¬isB n l:=fun h=>by
   have:=(zjz n l).1 h i hi
   simp only[xdj,xam]at hp
   rcases hp with hp|hp|hp
   ·omega
   ·omega
   ·exact this.2.2 hp
  simp[this]
 ·have:isB n l:=(zjz n l).2 fun i hi=>by
   have:=hall i hi
   simp only[xcj,xay]at this
   exact⟨by omega,by omega,this.2.2⟩
  simp[this]
def znr(l:List Int):l.Pairwise (·< ·)↔∀i,i+1<l.length→l.getD i 0<l.getD (i+1) 0:=by
 constructor
 ·intro h i hi
  rw[zag l 0 (by omega:i<l.length),zag l 0 hi]
  exact xej.1 h i (i+1) (by omega) hi (by omega)
 ·intro h
  refine xej.2 fun i j hi hj hij=>?_
  have key:∀k,i+k+1<l.length→l.getD i 0<l.getD (i+k+1) 0:=by
   intro k
   induction k with
   |zero=>intro hk;exact h i hk
   |succ k ih=>
    intro hk
    have h1:=ih (by omega)
    have h2:=h (i+k+1) (by omega)
    rw[show i+(k+1)+1=i+k+1+1 by omega]
    omega
  have:=key (j-i-1) (by omega)
  rw[show i+(j-i-1)+1=j by omega,zag l 0 hi,zag l 0 hj]at this
  exact this
def d74_eq{l:List Int}(hl:l.length≤281474976710656):d74 l=some (decide (l.Pairwise (·< ·))):=by
 unfold d74
 refine zaw (fun i=>(l,((i+1:Nat):Int))) (fun i=>decide (l.getD (i+1) 0≤l.getD i 0)) (l.length-1) (fun _=>.inr false) (.inl ()) rfl (fun i hi=>?_) ?_ (fun i hi hp hj=>?_) (fun hall=>?_)
 ·have h2:((i+1:Nat):Int)<(l.length:Int):=by omega
  have h3:(0:Int)≤((i+1:Nat):Int):=by omega
  have h4:(i:Int)<(l.length:Int):=by omega
  have h5:(0:Int)≤(i:Int):=by omega
  have w1:w (((i+1:Nat):Int)+1)=((i+1+1:Nat):Int):=by rw[w_id (by omega) (by omega)];omega
  have w2:w (((i+1:Nat):Int)-1)=(i:Int):=by rw[w_id (by omega) (by omega)];omega
  simp only[h2,h3,h4,h5,w1,w2,xah,xab,xai,xaf]
  by_cases c1:l.getD (i+1) 0≤l.getD i 0
  ·simp only[c1];rfl
  ·simp only[c1];rfl
 ·have:¬((l.length-1+1:Nat):Int)<(l.length:Int):=by omega
  simp only[this,xal,xac]
 ·have:¬l.Pairwise (·< ·):=fun h=>by
   have:=(znr l).1 h i (by omega)
   simp only[xam]at hp
   omega
  simp[this]
 ·have:l.Pairwise (·< ·):=(znr l).2 fun i hi=>by
   have:=hall i (by omega)
   simp only[xay]at this
   omega
  simp[this]
def zoo(n:Int)(l:List Int):asc n l=true↔l.Pairwise (·< ·)∧∀x∈l,0≤x∧x<n:=by
 constructor
 ·intro h
  have h':=(zhw _ _).1 (xbl h)
  refine⟨(znr l).2 fun i hi=>?_,fun x hx=>?_⟩
  ·have:=h' (i+1) hi
   unfold zon at this
   simp only[xcj,xay,Bool.and_eq_false_imp,xam]at this
   have:=this.2 (by omega)
   rw[xkq]at this
   omega
  ·obtain⟨i,hi,rfl⟩:=xcm hx
   have:=h' i hi
   unfold zon at this
   rw[zag l 0 hi]at this
   simp only[xcj,xay]at this
   omega
 ·rintro⟨h1,h2⟩
  exact znc h1 h2
def asc_eq(n:Int)(l:List Int):(decide (isB n l)&&decide (l.Pairwise (·< ·)))=asc n l:=by
 rw[xff,zoo,xan,xgc,xgc]
 constructor
 ·rintro⟨h1,h2⟩;exact⟨h2,h1.2⟩
 ·rintro⟨h1,h2⟩;exact⟨⟨h1.imp (fun h e=>by omega),h2⟩,h1⟩
def d39_eq(n:Int){a:Int×(Int×(Int×(List Int×Int)))}(hl:a.2.2.2.1.length≤281474976710656):d39 n a=some (zar n a):=by
 obtain⟨k,A,B,l,q⟩:=a
 simp only at hl
 unfold d39 zar letJ
 simp only
 by_cases c1:n<1
 ·simp[c1]
 by_cases c2:7<n
 ·simp[c2]
 by_cases c3:A<0
 ·simp[c1,c2,c3]
 by_cases c4:n≤A
 ·simp[c1,c2,c3,c4]
 by_cases c5:B<0
 ·simp[c1,c2,c3,c4,c5]
 by_cases c6:n≤B
 ·simp[c1,c2,c3,c4,c5,c6]
 simp only[c1,c2,c3,c4,c5,c6,xal,xao,xab,xac,xax,xdn]
 by_cases k1:k=1
 ·subst k1
  by_cases d1:A=B
  ·simp[d1]
  ·by_cases d2:l.length=0
   ·have:l=[]:=xcf d2
    simp[d1,this]
   ·have:l≠ []:=fun h=>d2 (by simp[h])
    have h':¬((l.length:Int)=0):=by omega
    simp[d1,this]
 ·by_cases k2:k=2
  ·subst k2
   by_cases d1:A=B
   ·simp[d1]
   ·rw[zsu n hl,d74_eq hl,zke _ hl,zke _ hl,←asc_eq]
    simp only[xaa]
    by_cases e1:isB n l
    ·by_cases e2:l.Pairwise (·< ·)
     ·by_cases e3:A∈l
      ·by_cases e4:B∈l
       ·simp[d1,e1,e2,e3,e4]
       ·simp[d1,e1,e2,e3,e4]
      ·simp[d1,e1,e2,e3]
     ·simp[d1,e1,e2]
    ·simp[d1,e1]
  ·by_cases k3:k=3
   ·subst k3
    by_cases d1:B=0
    ·by_cases d2:l.length=0
     ·have:l=[]:=xcf d2
      by_cases d3:2≤q
      ·simp[d1,this,d3]
      ·simp[d1,this,d3]
     ·have:l≠ []:=fun h=>d2 (by simp[h])
      simp[d1,this]
    ·simp[d1]
   ·simp[k1,k2,k3]
def zfb{n:Int}{a:Int×(Int×(Int×(List Int×Int)))}(h:zar n a=true):a.1=1∨a.1=2∨a.1=3:=by
 unfold zar at h
 by_cases k1:a.1=1
 ·exact .inl k1
 ·by_cases k2:a.1=2
  ·exact .inr (.inl k2)
  ·by_cases k3:a.1=3
   ·exact .inr (.inr k3)
   ·simp[k1,k2,k3]at h
def zlw{n:Int}{a:Int×(Int×(Int×(List Int×Int)))}(h:zar n a=true):0≤a.2.1∧a.2.1<n∧0≤a.2.2.1∧a.2.2.1<n∧1≤n∧n≤7:=by
 unfold zar at h
 simp only[xan,xdw,xay]at h
 omega
def valid_quota{n:Int}{a:Int×(Int×(Int×(List Int×Int)))}(h:zar n a=true)(k:a.1=3):2≤a.2.2.2.2∧a.2.2.2.2≤6:=by
 unfold zar at h
 simp[k]at h
 omega
def d152_eq{l:List Int}(x:Int)(hl:l.length≤281474976710656):d152 l x=some (zac (fun z=>decide (x=z)) l:Int):=by
 unfold d152
 have hle:=zet (fun z=>decide (x=z)) l
 have hstep:∀i:Nat,i<l.length→w ((i:Int)+1)=((i+1:Nat):Int):=fun i hi=>by rw[w_id (by omega) (by omega)];omega
 by_cases h:zac (fun z=>decide (x=z)) l<l.length
 ·have hat:=zdh _ l h
  refine zaa (b:=.inr (zac (fun z=>decide (x=z)) l:Int)) (fun i=>(l,x,(i:Int))) (zac (fun z=>decide (x=z)) l) rfl ?_ ?_ rfl
  ·intro i hi
   have h1:=xee (zcw _ l i hi)
   have h2:(i:Int)<(l.length:Int):=by omega
   have h3:(0:Int)≤(i:Int):=by omega
   have h4:¬l.getD i 0=x:=fun e=>h1 e.symm
   simp only[h2,h3,h4,xah,xal,xab,xac,xai,xaf,hstep i (by omega)]
  ·have h1:=xbl hat
   have h2:(zac (fun z=>decide (x=z)) l:Int)<(l.length:Int):=by omega
   have h3:(0:Int)≤(zac (fun z=>decide (x=z)) l:Int):=by omega
   simp only[h2,h3,←h1,xah,xab,xai,xaf]
 ·refine zaa (b:=.inl l) (fun i=>(l,x,(i:Int))) l.length rfl ?_ ?_ (by simp;omega)
  ·intro i hi
   have h1:=xee (zcw (fun z=>decide (x=z)) l i (by omega))
   have h2:(i:Int)<(l.length:Int):=by omega
   have h3:(0:Int)≤(i:Int):=by omega
   have h4:¬l.getD i 0=x:=fun e=>h1 e.symm
   simp only[h2,h3,h4,xah,xal,xab,xac,xai,xaf,hstep i (by omega)]
  ·simp
abbrev Asn:=Int×(Int×(Int×(List Int×Int)))
end Go.Proofs.YtfgjbkjddcjlfaaGreat
