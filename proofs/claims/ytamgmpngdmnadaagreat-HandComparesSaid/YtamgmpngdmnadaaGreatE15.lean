/- Part 15 of what stands below the statement. -/
import Derived.RangeFuncBox
import Derived.RangeFuncLeaves
import Derived.Shelf.Abstract
import Derived.Maps.AppendAt
import Derived.Shelf.SlIterI.Sorted
import Derived.Test.YtamgmpngdmnadaaGreatE14
set_option linter.unusedSimpArgs false
set_option linter.unusedVariables false
namespace Go.Proofs.YtamgmpngdmnadaaGreat
open Go Go.Proofs Go.RowKit Go.Shelf
attribute [local go_sem] Oper.semAt_some
def upto{α:Type}(f:Nat→α)(k:Nat):List α:=(List.range k).map f
theorem upto_succ{α:Type}(f:Nat→α)(k:Nat):upto f (k+1)=upto f k++[f k]:=by simp[upto,xeu]
theorem upto_length{α:Type}(f:Nat→α)(k:Nat):(upto f k).length=k:=by simp[upto]
theorem upto_all(zs:List Int):upto (fun j=>zs[j]?.getD 0) zs.length=zs:=by
 apply xfb
 ·simp[upto]
 ·intro i h1 h2
  simp[upto,h2]
set_option maxRecDepth 100000 in
set_option maxHeartbeats 2000000 in
theorem values1_in(F:Fence)(n:Nat)(h7:F.fn 99)(hro:F.round=none)(hn:1≤n)(l Bs Bo n₀ b off len cap:Nat)(zs:List Int)(hreach:len*8≤140737488351232)(hb:b<n₀)(J Jx:List Int→World→Prop)
  (hY:∀pre x W,J pre W→pre.length<len→YieldAt F (n-1) Tryz.prog l #[.int .i64 x] W fun e W'=>
   (e=.returned (.bool true)∧J (pre++[x]) W'∧Below n₀ W W')∨(e=.returned (.bool false)∧Jx (pre++[x]) W'))
  (W:World) (hBs:W.cell? ⟨Bs,Bo,none⟩=some (.slice (some ⟨b,off,none⟩) len cap)) (hc:∀j,j<len→W.cell? ⟨b,off+j,none⟩=some (.int .i64 (zs[j]?.getD 0))) (h0:J [] W) :
  CallsIn F n Tryz.prog 99 #[.func (.yield l) #[] #[],.pointer (some ⟨Bs,Bo,none⟩)] W fun e W'=>(∃v,e=.returned v) ∧
   ((∃ys,ys=upto (fun j=>zs[j]?.getD 0) len∧J ys W')∨(∃pre,(∃k,k≤len∧pre=upto (fun j=>zs[j]?.getD 0) k)∧Jx pre W')):=by
 refine callsIn_of_wp Tryz.func99 rfl h7 ?_ hro
 simp only[Tryz.ntmps99,xdc,xat,xck,Nat.reduceAdd,Nat.reduceSub,xdz,xdy,xev,xeh,xby,xbn]
 gi_wp2
 gi_loopw [7] (fun i wr=>∃k:Nat,k≤len∧i=.int .i64 k∧J (upto (fun j=>zs[j]?.getD 0) k) wr∧Below n₀ W wr)
  (fun i _=>len-(intOf i).toNat)
 case atStart=>exact⟨0,xbf _,rfl,h0,Below.refl _ _⟩
 case round=>
  obtain⟨k,hk,rfl,hJs,hnx⟩:=hrel
  have hcx:k<len→wr.cell? ⟨b,off+k,none⟩=some (.int .i64 (zs[k]?.getD 0)):=fun h=>(hnx.cell (p:=⟨b,off+k,none⟩) hb).trans (hc k h)
  by_cases hlt:k<len
  ·obtain⟨fn,tmps,assign,body,hy,hR⟩:=hY _ (zs[k]?.getD 0) wr hJs (by rw[upto_length];exact hlt)
   have hcx':=hcx hlt
   gi_wp2
   refine hR.mono ?_
   rintro e W3 (⟨rfl,hJ3,hk3⟩|⟨rfl,hJx3⟩)
   ·gi_wp2
    go_roundw
    case rel=>exact⟨k+1,by omega,by simp,by rw[upto_succ];exact hJ3,hnx.trans hk3⟩
    case measure=>simp[intOf];omega
   ·gi_wp2
    refine bodyPost_ret (results_none rfl _ _ _) rfl ?_
    exact⟨⟨_,rfl⟩,.inr ⟨_,⟨k+1,by omega,(upto_succ _ _).symm⟩,hJx3⟩⟩
  ·obtain rfl:k=len:=by omega
   gi_wp2
   go_end0
   exact⟨⟨_,rfl⟩,.inl ⟨_,rfl,hJs⟩⟩
theorem upto_take(zs:List Int){k:Nat}(hk:k≤zs.length):upto (fun j=>zs[j]?.getD 0) k=zs.take k:=by
 apply xfb
 ·simp[upto,hk]
 ·intro i h1 h2
  have:i<zs.length:=by simp[upto]at h1;omega
  simp[upto,this]
def IntsAt(n₀:Nat)(W:World)(sv:Value)(zs:List Int):Prop:=
 (∃a cap,sv=.slice a 0 cap∧zs=[])∨∃b off cap,sv=.slice (some ⟨b,off,none⟩) zs.length cap∧b<n₀∧∀j,j<zs.length→W.cell? ⟨b,off+j,none⟩=some (.int .i64 (zs[j]?.getD 0))
theorem IntsAt.below{n₀:Nat}{A B:World}(h:Below n₀ A B){sv:Value}{zs:List Int}:IntsAt n₀ A sv zs→IntsAt n₀ B sv zs
 | .inl e=>.inl e
 | .inr ⟨b,off,cap,e,hb,hc⟩=>.inr ⟨b,off,cap,e,hb,fun j hj=>(h.cell (p:=⟨b,off+j,none⟩) hb).trans (hc j hj)⟩
set_option maxRecDepth 100000 in
set_option maxHeartbeats 1000000 in
theorem zpx(F:Fence)(n:Nat)(h7:F.fn 99)(hro:F.round=none)(l Bs Bo:Nat)(a:Option Addr)(cap:Nat)(J:List Int→World→Prop)(W:World)(hBs:W.cell? ⟨Bs,Bo,none⟩=some (.slice a 0 cap))(h0:J [] W) :
  CallsIn F n Tryz.prog 99 #[.func (.yield l) #[] #[],.pointer (some ⟨Bs,Bo,none⟩)] W fun e W'=>(∃v,e=.returned v)∧J [] W':=by
 refine callsIn_of_wp Tryz.func99 rfl h7 ?_ hro
 simp only[Tryz.ntmps99,xdc,xat,xck,Nat.reduceAdd,Nat.reduceSub,xdz,xdy,xev,xeh,xby,xbn]
 gi_wp2
 gi_loopw [7] (fun i wr=>i=.int .i64 0∧J [] wr) (fun _ _=>0)
 case atStart=>exact⟨rfl,h0⟩
 case round=>
  obtain⟨rfl,hJs⟩:=hrel
  gi_wp2
  go_end0
  exact⟨⟨_,rfl⟩,hJs⟩
set_option maxHeartbeats 1000000 in
theorem values_in(F:Fence)(n:Nat)(h5:F.fn 55)(hro:F.round=none)(a:Option Addr)(len cap:Nat)(w:World) :
  CallsIn F n Tryz.prog 55 #[.slice a len cap] w fun e w'=>e=.returned (.func (.func 99) #[] #[.pointer (some ⟨w.heap.size,0,none⟩)])∧w'=w.alloc (.cells #[.slice a len cap] 26):=by
 refine callsIn_of_wp Tryz.func55 rfl h5 ?_ hro
 simp only[Tryz.ntmps55,xdc,xat,xck,Nat.reduceAdd,Nat.reduceSub,xdz,xdy,xev,xeh,xby,xbn]
 gi_wp2
 go_ret
 exact⟨rfl,rfl⟩
theorem values_stops(F:Fence)(n:Nat)(h7:F.fn 99)(hro:F.round=none)(hn:1≤n)(Bs Bo n₀:Nat)(sv:Value)(zs:List Int)(hreach:zs.length*8≤140737488351232)(w:World)(hBs:Bs<w.heap.size)(hn₀:n₀≤w.heap.size)
  (hc:w.cell? ⟨Bs,Bo,none⟩=some sv) (hI:IntsAt n₀ w sv zs) :
  SeqStopsK F n Tryz.prog 99 #[.pointer (some ⟨Bs,Bo,none⟩)] (fun x:Int=>#[Value.int .i64 x]) (Below n₀) (fun ys=>ys=zs) (fun pre=>pre <+: zs) zs.length w:=fun l J Jx W hW _ _ hY h0=>by
 have hc':=(hW.cell (p:=⟨Bs,Bo,none⟩) hBs).trans hc
 rcases hI.below (hW.mono hn₀)with⟨a,cap,rfl,rfl⟩|⟨b,off,cap,rfl,hb,hcs⟩
 ·exact(zpx F n h7 hro l Bs Bo a cap J W hc' h0).mono fun e W' ⟨he,hj⟩=>⟨he,.inl ⟨_,rfl,hj⟩⟩
 ·refine(values1_in F n h7 hro hn l Bs Bo n₀ b off zs.length cap zs hreach hb J Jx hY W hc' hcs h0).mono ?_
  rintro e W' ⟨he,⟨ys,rfl,hj⟩|⟨pre,⟨k,hk,rfl⟩,hj⟩⟩
  ·exact⟨he,.inl ⟨_,upto_all zs,hj⟩⟩
  ·exact⟨he,.inr ⟨_,by rw[upto_take zs hk];exact List.take_prefix _ _,hj⟩⟩
end Go.Proofs.YtamgmpngdmnadaaGreat
namespace Go.Proofs.YtamgmpngdmnadaaGreat
open Go Go.Proofs Go.RowKit Go.Shelf
attribute [local go_sem] Oper.semAt_some
theorem info3i:(Tryz.prog.info? 3).map (fun i=>(i.zero,i.size,i.bytes))=some (some (.int .i64 0),1,8):=by kernel_rfl
set_option maxRecDepth 100000 in
set_option maxHeartbeats 2000000 in
theorem appendSeq_in(F:Fence)(n:Nat)(h181:F.fn 181)(h99:F.fn 99)(hro:F.round=none)(hn:3≤n)(Bs Bo:Nat)(sv:Value)(zs:List Int)(hlen:zs.length≤4294967296)(w:World)(hBs:Bs<w.heap.size)
  (hc:w.cell? ⟨Bs,Bo,none⟩=some sv) (hI:IntsAt w.heap.size w sv zs) :
  CallsIn F n Tryz.prog 181 #[.slice none 0 0,.func (.func 99) #[] #[.pointer (some ⟨Bs,Bo,none⟩)]] w fun e W'=>∃v,e=.returned v∧W'.ownsRow w.heap.size 3 1 v zs.length (zs.map (Value.int .i64))∧(v=.slice none 0 0↔zs=[])∧Below w.heap.size w W':=by
 have h1:1≤n:=by omega
 obtain⟨i0,hi,hz0,hz1,hz2⟩:=info_parts info3i
 refine callsIn_of_wp_marks Tryz.func181 rfl h181 ?_ hro
 simp only[Tryz.ntmps181,xdc,xat,xck,Nat.reduceAdd,Nat.reduceSub,xdz,xdy,xev,xeh,xby,xbn]
 gi_wp2
 have bO:=Boxed.new w 26 (.slice none 0 0)
 have hB0:Below w.heap.size w (w.alloc (.cells #[.slice none 0 0] 26)):=(Below.refl _ w).alloc (Nat.le_refl _) _
 refine wpIn_rangeFunc_ownG hro h1 (gf:=99) (lb:=#[.pointer (some ⟨Bs,Bo,none⟩)]) rfl h99 (enters_of Tryz.func99 (by kernel_rfl) rfl)
  (values_stops F (n-1) h99 hro (by omega) Bs Bo w.heap.size sv zs (by omega) _ (by simp;omega) (by simp) ((hB0.cell (p:=⟨Bs,Bo,none⟩) hBs).trans hc) (hI.below hB0)) belowK_t (belowK_b (by simp)) (Below.refl _ _) (fun _=>rfl)
  (fun pre W=>(∃v,Boxed W w.heap.size 26 v∧W.ownsRow w.heap.size 3 1 v pre.length (pre.map (Value.int .i64))∧(v=.slice none 0 0↔pre=[]))∧Below w.heap.size w W)
  (fun _ _ _=>False)
  (OwnFrom.and (Own.from (holdsRow_own w.heap.size w.heap.size 26 3 1 (fun pre:List Int=>pre.length) (fun pre=>pre.map (Value.int .i64)) (fun pre v=>v=.slice none 0 0↔pre=[])) _) (ownFrom_below (Nat.le_refl _) (by simp)))
  (fun _ _ _ _ _ hs _ _=>hs)
  ⟨⟨_,bO,World.ownsRow_nil _ _ _ _,by simp⟩,hB0⟩
  (fun x=>{tmps:=#[.slice none 0 0,.func (.func 99) #[] #[.pointer (some ⟨Bs,Bo,none⟩)],.pointer (some ⟨w.heap.size,0,none⟩),undef,.slice none 0 0,.int .i64 x,.func (.func 99) #[] #[.pointer (some ⟨Bs,Bo,none⟩)],.int .i64 x,undef,undef,undef,undef,undef],defers:=[]}) ?assign ?body ?done ?stop
 case assign=>
  intro l x W K hK
  gi_wp2
  exact hK
 case body=>
  rintro l pre x W ⟨⟨v,hv,hrow,hnil⟩,hB⟩ hlt
  have hc:=hv.cell
  gi_wp2_with (gi_at_builtin;refine wpListIn_append_own _ rfl _ _ 26 rfl w.heap.size 3 i0 (.int .i64 0) 1 8 Tryz.underlying26 hi hz0 hz1 hz2 rfl (by decide) _ _ _ rfl (hrow.alloc _) ⟨W.heap.size,0,none⟩ 1 1 [.int .i64 x] rfl rfl (cell_one_new _ _ _) (by simp[Value.oneCell']) (by unfold maxLen;omega) (by omega) (by have:=hB.size;simp;omega) ?_;intro v' w1 hown' hgrow _;obtain⟨g',cap',rfl⟩:=ownsRow_succ hown';obtain⟨hv1,hv2,hr2,hk2,hb2⟩:=hv.appended (by decide) hrow hB.size (Nat.le_refl _) hown' hgrow;have hc1:=hv1.cell;have hf1:=hv1.frozen)
  exact⟨hk2.from _,hb2,⟨_,hv2,by simpa using hr2,by simp⟩,hB.trans hb2⟩
 case done=>
  rintro D ys W hD rfl ⟨⟨v,hv,hrow,hnil⟩,hB⟩ hK
  have hc:=hv.cell
  gi_wp2
  refine⟨by simp,.inl ⟨_,_,rfl,run_takeDeferred hK,?_⟩⟩
  exact⟨_,results_tmp rfl _ _ _,v,rfl,ownsRow_putObj hrow _ hK rfl,hnil,hB.trans (belowK_b (w:=w) (Nat.le_refl _) W D _ _ (by simp at hD;omega) hK rfl rfl)⟩
 case stop=>
  rintro D c pre W _ _ h _
  exact h.elim
set_option maxRecDepth 100000 in
set_option maxHeartbeats 2000000 in
theorem collect_in(F:Fence)(n:Nat)(h97:F.fn 97)(h181:F.fn 181)(h99:F.fn 99)(hro:F.round=none)(hn:4≤n)(Bs Bo:Nat)(sv:Value)(zs:List Int)(hlen:zs.length≤4294967296)(w:World)(hBs:Bs<w.heap.size)
  (hc:w.cell? ⟨Bs,Bo,none⟩=some sv) (hI:IntsAt w.heap.size w sv zs) :
  CallsIn F n Tryz.prog 97 #[.func (.func 99) #[] #[.pointer (some ⟨Bs,Bo,none⟩)]] w fun e W'=>∃v,e=.returned v∧W'.ownsRow w.heap.size 3 1 v zs.length (zs.map (Value.int .i64))∧(v=.slice none 0 0↔zs=[])∧Below w.heap.size w W':=by
 have h1:1≤n:=by omega
 refine callsIn_of_wp Tryz.func97 rfl h97 ?_ hro
 simp only[Tryz.ntmps97,xdc,xat,xck,Nat.reduceAdd,Nat.reduceSub,xdz,xdy,xev,xeh,xby,xbn]
 gi_wp2_with (gi_at_call 181;refine(appendSeq_in F (n-1) h181 h99 hro (by omega) Bs Bo sv zs hlen _ hBs hc hI).mono ?_;rintro e w' ⟨v,rfl,hrow,hnil,hb⟩)
 go_ret
 exact⟨v,rfl,hrow,hnil,hb⟩
end Go.Proofs.YtamgmpngdmnadaaGreat
namespace Go.Proofs.YtamgmpngdmnadaaGreat
open Go Go.Proofs Go.RowKit Go.Shelf Go.Sort Go.Maps
attribute [local go_sem] Oper.semAt_some
theorem sort_some(blk off cap:Nat)(ss:List Int)(W:World)(hH:Holds (Value.int .i64) W blk off ss.toArray)(hblk:blk<W.heap.size)(hsz:ss.length<4611686018427387904)(m:Nat) :
  CallsIn Fence.wide m Tryz.prog 98 #[.slice (some ⟨blk,off,none⟩) ss.length cap] W fun e w'=>e=.returned (.tuple #[])∧∃k os,w'=grow (putRow (Value.int .i64) (Sort.ahead W k) blk off (ss.mergeSort fun x y=>decide (x≤y)).toArray) os:=
 callsIn_wide.2 (AnyM.slices_Sort_int Tryz.sortA blk off cap ss W hH hblk hsz)
theorem sort_none(p:Option Addr)(cap:Nat)(W:World)(m:Nat):CallsIn Fence.wide m Tryz.prog 98 #[.slice p 0 cap] W fun e w'=>e=.returned (.tuple #[])∧w'=W:=
 callsIn_wide.2 (AnyM.slices_Sort_int_none Tryz.sortA p cap W)
set_option maxRecDepth 100000 in
set_option maxHeartbeats 2000000 in
theorem sorted_in(Bs Bo:Nat)(sv:Value)(zs:List Int)(hlen:zs.length≤4294967296)(w:World)(hBs:Bs<w.heap.size)
  (hc:w.cell? ⟨Bs,Bo,none⟩=some sv) (hI:IntsAt w.heap.size w sv zs) :
  CallsIn Fence.wide 5 Tryz.prog 54 #[.func (.func 99) #[] #[.pointer (some ⟨Bs,Bo,none⟩)]] w fun e W'=>∃v,e=.returned v ∧
   W'.ownsRow w.heap.size 3 1 v zs.length ((zs.mergeSort fun x y=>decide (x≤y)).map (Value.int .i64))∧(v=.slice none 0 0↔zs=[])∧Below w.heap.size w W':=by
 have h1:1≤5:=by omega
 have hro:Fence.wide.round=none:=rfl
 have cC:=collect_in Fence.wide 4 trivial trivial trivial rfl (by omega) Bs Bo sv zs hlen w hBs hc hI
 have hfC:Fence.wide.fn 97:=trivial
 have hfS:Fence.wide.fn 98:=trivial
 refine callsIn_of_wp Tryz.func54 rfl trivial ?_ rfl
 simp only[Tryz.ntmps54,xdc,xat,xck,Nat.reduceAdd,Nat.reduceSub,xdz,xdy,xev,xeh,xby,xbn]
 gi_wp2_with (gi_at_call 97;refine cC.mono ?_;rintro e W ⟨v,rfl,hrow,hnil,hb⟩)
 rcases hrow.2 with⟨rfl,hz⟩|⟨gb,cap,cur,rfl,hbase,hgb,r1,r2,r3,r4⟩
 ·have hss:zs=[]:=xdi hz
  subst hss
  gi_wp2_with (gi_at_call 98;refine(sort_none none 0 W _).mono ?_;rintro e w' ⟨rfl,rfl⟩)
  go_ret
  exact⟨.slice none 0 0,rfl,by simpa using hrow,by simp,hb⟩
 ·have hH:Holds (Value.int .i64) W gb 0 zs.toArray:=holds_of_block_i hgb (by simpa using r4)
  have hgl:gb<W.heap.size:=(xbx.1 hgb).1
  have hsz:zs.length<4611686018427387904:=by omega
  have cS:=fun m=>sort_some gb 0 cap zs W hH hgl hsz m
  gi_wp2_with (gi_at_call 98;refine(cS _).mono ?_;rintro e w' ⟨rfl,nn,os,rfl⟩)
  go_ret
  exact⟨_,rfl,ownsRow_sorted_i (by simp) hbase hgb r1 r2 r3,hnil,hb.grown (grownBy_sorted_i _) hb.size (fun j hj=>by cases hj;exact hbase)⟩
end Go.Proofs.YtamgmpngdmnadaaGreat
namespace Go.Proofs.YtamgmpngdmnadaaGreat
open Go Go.Proofs Go.RowKit Go.X
theorem ext_of_below{w w':World}(h:Below w.heap.size w w'):Ext w w':=⟨h.os,h.tape,h.output,h.size,h.block⟩
theorem entV:zcm Tryz.prog 55:=enters_of Tryz.func55 (by kernel_rfl) rfl
theorem entS:zcm Tryz.prog 54:=enters_of Tryz.func54 (by kernel_rfl) rfl
noncomputable def sqE:SqE Tryz.prog where
 fv:=55
 g:=99
 fs:=54
 e:=3
 entV:=entV
 entS:=entS
 vals w A len cap:=(callsIn_wide (n:=0)).1 ((values_in Fence.wide 0 trivial rfl A len cap w).mono fun e w' h=>⟨w.heap.size,h.1,by rw[h.2];exact Ext.alloc _ _,Nat.le_refl _,by rw[h.2];simp,by rw[h.2];exact cell_one_new _ _ _ 0 _ rfl⟩)
 sorts w Bs Bo A cap xs hl hB hc hx:=by
  refine(callsIn_wide (n:=5)).1 ((sorted_in Bs Bo _ xs hl w hB hc ?_).mono ?_)
  ·rcases hx with rfl|⟨b,o,rfl,hb,h⟩
   ·exact .inl ⟨A,cap,rfl,rfl⟩
   ·refine .inr ⟨b,o,cap,rfl,hb,fun j hj=>?_⟩
    rw[h j hj,xae hj]
    rfl
  ·rintro e w' ⟨v,rfl,hrow,hnil,hb⟩
   refine⟨v,rfl,ext_of_below hb,?_⟩
   obtain⟨h1,h2⟩:=hrow
   rcases h2 with⟨h2,_⟩|⟨g,k,cur,h2,h3,h4,h5,h6,h7,h8⟩
   ·exact .inl ⟨h2,hnil.1 h2⟩
   ·refine .inr ⟨g,k,cur,h2,h3,h4,h5,h6,by simpa using h7,fun i hi=>?_⟩
    have hi':i<xs.length:=by rw[zef]at hi;exact hi
    have:=xbb (fun l=>l[i]?) h8
    simp only[xct,xda,hi',if_true,xbr]at this
    have h9:(xs.mergeSort fun x y=>decide (x≤y))[i]?=some (zch xs)[i]:=xae hi
    rw[h9]at this
    simpa using this
end Go.Proofs.YtamgmpngdmnadaaGreat
open Go Go.Proofs Go.X
namespace Go.Proofs.YtamgmpngdmnadaaGreat
set_option maxRecDepth 100000
noncomputable section
abbrev uf5:=(Bool×(List Int×List Int))
abbrev uf1:=(List uf5×(List uf5×(uf5×(uf5×(uf5×(List Int×(List Int×List Int)))))))
abbrev uf0:=(Int×(Int×(Int×(Int×(List uf1×List Int)))))
abbrev uf8:=(Bool×List Int)
abbrev uf4:=((Int×(Int×Int))×uf8)
abbrev uf3:=(List uf4)
abbrev uf6:=(List uf8)
abbrev uf9:=(List Bool)
abbrev uf10:=(List Int)
abbrev uf2:=(List Int×(List uf10×(Int×(Int×(Int×(Int×(Int×(Int×Int))))))))
abbrev uf7:=(List uf10)
def d45(n:Int):Option uf7:=
 (zae (β:=uf7) (fun((a,out,i):Int×uf7×Int)=>
 bif (decide (i<a))then
 bif (decide ((out.length:Int)+(([[(wu8 (w (97+i)))]]:List uf10).length:Int)≤LIM))then
 some (Sum.inl (a,(out++[[(wu8 (w (97+i)))]]),(w (i+1))))
 else none
 else
 some (Sum.inr out)) (n,[],0)).bind fun(b:List uf10)=>
 some b
def sg45:Sig:=⟨[(y2,.sh)],[(y22,(.own 9 .sh))]⟩
theorem sim45:Sim Tryz.prog 45 sg45 d45:=uqz Tryz.func45 (zaa rfl) Tryz.call45 (by kernel_rfl) (by kernel_rfl) [] (uqs (.seq (.reg [] [{fl:=2}]) (.seq (uqs (.block (.loop [(0,uqa),(3,.v y22 (.own 9 .sh)),(4,uqa)] [(.brk 0,[(3,.v y22 (.own 9 .sh))])] (.seq (uqs (.cond .nil .nil)) (.seq (.block uqr) uqr))))) (uqs .nil)))) fun xs=>by kernel_rfl
def E45:FnE Tryz.prog:=⟨45,sg45,d45,sim45⟩
def d16(x:Int)(n:Int):Option Int:=
 bif (!decide (n=0))then
 bif (!decide (n=0))then
 some (w (Int.tmod (w ((w (Int.tmod x n))+n)) n))
 else none
 else none
def sg16:Sig:=⟨[(y2,.sh),(y2,.sh)],[(y2,.sh)]⟩
theorem sim16:Sim Tryz.prog 16 sg16 d16:=uqz Tryz.func16 (zaa rfl) Tryz.call16 (by kernel_rfl) (by kernel_rfl) [] (uqs (uqs .nil)) fun xs=>by kernel_rfl
def E16:FnE Tryz.prog:=⟨16,sg16,d16,sim16⟩
def d17(method:Int)(n:Int)(seats:Int)(digits:Int)(ties:Int):Option uf2:=
 (d45 n).bind fun r=>
 (d16 method 3).bind fun a=>
 (d16 seats 5).bind fun b=>
 (d16 ties 3).bind fun e=>
 letJ (fun((f,c):uf2×uf2)=>
 letJ (fun((k,i):uf2×uf2)=>
 some i) fun g=>
 bif (decide (c.2.2.1=1))then
 g (f,(c.1,c.2.1,c.2.2.1,1,c.2.2.2.2))
 else
 g (f,c)) fun h=>
 bif (decide ((w (1+a))=2))then
 (d16 digits 6).bind fun j=>
 h (([],[],0,0,0,0,0,0,0),([99],r,(w (1+a)),(w (1+b)),0,(w (1+j)),(w (1+e)),0,0))
 else
 h (([],[],0,0,0,0,0,0,0),([99],r,(w (1+a)),(w (1+b)),0,0,(w (1+e)),0,0))
def sg17:Sig:=⟨[(y2,.sh),(y2,.sh),(y2,.sh),(y2,.sh),(y2,.sh)],[(y23,.sh)]⟩
theorem sim17:Sim Tryz.prog 17 sg17 d17:=uqz Tryz.func17 (zaa rfl) Tryz.call17 (by kernel_rfl) (by kernel_rfl) [.fn E45,.fn E16] (uqs (.seq (.reg [] [{},{},{},{},{},{},{},{},{},{},{},{frz:=[(13,[])]}]) (.join (uqs (.cond uqr .nil)) [(10,.v (.ptr y23) (.own 0 .sh)),(11,.v (.ptr y23) (.own 0 (.pr .sh (.pr .sh (.pr .sh (.pr .sh (.pr .sh (.pr .sh (.pr .sh .sh)))))))))] (.join (uqs (.cond uqr .nil)) [(10,.v (.ptr y23) (.own 0 .sh)),(11,.v (.ptr y23) (.own 0 (.pr .sh (.pr .sh (.pr .sh (.pr .sh (.pr .sh (.pr .sh (.pr .sh .sh)))))))))] (uqs .nil))))) fun xs=>by kernel_rfl
def E17:FnE Tryz.prog:=⟨17,sg17,d17,sim17⟩
def d96(s:List Int)(v:Int):Option Bool:=
 (d180 s v).bind fun r=>
 some (decide (0≤r))
def sg96:Sig:=⟨[(y26,.bw),(y2,.sh)],[(y4,.sh)]⟩
theorem sim96:Sim Tryz.prog 96 sg96 d96:=uqz Tryz.func96 (zaa rfl) Tryz.call96 (by kernel_rfl) (by kernel_rfl) [.fn E180] (uqs (uqs .nil)) fun xs=>by kernel_rfl
def E96:FnE Tryz.prog:=⟨96,sg96,d96,sim96⟩
def d53(l:List Int):Option Bool:=
 (zae (β:=Unit⊕Bool) (fun((c,b,e,a):uf10×uf10×Int×Int)=>
   bif (decide (a<e))then
    bif (decide (0≤a)&&decide (a<(b.length:Int)))then
     letJ (fun((g,h,i,j,k):uf10×uf10×Int×Int×Bool)=>
       bif k then
        some (Sum.inr (Sum.inr false))
       else
        some (Sum.inl (g,h,i,(w (j+1))))) fun f=>
     bif !(decide ((List.getD b (Int.toNat a) 0)<0))then
      bif !(decide (7≤(List.getD b (Int.toNat a) 0)))then
       bif (zck 0 a c.length)then
        (d96 (List.drop 0 (List.take (Int.toNat a) c)) (List.getD b (Int.toNat a) 0)).bind fun r=>
        f (c,b,e,a,r)
       else none
      else
       f (c,b,e,a,true)
     else
      f (c,b,e,a,true)
    else none
   else
    some (Sum.inr (Sum.inl ()))) (l,l,(l.length:Int),0)).bind fun
 |Sum.inl _=>
  some true
 |Sum.inr m=>
  some m
def sg53:Sig:=⟨[(y26,.bw)],[(y4,.sh)]⟩
theorem sim53:Sim Tryz.prog 53 sg53 d53:=uqz Tryz.func53 (zaa rfl) Tryz.call53 (by kernel_rfl) (by kernel_rfl) [.fn E96] (uqs (.seq (uqs (.block (.loop [(0,uqb),(5,uqb),(6,uqa),(7,uqa)] [(.brk 0,[]),(.ret,[(2,uqc)])] (uqs (.seq (.cond .nil .nil) (.seq (.block (uqs (.join uqr [(0,uqb),(5,uqb),(6,uqa),(7,uqa),(24,uqc)] (.cond (uqs .nil) .nil)))) uqr)))))) (uqs .nil))) fun xs=>by kernel_rfl
def E53:FnE Tryz.prog:=⟨53,sg53,d53,sim53⟩
def d24(state:Int)(announced:List Int)(hand:List Int):Option (uf10×Bool×Int):=
 bif (decide (state=1))then
 some ([],false,16)
 else
 letJ (fun((g,a,b,i):Int×uf10×uf10×Bool)=>
 bif i then
 some ([],false,5)
 else
 letJ (fun((j,c,e,k):Int×uf10×uf10×Bool)=>
 bif k then
 some ([],false,8)
 else
 (bif decide ((c.length:Int)≤LIM)then some ()else none).bind fun u=>
 (bif decide ((e.length:Int)≤LIM)then some ()else none).bind fun n=>
 bif (decide (j=2))then
 some ((zch c),false,0)
 else
 (d56 (zch c) (zch e)).bind fun l=>
 some ((zch e),!l,0)) fun h=>
 (d53 a).bind fun r=>
 bif !(!r)then
 (d53 b).bind fun m=>
 h (g,a,b,!m)
 else
 h (g,a,b,true)) fun f=>
 bif !(decide (state=2))then
 bif !(decide (state=3))then
 f (state,announced,hand,!(decide (state=4)))
 else
 f (state,announced,hand,false)
 else
 f (state,announced,hand,false)
def sg24:Sig:=⟨[(y2,.sh),(y26,.bw),(y26,.bw)],[(y26,.sh),(y4,.sh),(y2,.sh)]⟩
theorem sim24:Sim Tryz.prog 24 sg24 d24:=uqz Tryz.func24 (zaa rfl) Tryz.call24 (by kernel_rfl) (by kernel_rfl) [.fn E53,.sq sqE,.fn E56] (.post (uqs (.seq (.block (uqs (.cond (uqs .nil) (.join uqr [(0,uqa),(1,uqb),(2,uqb),(12,uqc)] (.cond (uqs .nil) (.join uqr [(0,uqa),(1,uqb),(2,uqb),(23,uqc)] (.cond (uqs .nil) .nil))))))) (uqs (.seq (uqs (.cond (uqs .nil) .nil)) (uqs .nil))))) [(6,[])]) fun xs=>by kernel_rfl
def E24:FnE Tryz.prog:=⟨24,sg24,d24,sim24⟩
def d58(a:List Int)(b:List Int):Option Bool:=
 (zae (β:=(uf10×uf10)⊕Bool) (fun((g,h,i):uf10×uf10×Int)=>
   letJ (fun((e,f,c,k):uf10×uf10×Int×Bool)=>
     bif k then
      bif (decide (0≤c)&&decide (c<(e.length:Int)))then
       bif (decide (0≤c)&&decide (c<(f.length:Int)))then
        bif !(decide ((List.getD e (Int.toNat c) 0)=(List.getD f (Int.toNat c) 0)))then
         bif (decide (0≤c)&&decide (c<(e.length:Int)))then
          bif (decide (0≤c)&&decide (c<(f.length:Int)))then
           some (Sum.inr (Sum.inr (decide ((List.getD e (Int.toNat c) 0)<(List.getD f (Int.toNat c) 0)))))
          else none
         else none
        else
         some (Sum.inl (e,f,(w (c+1))))
       else none
      else none
     else
      some (Sum.inr (Sum.inl (e,f)))) fun j=>
   bif (decide (i<(g.length:Int)))then
    j (g,h,i,(decide (i<(h.length:Int))))
   else
    j (g,h,i,false)) (a,b,0)).bind fun
 |Sum.inl (l,m)=>
  some (decide ((l.length:Int)<(m.length:Int)))
 |Sum.inr n=>
  some n
def sg58:Sig:=⟨[(y26,.bw),(y26,.bw)],[(y4,.sh)]⟩
theorem sim58:Sim Tryz.prog 58 sg58 d58:=uqz Tryz.func58 (zaa rfl) Tryz.call58 (by kernel_rfl) (by kernel_rfl) [] (uqs (.seq (uqs (.block (.loop [(0,uqb),(1,uqb),(5,uqa)] [(.brk 0,[(0,uqb),(1,uqb)]),(.ret,[(4,uqc)])] (.seq (.join uqr [(0,uqb),(1,uqb),(5,uqa),(15,uqc)] (.cond .nil .nil)) (.seq (.block (uqs (.cond (uqs .nil) .nil))) uqr))))) (uqs .nil))) fun xs=>by kernel_rfl
def E58:FnE Tryz.prog:=⟨58,sg58,d58,sim58⟩
def d26(a:List Int)(b:List Int):Option Bool:=
 (d58 a b).bind fun r=>
 bif !r then
 (d58 b a).bind fun c=>
 some (!c)
 else
 some false
def sg26:Sig:=⟨[(y26,.bw),(y26,.bw)],[(y4,.sh)]⟩
theorem sim26:Sim Tryz.prog 26 sg26 d26:=uqz Tryz.func26 (zaa rfl) Tryz.call26 (by kernel_rfl) (by kernel_rfl) [.fn E58] (uqs (uqs .nil)) fun xs=>by kernel_rfl
def E26:FnE Tryz.prog:=⟨26,sg26,d26,sim26⟩
def d15:Option Bool:=
 (d17 0 2 0 0 0).bind fun r=>
 (d20 r [(false,[1]),(true,[]),(false,[1,0])] [0,1]).bind fun b=>
 (d24 3 [0] b.1.2.2.2.2.2).bind fun a=>
 bif (decide (b.2=0))then
 bif (decide (a.2.2=0))then
 bif a.2.1 then
 (d26 a.1 [1]).bind fun c=>
 some c
 else
 some false
 else
 some false
 else
 some false
def sg15:Sig:=⟨[],[(y4,.sh)]⟩
def plan15:Plan:=(uqs (.seq (.reg [] [{},{},{frz:=[(8,[])]},{},{},{frz:=[(11,[])]},{},{},{frz:=[(13,[]),(14,[])]},{fl:=1}]) (.seq (.reg [] [{},{},{},{},{fl:=1}]) (uqs .nil))))
theorem ev15 (xs:Vals (ptys sg15.ps)):evF (P:=Tryz.prog) tab [.fn E17,.fn E20,.fn E24,.fn E26] sg15 Tryz.f15.results.toList (code Tryz.f15) plan15 xs=d15  := by kernel_rfl
theorem sim15:Sim Tryz.prog 15 sg15 d15:=sim_ev mixd tabOK Tryz.func15 (zaa rfl) Tryz.call15 (uqn (by kernel_rfl)) (by kernel_rfl) plan15 _ fun xs y h=>(ev15 xs).trans h
def E15:FnE Tryz.prog:=⟨15,sg15,d15,sim15⟩
def d46(l:List Int)(x:Int):Option Bool:=
 (zae (β:=Unit⊕Bool) (fun((a,b,i):uf10×Int×Int)=>
   bif (decide (i<(a.length:Int)))then
    bif (decide (0≤i)&&decide (i<(a.length:Int)))then
     bif (decide ((List.getD a (Int.toNat i) 0)=b))then
      some (Sum.inr (Sum.inr true))
     else
      some (Sum.inl (a,b,(w (i+1))))
    else none
   else
    some (Sum.inr (Sum.inl ()))) (l,x,0)).bind fun
 |Sum.inl _=>
  some false
 |Sum.inr c=>
  some c
def sg46:Sig:=⟨[(y26,.bw),(y2,.sh)],[(y4,.sh)]⟩
theorem sim46:Sim Tryz.prog 46 sg46 d46:=uqz Tryz.func46 (zaa rfl) Tryz.call46 (by kernel_rfl) (by kernel_rfl) [] (uqs (.seq (uqs (.block (.loop [(0,uqb),(1,uqa),(5,uqa)] [(.brk 0,[]),(.ret,[(4,uqc)])] (.seq (uqs (.cond .nil .nil)) (.seq (.block (uqs (.cond (uqs .nil) .nil))) uqr))))) (uqs .nil))) fun xs=>by kernel_rfl
def E46:FnE Tryz.prog:=⟨46,sg46,d46,sim46⟩
def d19(n:Int)(l:List Int):Option uf10:=
 (zae (β:=uf10) (fun((e,f,out,i):Int×uf10×uf10×Int)=>
 letJ (fun((g,c,a,b,k):Int×uf10×uf10×Int×Bool)=>
 bif k then
 letJ (fun((m,o,p,q):Int×uf10×uf10×Int)=>
 some (Sum.inl (m,o,p,(w (q+1))))) fun h=>
 bif (decide (0≤b)&&decide (b<(c.length:Int)))then
 (d16 (List.getD c (Int.toNat b) 0) g).bind fun r=>
 (d46 a r).bind fun s=>
 bif !s then
 bif (decide ((a.length:Int)+(([r]:List Int).length:Int)≤LIM))then
 h (g,c,(a++[r]),b)
 else none
 else
 h (g,c,a,b)
 else none
 else
 some (Sum.inr a)) fun j=>
 bif (decide (i<(f.length:Int)))then
 j (e,f,out,i,(decide ((out.length:Int)<e)))
 else
 j (e,f,out,i,false)) (n,l,[],0)).bind fun(t:List Int)=>
 some t
def sg19:Sig:=⟨[(y2,.sh),(y26,.bw)],[(y26,(.own 3 .sh))]⟩
theorem sim19:Sim Tryz.prog 19 sg19 d19:=uqz Tryz.func19 (zaa rfl) Tryz.call19 (by kernel_rfl) (by kernel_rfl) [.fn E16,.fn E46] (uqs (.seq (.reg [] [{fl:=2}]) (.seq (uqs (.block (.loop [(0,uqa),(1,uqb),(5,uqd),(6,uqa)] [(.brk 0,[(5,uqd)])] (.seq (.join uqr [(0,uqa),(1,uqb),(5,uqd),(6,uqa),(17,uqc)] (.cond .nil .nil)) (.join (.block (uqs (uqs (.cond uqr .nil)))) [(0,uqa),(1,uqb),(5,uqd),(6,uqa)] uqr))))) (uqs .nil)))) fun xs=>by kernel_rfl
def E19:FnE Tryz.prog:=⟨19,sg19,d19,sim19⟩
def d23(l:List Int):Option uf10:=
 (zae (β:=uf10) (fun((a,out,x):uf10×uf10×Int)=>
 bif (decide (x<12))then
 letJ (fun((c,e,f):uf10×uf10×Int)=>
 some (Sum.inl (c,e,(w (f+1))))) fun b=>
 (d46 a x).bind fun r=>
 bif r then
 bif (decide ((out.length:Int)+(([x]:List Int).length:Int)≤LIM))then
 b (a,(out++[x]),x)
 else none
 else
 b (a,out,x)
 else
 some (Sum.inr out)) (l,[],0)).bind fun(g:List Int)=>
 some g
def sg23:Sig:=⟨[(y26,.bw)],[(y26,(.own 3 .sh))]⟩
theorem sim23:Sim Tryz.prog 23 sg23 d23:=uqz Tryz.func23 (zaa rfl) Tryz.call23 (by kernel_rfl) (by kernel_rfl) [.fn E46] (uqs (.seq (.reg [] [{fl:=2}]) (.seq (uqs (.block (.loop [(0,uqb),(3,uqd),(4,uqa)] [(.brk 0,[(3,uqd)])] (.seq (uqs (.cond .nil .nil)) (.join (.block (uqs (.cond uqr .nil))) [(0,uqb),(3,uqd),(4,uqa)] uqr))))) (uqs .nil)))) fun xs=>by kernel_rfl
def E23:FnE Tryz.prog:=⟨23,sg23,d23,sim23⟩
def d41(n:Int)(p:List Int):Option Bool:=
 (zae (β:=Unit⊕Bool) (fun((b,a,i):Int×uf10×Int)=>
   bif (decide (i<(a.length:Int)))then
    letJ (fun((e,f,g,h):Int×uf10×Int×Bool)=>
      bif h then
       some (Sum.inr (Sum.inr false))
      else
       some (Sum.inl (e,f,(w (g+1))))) fun c=>
    bif (decide (0≤i)&&decide (i<(a.length:Int)))then
     bif !(decide ((List.getD a (Int.toNat i) 0)<0))then
      bif (decide (0≤i)&&decide (i<(a.length:Int)))then
       bif !(decide (b≤(List.getD a (Int.toNat i) 0)))then
        bif (zck 0 i a.length)then
         bif (decide (0≤i)&&decide (i<(a.length:Int)))then
          (d46 (List.drop 0 (List.take (Int.toNat i) a)) (List.getD a (Int.toNat i) 0)).bind fun r=>
          c (b,a,i,r)
         else none
        else none
       else
        c (b,a,i,true)
      else none
     else
      c (b,a,i,true)
    else none
   else
    some (Sum.inr (Sum.inl ()))) (n,p,0)).bind fun
 |Sum.inl _=>
  some true
 |Sum.inr j=>
  some j
def sg41:Sig:=⟨[(y2,.sh),(y26,.bw)],[(y4,.sh)]⟩
theorem sim41:Sim Tryz.prog 41 sg41 d41:=uqz Tryz.func41 (zaa rfl) Tryz.call41 (by kernel_rfl) (by kernel_rfl) [.fn E46] (uqs (.seq (uqs (.block (.loop [(0,uqa),(1,uqb),(5,uqa)] [(.brk 0,[]),(.ret,[(4,uqc)])] (.seq (uqs (.cond .nil .nil)) (.seq (.block (.join uqr [(0,uqa),(1,uqb),(5,uqa),(34,uqc)] (.cond (uqs .nil) .nil))) uqr))))) (uqs .nil))) fun xs=>by kernel_rfl
def E41:FnE Tryz.prog:=⟨41,sg41,d41,sim41⟩
def d57(l:List Int):Option uf10:=
 (zae (β:=uf10) (fun((a,out,x):uf10×uf10×Int)=>
 bif (decide (x<7))then
 letJ (fun((c,e,f):uf10×uf10×Int)=>
 some (Sum.inl (c,e,(w (f+1))))) fun b=>
 (d46 a x).bind fun r=>
 bif r then
 bif (decide ((out.length:Int)+(([x]:List Int).length:Int)≤LIM))then
 b (a,(out++[x]),x)
 else none
 else
 b (a,out,x)
 else
 some (Sum.inr out)) (l,[],0)).bind fun(g:List Int)=>
 some g
def sg57:Sig:=⟨[(y26,.bw)],[(y26,(.own 3 .sh))]⟩
theorem sim57:Sim Tryz.prog 57 sg57 d57:=uqz Tryz.func57 (zaa rfl) Tryz.call57 (by kernel_rfl) (by kernel_rfl) [.fn E46] (uqs (.seq (.reg [] [{fl:=2}]) (.seq (uqs (.block (.loop [(0,uqb),(3,uqd),(4,uqa)] [(.brk 0,[(3,uqd)])] (.seq (uqs (.cond .nil .nil)) (.join (.block (uqs (.cond uqr .nil))) [(0,uqb),(3,uqd),(4,uqa)] uqr))))) (uqs .nil)))) fun xs=>by kernel_rfl
def E57:FnE Tryz.prog:=⟨57,sg57,d57,sim57⟩
def d25(state:Int)(announced:List Int)(hand:List Int):Option (uf10×Bool×Int):=
 bif (decide (state=1))then
 some ([],false,16)
 else
 letJ (fun((e,a,b,i):Int×uf10×uf10×Bool)=>
 bif i then
 some ([],false,5)
 else
 letJ (fun((j,k,l,m):Int×uf10×uf10×Bool)=>
 bif m then
 some ([],false,8)
 else
 (d57 k).bind fun f=>
 (d57 l).bind fun g=>
 bif (decide (j=2))then
 some (f,false,0)
 else
 (d26 f g).bind fun n=>
 some (g,!n,0)) fun h=>
 (d41 7 a).bind fun r=>
 bif !(!r)then
 (d41 7 b).bind fun o=>
 h (e,a,b,!o)
 else
 h (e,a,b,true)) fun c=>
 bif !(decide (state=2))then
 bif !(decide (state=3))then
 c (state,announced,hand,!(decide (state=4)))
 else
 c (state,announced,hand,false)
 else
 c (state,announced,hand,false)
def sg25:Sig:=⟨[(y2,.sh),(y26,.bw),(y26,.bw)],[(y26,.sh),(y4,.sh),(y2,.sh)]⟩
theorem sim25:Sim Tryz.prog 25 sg25 d25:=uqz Tryz.func25 (zaa rfl) Tryz.call25 (by kernel_rfl) (by kernel_rfl) [.fn E41,.fn E57,.fn E26] (.post (uqs (.seq (uqs (.cond (uqs .nil) .nil)) (.seq (.join uqr [(0,uqa),(1,uqb),(2,uqb),(22,uqc)] (.cond (uqs .nil) .nil)) (.seq (.join uqr [(0,uqa),(1,uqb),(2,uqb),(30,uqc)] (.cond (uqs .nil) .nil)) (uqs (.seq (uqs (.cond (uqs .nil) .nil)) (uqs .nil))))))) [(6,[])]) fun xs=>by kernel_rfl
def E25:FnE Tryz.prog:=⟨25,sg25,d25,sim25⟩
def d4(p0:Int)(p1:List Int)(p2:List Int)(p3:Bool):Option Bool:=
 letJ (fun((f,g,h,n,o):Int×uf10×uf10×Bool×Bool)=>
 bif o then
 (d15).bind fun r=>
 some r
 else
 letJ (fun((i,j,k):Int×uf10×uf10)=>
 (d24 i j k).bind fun b=>
 (d25 i j k).bind fun c=>
 (d15).bind fun p=>
 bif p then
 bif (decide (b.2.2=c.2.2))then
 bif (b.2.1 == c.2.1)then
 (d26 b.1 c.1).bind fun q=>
 some q
 else
 some false
 else
 some false
 else
 some false) fun e=>
 bif !n then
 (d16 f 6).bind fun l=>
 (d19 7 g).bind fun a=>
 (d19 7 h).bind fun s=>
 bif (decide ((w (Int.tmod (a.length:Int) 2))=0))then
 (d23 a).bind fun t=>
 e (l,a,t)
 else
 e (l,a,s)
 else
 e (f,g,h)) fun m=>
 bif !(decide (9<(p1.length:Int)))then
 m (p0,p1,p2,p3,(decide (9<(p2.length:Int))))
 else
 m (p0,p1,p2,p3,true)
def sg4:Sig:=⟨[(y2,.sh),(y26,.sh),(y26,.sh),(y4,.sh)],[(y4,.sh)]⟩
theorem sim4:Sim Tryz.prog 4 sg4 d4:=uqz Tryz.func4 (zaa rfl) Tryz.call4 (by kernel_rfl) (by kernel_rfl) [.fn E15,.fn E16,.fn E19,.fn E23,.fn E24,.fn E25,.fn E26] (uqs (.seq (.join uqr [(0,uqa),(1,uqf),(2,uqf),(3,uqc),(22,uqc)] (.cond (uqs .nil) .nil)) (.join (.post (uqs (.cond (uqs (uqs (uqs (.cond uqr .nil)))) .nil)) [(1,[]),(2,[])]) [(0,uqa),(1,uqf),(2,uqf)] (.seq (.reg [] [{},{},{},{},{fl:=1}]) (.seq (.reg [] [{},{},{},{},{fl:=1}]) (uqs .nil)))))) fun xs=>by kernel_rfl
def d60(n:Int)(l:List uf10)(most:Int):Option uf7:=
 (zae (β:=uf7) (fun((g,c,e,out,i):Int×uf7×Int×uf7×Int)=>
 letJ (fun((h,b,k,f,a,m):Int×uf7×Int×uf7×Int×Bool)=>
 bif m then
 bif (decide (0≤a)&&decide (a<(b.length:Int)))then
 bif (decide (0≤a)&&decide (a<(b.length:Int)))then
 bif (zck 0 (bif (decide (12<((List.getD b (Int.toNat a) []).length:Int)))then 12 else((List.getD b (Int.toNat a) []).length:Int)) (List.getD b (Int.toNat a) []).length)then
 (d19 h (List.drop 0 (List.take (Int.toNat (bif (decide (12<((List.getD b (Int.toNat a) []).length:Int)))then 12 else((List.getD b (Int.toNat a) []).length:Int))) (List.getD b (Int.toNat a) [])))).bind fun r=>
 bif (decide ((f.length:Int)+(([r]:List uf10).length:Int)≤LIM))then
 some (Sum.inl (h,b,k,(f++[r]),(w (a+1))))
 else none
 else none
 else none
 else none
 else
 some (Sum.inr f)) fun j=>
 bif (decide (i<(c.length:Int)))then
 j (g,c,e,out,i,(decide (i<e)))
 else
 j (g,c,e,out,i,false)) (n,l,most,[],0)).bind fun(o:List uf10)=>
 some o
def sg60:Sig:=⟨[(y2,.sh),(y48,.bw),(y2,.sh)],[(y48,(.own 26 .sh))]⟩
theorem sim60:Sim Tryz.prog 60 sg60 d60:=uqz Tryz.func60 (zaa rfl) Tryz.call60 (by kernel_rfl) (by kernel_rfl) [.fn E19] (uqs (.seq (.reg [] [{fl:=2}]) (.seq (uqs (.block (.loop [(0,uqa),(1,.v y48 .bw),(2,uqa),(7,.v y48 (.own 26 .sh)),(8,uqa)] [(.brk 0,[(7,.v y48 (.own 26 .sh))])] (.seq (.join uqr [(0,uqa),(1,.v y48 .bw),(2,uqa),(7,.v y48 (.own 26 .sh)),(8,uqa),(17,uqc)] (.cond .nil .nil)) (.seq (.block (.reg [] [{},{},{},{},{},{},{},{},{},{},{},{},{},{},{frz:=[(33,[])]}])) uqr))))) (uqs .nil)))) fun xs=>by kernel_rfl
def E60:FnE Tryz.prog:=⟨60,sg60,d60,sim60⟩
def d28(n:Int)(l:List uf10)(phantoms:List Bool)(most:Int):Option uf3:=
 (d60 n l most).bind fun r=>
 (zae (β:=uf3) (fun((c,out,b,i):uf9×uf3×uf7×Int)=>
 bif (decide (i<(b.length:Int)))then
 letJ (fun((k,m,o,p):uf9×uf3×uf7×Int)=>
 some (Sum.inl (k,m,o,(w (p+1))))) fun g=>
 letJ (fun((h,f,e,a,q):uf9×uf3×uf7×Int×Bool)=>
 bif q then
 bif (decide ((f.length:Int)+(([((0,0,0),true,[])]:List uf4).length:Int)≤LIM))then
 g (h,(f++[((0,0,0),true,[])]),e,a)
 else none
 else
 bif (decide (0≤a)&&decide (a<(e.length:Int)))then
 bif (decide ((f.length:Int)+(([((1,(w (1+(w (Int.tdiv a 16)))),(w (Int.tmod a 16))),false,(List.getD e (Int.toNat a) []))]:List uf4).length:Int)≤LIM))then
 g (h,(f++[((1,(w (1+(w (Int.tdiv a 16)))),(w (Int.tmod a 16))),false,(List.getD e (Int.toNat a) []))]),e,a)
 else none
 else none) fun j=>
 bif (decide (i<(c.length:Int)))then
 bif (decide (0≤i)&&decide (i<(c.length:Int)))then
 j (c,out,b,i,(List.getD c (Int.toNat i) false))
 else none
 else
 j (c,out,b,i,false)
 else
 some (Sum.inr out)) (phantoms,[],r,0)).bind fun(s:List uf4)=>
 some s
def sg28:Sig:=⟨[(y2,.sh),(y48,.bw),(y49,.bw),(y2,.sh)],[(y51,(.own 57 .sh))]⟩
theorem sim28:Sim Tryz.prog 28 sg28 d28:=uqz Tryz.func28 (zaa rfl) Tryz.call28 (by kernel_rfl) (by kernel_rfl) [.fn E60] (uqs (.seq (.reg [] [{fl:=2}]) (uqs (.seq (uqs (.block (.loop [(2,.v y49 .bw),(9,.v y51 (.own 57 .sh)),(10,.v y48 (.own 26 .sh)),(11,uqa)] [(.brk 0,[(9,.v y51 (.own 57 .sh))])] (.seq (uqs (.cond .nil .nil)) (.join (.block (.seq (.join uqr [(2,.v y49 .bw),(9,.v y51 (.own 57 .sh)),(10,.v y48 (.own 26 .sh)),(11,uqa),(31,uqc)] (.cond (uqs .nil) .nil)) uqr)) [(2,.v y49 .bw),(9,.v y51 (.own 57 .sh)),(10,.v y48 (.own 26 .sh)),(11,uqa)] uqr))))) (uqs .nil))))) fun xs=>by kernel_rfl
def E28:FnE Tryz.prog:=⟨28,sg28,d28,sim28⟩
def d59(l:List Int)(n:Int):Option uf10:=
 bif (zck 0 (bif (decide (n<(l.length:Int)))then n else(l.length:Int)) l.length)then
 some (List.drop 0 (List.take (Int.toNat (bif (decide (n<(l.length:Int)))then n else(l.length:Int))) l))
 else none
def sg59:Sig:=⟨[(y26,.sh),(y2,.sh)],[(y26,.sh)]⟩
theorem sim59:Sim Tryz.prog 59 sg59 d59:=uqz Tryz.func59 (zaa rfl) Tryz.call59 (by kernel_rfl) (by kernel_rfl) [] (uqs (uqs .nil)) fun xs=>by kernel_rfl
def E59:FnE Tryz.prog:=⟨59,sg59,d59,sim59⟩
def d27(n:Int)(items:List uf4)(changed:List uf10)(missing:List Bool):Option uf6:=
 (zae (β:=uf6) (fun((j,c,f,k,out,i):Int×uf3×uf7×uf9×uf6×Int)=>
 bif (decide (i<(c.length:Int)))then
 bif (decide (0≤i)&&decide (i<(c.length:Int)))then
 letJ (fun((l,m,o,g,q,e,s):Int×uf3×uf7×uf9×uf6×Int×uf8)=>
 letJ (fun((ak,al,am,an,t,ao,u):Int×uf3×uf7×uf9×uf6×Int×uf8)=>
 bif (decide ((t.length:Int)+(([u]:List uf8).length:Int)≤LIM))then
 some (Sum.inl (ak,al,am,an,(t++[u]),(w (ao+1))))
 else none) fun v=>
 letJ (fun((x,y,z,aa,ab,ac,ap,aq):Int×uf3×uf7×uf9×uf6×Int×uf8×Bool)=>
 bif aq then
 v (x,y,z,aa,ab,ac,(true,[]))
 else
 v (x,y,z,aa,ab,ac,ap)) fun ae=>
 bif (decide (e<(g.length:Int)))then
 bif (decide (0≤e)&&decide (e<(g.length:Int)))then
 ae (l,m,o,g,q,e,s,(List.getD g (Int.toNat e) false))
 else none
 else
 ae (l,m,o,g,q,e,s,false)) fun af=>
 letJ (fun((h,ag,b,ah,ai,a,p,ar):Int×uf3×uf7×uf9×uf6×Int×uf8×Bool)=>
 bif ar then
 bif (decide (0≤a)&&decide (a<(b.length:Int)))then
 bif (zck 1 ((List.getD b (Int.toNat a) []).length:Int) (List.getD b (Int.toNat a) []).length)then
 (d59 (List.drop 1 (List.take (Int.toNat ((List.getD b (Int.toNat a) []).length:Int)) (List.getD b (Int.toNat a) []))) 8).bind fun r=>
 (d19 h r).bind fun au=>
 af (h,ag,b,ah,ai,a,(p.1,au))
 else none
 else none
 else
 af (h,ag,b,ah,ai,a,p)) fun aj=>
 bif (decide (i<(f.length:Int)))then
 bif (decide (0≤i)&&decide (i<(f.length:Int)))then
 aj (j,c,f,k,out,i,(false,((List.getD c (Int.toNat i) ((0,0,0),false,[])).2).2),(decide (0<((List.getD f (Int.toNat i) []).length:Int))))
 else none
 else
 aj (j,c,f,k,out,i,(false,((List.getD c (Int.toNat i) ((0,0,0),false,[])).2).2),false)
 else none
 else
 some (Sum.inr out)) (n,items,changed,missing,[],0)).bind fun(av:List uf8)=>
 some av
def sg27:Sig:=⟨[(y2,.sh),(y51,.sh),(y48,.sh),(y49,.bw)],[(y25,(.own 33 .sh))]⟩
theorem sim27:Sim Tryz.prog 27 sg27 d27:=uqz Tryz.func27 (zaa rfl) Tryz.call27 (by kernel_rfl) (by kernel_rfl) [.fn E59,.fn E19] (uqs (.seq (.reg [] [{fl:=2}]) (.seq (uqs (.block (.loop [(0,uqa),(1,.v y51 .sh),(2,.v y48 .sh),(3,.v y49 .bw),(9,.v y25 (.own 33 .sh)),(10,uqa)] [(.brk 0,[(9,.v y25 (.own 33 .sh))])] (.seq (uqs (.cond .nil .nil)) (.seq (.block (uqs (.join (.post (.join uqr [(0,uqa),(1,.v y51 .sh),(2,.v y48 .sh),(3,.v y49 .bw),(9,.v y25 (.own 33 .sh)),(10,uqa),(11,.v (.ptr y33) (.own 0 (.pr .sh .sh))),(35,uqc)] (.cond uqr .nil)) [(11,[0,1])]) [(0,uqa),(1,.v y51 .sh),(2,.v y48 .sh),(3,.v y49 .bw),(9,.v y25 (.own 33 .sh)),(10,uqa),(11,.v (.ptr y33) (.own 0 (.pr .sh .sh)))] (.join (.join uqr [(0,uqa),(1,.v y51 .sh),(2,.v y48 .sh),(3,.v y49 .bw),(9,.v y25 (.own 33 .sh)),(10,uqa),(11,.v (.ptr y33) (.own 0 (.pr .sh .sh))),(54,uqc)] (.cond uqr .nil)) [(0,uqa),(1,.v y51 .sh),(2,.v y48 .sh),(3,.v y49 .bw),(9,.v y25 (.own 33 .sh)),(10,uqa),(11,.v (.ptr y33) (.own 0 (.pr .sh .sh)))] uqr)))) uqr))))) (uqs .nil)))) fun xs=>by kernel_rfl
def E27:FnE Tryz.prog:=⟨27,sg27,d27,sim27⟩
def d18(n:Int)(c:Int):Option uf10:=
 (zae (β:=uf10) (fun((a,b,out,i):Int×Int×uf10×Int)=>
 bif (decide (i<a))then
 (d16 b (w (i+1))).bind fun r=>
 bif (!decide ((w (i+1))=0))then
 bif (zck 0 r out.length)then
 bif (decide ((([]:List Int).length:Int)+((List.drop 0 (List.take (Int.toNat r) out)).length:Int)≤LIM))then
 bif (decide (((List.drop 0 (List.take (Int.toNat r) out)).length:Int)+(([i]:List Int).length:Int)≤LIM))then
 bif (zck r (out.length:Int) out.length)then
 bif (decide ((((List.drop 0 (List.take (Int.toNat r) out))++[i]).length:Int)+((List.drop (Int.toNat r) (List.take (Int.toNat (out.length:Int)) out)).length:Int)≤LIM))then
 some (Sum.inl (a,(w (Int.tdiv b (w (i+1)))),(((List.drop 0 (List.take (Int.toNat r) out))++[i])++(List.drop (Int.toNat r) (List.take (Int.toNat (out.length:Int)) out))),(w (i+1))))
 else none
 else none
 else none
 else none
 else none
 else none
 else
 some (Sum.inr out)) (n,c,[],0)).bind fun(e:List Int)=>
 some e
def sg18:Sig:=⟨[(y2,.sh),(y2,.sh)],[(y26,(.own 3 .sh))]⟩
theorem sim18:Sim Tryz.prog 18 sg18 d18:=uqz Tryz.func18 (zaa rfl) Tryz.call18 (by kernel_rfl) (by kernel_rfl) [.fn E16] (uqs (.seq (.reg [] [{fl:=2}]) (.seq (uqs (.block (.loop [(0,uqa),(1,uqa),(5,uqd),(6,uqa)] [(.brk 0,[(5,uqd)])] (.seq (uqs (.cond .nil .nil)) (.seq (.block (uqs (uqs (.reg [(5,[])] [])))) uqr))))) (uqs .nil)))) fun xs=>by kernel_rfl
def E18:FnE Tryz.prog:=⟨18,sg18,d18,sim18⟩
def d178(a:List uf5)(b:List uf5):Option Bool:=
 bif !(decide ((a.length:Int)=(b.length:Int)))then
  some false
 else
  (zae (β:=Unit⊕Bool) (fun((c,e,i):(List uf5)×(List uf5)×Int)=>
    bif (decide (i<(c.length:Int)))then
     bif (decide (0≤i)&&decide (i<(c.length:Int)))then
      bif (decide (0≤i)&&decide (i<(e.length:Int)))then
       (d179 (List.getD c (Int.toNat i) (false,[],[])) (List.getD e (Int.toNat i) (false,[],[]))).bind fun r=>
       bif !r then
        some (Sum.inr (Sum.inr false))
       else
        some (Sum.inl (c,e,(w (i+1))))
      else none
     else none
    else
     some (Sum.inr (Sum.inl ()))) (a,b,0)).bind fun
  |Sum.inl _=>
   some true
  |Sum.inr f=>
   some f
def sg178:Sig:=⟨[(y97,.bw),(y97,.bw)],[(y4,.sh)]⟩
theorem sim178:Sim Tryz.prog 178 sg178 d178:=uqz Tryz.func178 (zaa rfl) Tryz.call178 (by kernel_rfl) (by kernel_rfl) [.fn E179] (uqs (.seq (uqs (.cond (uqs .nil) .nil)) (.seq (uqs (.block (.loop [(0,.v y97 .bw),(1,.v y97 .bw),(5,uqa)] [(.brk 0,[]),(.ret,[(4,uqc)])] (.seq (uqs (.cond .nil .nil)) (.seq (.block (uqs (.cond (uqs .nil) .nil))) uqr))))) (uqs .nil)))) fun xs=>by kernel_rfl
def E178:FnE Tryz.prog:=⟨178,sg178,d178,sim178⟩
def d95(a:uf1)(b:uf1):Option Bool:=
 (d178 a.1 b.1).bind fun r=>
 bif r then
 (d178 a.2.1 b.2.1).bind fun c=>
 bif c then
 (d179 a.2.2.1 b.2.2.1).bind fun e=>
 bif e then
 (d179 a.2.2.2.1 b.2.2.2.1).bind fun f=>
 bif f then
 (d179 a.2.2.2.2.1 b.2.2.2.2.1).bind fun g=>
 bif g then
 (d26 a.2.2.2.2.2.1 b.2.2.2.2.2.1).bind fun h=>
 bif h then
 (d26 a.2.2.2.2.2.2.1 b.2.2.2.2.2.2.1).bind fun i=>
 bif i then
 (d26 a.2.2.2.2.2.2.2 b.2.2.2.2.2.2.2).bind fun j=>
 some j
 else
 some false
 else
 some false
 else
 some false
 else
 some false
 else
 some false
 else
 some false
 else
 some false
def sg95:Sig:=⟨[(y103,.bw),(y103,.bw)],[(y4,.sh)]⟩
theorem sim95:Sim Tryz.prog 95 sg95 d95:=uqz Tryz.func95 (zaa rfl) Tryz.call95 (by kernel_rfl) (by kernel_rfl) [.fn E178,.fn E179,.fn E26] (uqs (uqs .nil)) fun xs=>by kernel_rfl
def E95:FnE Tryz.prog:=⟨95,sg95,d95,sim95⟩
def d52(p0:uf0)(p1:uf0):Option Bool:=
 letJ (fun((f,g,h):uf0×uf0×Bool)=>
   bif h then
    some false
   else
    (zae (β:=Unit⊕Bool) (fun((c,e,a):uf0×uf0×Int)=>
      bif (decide (a<(c.2.2.2.2.1.length:Int)))then
       bif (decide (0≤a)&&decide (a<(c.2.2.2.2.1.length:Int)))then
        bif (decide (0≤a)&&decide (a<(e.2.2.2.2.1.length:Int)))then
         (d95 (List.getD c.2.2.2.2.1 (Int.toNat a) ([],[],(false,[],[]),(false,[],[]),(false,[],[]),[],[],[])) (List.getD e.2.2.2.2.1 (Int.toNat a) ([],[],(false,[],[]),(false,[],[]),(false,[],[]),[],[],[]))).bind fun i=>
         bif !i then
          some (Sum.inr (Sum.inr false))
         else
          some (Sum.inl (c,e,(w (a+1))))
        else none
       else none
      else
       some (Sum.inr (Sum.inl ()))) (f,g,0)).bind fun
    |Sum.inl _=>
     some true
    |Sum.inr j=>
     some j) fun b=>
 bif !(!(decide (p0.1=p1.1)))then
  bif !(!(decide (p0.2.1=p1.2.1)))then
   bif !(!(decide (p0.2.2.1=p1.2.2.1)))then
    bif !(!(decide (p0.2.2.2.1=p1.2.2.2.1)))then
     (d26 p0.2.2.2.2.2 p1.2.2.2.2.2).bind fun r=>
     bif !(!r)then
      b (p0,p1,!(decide ((p0.2.2.2.2.1.length:Int)=(p1.2.2.2.2.1.length:Int))))
     else
      b (p0,p1,true)
    else
     b (p0,p1,true)
   else
    b (p0,p1,true)
  else
   b (p0,p1,true)
 else
  b (p0,p1,true)
def sg52:Sig:=⟨[(y36,.bw),(y36,.bw)],[(y4,.sh)]⟩
theorem sim52:Sim Tryz.prog 52 sg52 d52:=uqz Tryz.func52 (zaa rfl) Tryz.call52 (by kernel_rfl) (by kernel_rfl) [.fn E26,.fn E95] (uqs (.seq (.join uqr [(2,.v (.ptr y36) (.own 0 .bw)),(3,.v (.ptr y36) (.own 0 .bw)),(48,uqc)] (.cond (uqs .nil) .nil)) (.seq (uqs (.block (.loop [(2,.v (.ptr y36) (.own 0 .bw)),(3,.v (.ptr y36) (.own 0 .bw)),(5,uqa)] [(.brk 0,[]),(.ret,[(4,uqc)])] (.seq (uqs (.cond .nil .nil)) (.seq (.block (uqs (.cond (uqs .nil) .nil))) uqr))))) (uqs .nil)))) fun xs=>by kernel_rfl
def E52:FnE Tryz.prog:=⟨52,sg52,d52,sim52⟩
def d22(a:uf0)(b:uf0):Option Bool:=
 (d52 a b).bind fun r=>
 some r
def sg22:Sig:=⟨[(y36,.bw),(y36,.bw)],[(y4,.sh)]⟩
theorem sim22:Sim Tryz.prog 22 sg22 d22:=uqz Tryz.func22 (zaa rfl) Tryz.call22 (by kernel_rfl) (by kernel_rfl) [.fn E52] (uqs (uqs .nil)) fun xs=>by kernel_rfl
def E22:FnE Tryz.prog:=⟨22,sg22,d22,sim22⟩
def d5(p0:Int)(p1:Int)(p2:Int)(p3:Int)(p4:Int)(p5:Int)(p6:Int)(p7:List uf10)(p8:List Bool):Option Bool:=
 (d16 p0 5).bind fun r=>
 (d16 p3 3).bind fun n=>
 (d17 p1 (w (1+r)) p2 n p4).bind fun o=>
 (d28 (w (1+r)) p7 [] 12).bind fun p=>
 (d27 (w (1+r)) p [] p8).bind fun g=>
 (d18 (g.length:Int) p6).bind fun q=>
 (zae (β:=(Int×Int×uf2×uf6×uf6)) (fun((h,i,j,c,b,e,a):Int×Int×uf2×uf6×uf10×uf6×Int)=>
 bif (decide (a<(b.length:Int)))then
 bif (decide (0≤a)&&decide (a<(b.length:Int)))then
 bif (decide (0≤(List.getD b (Int.toNat a) 0))&&decide ((List.getD b (Int.toNat a) 0)<(c.length:Int)))then
 bif (decide ((e.length:Int)+(([(List.getD c (Int.toNat (List.getD b (Int.toNat a) 0)) (false,[]))]:List uf8).length:Int)≤LIM))then
 some (Sum.inl (h,i,j,c,b,(e++[(List.getD c (Int.toNat (List.getD b (Int.toNat a) 0)) (false,[]))]),(w (a+1))))
 else none
 else none
 else none
 else
 some (Sum.inr (h,i,j,c,e))) ((w (1+r)),p5,o,g,q,[],0)).bind fun((s,t,k,u,v):Int×Int×uf2×uf6×uf6)=>
 (d18 s t).bind fun l=>
 (d20 k u l).bind fun f=>
 (d20 k v l).bind fun m=>
 (d15).bind fun x=>
 bif x then
 bif (decide (f.2=0))then
 bif (decide (m.2=0))then
 bif (decide (0<(f.1.2.2.2.2.1.length:Int)))then
 (d22 f.1 m.1).bind fun y=>
 some y
 else
 some false
 else
 some false
 else
 some false
 else
 some false
def sg5:Sig:=⟨[(y2,.sh),(y2,.sh),(y2,.sh),(y2,.sh),(y2,.sh),(y2,.sh),(y2,.sh),(y48,.bw),(y49,.bw)],[(y4,.sh)]⟩
theorem sim5:Sim Tryz.prog 5 sg5 d5:=uqz Tryz.func5 (zaa rfl) Tryz.call5 (by kernel_rfl) (by kernel_rfl) [.fn E16,.fn E17,.fn E28,.fn E27,.fn E18,.fn E20,.fn E15,.fn E22] (uqs (uqs (uqs (.seq (.reg [] [{},{},{},{},{},{frz:=[(42,[])]}]) (uqs (.seq (.reg [] [{fl:=2}]) (.seq (uqs (.block (.loop [(0,uqa),(5,uqa),(19,.v (.ptr y23) (.own 0 .sh)),(20,.v y25 (.own 33 .sh)),(21,uqd),(22,.v y25 (.own 33 .sh)),(23,uqa)] [(.brk 0,[(0,uqa),(5,uqa),(19,.v (.ptr y23) (.own 0 .sh)),(20,.v y25 (.own 33 .sh)),(22,.v y25 (.own 33 .sh))])] (.seq (uqs (.cond .nil .nil)) (.seq (.block uqr) uqr))))) (uqs (.seq (.reg [(20,[]),(24,[])] [{},{},{},{},{fl:=1}]) (.seq (.reg [(22,[])] [{},{},{},{},{fl:=1}]) (uqs .nil))))))))))) fun xs=>by kernel_rfl
def d14(l:List uf8):Option Bool:=
 (zae (β:=uf6⊕Bool) (fun((a,i):uf6×Int)=>
   bif (decide (i<(a.length:Int)))then
    bif (decide (0≤i)&&decide (i<(a.length:Int)))then
     bif (decide (9<(((List.getD a (Int.toNat i) (false,[])).2).length:Int)))then
      some (Sum.inr (Sum.inr false))
     else
      some (Sum.inl (a,(w (i+1))))
    else none
   else
    some (Sum.inr (Sum.inl a))) (l,0)).bind fun
 |Sum.inl b=>
  some (decide ((b.length:Int)≤30))
 |Sum.inr c=>
  some c
def sg14:Sig:=⟨[(y25,.bw)],[(y4,.sh)]⟩
theorem sim14:Sim Tryz.prog 14 sg14 d14:=uqz Tryz.func14 (zaa rfl) Tryz.call14 (by kernel_rfl) (by kernel_rfl) [] (uqs (.seq (uqs (.block (.loop [(0,uqe),(3,uqa)] [(.brk 0,[(0,uqe)]),(.ret,[(2,uqc)])] (.seq (uqs (.cond .nil .nil)) (.seq (.block (uqs (.cond (uqs .nil) .nil))) uqr))))) (uqs .nil))) fun xs=>by kernel_rfl
def E14:FnE Tryz.prog:=⟨14,sg14,d14,sim14⟩
def d29(items:List uf4)(papers:List uf8):Option (Int×Int×Int×Int):=
 letJ (fun((v,j,same,different,missing,x):uf3×uf6×Int×Int×Int×Bool)=>
 bif x then
 some (0,0,0,7)
 else
 (zae (β:=(Int×Int×Int)) (fun((c,e,f,g,b,h,a):uf3×Int×Int×Int×uf6×Int×Int)=>
 bif (decide (a<h))then
 letJ (fun((y,z,aa,ab,ac,ae,af):uf3×Int×Int×Int×uf6×Int×Int)=>
 some (Sum.inl (y,z,aa,ab,ac,ae,(w (af+1))))) fun i=>
 bif (decide (0≤a)&&decide (a<(b.length:Int)))then
 bif (List.getD b (Int.toNat a) (false,[])).1 then
 i (c,e,f,(w (g+1)),b,h,a)
 else
 letJ (fun((k,l,m,n,p,o,q,s,ag):uf3×Int×Int×Int×uf8×uf6×Int×Int×Bool)=>
 bif ag then
 i (k,l,(w (m+1)),n,o,q,s)
 else
 i (k,(w (l+1)),m,n,o,q,s)) fun t=>
 bif (decide (0≤a)&&decide (a<(c.length:Int)))then
 bif !(((List.getD c (Int.toNat a) ((0,0,0),false,[])).2).1)then
 bif (decide (0≤a)&&decide (a<(c.length:Int)))then
 (d56 (((List.getD c (Int.toNat a) ((0,0,0),false,[])).2).2) ((List.getD b (Int.toNat a) (false,[])).2)).bind fun r=>
 t (c,e,f,g,(List.getD b (Int.toNat a) (false,[])),b,h,a,!r)
 else none
 else
 t (c,e,f,g,(List.getD b (Int.toNat a) (false,[])),b,h,a,true)
 else none
 else none
 else
 some (Sum.inr (e,f,g))) (v,same,different,missing,j,(j.length:Int),0)).bind fun((ah,ai,aj):Int×Int×Int)=>
 some (ah,ai,aj,0)) fun u=>
 bif !(!(decide ((papers.length:Int)=(items.length:Int))))then
 u (items,papers,0,0,0,(decide (1024<(items.length:Int))))
 else
 u (items,papers,0,0,0,true)
def sg29:Sig:=⟨[(y51,.bw),(y25,.bw)],[(y2,.sh),(y2,.sh),(y2,.sh),(y2,.sh)]⟩
theorem sim29:Sim Tryz.prog 29 sg29 d29:=uqz Tryz.func29 (zaa rfl) Tryz.call29 (by kernel_rfl) (by kernel_rfl) [.fn E56] (uqs (.seq (.join uqr [(0,.v y51 .bw),(1,uqe),(4,uqa),(5,uqa),(6,uqa),(19,uqc)] (.cond (uqs .nil) .nil)) (.seq (uqs (.block (.loop [(0,.v y51 .bw),(4,uqa),(5,uqa),(6,uqa),(20,uqe),(21,uqa),(22,uqa)] [(.brk 0,[(4,uqa),(5,uqa),(6,uqa)])] (uqs (.seq (.cond .nil .nil) (.join (.block (uqs (.block (uqs (.cond uqr (.join uqr [(0,.v y51 .bw),(4,uqa),(5,uqa),(6,uqa),(9,.v (.ptr y33) (.own 0 .bw)),(20,uqe),(21,uqa),(22,uqa),(34,uqc)] (.cond uqr uqr))))))) [(0,.v y51 .bw),(4,uqa),(5,uqa),(6,uqa),(20,uqe),(21,uqa),(22,uqa)] uqr)))))) (uqs .nil)))) fun xs=>by kernel_rfl
def E29:FnE Tryz.prog:=⟨29,sg29,d29,sim29⟩
def d30(items:List uf4)(papers:List uf8):Option (Int×Int×Int×Int):=
 letJ (fun((n,o,p):uf3×uf6×Bool)=>
 bif p then
 some (0,0,0,7)
 else
 (zae (β:=(Int×Int×Int)) (fun((a,b,same,different,missing,i):uf3×uf6×Int×Int×Int×Int)=>
 bif (decide (i<(a.length:Int)))then
 letJ (fun((q,s,t,u,v,x):uf3×uf6×Int×Int×Int×Int)=>
 some (Sum.inl (q,s,t,u,v,(w (x+1))))) fun c=>
 bif (decide (0≤i)&&decide (i<(b.length:Int)))then
 bif (List.getD b (Int.toNat i) (false,[])).1 then
 c (a,b,same,different,(w (missing+1)),i)
 else
 letJ (fun((e,f,g,h,j,k,y):uf3×uf6×Int×Int×Int×Int×Bool)=>
 bif y then
 c (e,f,g,(w (h+1)),j,k)
 else
 c (e,f,(w (g+1)),h,j,k)) fun l=>
 bif (decide (0≤i)&&decide (i<(a.length:Int)))then
 bif !(((List.getD a (Int.toNat i) ((0,0,0),false,[])).2).1)then
 bif (decide (0≤i)&&decide (i<(a.length:Int)))then
 bif (decide (0≤i)&&decide (i<(b.length:Int)))then
 (d26 (((List.getD a (Int.toNat i) ((0,0,0),false,[])).2).2) ((List.getD b (Int.toNat i) (false,[])).2)).bind fun r=>
 l (a,b,same,different,missing,i,!r)
 else none
 else none
 else
 l (a,b,same,different,missing,i,true)
 else none
 else none
 else
 some (Sum.inr (same,different,missing))) (n,o,0,0,0,0)).bind fun((z,aa,ab):Int×Int×Int)=>
 some (z,aa,ab,0)) fun m=>
 bif !(!(decide ((items.length:Int)=(papers.length:Int))))then
 m (items,papers,(decide (1024<(items.length:Int))))
 else
 m (items,papers,true)
def sg30:Sig:=⟨[(y51,.bw),(y25,.bw)],[(y2,.sh),(y2,.sh),(y2,.sh),(y2,.sh)]⟩
theorem sim30:Sim Tryz.prog 30 sg30 d30:=uqz Tryz.func30 (zaa rfl) Tryz.call30 (by kernel_rfl) (by kernel_rfl) [.fn E26] (uqs (.seq (.join uqr [(0,.v y51 .bw),(1,uqe),(21,uqc)] (.cond (uqs .nil) .nil)) (uqs (.seq (uqs (.block (.loop [(0,.v y51 .bw),(1,uqe),(8,uqa),(9,uqa),(10,uqa),(11,uqa)] [(.brk 0,[(8,uqa),(9,uqa),(10,uqa)])] (.seq (uqs (.cond .nil .nil)) (.join (.block (.block (uqs (.cond uqr (.join uqr [(0,.v y51 .bw),(1,uqe),(8,uqa),(9,uqa),(10,uqa),(11,uqa),(38,uqc)] (.cond uqr uqr)))))) [(0,.v y51 .bw),(1,uqe),(8,uqa),(9,uqa),(10,uqa),(11,uqa)] uqr))))) (uqs .nil))))) fun xs=>by kernel_rfl
def E30:FnE Tryz.prog:=⟨30,sg30,d30,sim30⟩
def d6(p0:List uf4)(p1:List uf8)(p2:Bool)(p3:Int)(p4:List uf10)(p5:List uf10)(p6:List Bool)(p7:List Bool):Option Bool:=
 letJ (fun((t,u,v,x,y,z,aa,ab,ac):uf3×uf6×Bool×Int×uf7×uf7×uf9×uf9×Bool)=>
   bif ac then
    (d15).bind fun ae=>
    some ae
   else
    (zae (β:=(uf3×uf6×Bool×Int×uf7×uf7×uf9×uf9)⊕Bool) (fun((b,g,h,i,j,k,l,m,c):uf3×uf6×Bool×Int×uf7×uf7×uf9×uf9×Int)=>
      bif (decide (c<(b.length:Int)))then
       bif (decide (0≤c)&&decide (c<(b.length:Int)))then
        bif (decide (9<((((List.getD b (Int.toNat c) ((0,0,0),false,[])).2).2).length:Int)))then
         (d15).bind fun af=>
         some (Sum.inr (Sum.inr af))
        else
         some (Sum.inl (b,g,h,i,j,k,l,m,(w (c+1))))
       else none
      else
       some (Sum.inr (Sum.inl (b,g,h,i,j,k,l,m)))) (t,u,v,x,y,z,aa,ab,0)).bind fun
    |Sum.inl (ag,ah,ai,aj,ak,al,am,an)=>
     letJ (fun((f,n):uf3×uf6)=>
       (d29 f n).bind fun a=>
       (d30 f n).bind fun e=>
       (d15).bind fun ao=>
       bif ao then
        bif (decide (a.1=e.1))then
         bif (decide (a.2.1=e.2.1))then
          bif (decide (a.2.2.1=e.2.2.1))then
           bif (decide (a.2.2.2=e.2.2.2))then
            bif !(!(decide (a.2.2.2=0)))then
             some (decide ((w ((w (a.1+a.2.1))+a.2.2.1))=(f.length:Int)))
            else
             some true
           else
            some false
          else
           some false
         else
          some false
        else
         some false
       else
        some false) fun o=>
     bif !ai then
      (d16 aj 5).bind fun p=>
      (d28 (w (1+p)) ak am 20).bind fun q=>
      (d27 (w (1+p)) q al an).bind fun ap=>
      o (q,ap)
     else
      o (ag,ah)
    |Sum.inr aq=>
     some aq) fun s=>
 (d14 p1).bind fun r=>
 bif !(!r)then
  s (p0,p1,p2,p3,p4,p5,p6,p7,(decide (30<(p0.length:Int))))
 else
  s (p0,p1,p2,p3,p4,p5,p6,p7,true)
def sg6:Sig:=⟨[(y51,.sh),(y25,.sh),(y4,.sh),(y2,.sh),(y48,.sh),(y48,.sh),(y49,.sh),(y49,.sh)],[(y4,.sh)]⟩
theorem sim6:Sim Tryz.prog 6 sg6 d6:=uqz Tryz.func6 (zaa rfl) Tryz.call6 (by kernel_rfl) (by kernel_rfl) [.fn E14,.fn E15,.fn E16,.fn E28,.fn E27,.fn E29,.fn E30] (uqs (.seq (.join uqr [(0,.v y51 .sh),(1,.v y25 .sh),(2,uqc),(3,uqa),(4,.v y48 .sh),(5,.v y48 .sh),(6,.v y49 .sh),(7,.v y49 .sh),(33,uqc)] (.cond (uqs .nil) .nil)) (.seq (uqs (.block (.loop [(0,.v y51 .sh),(1,.v y25 .sh),(2,uqc),(3,uqa),(4,.v y48 .sh),(5,.v y48 .sh),(6,.v y49 .sh),(7,.v y49 .sh),(17,uqa)] [(.brk 0,[(0,.v y51 .sh),(1,.v y25 .sh),(2,uqc),(3,uqa),(4,.v y48 .sh),(5,.v y48 .sh),(6,.v y49 .sh),(7,.v y49 .sh)]),(.ret,[(16,uqc)])] (.seq (uqs (.cond .nil .nil)) (.seq (.block (uqs (.cond (uqs .nil) .nil))) uqr))))) (.join (.post (uqs (.cond (uqs (uqs (.reg [(0,[])] []))) .nil)) [(1,[])]) [(0,.v y51 .sh),(1,.v y25 .sh)] (.seq (.reg [] [{},{},{},{fl:=1}]) (.seq (.reg [] [{},{},{},{fl:=1}]) (uqs .nil))))))) fun xs=>by kernel_rfl
end
end Go.Proofs.YtamgmpngdmnadaaGreat
open Go Go.Proofs Go.X
namespace Go.Proofs.YtamgmpngdmnadaaGreat
theorem w_id{n:Int}(h0:-9223372036854775808≤n)(h1:n≤9223372036854775807):w n=n:=IntWalk.i64_in n ⟨h0,h1⟩
theorem wt_int{n:Int}(h:WT (.int .i64) n):-9223372036854775808≤n∧n≤9223372036854775807:=by
 have h':IntKind.i64.wrap n=n:=h
 rw[IntKind.wrap_i64]at h'
 omega
theorem wt_len{l:List Int}(h:WT (.slice (.int .i64)) l):l.length≤281474976710656:=h.1
theorem while_up{α β:Type}{f:α→Option (α⊕β)}(st:Nat→α){b:β}:∀(n:Nat),(∀i,i<n→f (st i)=some (.inl (st (i+1))))→f (st n)=some (.inr b)→zae f (st 0)=some b:=by
 intro n hs he
 have key:∀k,k≤n→zae f (st (n-k))=some b:=by
  intro k
  induction k with
  |zero=>intro _;exact zex he
  |succ k ih=>
   intro hk
   have h1:=hs (n-(k+1)) (by omega)
   rw[show n-(k+1)+1=n-k by omega]at h1
   exact zip h1 (ih (by omega))
 have:=key n (Nat.le_refl n)
 rwa[Nat.sub_self]at this
theorem zac{α β γ:Type}{f:α→Option (α⊕β)}{k:β→Option γ}{a0:α}{b:β}{r:Option γ}(st:Nat→α)(n:Nat)(h0:st 0=a0)(hs:∀i,i<n→f (st i)=some (.inl (st (i+1))))(he:f (st n)=some (.inr b))(hk:k b=r):(zae f a0).bind k=r:=by
 rw[←h0,while_up st n hs he]
 exact hk
def zai(p:Int→Bool):List Int→Nat
 | []=>0
 |x::l=>if p x then 0 else zai p l+1
theorem zgi(p:Int→Bool):∀l,zai p l≤l.length
 | []=>Nat.le_refl 0
 |x::l=>by
  unfold zai
  split
  ·exact xbf _
  ·have:=zgi p l;simp;omega
theorem zdo(p:Int→Bool):∀l (i:Nat),i<zai p l→p (l.getD i 0)=false
 | [],i,h=>by simp[zai]at h
 |x::l,i,h=>by
  unfold zai at h
  split at h
  ·omega
  ·rename_i hx
   cases i with
   |zero=>simpa using hx
   |succ i=>
    have:=zdo p l i (by omega)
    simpa using this
theorem zfa(p:Int→Bool):∀l,zai p l<l.length→p (l.getD (zai p l) 0)=true
 | [],h=>by simp at h
 |x::l,h=>by
  unfold zai at h ⊢
  split at h
  ·rename_i hx;rw[if_pos hx];simpa using hx
  ·rename_i hx
   rw[if_neg hx]
   have:=zfa p l (by simp at h;omega)
   simpa using this
theorem zhh(p:Int→Bool):∀l,zai p l<l.length↔∃x∈l,p x=true
 | []=>by simp[zai]
 |x::l=>by
  unfold zai
  by_cases hx:p x=true
  ·rw[if_pos hx];simp[hx]
  ·rw[if_neg hx]
   have:=zhh p l
   simp[hx]at this ⊢
   exact this
theorem zjh{x n:Int}(hx:WT (.int .i64) x)(hn:0<n)(hn':n≤4611686018427387904):d16 x n=some (x%n):=by
 have hx':=wt_int hx
 unfold d16
 have h0:n≠0:=by omega
 have h1:-n<Int.tmod x n:=Int.lt_tmod_of_pos x hn
 have h2:Int.tmod x n<n:=Int.tmod_lt_of_pos x hn
 have h3:w (Int.tmod x n)=Int.tmod x n:=w_id (by omega) (by omega)
 have h4:w (Int.tmod x n+n)=Int.tmod x n+n:=w_id (by omega) (by omega)
 have h5:Int.tmod (Int.tmod x n+n) n=x%n:=by
  have h6:0≤Int.tmod x n+n:=by omega
  rw[Int.tmod_eq_emod_of_nonneg h6,Int.add_emod_right]
  rw[Int.tmod_eq_emod]
  split
  ·simp
  ·have:((n.natAbs:Int))=n:=Int.natAbs_of_nonneg (by omega)
   rw[this,Int.sub_emod_right]
   exact Int.emod_emod_of_dvd x (Int.dvd_refl n)
 have h7:w (x%n)=x%n:=w_id (by have:=Int.emod_nonneg x h0;omega) (by have:=xio x hn;omega)
 simp[h0,h3,h4,h5,h7]
theorem zez(x:Int){n:Int}(hn:0<n):0≤x%n∧x%n<n:=⟨Int.emod_nonneg x (by omega),xio x hn⟩
theorem zpj{s:List Int}(v:Int)(hs:s.length≤281474976710656):d180 s v=some (if zai (fun x=>decide (v=x)) s<s.length then(zai (fun x=>decide (v=x)) s:Int)else -1):=by
 unfold d180
 have hle:=zgi (fun x=>decide (v=x)) s
 have hstep:∀i,i<zai (fun x=>decide (v=x)) s→w ((i:Int)+1)=((i+1:Nat):Int):=fun i hi=>by rw[w_id (by omega) (by omega)];omega
 by_cases h:zai (fun x=>decide (v=x)) s<s.length
 ·have hat:=zfa _ s h
  refine zac (b:=.inr (zai (fun x=>decide (v=x)) s:Int)) (fun i=>(s,v,(s.length:Int),(i:Int))) (zai (fun x=>decide (v=x)) s) rfl ?_ ?_ (by simp[h])
  ·intro i hi
   have h1:=zdo _ s i hi
   have h2:(i:Int)<(s.length:Int):=by omega
   have h3:(0:Int)≤(i:Int):=by omega
   simp only[xaw,xab]at h1
   simp[h2,h3,h1,hstep i hi]
  ·have h2:(zai (fun x=>decide (v=x)) s:Int)<(s.length:Int):=by omega
   have h3:(0:Int)≤(zai (fun x=>decide (v=x)) s:Int):=by omega
   simp only[xag,xab]at hat
   simp[h2,h3,←hat]
 ·refine zac (b:=.inl ()) (fun i=>(s,v,(s.length:Int),(i:Int))) s.length rfl ?_ ?_ (by simp[h])
  ·intro i hi
   have h1:=zdo (fun x=>decide (v=x)) s i (by omega)
   have h2:(i:Int)<(s.length:Int):=by omega
   have h3:(0:Int)≤(i:Int):=by omega
   simp only[xaw,xab]at h1
   simp[h2,h3,h1,hstep i (by omega)]
  ·simp
theorem d46_eq{l:List Int}(x:Int)(hs:l.length≤281474976710656):d46 l x=some (decide (x∈l)):=by
 unfold d46
 have hle:=zgi (fun y=>decide (y=x)) l
 have hm:=zhh (fun y=>decide (y=x)) l
 have hstep:∀i,i<zai (fun y=>decide (y=x)) l→w ((i:Int)+1)=((i+1:Nat):Int):=fun i hi=>by rw[w_id (by omega) (by omega)];omega
 by_cases h:zai (fun y=>decide (y=x)) l<l.length
 ·have hat:=zfa _ l h
  have hx:x∈l:=by obtain⟨z,h1,h2⟩:=hm.1 h;have:=of_decide_eq_true h2;rw[←this];exact h1
  refine zac (b:=.inr true) (fun i=>(l,x,(i:Int))) (zai (fun y=>decide (y=x)) l) rfl ?_ ?_ (by simp[hx])
  ·intro i hi
   have h1:=zdo _ l i hi
   have h2:(i:Int)<(l.length:Int):=by omega
   have h3:(0:Int)≤(i:Int):=by omega
   simp only[xaw,xab]at h1
   simp[h2,h3,h1,hstep i hi]
  ·have h2:(zai (fun y=>decide (y=x)) l:Int)<(l.length:Int):=by omega
   have h3:(0:Int)≤(zai (fun y=>decide (y=x)) l:Int):=by omega
   simp only[xag,xab]at hat
   simp[h2,h3,hat]
 ·have hx:x∉l:=fun hv=>h (hm.2 ⟨x,hv,by simp⟩)
  refine zac (b:=.inl ()) (fun i=>(l,x,(i:Int))) l.length rfl ?_ ?_ (by simp[hx])
  ·intro i hi
   have h1:=zdo (fun y=>decide (y=x)) l i (by omega)
   have h2:(i:Int)<(l.length:Int):=by omega
   have h3:(0:Int)≤(i:Int):=by omega
   simp only[xaw,xab]at h1
   simp[h2,h3,h1,hstep i (by omega)]
  ·simp
end Go.Proofs.YtamgmpngdmnadaaGreat
open Go Go.Proofs Go.X
namespace Go.Proofs.YtamgmpngdmnadaaGreat
def zcz(p:Nat→Bool):Nat→Nat
 | 0=>0
 |n+1=>if zcz p n<n then zcz p n else if p n then n else n+1
theorem zfo(p:Nat→Bool):∀n,zcz p n≤n
 | 0=>Nat.le_refl 0
 |n+1=>by
  unfold zcz
  have:=zfo p n
  split
  ·omega
  ·split<;>omega
theorem zdb(p:Nat→Bool):∀n i,i<zcz p n→p i=false
 | 0,i,h=>by simp[zcz]at h
 |n+1,i,h=>by
  unfold zcz at h
  have hle:=zfo p n
  split at h
  ·exact zdb p n i h
  ·split at h
   ·rename_i h1 h2
    exact zdb p n i (by omega)
   ·rename_i h1 h2
    rcases xdb i n with h3|h3
    ·exact zdb p n i (by omega)
    ·have:i=n:=by omega
     subst this
     simpa using h2
theorem zfp(p:Nat→Bool):∀n,zcz p n<n→p (zcz p n)=true
 | 0,h=>by simp at h
 |n+1,h=>by
  unfold zcz at h ⊢
  have hle:=zfo p n
  split
  ·rename_i h1;exact zfp p n h1
  ·rename_i h1
   rw[if_neg h1]at h
   split
   ·rename_i h2;exact h2
   ·rename_i h2;rw[if_neg h2]at h;omega
theorem zqt(p:Nat→Bool)(n:Nat):¬zcz p n<n↔∀i,i<n→p i=false:=by
 constructor
 ·intro h i hi
  have:=zfo p n
  exact zdb p n i (by omega)
 ·intro h hlt
  have:=zfp p n hlt
  rw[h _ hlt]at this
  cases this
end Go.Proofs.YtamgmpngdmnadaaGreat
open Go Go.Proofs Go.X
namespace Go.Proofs.YtamgmpngdmnadaaGreat
def zmh(l:List Int):Nat→List Bool
 | 0=>[false,false,false,false,false,false,false]
 |i+1=>(zmh l i).set (Int.toNat (l.getD i 0)) true
end Go.Proofs.YtamgmpngdmnadaaGreat
open Go Go.Proofs Go.X
namespace Go.Proofs.YtamgmpngdmnadaaGreat
def outs(n:Int)(l:List Int):Nat→List Int
 | 0=>[]
 |i+1=>if l.getD i 0%n∈outs n l i then outs n l i else outs n l i++[l.getD i 0%n]
def bal(n:Int)(l:List Int):List Int:=outs n l (zcz (fun i=>decide (n≤((outs n l i).length:Int))) l.length)
theorem outs_len(n:Int)(l:List Int):∀i,(outs n l i).length≤i
 | 0=>Nat.le_refl 0
 |i+1=>by
  have:=outs_len n l i
  unfold outs
  split
  ·omega
  ·simp;omega
theorem outs_in{n:Int}(hn:0<n)(l:List Int):∀i,∀x∈outs n l i,0≤x∧x<n
 | 0,x,hx=>by simp[outs]at hx
 |i+1,x,hx=>by
  unfold outs at hx
  split at hx
  ·exact outs_in hn l i x hx
  ·rcases List.mem_append.1 hx with hx|hx
   ·exact outs_in hn l i x hx
   ·simp at hx
    rw[hx]
    exact zez _ hn
theorem zlk(n:Int)(l:List Int):∀i,(outs n l i).Nodup
 | 0=>xih
 |i+1=>by
  unfold outs
  split
  ·exact zlk n l i
  ·rename_i h
   refine xew.2 ⟨zlk n l i,by simp,fun x hx y hy=>?_⟩
   simp at hy
   rintro rfl
   exact h (by rw[xab,←hy];exact hx)
theorem d19_eq{n:Int}{l:List Int}(hn:0<n)(hn':n≤1000)(hl:WT (.slice (.int .i64)) l):d19 n l=some (bal n l):=by
 unfold d19 bal
 have hlen:=wt_len hl
 have hle:=zfo (fun i=>decide (n≤((outs n l i).length:Int))) l.length
 have hstep:∀i:Nat,i<l.length→w ((i:Int)+1)=((i+1:Nat):Int):=fun i hi=>by rw[w_id (by omega) (by omega)];omega
 refine zac (b:=outs n l (zcz (fun i=>decide (n≤((outs n l i).length:Int))) l.length)) (fun i=>(n,l,outs n l i,(i:Int))) (zcz (fun i=>decide (n≤((outs n l i).length:Int))) l.length) rfl (fun i hi=>?_) ?_ rfl
 ·have h1:=zdb _ _ i hi
  simp only[xaw]at h1
  have h1':((outs n l i).length:Int)<n:=by omega
  have h2:(i:Int)<(l.length:Int):=by omega
  have h3:(0:Int)≤(i:Int):=by omega
  have hx:WT (.int .i64) (l.getD i 0):=by
   rw[xab,xae (by omega)]
   exact hl.2 _ (xbe _)
  have hlim:((outs n l i).length:Int)+(([l.getD i 0%n]:List Int).length:Int)≤LIM:=by rw[zfx];simp;omega
  have ho:=outs_len n l i
  simp only[h2,h3,h1',xaq,cond_true,xad,letJ,Int.toNat_natCast,zjh hx hn (by omega),Option.bind_some,d46_eq (l:=outs n l i) _ (by omega),hstep i (by omega),hlim]
  have e:outs n l (i+1)=if l.getD i 0%n∈outs n l i then outs n l i else outs n l i++[l.getD i 0%n]:=rfl
  by_cases c:l.getD i 0%n∈outs n l i
  ·rw[if_pos c]at e
   simp only[c,e];rfl
  ·rw[if_neg c]at e
   simp only[c,e];rfl
 ·by_cases h:zcz (fun i=>decide (n≤((outs n l i).length:Int))) l.length<l.length
  ·have h1:=zfp _ _ h
   simp only[xag]at h1
   have h1':¬((outs n l (zcz (fun i=>decide (n≤((outs n l i).length:Int))) l.length)).length:Int)<n:=by omega
   have h2:((zcz (fun i=>decide (n≤((outs n l i).length:Int))) l.length:Nat):Int)<(l.length:Int):=by omega
   simp only[h2,h1',letJ,xaq,xbt,cond_true,xac]
  ·have h2:¬((zcz (fun i=>decide (n≤((outs n l i).length:Int))) l.length:Nat):Int)<(l.length:Int):=by omega
   simp only[h2,letJ,xbt,xac]
end Go.Proofs.YtamgmpngdmnadaaGreat
open Go Go.Proofs Go.X
namespace Go.Proofs.YtamgmpngdmnadaaGreat
theorem zdy{α β γ:Type}{f:α→Option (α⊕β)}{k:β→Option γ}{a0:α}{r:Option γ}(st:Nat→α)(p:Nat→Bool)(n:Nat)(bx:Nat→β)(e:β)(h0:st 0=a0)
  (hs:∀i,i<n→f (st i)=if p i then some (.inr (bx i))else some (.inl (st (i+1)))) (he:f (st n)=some (.inr e))
  (h1:∀i,i<n→p i=true→(∀j,j<i→p j=false)→k (bx i)=r) (h2:(∀i,i<n→p i=false)→k e=r):(zae f a0).bind k=r:=by
 have hle:=zfo p n
 by_cases h:zcz p n<n
 ·refine zac (b:=bx (zcz p n)) st (zcz p n) h0 (fun i hi=>?_) ?_ (h1 _ h (zfp p n h) (zdb p n))
  ·have:=hs i (by omega)
   rw[zdb p n i hi]at this
   exact this
  ·have:=hs _ h
   rw[zfp p n h]at this
   exact this
 ·have hall:=(zqt p n).1 h
  refine zac (b:=e) st n h0 (fun i hi=>?_) he (h2 hall)
  have:=hs i hi
  rw[hall i hi]at this
  exact this
theorem zbk{α:Type}(l:List α)(d:α){i:Nat}(h:i<l.length):l.getD i d=l[i]:=by
 rw[xab,xae h,Option.getD_some]
def isB(n:Int)(l:List Int):Prop:=l.Nodup∧∀x∈l,0≤x∧x<n
instance(n:Int)(l:List Int):Decidable (isB n l):=inferInstanceAs (Decidable (_∧_))
theorem zls(n:Int)(l:List Int):isB n l↔∀i,i<l.length→0≤l.getD i 0∧l.getD i 0<n∧l.getD i 0∉l.take i:=by
 constructor
 ·rintro⟨h1,h2⟩ i hi
  rw[zbk l 0 hi]
  refine⟨(h2 _ (xbe hi)).1,(h2 _ (xbe hi)).2,fun hm=>?_⟩
  obtain⟨j,hj,e⟩:=xhi.1 hm
  exact xeo.1 h1 j i (by omega) hi (by omega) e
 ·intro h
  refine⟨xeo.2 fun i j hi hj hij e=>?_,fun x hx=>?_⟩
  ·have:=(h j hj).2.2
   rw[zbk l 0 hj,←e]at this
   exact this (xhi.2 ⟨i,by omega,rfl⟩)
  ·obtain⟨i,hi,rfl⟩:=xci hx
   have:=h i hi
   rw[zbk l 0 hi]at this
   exact⟨this.1,this.2.1⟩
theorem zqm(l:List Int):∀i,(zmh l i).length=7
 | 0=>rfl
 |i+1=>by unfold zmh;rw[List.length_set];exact zqm l i
theorem zod(l:List Int):∀i,i≤l.length→(∀j,j<i→0≤l.getD j 0∧l.getD j 0<7)→∀c:Nat,c<7→(zmh l i).getD c false=decide ((c:Int)∈l.take i)
 | 0,_,_,c,hc=>by
  have:c=0∨c=1∨c=2∨c=3∨c=4∨c=5∨c=6:=by omega
  rcases this with h|h|h|h|h|h|h<;>subst h<;>rfl
 |i+1,hi,hb,c,hc=>by
  have ih:=zod l i (by omega) (fun j hj=>hb j (by omega)) c hc
  have hl:=zqm l i
  have hx:=hb i (by omega)
  unfold zmh
  rw[xgd,xik]at ih
  rw[xgd,xik,xab,List.getElem?_set,hl,xfm,List.mem_append,←ih,xae (by omega:i<l.length)]
  rw[zbk l 0 (by omega:i<l.length)]at hx ⊢
  generalize l[i]=x at hx
  by_cases e:x.toNat=c
  ·have e':(c:Int)=x:=by omega
   rw[if_pos e,if_pos (by omega)]
   simp[e']
  ·have e':¬(c:Int)=x:=by omega
   rw[if_neg e]
   simp[e',xab]
theorem zgj{i n:Nat}(h:i≤n):zck 0 (i:Int) n=true:=by
 unfold zck
 simp only[xaf,xag]
 omega
theorem d41_eq(n:Int){l:List Int}(hl:l.length≤281474976710656):d41 n l=some (decide (isB n l)):=by
 unfold d41
 have hstep:∀i:Nat,i<l.length→w ((i:Int)+1)=((i+1:Nat):Int):=fun i hi=>by rw[w_id (by omega) (by omega)];omega
 refine zdy (fun i=>(n,l,(i:Int))) (fun i=>decide (l.getD i 0<0)||(decide (n≤l.getD i 0)||decide (l.getD i 0∈l.take i))) l.length (fun _=>.inr false) (.inl ()) rfl (fun i hi=>?_) ?_ (fun i hi hp hj=>?_) (fun hall=>?_)
 ·have h2:(i:Int)<(l.length:Int):=by omega
  have h3:(0:Int)≤(i:Int):=by omega
  simp only[h2,h3,letJ,xaq,cond_true,xad,Int.toNat_natCast,hstep i hi,zgj (xfz hi),xfc,d46_eq (l:=l.take i) _ (by simp;omega),Option.bind_some]
  by_cases c1:l.getD i 0<0
  ·simp only[c1];rfl
  ·by_cases c2:n≤l.getD i 0
   ·simp only[c1,c2];rfl
   ·by_cases c3:l.getD i 0∈l.take i
    ·simp only[c1,c2,c3];rfl
    ·simp only[c1,c2,c3];rfl
 ·simp
 ·have:¬isB n l:=fun h=>by
   have:=(zls n l).1 h i hi
   simp only[xcy,xag]at hp
   rcases hp with hp|hp|hp
   ·omega
   ·omega
   ·exact this.2.2 hp
  simp[this]
 ·have:isB n l:=(zls n l).2 fun i hi=>by
   have:=hall i hi
   simp only[xbw,xaw]at this
   exact⟨by omega,by omega,this.2.2⟩
  simp[this]
end Go.Proofs.YtamgmpngdmnadaaGreat
open Go Go.Proofs Go.X
namespace Go.Proofs.YtamgmpngdmnadaaGreat
abbrev Itm:=(Int×(Int×Int))×(Bool×List Int)
end Go.Proofs.YtamgmpngdmnadaaGreat
open Go Go.Proofs Go.X
namespace Go.Proofs.YtamgmpngdmnadaaGreat
theorem zhu{α β γ:Type}{f:α→Option (α⊕β)}{k:β→Option γ}{a0:α}{r:Option γ}(st:Nat→α)(p:Nat→Bool)(n:Nat)(bx:Nat→β)(e:β)(h0:st 0=a0)
  (hs:∀i,i<n→(∀j,j<i→p j=false)→f (st i)=if p i then some (.inr (bx i))else some (.inl (st (i+1)))) (he:(∀j,j<n→p j=false)→f (st n)=some (.inr e))
  (h1:∀i,i<n→p i=true→(∀j,j<i→p j=false)→k (bx i)=r) (h2:(∀i,i<n→p i=false)→k e=r):(zae f a0).bind k=r:=by
 have hle:=zfo p n
 by_cases h:zcz p n<n
 ·refine zac (b:=bx (zcz p n)) st (zcz p n) h0 (fun i hi=>?_) ?_ (h1 _ h (zfp p n h) (zdb p n))
  ·have:=hs i (by omega) (fun j hj=>zdb p n j (by omega))
   rw[zdb p n i hi]at this
   exact this
  ·have:=hs _ h (zdb p n)
   rw[zfp p n h]at this
   exact this
 ·have hall:=(zqt p n).1 h
  refine zac (b:=e) st n h0 (fun i hi=>?_) (he hall) (h2 hall)
  have:=hs i hi (fun j hj=>hall j (by omega))
  rw[hall i hi]at this
  exact this
theorem lt_at:∀(i:Nat) (a b:List Int),i<a.length→i<b.length→(∀j,j<i→a.getD j 0=b.getD j 0)→a.getD i 0≠b.getD i 0→(a<b↔a.getD i 0<b.getD i 0)
 |_,[],_,h,_,_,_=>by simp at h
 |_,_::_,[],_,h,_,_=>by simp at h
 | 0,x::a,y::b,_,_,_,hne=>by
  rw[xem]
  simp only[xef]at hne ⊢
  constructor
  ·rintro(h|⟨h,_⟩)
   ·exact h
   ·exact absurd h hne
  ·exact .inl
 |i+1,x::a,y::b,h1,h2,h3,hne=>by
  rw[xem]
  have h0:=h3 0 (by omega)
  simp only[xef]at h0
  subst h0
  simp only[xgx]at hne ⊢
  have:=lt_at i a b (by simp at h1;omega) (by simp at h2;omega) (fun j hj=>by have:=h3 (j+1) (by omega);simpa using this) hne
  constructor
  ·rintro(h|⟨_,h⟩)
   ·omega
   ·exact this.1 h
  ·exact fun h=>.inr ⟨by first | rfl | trivial,this.2 h⟩
theorem lt_end:∀(a b:List Int),(∀j,j<a.length→j<b.length→a.getD j 0=b.getD j 0)→(a<b↔a.length<b.length)
 | [],[],_=>by simp
 | [],y::b,_=>by simp
 |x::a,[],_=>by simp
 |x::a,y::b,h=>by
  have h0:=h 0 (by simp) (by simp)
  simp only[xef]at h0
  subst h0
  have:=lt_end a b fun j h1 h2=>by have:=h (j+1) (by simp;omega) (by simp;omega);simpa using this
  rw[xem]
  simp only[xat,Nat.add_lt_add_iff_right]
  rw[←this]
  constructor
  ·rintro(h|⟨_,h⟩)
   ·omega
   ·exact h
  ·exact fun h=>.inr ⟨by first | rfl | trivial,h⟩
theorem zlp:∀(a b:List Int),a<b∨a=b∨b<a
 | [],[]=>.inr (.inl rfl)
 | [],y::b=>.inl (by simp)
 |x::a,[]=>.inr (.inr (by simp))
 |x::a,y::b=>by
  simp only[xem]
  rcases Int.lt_trichotomy x y with h|h|h
  ·exact .inl (.inl h)
  ·subst h
   rcases zlp a b with h|h|h
   ·exact .inl (.inr ⟨rfl,h⟩)
   ·subst h;exact .inr (.inl rfl)
   ·exact .inr (.inr (.inr ⟨rfl,h⟩))
  ·exact .inr (.inr (.inl h))
theorem zbu:∀(a:List Int),¬a<a
 | []=>by simp
 |x::a=>by
  rw[xem]
  rintro(h|⟨_,h⟩)
  ·omega
  ·exact zbu a h
theorem zfk:∀{a b c:List Int},a<b→b<c→a<c
 | [],_,[],_,h=>by simp at h
 | [],_,z::c,_,_=>by simp
 |x::a,[],_,h,_=>by simp at h
 |x::a,y::b,[],_,h=>by simp at h
 |x::a,y::b,z::c,h1,h2=>by
  rw[xem]at *
  rcases h1 with h1|⟨h1,h3⟩
  ·rcases h2 with h2|⟨h2,_⟩
   ·exact .inl (by omega)
   ·exact .inl (by omega)
  ·rcases h2 with h2|⟨h2,h4⟩
   ·exact .inl (by omega)
   ·exact .inr ⟨by omega,zfk h3 h4⟩
theorem zoq{a b:List Int}(h:a<b):¬b<a:=fun h'=>zbu a (zfk h h')
theorem d58_eq{a b:List Int}(ha:a.length≤281474976710656)(hb:b.length≤281474976710656):d58 a b=some (decide (a<b)):=by
 unfold d58
 refine zdy (fun i=>(a,b,(i:Int))) (fun i=>!decide (a.getD i 0=b.getD i 0)) (min a.length b.length) (fun i=>.inr (decide (a.getD i 0<b.getD i 0))) (.inl (a,b)) rfl (fun i hi=>?_) ?_ (fun i hi hp hj=>?_) (fun hall=>?_)
 ·have h1:(i:Int)<(a.length:Int):=by omega
  have h2:(i:Int)<(b.length:Int):=by omega
  have h3:(0:Int)≤(i:Int):=by omega
  have hw:w ((i:Int)+1)=((i+1:Nat):Int):=by rw[w_id (by omega) (by omega)];omega
  simp only[h1,h2,h3,hw,letJ,xaq,cond_true,xad,Int.toNat_natCast]
  by_cases c:a.getD i 0=b.getD i 0
  ·simp only[c];rfl
  ·simp only[c];rfl
 ·simp only[letJ]
  by_cases c:a.length≤b.length
  ·have h1:¬((min a.length b.length:Nat):Int)<(a.length:Int):=by omega
   simp only[h1,xbt,xac]
  ·have h1:((min a.length b.length:Nat):Int)<(a.length:Int):=by omega
   have h2:¬((min a.length b.length:Nat):Int)<(b.length:Int):=by omega
   simp only[h1,h2,xaq,xbt,cond_true,xac]
 ·have hne:a.getD i 0≠b.getD i 0:=by simpa using hp
  have:=lt_at i a b (by omega) (by omega) (fun j hj'=>by have:=hj j hj';simpa using this) hne
  simp[this]
 ·have:=lt_end a b fun j h1 h2=>by have:=hall j (by omega);simpa using this
  have e:((a.length:Int)<(b.length:Int))↔a<b:=by rw[this];omega
  simp[e]
theorem zmp{a b:List Int}(ha:a.length≤281474976710656)(hb:b.length≤281474976710656):d26 a b=some (decide (a=b)):=by
 unfold d26
 rw[d58_eq ha hb,d58_eq hb ha]
 simp only[Option.bind_some]
 rcases zlp a b with h|h|h
 ·have:a≠b:=fun e=>zbu a (by rw[←e]at h;exact h)
  simp[h,this]
 ·subst h
  simp[zbu a]
 ·have:a≠b:=fun e=>zbu a (by rw[←e]at h;exact h)
  have h':=zoq h
  simp[h,h',this]
theorem d207_eq(x y:Int):d207 x y=some (if x<y then -1 else if y<x then 1 else 0):=by
 unfold d207 d261
 by_cases h:x<y
 ·simp[h]
 ·by_cases h':y<x
  ·simp[h,h']
  ·simp[h,h']
def cmpL(a b:List Int):Int:=if a<b then -1 else if b<a then 1 else 0
theorem d145_eq{a b:List Int}(ha:a.length≤281474976710656)(hb:b.length≤281474976710656):d145 a b=some (cmpL a b):=by
 unfold d145 cmpL
 refine zdy (fun i=>(a,b,a,(a.length:Int),(i:Int))) (fun i=>decide (b.length≤i)|| !decide (a.getD i 0=b.getD i 0)) a.length (fun i=>.inr (if b.length≤i then 1 else if a.getD i 0<b.getD i 0 then -1 else 1)) (.inl (a,b)) rfl (fun i hi=>?_) ?_ (fun i hi hp hj=>?_) (fun hall=>?_)
 ·have h1:(i:Int)<(a.length:Int):=by omega
  have h3:(0:Int)≤(i:Int):=by omega
  have hw:w ((i:Int)+1)=((i+1:Nat):Int):=by rw[w_id (by omega) (by omega)];omega
  simp only[h1,h3,hw,xaq,cond_true,xad,Int.toNat_natCast,d207_eq,Option.bind_some]
  by_cases c0:b.length≤i
  ·have h2:(b.length:Int)≤(i:Int):=by omega
   simp[h2,c0]
  ·have h2:¬(b.length:Int)≤(i:Int):=by omega
   have h4:(i:Int)<(b.length:Int):=by omega
   simp only[h2,h4,c0,xaq,xbt,cond_true,xac,if_false,xbg]
   rcases Int.lt_trichotomy (a.getD i 0) (b.getD i 0)with h|h|h
   ·have h5:¬a.getD i 0=b.getD i 0:=by omega
    simp only[h,h5,if_true];rfl
   ·have h5:¬a.getD i 0<b.getD i 0:=by omega
    have h6:¬b.getD i 0<a.getD i 0:=by omega
    simp only[h,if_false];simp
   ·have h5:¬a.getD i 0=b.getD i 0:=by omega
    have h6:¬a.getD i 0<b.getD i 0:=by omega
    simp only[h,h5,h6,if_true,if_false];rfl
 ·simp
 ·simp only[xai]
  by_cases c0:b.length≤i
  ·have h1:=lt_end b a fun j h1 h2=>by
    have:=hj j (by omega)
    simp only[xbw,xaw,xff,xag]at this
    exact this.2.symm
   have h2:b<a:=h1.2 (by omega)
   simp[c0,h2,zoq h2]
  ·have heq:∀j,j<i→a.getD j 0=b.getD j 0:=fun j hj'=>by
    have:=hj j hj'
    simp only[xbw,xaw,xff,xag]at this
    exact this.2
   have hne:a.getD i 0≠b.getD i 0:=by simpa[c0]using hp
   have h1:=lt_at i a b hi (by omega) heq hne
   have h2:=lt_at i b a (by omega) hi (fun j hj'=>(heq j hj').symm) (Ne.symm hne)
   simp only[c0,if_false,h1,h2]
   by_cases c:a.getD i 0<b.getD i 0
   ·simp only[c,if_true]
   ·have:b.getD i 0<a.getD i 0:=by omega
    simp only[c,this,if_true,if_false]
 ·have key:∀j,j<a.length→j<b.length∧a.getD j 0=b.getD j 0:=fun j h1=>by
   have:=hall j h1
   simp only[xbw,xaw,xff,xag]at this
   omega
  have h1:=lt_end a b fun j h1 h2=>(key j h1).2
  have h2:=lt_end b a fun j h1 h2=>(key j h2).2.symm
  have h3:a.length≤b.length:=by
   rcases xch a.length with h|h
   ·omega
   ·have:=(key (a.length-1) (by omega)).1;omega
  have h4:¬b<a:=by rw[h2];omega
  simp only[h4,if_false]
  by_cases c:a<b
  ·have:(a.length:Int)<(b.length:Int):=by have:=h1.1 c;omega
   simp[c,this]
  ·have:¬(a.length:Int)<(b.length:Int):=by rw[h1]at c;omega
   simp[c,this]
abbrev Grp:=List Int×Int
def addG:List Grp→List Int→Int→List Grp
 | [],p,k=>[(p,k)]
 |g::gs,p,k=>if g.1<p then g::addG gs p k else if g.1=p then(g.1,g.2+k)::gs else(p,k)::g::gs
theorem zgr{α:Type}(l:List α)(d:α){i:Nat}(h:i<l.length):l.take (i+1)=l.take i++[l.getD i d]:=by
 rw[xfm,xae h,zbk l d h]
 rfl
def wsum(f:List Int→Int):List Grp→Int
 | []=>0
 |g::gs=>g.2*f g.1+wsum f gs
theorem zfr(f:List Int→Int):∀(a b:List Grp),wsum f (a++b)=wsum f a+wsum f b
 | [],b=>by simp[wsum]
 |g::a,b=>by
  have:=zfr f a b
  simp only[xbn,wsum,this]
  omega
theorem znl(f:List Int→Int):∀(gs:List Grp) (p:List Int) (k:Int),wsum f (addG gs p k)=wsum f gs+k*f p
 | [],p,k=>by simp[addG,wsum]
 |g::gs,p,k=>by
  have ih:=znl f gs p k
  unfold addG
  split
  ·simp only[wsum,ih];omega
  ·split
   ·rename_i h
    simp only[wsum,h,Int.add_mul];omega
   ·simp only[wsum];omega
theorem ztg:∀{gs:List Grp} {p:List Int} {k:Int} {g:Grp},g∈addG gs p k→(g.1=p∧(g.2=k∨∃h∈gs,h.1=p∧g.2=h.2+k))∨g∈gs
 | [],p,k,g,h=>by
  simp[addG]at h
  exact .inl ⟨by rw[h],.inl (by rw[h])⟩
 |a::gs,p,k,g,h=>by
  unfold addG at h
  split at h
  ·rcases xan.1 h with h|h
   ·exact .inr (by simp[h])
   ·rcases ztg h with⟨h1,h2⟩|h1
    ·refine .inl ⟨h1,h2.imp id fun⟨x,h3,h4⟩=>⟨x,xah _ h3,h4⟩⟩
    ·exact .inr (xah _ h1)
  ·split at h
   ·rename_i hp
    rcases xan.1 h with h|h
    ·exact .inl ⟨by rw[h];exact hp,.inr ⟨a,by simp,hp,by rw[h]⟩⟩
    ·exact .inr (xah _ h)
   ·rcases xan.1 h with h|h
    ·exact .inl ⟨by rw[h],.inl (by rw[h])⟩
    ·exact .inr h
def zdr(gs:List Grp):Prop:=gs.Pairwise fun g h=>g.1<h.1
theorem zpu:∀{gs:List Grp} (p:List Int) (k:Int),zdr gs→zdr (addG gs p k)
 | [],p,k,_=>by simp[addG,zdr]
 |a::gs,p,k,h=>by
  unfold zdr at h
  rw[xcc]at h
  unfold addG
  split
  ·rename_i hlt
   refine xcc.2 ⟨fun g hg=>?_,zpu p k h.2⟩
   rcases ztg hg with⟨h1,_⟩|h1
   ·rw[h1];exact hlt
   ·exact h.1 g h1
  ·rename_i hlt
   split
   ·exact xcc.2 ⟨fun g hg=>h.1 g hg,h.2⟩
   ·rename_i hne
    have hp:p<a.1:=by
     rcases zlp a.1 p with h|h|h
     ·exact absurd h hlt
     ·exact absurd h hne
     ·exact h
    refine xcc.2 ⟨fun g hg=>?_,xcc.2 h⟩
    rcases xan.1 hg with rfl|hg
    ·exact hp
    ·exact zfk hp (h.1 g hg)
structure PileOK(n:Int)(gs:List Grp)(N:Int):Prop where
 ballots:∀g∈gs,isB n g.1∧1≤g.2
 sorted:zdr gs
 total:wsum (fun _=>1) gs=N
 most:N≤100000
theorem zjp{n:Int}:∀{gs:List Grp},(∀g∈gs,isB n g.1∧1≤g.2)→∀{f:List Int→Int},(∀p,0≤f p∧f p≤1)→0≤wsum f gs∧wsum f gs≤wsum (fun _=>1) gs
 | [],_,f,_=>by simp[wsum]
 |g::gs,h,f,hf=>by
  have ih:=zjp (gs:=gs) (fun x hx=>h x (xah _ hx)) hf
  have h1:=(h g (by simp)).2
  have h2:=hf g.1
  have h3:0≤g.2*f g.1:=Int.mul_nonneg (by omega) h2.1
  have h4:g.2*f g.1≤g.2*1:=Int.mul_le_mul_of_nonneg_left h2.2 (by omega)
  simp only[wsum]
  omega
theorem pile_cnt{n:Int}:∀{gs:List Grp},(∀g∈gs,isB n g.1∧1≤g.2)→∀g∈gs,g.2≤wsum (fun _=>1) gs
 | [],_,g,hg=>by cases hg
 |a::gs,h,g,hg=>by
  have h0:=(zjp (n:=n) (gs:=gs) (fun x hx=>h x (xah _ hx)) (f:=fun _=>1) (fun _=>by omega)).1
  have h1:=(h a (by simp)).2
  simp only[wsum]
  rcases xan.1 hg with rfl|hg
  ·omega
  ·have:=pile_cnt (n:=n) (gs:=gs) (fun x hx=>h x (xah _ hx)) g hg
   omega
theorem pile_len{n:Int}:∀{gs:List Grp},(∀g∈gs,isB n g.1∧1≤g.2)→(gs.length:Int)≤wsum (fun _=>1) gs
 | [],_=>by simp[wsum]
 |a::gs,h=>by
  have h1:=(h a (by simp)).2
  have:=pile_len (n:=n) (gs:=gs) (fun x hx=>h x (xah _ hx))
  simp only[wsum,xat]
  omega
theorem zka:∀(n:Nat) (l:List Int),l.Nodup→(∀x∈l,0≤x∧x<(n:Int))→l.length≤n
 | 0,l,_,h=>by
  cases l with
  |nil=>simp
  |cons x l=>have:=h x (by simp);omega
 |n+1,l,hd,h=>by
  by_cases hm:(n:Int)∈l
  ·have h1:=zka n (l.erase (n:Int)) (hd.erase _) fun x hx=>by
    have h2:=(hd.mem_erase_iff).1 hx
    have:=h x h2.2
    have:=h2.1
    omega
   rw[List.length_erase_of_mem hm]at h1
   omega
  ·have:=zka n l hd fun x hx=>by
    have h1:=h x hx
    have:x≠(n:Int):=fun e=>hm (e▸hx)
    omega
   omega
theorem zga{n:Int}{l:List Int}(h:isB n l)(hn:n≤7):l.length≤7:=zka 7 l h.1 fun x hx=>by have:=h.2 x hx;omega
theorem PileOK.add{n:Int}{gs:List Grp}{N:Int}(h:PileOK n gs N){p:List Int}(hp:isB n p)(hN:N+1≤100000):PileOK n (addG gs p 1) (N+1) where
 ballots:=fun g hg=>by
  rcases ztg hg with⟨h1,h2⟩|h1
  ·refine⟨by rw[h1];exact hp,?_⟩
   rcases h2 with h2|⟨x,hx,_,h2⟩
   ·omega
   ·have:=(h.ballots x hx).2;omega
  ·exact h.ballots g h1
 sorted:=zpu _ _ h.sorted
 total:=by rw[znl,h.total];omega
 most:=hN
theorem PileOK.nil(n:Int):PileOK n [] 0:=⟨fun _ hg=>absurd hg (by simp),List.Pairwise.nil,rfl,by omega⟩
end Go.Proofs.YtamgmpngdmnadaaGreat
open Go Go.Proofs Go.X
namespace Go.Proofs.YtamgmpngdmnadaaGreat
theorem d77_eq{n:Int}(hn:n≤7){l:List Int}(hl:l.length≤281474976710656):d77 n l=some (decide (isB n l)):=by
 unfold d77
 refine zdy (fun i=>(n,zmh l i,l,(l.length:Int),(i:Int))) (fun i=>decide (l.getD i 0<0)||(decide (n≤l.getD i 0)||(zmh l i).getD (Int.toNat (l.getD i 0)) false)) l.length (fun _=>.inr false) (.inl ()) rfl (fun i hi=>?_) ?_ (fun i hi hp hj=>?_) (fun hall=>?_)
 ·have h2:(i:Int)<(l.length:Int):=by omega
  have h3:(0:Int)≤(i:Int):=by omega
  have hw:w ((i:Int)+1)=((i+1:Nat):Int):=by rw[w_id (by omega) (by omega)];omega
  simp only[h2,h3,letJ,xaq,cond_true,xad,Int.toNat_natCast,hw]
  by_cases c1:l.getD i 0<0
  ·simp only[c1];rfl
  ·by_cases c2:n≤l.getD i 0
   ·simp only[c1,c2];rfl
   ·have c3:0≤l.getD i 0:=by omega
    have c4:l.getD i 0<7:=by omega
    simp only[c1,c2,c3,c4]
    cases(zmh l i).getD (Int.toNat (l.getD i 0)) false<;>rfl
 ·simp
 ·have:¬isB n l:=fun h=>by
   have hb:=(zls n l).1 h
   have h1:=hb i hi
   have h2:=zod l i (by omega) (fun j hj=>by have:=hb j (by omega);omega) (Int.toNat (l.getD i 0)) (by omega)
   rw[show((l.getD i 0).toNat:Int)=l.getD i 0 by omega]at h2
   rw[h2]at hp
   simp only[xcy,xag]at hp
   rcases hp with hp|hp|hp
   ·omega
   ·omega
   ·exact h1.2.2 hp
  simp[this]
 ·have hb:∀i,i<l.length→0≤l.getD i 0∧l.getD i 0<n:=fun i hi=>by
   have:=hall i hi
   simp only[xbw,xaw]at this
   omega
  have:isB n l:=(zls n l).2 fun i hi=>by
   have h1:=hb i hi
   have h0:=hall i hi
   simp only[xbw,xaw]at h0
   have h2:=zod l i (by omega) (fun j hj=>by have:=hb j (by omega);omega) (Int.toNat (l.getD i 0)) (by omega)
   rw[show((l.getD i 0).toNat:Int)=l.getD i 0 by omega,h0.2.2]at h2
   exact⟨h1.1,h1.2,fun hm=>xdf h2.symm hm⟩
  simp[this]
def tot(gs:List Grp)(i:Nat):Int:=wsum (fun _=>1) (gs.take i)
def badG(n:Int)(gs:List Grp)(i:Nat):Bool:=decide ((gs.getD i ([],0)).2<1)||(decide (100000-tot gs i<(gs.getD i ([],0)).2)||(!decide (isB n (gs.getD i ([],0)).1)||(decide (0<i)&&decide (0≤cmpL (gs.getD (i-1) ([],0)).1 (gs.getD i ([],0)).1))))
theorem zdp(f:List Int→Int)(gs:List Grp){i:Nat}(h:i<gs.length):wsum f (gs.take (i+1))=wsum f (gs.take i)+(gs.getD i ([],0)).2*f (gs.getD i ([],0)).1:=by
 rw[zgr gs ([],0) h,zfr]
 simp[wsum]
theorem zld{n:Int}{gs:List Grp}:∀{i:Nat},i≤gs.length→(∀j,j<i→badG n gs j=false)→0≤tot gs i∧tot gs i≤100000
 | 0,_,_=>by simp[tot,wsum]
 |i+1,h,hb=>by
  have ih:=zld (n:=n) (gs:=gs) (i:=i) (by omega) fun j hj=>hb j (by omega)
  have h1:=hb i (by omega)
  unfold badG at h1
  simp only[xbw,xaw]at h1
  have h2:tot gs (i+1)=tot gs i+(gs.getD i ([],0)).2*1:=zdp _ gs (by omega)
  omega
theorem d133_eq{n:Int}(hn:n≤7){gs:List Grp}(hl:gs.length≤281474976710656)(hg:∀g∈gs,g.1.length≤281474976710656∧-9223372036854775808≤g.2∧g.2≤9223372036854775807):d133 n gs=some (decide (∀i,i<gs.length→badG n gs i=false)):=by
 unfold d133
 have hgi:∀i,i<gs.length→(gs.getD i ([],0)).1.length≤281474976710656:=fun i hi=>by
  rw[zbk gs _ hi]
  exact(hg _ (xbe _)).1
 refine zhu (fun i=>(n,gs,tot gs i,gs,(gs.length:Int),(i:Int))) (badG n gs) gs.length (fun _=>.inr false) (.inl ()) rfl (fun i hi hj=>?_) (fun _=>?_) (fun i hi hp hj=>?_) (fun hall=>?_)
 ·have h2:(i:Int)<(gs.length:Int):=by omega
  have h3:(0:Int)≤(i:Int):=by omega
  have hw:w ((i:Int)+1)=((i+1:Nat):Int):=by rw[w_id (by omega) (by omega)];omega
  have ht:=zld (n:=n) (gs:=gs) (i:=i) (by omega) hj
  have hw2:w (100000-tot gs i)=100000-tot gs i:=w_id (by omega) (by omega)
  have hgl:=hgi i hi
  have hgp:=hgi (i-1) (by omega)
  have hts:tot gs (i+1)=tot gs i+(gs.getD i ([],0)).2*1:=zdp _ gs (by omega)
  have hw3:1≤(gs.getD i ([],0)).2→(gs.getD i ([],0)).2≤100000-tot gs i→w (tot gs i+(gs.getD i ([],0)).2)=tot gs (i+1):=fun a b=>by rw[w_id (by omega) (by omega)];omega
  have hb:badG n gs i=(decide ((gs.getD i ([],0)).2<1)||(decide (100000-tot gs i<(gs.getD i ([],0)).2)||(!decide (isB n (gs.getD i ([],0)).1)||(decide (0<i)&&decide (0≤cmpL (gs.getD (i-1) ([],0)).1 (gs.getD i ([],0)).1))))):=rfl
  rw[hb]
  simp only[h2,h3,letJ,xaq,cond_true,xad,Int.toNat_natCast,hw,hw2]
  rw[d77_eq hn hgl]
  obtain⟨g,hgd⟩:∃g,gs.getD i ([],0)=g:=⟨_,rfl⟩
  simp only[hgd]at hgl hts hw3 ⊢
  by_cases c1:g.2<1
  ·simp only[c1];rfl
  ·by_cases c2:100000-tot gs i<g.2
   ·simp only[c1,c2];rfl
   ·rw[hw3 (by omega) (by omega)]
    by_cases c3:isB n g.1
    ·by_cases c4:0<i
     ·have c5:(0:Int)<(i:Int):=by omega
      have hwp:w ((i:Int)-1)=((i-1:Nat):Int):=by rw[w_id (by omega) (by omega)];omega
      have h5:(0:Int)≤((i-1:Nat):Int):=by omega
      have h6:((i-1:Nat):Int)<(gs.length:Int):=by omega
      simp only[c1,c2,c3,c4,c5,hwp,h5,h6,Int.toNat_natCast,d145_eq hgp hgl,Option.bind_some,xaq,xbt,xam,xak,cond_true,xac,xad,xbj,xbg]
      cases decide (0≤cmpL (gs.getD (i-1) ([],0)).1 g.1)<;>rfl
     ·have c5:¬(0:Int)<(i:Int):=by omega
      simp only[c1,c2,c3,c4,c5];rfl
    ·simp only[c1,c2,c3];rfl
 ·simp
 ·have:¬∀i,i<gs.length→badG n gs i=false:=fun h=>by rw[h i hi]at hp;cases hp
  simp[this]
 ·have:∀i,i<gs.length→badG n gs i=false:=hall
  simp only[decide_eq_true this]
theorem PileOK.good{n:Int}{gs:List Grp}{N:Int}(h:PileOK n gs N):∀i,i<gs.length→badG n gs i=false:=fun i hi=>by
 have hm:gs.getD i ([],0)∈gs:=by rw[zbk gs _ hi];exact xbe _
 have h1:=h.ballots _ hm
 have h2:tot gs (i+1)=tot gs i+(gs.getD i ([],0)).2*1:=zdp _ gs hi
 have h3:wsum (fun _=>1) gs=tot gs (i+1)+wsum (fun _=>1) (gs.drop (i+1)):=by
  unfold tot
  rw[←zfr,xcx]
 have h4:=(zjp (n:=n) (gs:=gs.drop (i+1)) (fun x hx=>h.ballots x (xfo hx)) (f:=fun _=>1) (fun _=>by omega)).1
 have h5:=h.total
 have h6:=h.most
 unfold badG
 have c1:¬(gs.getD i ([],0)).2<1:=by omega
 have c2:¬100000-tot gs i<(gs.getD i ([],0)).2:=by omega
 simp only[c1,c2,h1.1,xaq,xbt,xam,xbg]
 by_cases c3:0<i
 ·have h7:(gs.getD (i-1) ([],0)).1<(gs.getD i ([],0)).1:=by
   rw[zbk gs _ hi,zbk gs _ (by omega:i-1<gs.length)]
   exact xeo.1 h.sorted (i-1) i (by omega) hi (by omega)
  have c4:cmpL (gs.getD (i-1) ([],0)).1 (gs.getD i ([],0)).1=-1:=if_pos h7
  rw[c4]
  simp
 ·simp[c3]
theorem PileOK.sizes{n:Int}{gs:List Grp}{N:Int}(h:PileOK n gs N)(hn:n≤7):gs.length≤100000∧∀g∈gs,g.1.length≤7∧1≤g.2∧g.2≤100000:=by
 have h1:=pile_len h.ballots
 have h2:=h.total
 have h3:=h.most
 refine⟨by omega,fun g hg=>?_⟩
 have h4:=pile_cnt h.ballots g hg
 have h5:=h.ballots g hg
 exact⟨zga h5.1 hn,by omega,by omega⟩
theorem PileOK.d133{n:Int}{gs:List Grp}{N:Int}(h:PileOK n gs N)(hn:n≤7):d133 n gs=some true:=by
 obtain⟨h1,h2⟩:=h.sizes hn
 rw[d133_eq hn (by omega) fun g hg=>by have:=h2 g hg;omega]
 rw[decide_eq_true h.good]
theorem PileOK.wide{n:Int}{gs:List Grp}{N:Int}(h:PileOK n gs N)(hn:n≤7):PileOK 7 gs N where
 ballots:=fun g hg=>by
  have:=h.ballots g hg
  exact⟨⟨this.1.1,fun x hx=>by have:=this.1.2 x hx;omega⟩,this.2⟩
 sorted:=h.sorted
 total:=h.total
 most:=h.most
theorem PileOK.d146{n:Int}{gs:List Grp}{N:Int}(h:PileOK n gs N)(hn:n≤7):d146 gs=some true:=by
 unfold Go.Proofs.YtamgmpngdmnadaaGreat.d146
 rw[(h.wide hn).d133 (by omega)]
 rfl
theorem PileOK.part{n:Int}{gs:List Grp}{N:Int}(h:PileOK n gs N){f:List Int→Int}(hf:∀p,0≤f p∧f p≤1)(i:Nat):0≤wsum f (gs.take i)∧wsum f (gs.take i)≤100000:=by
 have h1:=zjp (n:=n) (gs:=gs.take i) (fun x hx=>h.ballots x (xbv hx)) hf
 have h2:=zjp (n:=n) (gs:=gs.drop i) (fun x hx=>h.ballots x (xfo hx)) (f:=fun _=>1) (fun _=>by omega)
 have h3:wsum (fun _=>1) gs=wsum (fun _=>1) (gs.take i)+wsum (fun _=>1) (gs.drop i):=by rw[←zfr,xcx]
 have h4:=h.total
 have h5:=h.most
 omega
def zbb(p:List Int):Int:=if p=[]then 0 else 1
theorem PileOK.d92{n:Int}{gs:List Grp}{N:Int}(h:PileOK n gs N)(hn:n≤7):d92 gs=some (wsum zbb gs):=by
 obtain⟨hl,hg⟩:=h.sizes hn
 have hf:∀p,0≤zbb p∧zbb p≤1:=fun p=>by unfold zbb;split<;>omega
 unfold Go.Proofs.YtamgmpngdmnadaaGreat.d92
 rw[h.d146 hn]
 simp only[Option.bind_some,xam,xac]
 have:d161 gs (fun a=>d163 a)=some (wsum zbb gs):=by
  unfold d161
  refine zac (b:=wsum zbb gs) (fun i=>(fun a=>d163 a,wsum zbb (gs.take i),gs,(gs.length:Int),(i:Int))) gs.length rfl (fun i hi=>?_) ?_ rfl
  ·have h2:(i:Int)<(gs.length:Int):=by omega
   have h3:(0:Int)≤(i:Int):=by omega
   have hw:w ((i:Int)+1)=((i+1:Nat):Int):=by rw[w_id (by omega) (by omega)];omega
   have e:=zdp zbb gs hi
   have b0:=h.part hf i
   have b1:=h.part hf (i+1)
   simp only[h2,h3,hw,xaq,cond_true,xad,Int.toNat_natCast]
   obtain⟨g,hgd⟩:∃g,gs.getD i ([],0)=g:=⟨_,rfl⟩
   simp only[hgd]at e ⊢
   obtain⟨p,k⟩:=g
   unfold d163
   simp only at e ⊢
   match p with
   | []=>
    have h0:zbb []=0:=by simp[zbb]
    rw[h0]at e
    have hw2:w (wsum zbb (gs.take i)+0)=wsum zbb (gs.take (i+1)):=by rw[w_id (by omega) (by omega)];omega
    simp only[xck,Int.ofNat_zero,xaq,cond_true,Option.bind_some,hw2]
   |y::p=>
    have h0:zbb (y::p)=1:=by simp[zbb]
    rw[h0]at e
    have h4:¬((((y::p).length:Nat):Int)=0):=by simp;omega
    have hw2:w (wsum zbb (gs.take i)+k)=wsum zbb (gs.take (i+1)):=by rw[w_id (by omega) (by omega)];omega
    simp only[h4,xbt,xac,Option.bind_some,hw2]
  ·have h1:¬((gs.length:Int)<(gs.length:Int)):=by omega
   simp only[h1,xbt,xac,xay]
 rw[this]
 rfl
end Go.Proofs.YtamgmpngdmnadaaGreat
open Go Go.Proofs Go.X
namespace Go.Proofs.YtamgmpngdmnadaaGreat
def rem(r:List Bool)(c:Int):Bool:=if c<(r.length:Int)then r.getD (Int.toNat c) false else false
theorem d147_eq(r:List Bool){c:Int}(hc:0≤c):d147 c r=some (rem r c):=by
 unfold d147 d148 rem
 by_cases h:c<(r.length:Int)
 ·simp only[h,hc,if_true,xaq,cond_true,xad,Option.bind_some]
 ·simp only[h,if_false,xbt,xac,Option.bind_some]
theorem d84_on{s:List Int}{f:Int→Option Bool}{g:Int→Bool}(hf:∀c∈s,f c=some (g c))(hs:s.length≤281474976710656):d84 s f=some (if zai g s<s.length then(zai g s:Int)else -1):=by
 have hle:=zgi g s
 unfold d84
 have hstep:∀i,i<zai g s→w ((i:Int)+1)=((i+1:Nat):Int):=fun i hi=>by rw[w_id (by omega) (by omega)];omega
 have hfi:∀i,i<s.length→f (s.getD i 0)=some (g (s.getD i 0)):=fun i hi=>by rw[zbk s 0 hi];exact hf _ (xbe _)
 by_cases h:zai g s<s.length
 ·have hat:=zfa _ s h
  refine zac (b:=.inr (zai g s:Int)) (fun i=>(s,f,(s.length:Int),(i:Int))) (zai g s) rfl ?_ ?_ (by simp[h])
  ·intro i hi
   have h1:=zdo g s i hi
   have h2:(i:Int)<(s.length:Int):=by omega
   have h3:(0:Int)≤(i:Int):=by omega
   simp only[h2,h3,xaq,cond_true,xad,Int.toNat_natCast,hfi i (by omega),h1,Option.bind_some,hstep i hi,xac]
  ·have h2:(zai g s:Int)<(s.length:Int):=by omega
   have h3:(0:Int)≤(zai g s:Int):=by omega
   simp only[h2,h3,xaq,cond_true,xad,Int.toNat_natCast,hfi _ h,hat,Option.bind_some]
 ·refine zac (b:=.inl ()) (fun i=>(s,f,(s.length:Int),(i:Int))) s.length rfl ?_ ?_ (by simp[h])
  ·intro i hi
   have h1:=zdo g s i (by omega)
   have h2:(i:Int)<(s.length:Int):=by omega
   have h3:(0:Int)≤(i:Int):=by omega
   simp only[h2,h3,xaq,cond_true,xad,Int.toNat_natCast,hfi i (by omega),h1,Option.bind_some,hstep i (by omega),xac]
  ·simp
def zhf(r:List Bool)(c:Int)(p:List Int):Int:=if zai (rem r) p<p.length∧p.getD (zai (rem r) p) 0=c then 1 else 0
def zcc(r:List Bool)(gs:List Grp):List Int:=(List.range r.length).map fun(c:Nat)=>wsum (zhf r (c:Int)) gs
theorem znn(r:List Bool)(gs:List Grp):(zcc r gs).length=r.length:=by simp[zcc]
theorem votesAt_get(r:List Bool)(gs:List Grp){c:Nat}(h:c<r.length):(zcc r gs).getD c 0=wsum (zhf r (c:Int)) gs:=by
 rw[zbk _ _ (by rw[znn];exact h)]
 simp[zcc]
def zgz(r:List Bool)(p:List Int):Int:=if zai (rem r) p<p.length then 0 else 1
theorem PileOK.d81{n:Int}{gs:List Grp}{N:Int}(h:PileOK n gs N)(hn:n≤7){r:List Bool}(hr:r.length≤7):d81 gs r=some (zcc r gs,wsum (zgz r) gs):=by
 obtain⟨hl,hg⟩:=h.sizes hn
 have hf:∀c p,0≤zhf r c p∧zhf r c p≤1:=fun c p=>by unfold zhf;split<;>omega
 have hf0:∀p,0≤zgz r p∧zgz r p≤1:=fun p=>by unfold zgz;split<;>omega
 unfold Go.Proofs.YtamgmpngdmnadaaGreat.d81
 rw[h.d146 hn]
 have hr1:¬(7:Int)<(r.length:Int):=by omega
 have hr2:(r.length:Int)≤LIM:=by rw[zfx];omega
 have hr3:(0:Int)≤(r.length:Int):=by omega
 simp only[Option.bind_some,xam,xak,cond_true,hr1,hr2,hr3,xaq,xbt,letJ,xac,xad,Int.toNat_natCast]
 refine zac (b:=(zcc r gs,wsum (zgz r) gs)) (fun i=>(r,zcc r (gs.take i),wsum (zgz r) (gs.take i),gs,(gs.length:Int),(i:Int))) gs.length ?_ (fun i hi=>?_) ?_ rfl
 ·have:zcc r (gs.take 0)=List.replicate r.length 0:=by
   apply xfb
   ·simp[zcc]
   ·intro i h1 h2
    simp[zcc,wsum]
  simp only[this]
  rfl
 ·have h2:(i:Int)<(gs.length:Int):=by omega
  have h3:(0:Int)≤(i:Int):=by omega
  have hw:w ((i:Int)+1)=((i+1:Nat):Int):=by rw[w_id (by omega) (by omega)];omega
  have e:∀f,wsum f (gs.take (i+1))=wsum f (gs.take i)+(gs.getD i ([],0)).2*f (gs.getD i ([],0)).1:=fun f=>zdp f gs hi
  have b0:=h.part hf0 i
  have b1:=h.part hf0 (i+1)
  have b2:=fun c=>h.part (hf c) i
  have b3:=fun c=>h.part (hf c) (i+1)
  have hm:gs.getD i ([],0)∈gs:=by rw[zbk gs _ hi];exact xbe _
  have hgl:=(hg _ hm).1
  have hgb:=(h.ballots _ hm).1
  simp only[h2,h3,hw,xaq,cond_true,xad,Int.toNat_natCast]
  obtain⟨g,hgd⟩:∃g,gs.getD i ([],0)=g:=⟨_,rfl⟩
  simp only[hgd]at e hgl hgb ⊢
  obtain⟨p,k⟩:=g
  simp only at e hgl hgb ⊢
  rw[d84_on (g:=rem r) (fun c hc=>d147_eq r (hgb.2 c hc).1) (by omega)]
  simp only[Option.bind_some]
  by_cases c1:zai (rem r) p<p.length
  ·have hx:=zfa (rem r) p c1
   have c2:¬(zai (rem r) p:Int)<0:=by omega
   have c3:(0:Int)≤(zai (rem r) p:Int):=by omega
   have c4:(zai (rem r) p:Int)<(p.length:Int):=by omega
   have hxm:p.getD (zai (rem r) p) 0∈p:=by rw[zbk p 0 c1];exact xbe _
   have hx0:=(hgb.2 _ hxm).1
   simp only[c1,c2,c3,c4,if_true,xaq,xbt,cond_true,xac,xad,Int.toNat_natCast]
   have ht:∀c,zhf r c p=if p.getD (zai (rem r) p) 0=c then 1 else 0:=fun c=>by unfold zhf;simp only[c1,true_and]
   have hn0:zgz r p=0:=by unfold zgz;rw[if_pos c1]
   generalize p.getD (zai (rem r) p) 0=x at *
   have hxr:x<(r.length:Int):=by
    unfold rem at hx
    split at hx
    ·assumption
    ·cases hx
   have hv:(zcc r (gs.take i)).getD (Int.toNat x) 0=wsum (zhf r x) (gs.take i):=by
    rw[votesAt_get r _ (by omega),show((Int.toNat x:Nat):Int)=x by omega]
   have ex:=e (zhf r x)
   rw[ht x,if_pos rfl]at ex
   have bx0:=b2 x
   have bx1:=b3 x
   have hw2:w (wsum (zhf r x) (gs.take i)+k)=wsum (zhf r x) (gs.take (i+1)):=by rw[w_id (by omega) (by omega)];omega
   have hset:(zcc r (gs.take i)).set (Int.toNat x) (wsum (zhf r x) (gs.take (i+1)))=zcc r (gs.take (i+1)):=by
    apply xfb
    ·simp[zcc]
    ·intro j h1 h2
     rw[List.getElem_set]
     by_cases hj:Int.toNat x=j
     ·rw[if_pos hj]
      simp only[zcc,List.getElem_map,xim]
      rw[show(j:Int)=x by omega]
     ·rw[if_neg hj]
      simp only[zcc,List.getElem_map,xim]
      have ej:=e (zhf r (j:Int))
      rw[ht (j:Int),if_neg (by omega)]at ej
      omega
   have e0:=e (zgz r)
   rw[hn0]at e0
   have e0':wsum (zgz r) (gs.take (i+1))=wsum (zgz r) (gs.take i):=by omega
   simp only[znn,hx0,hxr,xaq,cond_true,xad,hv,hw2,hset,e0']
  ·have c2:(-1:Int)<0:=by omega
   have hn1:zgz r p=1:=by unfold zgz;rw[if_neg c1]
   have e0:=e (zgz r)
   rw[hn1]at e0
   have hw2:w (wsum (zgz r) (gs.take i)+k)=wsum (zgz r) (gs.take (i+1)):=by rw[w_id (by omega) (by omega)];omega
   have hv:zcc r (gs.take (i+1))=zcc r (gs.take i):=by
    unfold zcc
    refine xey fun c _=>?_
    have ec:=e (zhf r (c:Int))
    have:zhf r (c:Int) p=0:=by unfold zhf;simp only[c1,false_and,if_false]
    rw[this]at ec
    omega
   simp only[c1,c2,if_false,xaq,cond_true,hw2,hv]
 ·have h1:¬((gs.length:Int)<(gs.length:Int)):=by omega
  simp only[h1,xbt,xac,xay]
end Go.Proofs.YtamgmpngdmnadaaGreat
open Go Go.Proofs Go.X
namespace Go.Proofs.YtamgmpngdmnadaaGreat
theorem wt_part{l:List Int}(h:WT (.slice (.int .i64)) l)(k:Nat):WT (.slice (.int .i64)) (l.take k):=⟨by have:=h.1;simp;omega,fun x hx=>h.2 x (xbv hx)⟩
theorem wt_rest{l:List Int}(h:WT (.slice (.int .i64)) l)(k:Nat):WT (.slice (.int .i64)) (l.drop k):=⟨by have:=h.1;simp;omega,fun x hx=>h.2 x (xfo hx)⟩
theorem ztc{n:Int}(hn:0<n)(l:List Int):isB n (bal n l):=⟨zlk n l _,fun x hx=>outs_in hn l _ x hx⟩
def balF(n:Int)(x:List Int):List Int:=bal n (x.take 12)
def bals(n:Int)(l:List (List Int))(most:Nat):List (List Int):=(l.take most).map (balF n)
theorem zoo{α:Type}(l:List α)(z:α)(h:l.length≤1000000):((l.length:Int)+(([z]:List α).length:Int)≤LIM):=by rw[zfx];simp;omega
theorem d60_eq{n:Int}(hn:0<n)(hn':n≤7){l:List (List Int)}(hl:l.length≤281474976710656)(hw:∀x∈l,WT (.slice (.int .i64)) x){most:Nat}(hm:most≤100):d60 n l (most:Int)=some (bals n l most):=by
 unfold d60
 refine zac (b:=bals n l most) (fun i=>(n,l,(most:Int),(l.take i).map (balF n),(i:Int))) (min l.length most) rfl (fun i hi=>?_) ?_ rfl
 ·have h1:(i:Int)<(l.length:Int):=by omega
  have h2:(i:Int)<(most:Int):=by omega
  have h3:(0:Int)≤(i:Int):=by omega
  have hwi:w ((i:Int)+1)=((i+1:Nat):Int):=by rw[w_id (by omega) (by omega)];omega
  have hx:=hw (l.getD i []) (by rw[zbk l [] (by omega)];exact xbe _)
  have ht:=zgr l [] (by omega:i<l.length)
  simp only[h1,h2,h3,hwi,letJ,xaq,cond_true,xad,Int.toNat_natCast]
  obtain⟨x,hxd⟩:∃x,l.getD i []=x:=⟨_,rfl⟩
  simp only[hxd]at hx ht ⊢
  have hc:zck 0 (bif decide (12<(x.length:Int))then 12 else(x.length:Int)) x.length=true∧List.drop 0 (List.take (Int.toNat (bif decide (12<(x.length:Int))then 12 else(x.length:Int))) x)=x.take 12:=by
   by_cases c:12<x.length
   ·have c':(12:Int)<(x.length:Int):=by omega
    simp only[c',xaq,cond_true,xfc]
    exact⟨zgj (i:=12) (by omega),rfl⟩
   ·have c':¬(12:Int)<(x.length:Int):=by omega
    simp only[c',xbt,xac,xfc,Int.toNat_natCast]
    exact⟨zgj (Nat.le_refl _),by rw[xav (Nat.le_refl _),xav (by omega)]⟩
  rw[hc.1,hc.2,d19_eq hn (by omega) (wt_part hx 12)]
  have hlim:=zoo ((l.take i).map (balF n)) (bal n (x.take 12)) (by simp;omega)
  simp only[cond_true,Option.bind_some,hlim,xaq,ht,xcd,xdd,xga]
  rfl
 ·have hb:(l.take (min l.length most)).map (balF n)=bals n l most:=by
   unfold bals
   congr 1
   by_cases c:l.length≤most
   ·rw[xfh c,xav (Nat.le_refl _),xav c]
   ·rw[Nat.min_eq_right (by omega)]
  simp only[letJ,hb]
  by_cases c:l.length≤most
  ·have h1:¬((min l.length most:Nat):Int)<(l.length:Int):=by omega
   simp only[h1,xbt,xac]
  ·have h1:((min l.length most:Nat):Int)<(l.length:Int):=by omega
   have h2:¬((min l.length most:Nat):Int)<(most:Int):=by omega
   simp only[h1,h2,xaq,xbt,cond_true,xac]
theorem bals_isB{n:Int}(hn:0<n){l:List (List Int)}{most:Nat}:∀b∈bals n l most,isB n b:=fun b hb=>by
 obtain⟨x,_,rfl⟩:=xcv.1 hb
 exact ztc hn _
theorem ztb{n:Int}{l:List (List Int)}{most:Nat}:(bals n l most).length≤most:=by simp[bals];omega
def zml(ph:List Bool)(bs:List (List Int))(i:Nat):Itm:=if ph.getD i false then((0,0,0),true,[])else((1,(w (1+(w (Int.tdiv (i:Int) 16)))),(w (Int.tmod (i:Int) 16))),false,bs.getD i [])
def zen(ph:List Bool)(bs:List (List Int)):List Itm:=(List.range bs.length).map (zml ph bs)
theorem zos(ph:List Bool)(bs:List (List Int)):(zen ph bs).length=bs.length:=by simp[zen]
theorem zot{n:Int}{ph:List Bool}{bs:List (List Int)}(h:∀b∈bs,isB n b):∀x∈zen ph bs,isB n x.2.2:=fun x hx=>by
 obtain⟨i,hi,rfl⟩:=xcv.1 hx
 unfold zml
 split
 ·exact⟨xih,fun x hx=>by cases hx⟩
 ·have:=List.mem_range.1 hi
  show isB n (bs.getD i [])
  rw[zbk bs [] this]
  exact h _ (xbe _)
def zdx(bs:List (List Int)):List Grp:=bs.foldl (fun gs b=>addG gs b 1) []
def bsum(f:List Int→Int):List (List Int)→Int
 | []=>0
 |b::bs=>f b+bsum f bs
theorem bsum_app(f:List Int→Int):∀a b,bsum f (a++b)=bsum f a+bsum f b
 | [],b=>by simp[bsum]
 |x::a,b=>by have:=bsum_app f a b;simp only[xbn,bsum,this];omega
theorem pileOf_snoc(bs:List (List Int))(b:List Int):zdx (bs++[b])=addG (zdx bs) b 1:=by simp[zdx]
theorem zib{n:Int}(bs:List (List Int))(hb:∀b∈bs,isB n b)(hl:bs.length≤100000):PileOK n (zdx bs) (bs.length:Int)∧∀f,wsum f (zdx bs)=bsum f bs:=by
 have key:∀k,k≤bs.length→PileOK n (zdx (bs.take k)) (k:Int)∧∀f,wsum f (zdx (bs.take k))=bsum f (bs.take k):=by
  intro k
  induction k with
  |zero=>intro _;exact⟨PileOK.nil n,fun f=>rfl⟩
  |succ k ih=>
   intro hk
   obtain⟨h1,h2⟩:=ih (by omega)
   have ht:=zgr bs [] (by omega:k<bs.length)
   have hm:=hb (bs.getD k []) (by rw[zbk bs [] (by omega)];exact xbe _)
   rw[ht,pileOf_snoc]
   refine⟨?_,fun f=>by rw[znl,h2 f,bsum_app];simp[bsum]⟩
   have:=h1.add hm (by omega)
   rwa[show(k:Int)+1=((k+1:Nat):Int) by omega]at this
 have:=key bs.length (Nat.le_refl _)
 rwa[xay]at this
def zgw(n:Int)(items:List Itm)(changed:List (List Int))(missing:List Bool)(i:Nat):Bool×List Int:=
 if missing.getD i false then(true,[])else(false,if 0<(changed.getD i []).length then bal n (((changed.getD i []).drop 1).take 8)else(items.getD i ((0,0,0),false,[])).2.2)
def zgv(n:Int)(items:List Itm)(changed:List (List Int))(missing:List Bool):List (Bool×List Int):=(List.range items.length).map (zgw n items changed missing)
theorem papersOf_len(n:Int)(items:List Itm)(changed:List (List Int))(missing:List Bool):(zgv n items changed missing).length=items.length:=by simp[zgv]
theorem zmj{n:Int}(hn:0<n){items:List Itm}{changed:List (List Int)}{missing:List Bool}(h:∀x∈items,isB n x.2.2):∀p∈zgv n items changed missing,isB n p.2:=fun p hp=>by
 obtain⟨i,hi,rfl⟩:=xcv.1 hp
 have hi:=List.mem_range.1 hi
 unfold zgw
 split
 ·exact⟨xih,fun x hx=>by cases hx⟩
 ·split
  ·exact ztc hn _
  ·show isB n (items.getD i ((0,0,0),false,[])).2.2
   rw[zbk items _ hi]
   exact h _ (xbe _)
end Go.Proofs.YtamgmpngdmnadaaGreat
open Go Go.Proofs Go.X
namespace Go.Proofs.YtamgmpngdmnadaaGreat
def GsOK(gs:List Grp):Prop:=gs.length≤281474976710656∧∀g∈gs,g.1.length≤281474976710656∧-9223372036854775808≤g.2∧g.2≤9223372036854775807
def goodP(n:Int)(gs:List Grp):Bool:=decide (∀i,i<gs.length→badG n gs i=false)
def zse(n:Int)(gs:List Grp):Bool:=decide (1≤n∧n≤7)&&goodP n gs
theorem cmpL_lt(a b:List Int):decide (0≤cmpL a b)=!decide (a<b):=by
 unfold cmpL
 by_cases h:a<b
 ·simp[h]
 ·by_cases h':b<a
  ·simp[h,h']
  ·simp[h,h']
theorem good_tot{n:Int}{gs:List Grp}(h:∀i,i<gs.length→badG n gs i=false):PileOK n gs (wsum (fun _=>1) gs) where
 ballots:=fun g hg=>by
  obtain⟨i,hi,rfl⟩:=xci hg
  have:=h i hi
  unfold badG at this
  rw[zbk gs _ hi]at this
  simp only[xbw,xaw,xff,xag]at this
  exact⟨this.2.2.1,by omega⟩
 sorted:=by
  have step:∀i,i+1<gs.length→(gs.getD i ([],0)).1<(gs.getD (i+1) ([],0)).1:=fun i hi=>by
   have:=h (i+1) hi
   unfold badG at this
   simp only[xbw]at this
   have:=this.2.2.2
   rw[cmpL_lt]at this
   simpa using this
  refine xeo.2 fun i j hi hj hij=>?_
  have key:∀k,i+k+1<gs.length→(gs.getD i ([],0)).1<(gs.getD (i+k+1) ([],0)).1:=by
   intro k
   induction k with
   |zero=>intro hk;exact step i hk
   |succ k ih=>
    intro hk
    exact zfk (ih (by omega)) (step (i+k+1) (by omega))
  have:=key (j-i-1) (by omega)
  rw[show i+(j-i-1)+1=j by omega,zbk gs _ hi,zbk gs _ hj]at this
  exact this
 total:=rfl
 most:=by
  have:=(zld (n:=n) (gs:=gs) (i:=gs.length) (Nat.le_refl _) fun j hj=>h j hj).2
  unfold tot at this
  rwa[xay]at this
theorem pileB_ok{n:Int}{gs:List Grp}(h:zse n gs=true):1≤n∧n≤7∧PileOK n gs (wsum (fun _=>1) gs):=by
 unfold zse at h
 simp only[xaf,xag]at h
 exact⟨h.1.1,h.1.2,good_tot (of_decide_eq_true h.2)⟩
theorem PileOK.gs{n:Int}{gs:List Grp}{N:Int}(h:PileOK n gs N)(hn:n≤7):GsOK gs:=by
 obtain⟨h1,h2⟩:=h.sizes hn
 exact⟨by omega,fun g hg=>by have:=h2 g hg;omega⟩
end Go.Proofs.YtamgmpngdmnadaaGreat
namespace Go.Proofs.YtamgmpngdmnadaaGreat
open Go Go.X
def nv:List Int→Nat
 | []=>0
 |x::l=>x.toNat+4294967296*nv l
def IsL(l:List Int):Prop:=∀x∈l,0≤x∧x<4294967296
def NF(l:List Int):Prop:=IsL l∧l.getLast?≠some 0
theorem IsL.nil:IsL []:=fun _ h=>absurd h (by simp)
theorem IsL.cons{x:Int}{l:List Int}(h0:0≤x)(h1:x<4294967296)(h:IsL l):IsL (x::l):=fun y hy=>by
 rcases xan.1 hy with rfl|hy
 ·exact⟨h0,h1⟩
 ·exact h y hy
theorem IsL.tail{x:Int}{l:List Int}(h:IsL (x::l)):IsL l:=fun y hy=>h y (xah _ hy)
theorem IsL.head{x:Int}{l:List Int}(h:IsL (x::l)):0≤x∧x<4294967296:=h x xcl
theorem IsL.take{l:List Int}(h:IsL l)(k:Nat):IsL (l.take k):=fun y hy=>h y (xbv hy)
theorem IsL.getD{l:List Int}(h:IsL l)(i:Nat):0≤l.getD i 0∧l.getD i 0<4294967296:=by
 rw[xab]
 cases hi:l[i]? with
 |none=>simp
 |some x=>
  obtain⟨h1,h2⟩:=xdp.1 hi
  exact h x (h2▸xbe h1)
theorem IsL.set{l:List Int}(h:IsL l)(i:Nat){x:Int}(h0:0≤x)(h1:x<4294967296):IsL (l.set i x):=fun y hy=>by
 rcases List.mem_or_eq_of_mem_set hy with hy|rfl
 ·exact h y hy
 ·exact⟨h0,h1⟩
theorem IsL.zeros(n:Nat):IsL (List.replicate n 0):=fun y hy=>by rw[xex hy];omega
theorem zjz:∀(a b:List Int),nv (a++b)=nv a+4294967296^a.length*nv b
 | [],b=>by simp[nv]
 |x::a,b=>by
  simp only[xbn,nv,zjz a b,xat,xbo]
  generalize 4294967296^a.length=P
  rw[xcb,xcn,←xba,xbk P 4294967296]
theorem zea:∀n:Nat,nv (List.replicate n 0)=0
 | 0=>rfl
 |n+1=>by simp[List.replicate_succ,nv,zea n]
theorem zsg:∀{l:List Int},IsL l→nv l<4294967296^l.length
 | [],_=>by simp[nv]
 |x::l,h=>by
  have ih:=zsg h.tail
  have hx:=h.head
  simp only[nv,xat,xbo]
  generalize 4294967296^l.length=P at *
  have:x.toNat<4294967296:=by omega
  omega
theorem NF.tail{x:Int}{l:List Int}(h:NF (x::l)):NF l:=⟨h.1.tail,fun he=>h.2 (by
 cases l with
 |nil=>simp at he
 |cons y l=>rw[List.getLast?_cons_cons];exact he)⟩
theorem NF.nil:NF []:=⟨IsL.nil,by simp⟩
theorem NF.pos:∀{l:List Int},NF l→l≠ []→0<nv l
 | [],_,h=>absurd rfl h
 | [x],h,_=>by
  have hx:=h.1.head
  have:x≠0:=fun e=>h.2 (by simp[e])
  simp only[nv];omega
 |x::y::l,h,_=>by
  have:=NF.pos h.tail (by simp)
  simp only[nv]at this ⊢;omega
theorem nv_inj:∀{a b:List Int},NF a→NF b→nv a=nv b→a=b
 | [],[],_,_,_=>rfl
 | [],y::b,_,hb,h=>absurd (NF.pos hb (by simp)) (by rw[←h];simp[nv])
 |x::a,[],ha,_,h=>absurd (NF.pos ha (by simp)) (by rw[h];simp[nv])
 |x::a,y::b,ha,hb,h=>by
  have hx:=ha.1.head
  have hy:=hb.1.head
  simp only[nv]at h
  have h1:nv a=nv b:=by omega
  have h2:x=y:=by omega
  rw[h2,nv_inj ha.tail hb.tail h1]
def zas(n:Nat):List Int:=if h:n=0 then []else((n%4294967296:Nat):Int)::zas (n/4294967296)
 termination_by n
 decreasing_by exact Nat.div_lt_self (xfe h) (by omega)
theorem zdn:zas 0=[]:=by rw[zas];simp
theorem zkh{n:Nat}(h:n≠0):zas n=((n%4294967296:Nat):Int)::zas (n/4294967296):=by rw[zas];simp[h]
theorem zsh(n:Nat):NF (zas n)∧nv (zas n)=n:=by
 induction n using Nat.strongRecOn with
 |_ n ih=>
  by_cases h:n=0
  ·subst h;rw[zdn];exact⟨NF.nil,rfl⟩
  ·have⟨h1,h2⟩:=ih (n/4294967296) (Nat.div_lt_self (by omega) (by omega))
   rw[zkh h]
   refine⟨⟨h1.1.cons (by omega) (by omega),?_⟩,?_⟩
   ·cases hl:zas (n/4294967296)with
    |nil=>
     rw[hl]at h2
     simp only[nv]at h2
     simp only[List.getLast?_singleton,ne_eq,xai]
     omega
    |cons y l=>
     rw[List.getLast?_cons_cons,←hl]
     exact h1.2
   ·simp only[nv,h2];omega
theorem zkx(n:Nat):NF (zas n):=(zsh n).1
theorem zak(n:Nat):IsL (zas n):=(zsh n).1.1
theorem zaq(n:Nat):nv (zas n)=n:=(zsh n).2
theorem limbs_nv{l:List Int}(h:NF l):zas (nv l)=l:=nv_inj (zkx _) h (zaq _)
theorem limbs_nil{n:Nat}:zas n=[]↔n=0:=⟨fun h=>by rw[←zaq n,h];rfl,fun h=>by rw[h,zdn]⟩
theorem zhe{n:Nat}:0<(zas n).length↔0<n:=by
 rw[xce,ne_eq,limbs_nil];omega
theorem zay(n:Nat):∀k:Nat,(zas n).length≤k↔n<4294967296^k:=by
 induction n using Nat.strongRecOn with
 |_ n ih=>
  intro k
  by_cases h:n=0
  ·subst h;rw[zdn];simp;exact xfv (by omega)
  ·rw[zkh h,xat]
   cases k with
   |zero=>simp;omega
   |succ k=>
    have:=ih (n/4294967296) (Nat.div_lt_self (by omega) (by omega)) k
    rw[Nat.succ_le_succ_iff,this,xbo]
    exact xdq (by omega)
theorem zjs(l:List Int){n:Nat}(h:n<l.length):l.take (n+1)=l.take n++[l.getD n 0]:=by
 rw[xfm,xab,xae h];rfl
theorem take_tlen{l:List Int}(h:IsL l):∀n,n≤l.length→l.take (tlen l n)=zas (nv (l.take n))
 | 0,_=>by simp[tlen,nv,zdn]
 |n+1,hn=>by
  have ih:=take_tlen h n (by omega)
  have hs:=zjs l (n:=n) (by omega)
  unfold tlen
  split
  ·rename_i h0
   rw[ih,hs,zjz,h0];simp[nv]
  ·rename_i h0
   refine(limbs_nv ⟨h.take _,?_⟩).symm
   rw[hs,List.getLast?_append];simp;exact h0
theorem take_tl{l:List Int}(h:IsL l):l.take (tlen l l.length)=zas (nv l):=by
 have:=take_tlen h l.length (Nat.le_refl _)
 rwa[xay]at this
theorem tlen_eq{l:List Int}(h:IsL l):tlen l l.length=(zas (nv l)).length:=by
 have:=xbb List.length (take_tl h)
 rw[xao,xfh (tlen_le _ _)]at this
 exact this
theorem limbs_le{l:List Int}(h:IsL l):(zas (nv l)).length≤l.length:=by rw[←tlen_eq h];exact tlen_le _ _
theorem digit_low{U V W top s t u0 z q r h:Nat}(hV:V=(h*4294967296+s)*W+t)(hU:U=(top*4294967296+u0)*W+z)(hz:z<W)(hq:q*h+r=top)(hc:r*4294967296+u0<q*s):U<q*V:=by
 have h1:(top*4294967296+u0)+1≤q*(h*4294967296+s):=by
  rw[←hq,xcb,xbp,←xba];omega
 have h2:=xaj W h1
 rw[xbp,Nat.one_mul]at h2
 rw[hV,xcb,←xba,hU]
 omega
theorem zqx{U V W top s t u0 z q r h:Nat}(hV:V=(h*4294967296+s)*W+t)(hU:U=(top*4294967296+u0)*W+z)(ht:t<W)(hh:1≤h)(hq:q*h+r=top)(hq2:q<4294967296)(hc:q*s≤r*4294967296+u0):q*V<U+V:=by
 have h1:q*(h*4294967296+s)≤top*4294967296+u0:=by
  rw[←hq,xcb,xbp,←xba];omega
 have h2:=xaj W h1
 have h3:q*t≤4294967296*W:=Nat.mul_le_mul (by omega) (by omega)
 have h4:q*t<4294967296*W:=by
  rcases xch q with h0|h0
  ·subst h0;rw[xed];omega
  ·exact xap (Nat.mul_lt_mul_of_pos_left ht h0) (xaj _ (by omega))
 have h5:4294967296*W≤V:=by
  rw[hV]
  have:4294967296*W≤(h*4294967296+s)*W:=xaj _ (by omega)
  omega
 have h6:q*V=q*(h*4294967296+s)*W+q*t:=by rw[hV,xcb,←xba]
 omega
end Go.Proofs.YtamgmpngdmnadaaGreat
namespace Go.Proofs.YtamgmpngdmnadaaGreat
open Go Go.X
theorem zrj(i:Nat):0<4294967296^i:=xfv (by decide)
theorem nv_split(l:List Int)(i:Nat)(h:i≤l.length):nv l=nv (l.take i)+4294967296^i*nv (l.drop i):=by
 have:=zjz (l.take i) (l.drop i)
 rw[xcx,xao,xfh h]at this
 exact this
theorem nv_drop{l:List Int}(hl:IsL l){i:Nat}(h:i≤l.length):nv (l.drop i)=nv l/4294967296^i:=by
 have h1:=zsg (hl.take i)
 rw[xao,xfh h]at h1
 rw[nv_split l i h,xie _ _ (zrj i),xfa h1,Nat.zero_add]
theorem zpi(l:List Int){i:Nat}(h:i<l.length):l.drop i=l.getD i 0::l.drop (i+1):=by
 rw[xab,xae h]
 exact List.drop_eq_getElem_cons h
theorem zfz{l:List Int}(hl:IsL l)(i:Nat):l.getD i 0=((nv l/4294967296^i%4294967296:Nat):Int):=by
 by_cases h:i<l.length
 ·have h1:=nv_drop hl (xfz h)
  rw[zpi l h]at h1
  simp only[nv]at h1
  have h2:=hl.getD i
  rw[←h1]
  omega
 ·have h1:=zsg hl
  rw[xab,xcf (by omega)]
  have h2:nv l<4294967296^i:=xap h1 (xer (by decide) (by omega))
  rw[xfa h2]
  rfl
theorem zjy:∀(l:List Int) (i:Nat) (x:Int),i<l.length→nv (l.set i x)+4294967296^i*(l.getD i 0).toNat=nv l+4294967296^i*x.toNat
 | [],i,x,h=>by simp at h
 |y::l,0,x,h=>by simp[nv];omega
 |y::l,i+1,x,h=>by
  have ih:=zjy l i x (by simpa using h)
  simp only[List.set_cons_succ,nv,xgx,xbo]
  generalize hP:4294967296^i=P at ih ⊢
  generalize(l.getD i 0).toNat=c at ih ⊢
  generalize x.toNat=e at ih ⊢
  have e1:P*4294967296*c=4294967296*(P*c):=by rw[xbk P 4294967296,xba]
  have e2:P*4294967296*e=4294967296*(P*e):=by rw[xbk P 4294967296,xba]
  rw[e1,e2]
  omega
theorem zlm{l:List Int}(hl:IsL l){i:Nat}(x:Int)(h:i<l.length)(h0:nv l<4294967296^i):nv (l.set i x)=nv l+4294967296^i*x.toNat:=by
 have h1:=zjy l i x h
 rw[zfz hl,xfa h0]at h1
 simpa using h1
theorem zbq{n:Nat}(h:n≤4294967296):decide ((n:Int)≤LIM)=true:=by
 rw[zfx];exact decide_eq_true (by omega)
theorem lim_ok'{n:Int}(h:n≤4294967296):decide (n≤LIM)=true:=by
 rw[zfx];exact decide_eq_true h
theorem zcg{l:List Int}(h:IsL l):l.take (zar l)=zas (nv l):=take_tl h
theorem zbm{l:List Int}(h:IsL l):(zas (nv l)).length≤l.length:=limbs_le h
theorem zbo{n:Int}(h0:0≤n)(h1:n<18446744073709551616):wu64 n=n:=by
 show IntKind.u64.wrap n=n
 simp[IntKind.wrap,IntKind.bits,IntKind.signed];omega
theorem zjn(n:Int):wu32 n=n%4294967296:=by
 show IntKind.u32.wrap n=_
 simp[IntKind.wrap,IntKind.bits,IntKind.signed]
theorem wu64_mod(n:Int):wu64 n=n%18446744073709551616:=by
 show IntKind.u64.wrap n=_
 simp[IntKind.wrap,IntKind.bits,IntKind.signed]
theorem zbj{n:Int}(h0:-9223372036854775808≤n)(h1:n≤9223372036854775807):w n=n:=IntWalk.i64_in n ⟨h0,h1⟩
theorem sh32(n:Int):Int.fdiv n (2^(min (Int.toNat 32) 64))=n/4294967296:=by
 show Int.fdiv n 4294967296=_
 exact xhc n (by decide)
theorem zal{α β R:Type}(f:α→β)(g:(α→β)→Option R):letJ f g=g f:=by
 cases h:letJ f g
 ·exact h.symm
 ·exact h.symm
theorem zbv{α β γ:Type}{f:α→Option (α⊕β)}{k:β→Option γ}{a0:α}{Q:Option γ→Prop}(R:Nat→α→Prop)(n:Nat)(h0:R 0 a0)(hs:∀i a,i<n→R i a→∃a',f a=some (.inl a')∧R (i+1) a')(he:∀a,R n a→∃b,f a=some (.inr b)∧Q (k b)):Q ((zae f a0).bind k):=by
 have key:∀m i a,i+m=n→R i a→∃b,zae f a=some b∧Q (k b):=by
  intro m
  induction m with
  |zero=>
   intro i a hi hr
   obtain rfl:i=n:=by omega
   obtain⟨b,h1,h2⟩:=he a hr
   exact⟨b,zex h1,h2⟩
  |succ m ih=>
   intro i a hi hr
   obtain⟨a',h1,h2⟩:=hs i a (by omega) hr
   obtain⟨b,h3,h4⟩:=ih (i+1) a' (by omega) h2
   exact⟨b,zip h1 h3,h4⟩
 obtain⟨b,h1,h2⟩:=key n 0 a0 (by omega) h0
 rw[h1]
 exact h2
end Go.Proofs.YtamgmpngdmnadaaGreat
namespace Go.Proofs.YtamgmpngdmnadaaGreat
open Go Go.X
theorem zsv{xs:List Int}(h:xs.length≤4294967296):d228 xs=some xs:=by
 unfold d228;rw[zbq h];rfl
theorem zhm{a:List Int}(ha:IsL a)(h:a.length≤4294967296):d226 a=some (zas (nv a)):=by
 unfold d226
 have:=zbm ha
 rw[zbq h,cond_true,Option.bind_some,zcg ha,zsv (by omega)]
 rfl
theorem zpl{n:Int}(h0:0≤n)(h1:n<18446744073709551616):d166 n=some (zas n.toNat):=by
 unfold d166
 have e1:wu32 n=n%4294967296:=zjn n
 have e2:wu32 (wu64 (Int.fdiv n (2^(min (Int.toNat 32) 64))))=n/4294967296:=by
  rw[sh32,zbo (by omega) (by omega),zjn]
  omega
 rw[e1,e2]
 have hL:IsL [n%4294967296,n/4294967296]:=IsL.cons (by omega) (by omega) (IsL.cons (by omega) (by omega) IsL.nil)
 rw[zhm hL (by simp)]
 have:nv [n%4294967296,n/4294967296]=n.toNat:=by simp only[nv];omega
 rw[this]
 rfl
theorem d297_eq{a:List Int}(ha:IsL a){i:Int}(h0:0≤i):d297 a i=some (a.getD i.toNat 0):=by
 unfold d297
 have hg:=ha.getD i.toNat
 by_cases h:i<(a.length:Int)
 ·simp only[h,h0,xaq,cond_true,xad]
  rw[zbo hg.1 (by omega)]
 ·simp only[h,xbt,xac]
  rw[xab,xcf (by omega)]
  rfl
theorem zhl{a:List Int}(ha:IsL a)(i:Nat):d297 a (i:Int)=some (a.getD i 0):=by
 rw[d297_eq ha (by omega)];rfl
def cmpN(x y:Nat):Int:=if x<y then -1 else if y<x then 1 else 0
theorem zid{l:List Int}{k:Nat}(h:k<l.length):nv (l.take (k+1))=nv (l.take k)+4294967296^k*(l.getD k 0).toNat:=by
 rw[zjs l h,zjz,xao,xfh (by omega)]
 simp[nv]
theorem top_lt{l:List Int}(hl:IsL l)(k:Nat):nv (l.take k)<4294967296^k:=by
 have h1:=zsg (hl.take k)
 exact xap h1 (xer (by decide) (by rw[xao];omega))
theorem digit_cmp{P p q x y:Nat}(hp:p<P)(hq:q<P)(h:x<y):p+P*x<q+P*y:=by
 have:P*(x+1)≤P*y:=xcp _ h
 rw[xcb,xda]at this
 omega
theorem d265_eq{a b:List Int}(ha:IsL a)(hb:IsL b)(la:a.length≤4294967296)(lb:b.length≤4294967296):d265 a b=some (cmpN (nv a) (nv b)):=by
 unfold d265
 rw[zbq la,zbq lb]
 simp only[cond_true,Option.bind_some,zcg ha,zcg hb]
 have hla:=zbm ha
 have hlb:=zbm hb
 have hA:=zak (nv a)
 have hB:=zak (nv b)
 have eA:=zaq (nv a)
 have eB:=zaq (nv b)
 have cA:=zay (nv a)
 have cB:=zay (nv b)
 generalize hxA:zas (nv a)=A at *
 generalize hxB:zas (nv b)=B at *
 by_cases hne:A.length=B.length
 ·have e1:decide ((A.length:Int)=(B.length:Int))=true:=decide_eq_true (by omega)
  simp only[e1,xam,xac]
  have key:∀k,k≤A.length→nv (A.drop k)=nv (B.drop k)→(zae (β:=Unit⊕Int) (fun((a_1,b_1,i):(List Int)×(List Int)×Int)=>
    bif (decide (0≤i))then
     bif (decide (0≤i)&&decide (i<(a_1.length:Int)))then
      bif (decide (0≤i)&&decide (i<(b_1.length:Int)))then
       bif (decide ((List.getD a_1 (Int.toNat i) 0)<(List.getD b_1 (Int.toNat i) 0)))then
        some (Sum.inr (Sum.inr (-1)))
       else
        bif (decide (0≤i)&&decide (i<(a_1.length:Int)))then
         bif (decide (0≤i)&&decide (i<(b_1.length:Int)))then
          bif (decide ((List.getD b_1 (Int.toNat i) 0)<(List.getD a_1 (Int.toNat i) 0)))then
           some (Sum.inr (Sum.inr 1))
          else
           some (Sum.inl (a_1,b_1,(w (i-1))))
         else none
        else none
      else none
     else none
    else
     some (Sum.inr (Sum.inl ()))) (A,B,(k:Int)-1)).bind (fun
  |Sum.inl _=>
   some 0
  |Sum.inr t4=>
   some t4)=some (cmpN (nv (A.take k)) (nv (B.take k))):=by
   intro k
   induction k with
   |zero=>
    intro _ _
    rw[zex (b:=Sum.inl ()) (by rfl)]
    rfl
   |succ k ih=>
    intro hk hd
    have hkA:k<A.length:=by omega
    have hkB:k<B.length:=by omega
    have i1:((k+1:Nat):Int)-1=(k:Int):=by omega
    rw[i1]
    have d0:decide ((0:Int)≤(k:Int))=true:=decide_eq_true (by omega)
    have dA:decide ((k:Int)<(A.length:Int))=true:=decide_eq_true (by omega)
    have dB:decide ((k:Int)<(B.length:Int))=true:=decide_eq_true (by omega)
    have tA:=zid hkA
    have tB:=zid hkB
    have lA:=top_lt hA k
    have lB:=top_lt hB k
    have gA:=hA.getD k
    have gB:=hB.getD k
    rw[tA,tB]
    have hkn:Int.toNat (k:Int)=k:=rfl
    rcases Int.lt_trichotomy (A.getD k 0) (B.getD k 0)with h|h|h
    ·rw[zex (b:=Sum.inr (-1)) (by simp only[d0,dA,dB,hkn,decide_eq_true h,cond_true,xad])]
     have:=digit_cmp lA lB (show(A.getD k 0).toNat<(B.getD k 0).toNat by omega)
     simp only[Option.bind_some]
     unfold cmpN
     rw[if_pos this]
    ·have hd':nv (A.drop k)=nv (B.drop k):=by
      rw[zpi A hkA,zpi B hkB]
      simp only[nv,hd,h]
     have:=ih (by omega) hd'
     have hw:w ((k:Int)-1)=(k:Int)-1:=zbj (by omega) (by omega)
     obtain⟨z,hz⟩:∃z,cmpN (nv (A.take k)+4294967296^k*(A.getD k 0).toNat) (nv (B.take k)+4294967296^k*(B.getD k 0).toNat)=z:=⟨_,rfl⟩
     have hzz:cmpN (nv (A.take k)) (nv (B.take k))=z:=by
      rw[←hz,h];unfold cmpN
      generalize 4294967296^k*(B.getD k 0).toNat=q
      (repeat' split)<;>omega
     rw[hz]
     rw[hzz]at this
     simp only[xaz]at this ⊢
     obtain⟨b,hb1,hb2⟩:=this
     refine⟨b,zip ?_ hb1,hb2⟩
     have n1:decide (A.getD k 0<B.getD k 0)=false:=decide_eq_false (by omega)
     have n2:decide (B.getD k 0<A.getD k 0)=false:=decide_eq_false (by omega)
     simp only[d0,dA,dB,hkn,n1,n2,cond_true,xac,xad,hw]
    ·have n1:decide (A.getD k 0<B.getD k 0)=false:=decide_eq_false (by omega)
     rw[zex (b:=Sum.inr 1) (by simp only[d0,dA,dB,hkn,n1,decide_eq_true h,cond_true,xac,xad])]
     have:=digit_cmp lB lA (show(B.getD k 0).toNat<(A.getD k 0).toNat by omega)
     simp only[Option.bind_some]
     unfold cmpN
     rw[if_neg (by omega),if_pos this]
  have:=key A.length (Nat.le_refl _) (by rw[List.drop_length,hne,List.drop_length])
  rw[xay,hne,xay,eA,eB]at this
  rw[zbj (by omega) (by omega),hne]
  exact this
 ·have e1:decide ((A.length:Int)=(B.length:Int))=false:=decide_eq_false (by omega)
  simp only[e1,xak,cond_true]
  rcases xdb A.length B.length with h|h
  ·have e2:decide ((A.length:Int)<(B.length:Int))=true:=decide_eq_true (by omega)
   have h1:=(cA A.length).1 (Nat.le_refl _)
   have h2:¬nv b<4294967296^A.length:=fun hh=>by have:=(cB A.length).2 hh;omega
   simp only[e2,cond_true]
   unfold cmpN
   rw[if_pos (by omega)]
  ·have e2:decide ((A.length:Int)<(B.length:Int))=false:=decide_eq_false (by omega)
   have h1:=(cB B.length).1 (Nat.le_refl _)
   have h2:¬nv a<4294967296^B.length:=fun hh=>by have:=(cA B.length).2 hh;omega
   simp only[e2,xac]
   unfold cmpN
   rw[if_neg (by omega),if_pos (by omega)]
end Go.Proofs.YtamgmpngdmnadaaGreat
namespace Go.Proofs.YtamgmpngdmnadaaGreat
open Go Go.X
theorem nv_takeS{l:List Int}(k:Nat):nv (l.take (k+1))=nv (l.take k)+4294967296^k*(l.getD k 0).toNat:=by
 by_cases h:k<l.length
 ·exact zid h
 ·rw[xav (by omega),xav (by omega),xab,xcf (by omega)]
  simp
theorem zed{l:List Int}(hl:IsL l)(k:Nat):∃x:Nat,l.getD k 0=(x:Int)∧x<4294967296∧nv (l.take (k+1))=nv (l.take k)+4294967296^k*x:=by
 have:=hl.getD k
 refine⟨(l.getD k 0).toNat,by omega,by omega,nv_takeS k⟩
theorem pow_digit{P v x:Nat}(hv:v<P)(hx:x<4294967296):v+P*x<P*4294967296:=by
 have:P*(x+1)≤P*4294967296:=xcp _ hx
 rw[xcb,xda]at this
 omega
theorem lenmax(x y:Nat):(bif decide ((x:Int)<(y:Int))then(y:Int)else(x:Int))=((max x y:Nat):Int):=by
 by_cases h:(x:Int)<(y:Int)
 ·rw[decide_eq_true h,cond_true];omega
 ·rw[decide_eq_false h,xac];omega
theorem carry_step{P v s lo hi c x y a b:Nat}(hs:s=x+y+c)(hlo:lo=s%4294967296)(hhi:hi=s/4294967296)(h:v+P*c=a+b):v+P*lo+P*4294967296*hi=a+P*x+(b+P*y):=by
 have e:s=lo+4294967296*hi:=by omega
 have:P*s=P*lo+P*4294967296*hi:=by rw[e,xcb,xba]
 have e2:P*s=P*x+P*y+P*c:=by rw[hs,xcb,xcb]
 omega
theorem d271_eq{a b:List Int}(ha:IsL a)(hb:IsL b)(la:a.length≤1073741824)(lb:b.length≤1073741824):d271 a b=some (zas (nv a+nv b)):=by
 unfold d271
 rw[zbq (by omega),zbq (by omega)]
 simp only[cond_true,Option.bind_some,zcg ha,zcg hb]
 have hla:=zbm ha
 have hlb:=zbm hb
 have hA:=zak (nv a)
 have hB:=zak (nv b)
 have eA:=zaq (nv a)
 have eB:=zaq (nv b)
 generalize hxA:zas (nv a)=A at *
 generalize hxB:zas (nv b)=B at *
 clear hxA hxB
 simp only[lenmax]
 obtain⟨n,hn⟩:∃n,max A.length B.length=n:=⟨_,rfl⟩
 have hnA:A.length≤n:=by omega
 have hnB:B.length≤n:=by omega
 have hn1:n≤1073741824:=by omega
 rw[hn]
 have w1:w ((n:Int)+1)=((n+1:Nat):Int):=by rw[zbj (by omega) (by omega)];omega
 have g1:decide ((0:Int)≤((n+1:Nat):Int))=true:=decide_eq_true (by omega)
 simp only[w1,xaq,g1,zbq (n:=n+1) (by omega),xad,cond_true]
 refine zbv (Q:=fun r=>r=some (zas (nv a+nv b))) (fun(i:Nat) (st:(List Int)×(List Int)×Int×(List Int)×Int×Int×Int)=>∃(out:List Int) (c:Nat),st=(A,B,(n:Int),out,(c:Int),(n:Int),(i:Int))∧IsL out∧out.length=n+1∧c≤1∧nv out+4294967296^i*c=nv (A.take i)+nv (B.take i)∧nv out<4294967296^i) n ?_ ?_ ?_
 ·exact⟨List.replicate (n+1) 0,0,rfl,IsL.zeros _,by simp,by omega,by simp[zea,nv],by simp[zea]⟩
 ·rintro i st hi ⟨out,c,rfl,hL,hlen,hc,hv,hlt⟩
  obtain⟨x,hx1,hx2,hx3⟩:=zed hA i
  obtain⟨y,hy1,hy2,hy3⟩:=zed hB i
  have q1:decide ((i:Int)<(n:Int))=true:=decide_eq_true (by omega)
  have q2:decide ((0:Int)≤(i:Int))=true:=decide_eq_true (by omega)
  have q3:decide ((i:Int)<(out.length:Int))=true:=decide_eq_true (by omega)
  have w2:w ((i:Int)+1)=((i+1:Nat):Int):=by rw[zbj (by omega) (by omega)];omega
  have s1:wu64 ((x:Int)+(y:Int))=(x:Int)+y:=zbo (by omega) (by omega)
  have s2:wu64 ((x:Int)+(y:Int)+(c:Int))=(x:Int)+y+c:=zbo (by omega) (by omega)
  have s3:wu32 ((x:Int)+(y:Int)+(c:Int))=(((x+y+c)%4294967296:Nat):Int):=by rw[zjn];omega
  have s4:wu64 (((x:Int)+(y:Int)+(c:Int))/4294967296)=(((x+y+c)/4294967296:Nat):Int):=by rw[zbo (by omega) (by omega)];omega
  simp only[zhl hA,zhl hB,q1,q2,q3,w2,hx1,hy1,s1,s2,s3,sh32,s4,cond_true,xad,Option.bind_some,show Int.toNat (i:Int)=i from rfl]
  have e1:=zlm hL (i:=i) (((x+y+c)%4294967296:Nat):Int) (by omega) hlt
  rw[Int.toNat_natCast]at e1
  refine⟨_,rfl,_,_,rfl,hL.set i (by omega) (by omega),by simpa using hlen,by omega,?_,?_⟩
  ·rw[e1,hx3,hy3,xbo]
   exact carry_step rfl rfl rfl hv
  ·rw[e1,xbo]
   exact pow_digit hlt (by omega)
 ·rintro st ⟨out,c,rfl,hL,hlen,hc,hv,hlt⟩
  have q1:decide ((n:Int)<(n:Int))=false:=decide_eq_false (by omega)
  have q2:decide ((0:Int)≤(n:Int))=true:=decide_eq_true (by omega)
  have q3:decide ((n:Int)<(out.length:Int))=true:=decide_eq_true (by omega)
  have s3:wu32 (c:Int)=(c:Int):=by rw[zjn];omega
  refine⟨((n:Int),out,(c:Int)),by simp only[q1,xac],?_⟩
  simp only[q2,q3,s3,cond_true,xad,show Int.toNat (n:Int)=n from rfl]
  have e1:=zlm hL (i:=n) (c:Int) (by omega) hlt
  rw[Int.toNat_natCast]at e1
  rw[xav hnA,xav hnB,eA,eB]at hv
  rw[zhm (hL.set n (by omega) (by omega)) (by simp;omega),e1,hv]
  rfl
end Go.Proofs.YtamgmpngdmnadaaGreat
namespace Go.Proofs.YtamgmpngdmnadaaGreat
open Go Go.X
theorem zjx{l:List Int}(hl:IsL l){k m:Nat}{x:Int}(h0:0≤x)(h1:x<4294967296)(hk:k<m)(hv:nv l<4294967296^m):nv (l.set k x)<4294967296^m:=by
 have hs:=hl.set k h0 h1
 by_cases h:m≤l.length
 ·have e1:(l.set k x).drop m=l.drop m:=List.drop_set_of_lt hk
  have e2:=nv_drop hl h
  rw[xfa hv]at e2
  rw[nv_split (l.set k x) m (by simpa using h),e1,e2,xhe,xco]
  exact top_lt hs m
 ·have:=zsg hs
  rw[List.length_set]at this
  exact xap this (xer (by decide) (by omega))
theorem or_add{a b n:Nat}(h:a<2^n):a|||b*2^n=a+b*2^n:=by
 rw[Nat.or_comm,xbk b,xgk,←Nat.two_pow_add_eq_or_of_lt h b]
theorem zic(k n:Nat)(h:n<2^k):(BitVec.ofInt k (n:Int)).toNat=n:=by
 rw[BitVec.ofInt_natCast,BitVec.toNat_ofNat,xcw h]
theorem or64{a b:Nat}(ha:a<4294967296)(hb:b<4294967296):(BitVec.ofInt 64 ((a*4294967296:Nat):Int)|||BitVec.ofInt 64 (b:Int)).toNat=a*4294967296+b:=by
 rw[xid,zic 64 _ (by omega),zic 64 _ (by omega),Nat.or_comm]
 have:=or_add (a:=b) (b:=a) (n:=32) hb
 rw[show(2:Nat)^32=4294967296 from rfl]at this
 rw[this];omega
theorem zaz{n:Nat}(h:n<18446744073709551616):wu64 (n:Int)=(n:Int):=zbo (by omega) (by omega)
theorem zdh{n:Nat}:wu32 (n:Int)=((n%4294967296:Nat):Int):=by rw[zjn];omega
theorem shl32(n:Nat):(n:Int)*2^(min (Int.toNat 32) 64)=((n*4294967296:Nat):Int):=by
 show(n:Int)*4294967296=_
 omega
theorem shr32(n:Nat):Int.fdiv (n:Int) (2^(min (Int.toNat 32) 64))=((n/4294967296:Nat):Int):=by
 rw[sh32];omega
theorem or64w{a b:Nat}(ha:a<4294967296)(hb:b<4294967296):wu64 (((BitVec.ofInt 64 (wu64 ((a:Int)*2^(min (Int.toNat 32) 64)))|||BitVec.ofInt 64 (wu64 (b:Int))).toNat:Nat):Int)=((a*4294967296+b:Nat):Int):=by
 rw[shl32,zaz (n:=a*4294967296) (by omega),zaz (n:=b) (by omega),or64 ha hb,zaz (by omega)]
theorem wadd{a b:Nat}(h:a+b≤9223372036854775807):w ((a:Int)+(b:Int))=((a+b:Nat):Int):=by rw[zbj (by omega) (by omega)];omega
theorem zav{a:Nat}(h:a<9223372036854775807):w ((a:Int)+1)=((a+1:Nat):Int):=by rw[zbj (by omega) (by omega)];omega
theorem zrl{a:Nat}(h:a<9223372036854775807):w (((a+1:Nat):Int)-1)=(a:Int):=by rw[zbj (by omega) (by omega)];omega
theorem dlt{a b:Nat}(h:a<b):decide ((a:Int)<(b:Int))=true:=decide_eq_true (by omega)
theorem nlt{a b:Nat}(h:b≤a):decide ((a:Int)<(b:Int))=false:=decide_eq_false (by omega)
theorem d0le(a:Nat):decide ((0:Int)≤(a:Int))=true:=decide_eq_true (by omega)
theorem tn(a:Nat):Int.toNat (a:Int)=a:=rfl
theorem cmpN_lt(x y:Nat):decide (cmpN x y<0)=decide (x<y):=by
 unfold cmpN
 by_cases h:x<y
 ·rw[if_pos h,decide_eq_true h];rfl
 ·rw[if_neg h,decide_eq_false h];split<;>rfl
theorem zdz{x y:Nat}(h:x≤y):(zas x).length≤(zas y).length:=by
 have h1:=(zay y (zas y).length).1 (Nat.le_refl _)
 exact(zay x _).2 (by omega)
theorem borrow_step{P v s lo h c c' x y a b:Nat}(hs:s+y+c=4294967296+x)(hlo:s=lo+4294967296*h)(hc:c'+h=1)(e:v+b=a+P*c):v+P*lo+(b+P*y)=a+P*x+P*4294967296*c':=by
 have e1:lo+y+c=x+4294967296*c':=by omega
 have e2:=xbb (P * ·) e1
 simp only[xcb,←xba]at e2
 omega
theorem d272_eq{a b:List Int}(ha:IsL a)(hb:IsL b)(la:a.length≤1073741824)(lb:b.length≤1073741824):d272 a b=some (if nv a<nv b then([],false)else(zas (nv a-nv b),true)):=by
 unfold d272
 rw[zbq (by omega),zbq (by omega)]
 simp only[cond_true,Option.bind_some,zcg ha,zcg hb]
 have hla:=zbm ha
 have hlb:=zbm hb
 have hA:=zak (nv a)
 have hB:=zak (nv b)
 have eA:=zaq (nv a)
 have eB:=zaq (nv b)
 have hm:=@zdz (nv b) (nv a)
 generalize hxA:zas (nv a)=A at *
 generalize hxB:zas (nv b)=B at *
 clear hxA hxB
 rw[d265_eq hA hB (by omega) (by omega),eA,eB]
 simp only[Option.bind_some,cmpN_lt]
 by_cases hlt:nv a<nv b
 ·rw[decide_eq_true hlt,if_pos hlt];rfl
 rw[decide_eq_false hlt,if_neg hlt]
 have hBA:=hm (by omega)
 simp only[xac,xaq,d0le,zbq (n:=A.length) (by omega),xad,cond_true,tn]
 refine zbv (Q:=fun r=>r=some (zas (nv a-nv b),true)) (fun(i:Nat) (st:(List Int)×(List Int)×(List Int)×Int×Int×Int)=>∃(out:List Int) (c:Nat),st=(A,B,out,(c:Int),(A.length:Int),(i:Int))∧IsL out∧out.length=A.length∧c≤1∧nv out+nv (B.take i)=nv (A.take i)+4294967296^i*c∧nv out<4294967296^i) A.length ?_ ?_ ?_
 ·exact⟨List.replicate A.length 0,0,rfl,IsL.zeros _,by simp,by omega,by simp[zea,nv],by simp[zea]⟩
 ·rintro i st hi ⟨out,c,rfl,hL,hlen,hc,hv,hv2⟩
  obtain⟨x,hx1,hx2,hx3⟩:=zed hA i
  obtain⟨y,hy1,hy2,hy3⟩:=zed hB i
  obtain⟨s,hs⟩:∃s,4294967296+x-y-c=s:=⟨_,rfl⟩
  have s1:wu64 (4294967296+(x:Int))=4294967296+(x:Int):=zbo (by omega) (by omega)
  have s2:wu64 (4294967296+(x:Int)-(y:Int))=4294967296+(x:Int)-y:=zbo (by omega) (by omega)
  have s3:wu64 (4294967296+(x:Int)-(y:Int)-(c:Int))=(s:Int):=by rw[zbo (by omega) (by omega)];omega
  have s4:wu64 (((s/4294967296:Nat):Int))=((s/4294967296:Nat):Int):=zaz (by omega)
  have s5:wu64 (1-((s/4294967296:Nat):Int))=((1-s/4294967296:Nat):Int):=by rw[zbo (by omega) (by omega)];omega
  simp only[zhl hA,zhl hB,dlt hi,d0le,dlt (show i<out.length by omega),zav (show i<9223372036854775807 by omega),hx1,hy1,s1,s2,s3,shr32,s4,s5,zdh,cond_true,xad,Option.bind_some,tn]
  have e1:=zlm hL (i:=i) (((s%4294967296:Nat):Int)) (by omega) hv2
  rw[Int.toNat_natCast]at e1
  refine⟨_,rfl,_,_,rfl,hL.set i (by omega) (by omega),by simpa using hlen,by omega,?_,?_⟩
  ·rw[e1,hx3,hy3,xbo]
   exact borrow_step (s:=s) (h:=s/4294967296) (by omega) (by omega) (by omega) hv
  ·rw[e1,xbo]
   exact pow_digit hv2 (by omega)
 ·rintro st ⟨out,c,rfl,hL,hlen,hc,hv,hv2⟩
  refine⟨out,by simp only[nlt (Nat.le_refl A.length),xac],?_⟩
  rw[xav (Nat.le_refl _),xav hBA,eA,eB]at hv
  have hc0:c=0:=by
   rcases xch c with h|h
   ·exact h
   ·have:c=1:=by omega
    subst this
    omega
  subst hc0
  show(d226 out).bind _=_
  rw[zhm hL (by omega),show nv out=nv a-nv b by omega]
  rfl
theorem mul_step{P v s lo hi c x y o t:Nat}(hs:s=x*y+o+c)(hlo:s=lo+4294967296*hi):P*lo+P*4294967296*hi=P*(x*y)+P*o+P*c:=by
 have e2:=xbb (P * ·) (hlo.symm.trans hs)
 simp only[xcb,←xba]at e2 ⊢
 omega
theorem zjl{a b:List Int}(ha:IsL a)(hb:IsL b)(la:a.length≤1073741824)(lb:b.length≤1073741824):d231 a b=some (zas (nv a*nv b)):=by
 unfold d231
 rw[zbq (by omega),zbq (by omega)]
 simp only[cond_true,Option.bind_some,zcg ha,zcg hb]
 have hla:=zbm ha
 have hlb:=zbm hb
 have hA:=zak (nv a)
 have hB:=zak (nv b)
 have eA:=zaq (nv a)
 have eB:=zaq (nv b)
 generalize hxA:zas (nv a)=A at *
 generalize hxB:zas (nv b)=B at *
 clear hxA hxB
 simp only[wadd (show A.length+B.length≤9223372036854775807 by omega),xaq,d0le,zbq (n:=A.length+B.length) (by omega),xad,cond_true,tn]
 refine zbv (Q:=fun r=>r=some (zas (nv a*nv b))) (fun(i:Nat) (st:(List Int)×(List Int)×(List Int)×Int×Int)=>∃(out:List Int),st=(B,out,A,(A.length:Int),(i:Int))∧IsL out∧out.length=A.length+B.length∧nv out=nv (A.take i)*nv B) A.length ?_ ?_ ?_
 ·exact⟨_,rfl,IsL.zeros _,by simp,by simp[zea,nv]⟩
 ·rintro i st hi ⟨out,rfl,hL,hlen,hv⟩
  obtain⟨x,hx1,hx2,hx3⟩:=zed hA i
  have hlt0:nv out<4294967296^(i+B.length):=by
   rw[hv,xdk]
   exact Nat.mul_lt_mul'' (top_lt hA i) (zsg hB)
  simp only[dlt hi,d0le,cond_true,xad,tn,hx1]
  refine zbv (Q:=fun(r:Option (((List Int)×(List Int)×(List Int)×Int×Int)⊕(List Int)))=>∃a',r=some (.inl a')∧∃(out:List Int),a'=(B,out,A,(A.length:Int),((i+1:Nat):Int))∧IsL out∧out.length=A.length+B.length∧nv out=nv (A.take (i+1))*nv B)
   (fun(j:Nat) (st:(List Int)×(List Int)×Int×Int×Int×(List Int)×Int×Int×(List Int)×Int×Int)=>∃(o:List Int) (c:Nat),st=(B,o,(i:Int),(x:Int),(c:Int),A,(A.length:Int),(i:Int),B,(B.length:Int),(j:Int))∧IsL o∧o.length=A.length+B.length∧c<4294967296∧nv o+4294967296^i*4294967296^j*c=nv out+4294967296^i*(x*nv (B.take j))∧nv o<4294967296^(i+B.length)) B.length ?_ ?_ ?_
  ·exact⟨out,0,rfl,hL,hlen,by omega,by simp[nv],hlt0⟩
  ·rintro j st hj ⟨o,c,rfl,hL',hlen',hc,hv',hlt'⟩
   obtain⟨y,hy1,hy2,hy3⟩:=zed hB j
   have hz:=hL'.getD (i+j)
   obtain⟨z,hz1⟩:∃z:Nat,o.getD (i+j) 0=(z:Int):=⟨_,(xgz hz.1).symm⟩
   rw[hz1]at hz
   obtain⟨p,hp⟩:∃p,x*y=p:=⟨_,rfl⟩
   have hpl:p≤4294967295*4294967295:=by rw[←hp];exact Nat.mul_le_mul (by omega) (by omega)
   have hxy:(x:Int)*(y:Int)=(p:Int):=by rw[←hp];simp
   have s1:wu64 ((p:Int)+(z:Int))=((p+z:Nat):Int):=by rw[zbo (by omega) (by omega)];omega
   have s2:wu64 (((p+z:Nat):Int)+(c:Int))=((p+z+c:Nat):Int):=by rw[zbo (by omega) (by omega)];omega
   obtain⟨s,hs⟩:∃s,p+z+c=s:=⟨_,rfl⟩
   have s4:wu64 (((s/4294967296:Nat):Int))=((s/4294967296:Nat):Int):=zaz (by omega)
   simp only[dlt hj,d0le,wadd (show i+j≤9223372036854775807 by omega),dlt (show i+j<o.length by omega),cond_true,xad,tn,hy1,hz1,zaz (show x<18446744073709551616 by omega),zaz (show y<18446744073709551616 by omega),zaz (show z<18446744073709551616 by omega),hxy,zaz (show p<18446744073709551616 by omega),s1,s2,hs,zdh,shr32,s4,zav (show j<9223372036854775807 by omega)]
   have e1:=zjy o (i+j) (((s%4294967296:Nat):Int)) (by omega)
   rw[Int.toNat_natCast,hz1,Int.toNat_natCast]at e1
   refine⟨_,rfl,_,_,rfl,hL'.set _ (by omega) (by omega),by simpa using hlen',by omega,?_,zjx hL' (by omega) (by omega) (by omega) hlt'⟩
   rw[hy3,xbo]
   rw[xdk]at e1
   have e2:s=x*y+z+c:=by rw[hp,hs]
   have e3:=mul_step (P:=4294967296^i*4294967296^j) (v:=0) (t:=0) e2 (show s=s%4294967296+4294967296*(s/4294967296) by omega)
   have e4:4294967296^i*(x*(nv (B.take j)+4294967296^j*y))=4294967296^i*(x*nv (B.take j))+4294967296^i*4294967296^j*(x*y):=by
    rw[xcb,xcb]
    congr 1
    rw[Nat.mul_left_comm x,←xba]
   rw[e4]
   rw[←xba (4294967296^i) (4294967296^j) 4294967296]
   omega
  ·rintro st ⟨o,c,rfl,hL',hlen',hc,hv',hlt'⟩
   refine⟨_,by simp only[nlt (Nat.le_refl B.length),xac];rfl,?_⟩
   simp only[d0le,wadd (show i+B.length≤9223372036854775807 by omega),dlt (show i+B.length<o.length by omega),cond_true,xad,tn,zav (show i<9223372036854775807 by omega),zdh,xcw hc]
   have e1:=zlm hL' (i:=i+B.length) (c:Int) (by omega) hlt'
   rw[Int.toNat_natCast]at e1
   refine⟨_,rfl,_,rfl,hL'.set _ (by omega) (by omega),by simpa using hlen',?_⟩
   rw[xav (Nat.le_refl _)]at hv'
   rw[e1,hx3,xbp,xdk,hv',hv,xba]
 ·rintro st ⟨out,rfl,hL,hlen,hv⟩
  refine⟨out,by simp only[nlt (Nat.le_refl A.length),xac],?_⟩
  rw[xav (Nat.le_refl _),eA,eB]at hv
  show(d226 out).bind _=_
  rw[zhm hL (by omega),hv]
  rfl
end Go.Proofs.YtamgmpngdmnadaaGreat
namespace Go.Proofs.YtamgmpngdmnadaaGreat
open Go Go.X
theorem zqc{α β γ:Type}{f:α→Option (α⊕β)}{k:β→Option γ}{a0:α}{Q:Option γ→Prop}(R:Nat→α→Prop)(n:Nat)(h0:R n a0)(hs:∀i a,i<n→R (i+1) a→∃a',f a=some (.inl a')∧R i a')(he:∀a,R 0 a→∃b,f a=some (.inr b)∧Q (k b)):Q ((zae f a0).bind k):=by
 refine zbv (Q:=Q) (fun i a=>i≤n∧R (n-i) a) n ⟨xbf _,h0⟩ ?_ ?_
 ·rintro i a hi ⟨h1,h2⟩
  rw[show n-i=n-(i+1)+1 by omega]at h2
  obtain⟨a',h3,h4⟩:=hs (n-(i+1)) a (by omega) h2
  exact⟨a',h3,hi,h4⟩
 ·rintro a ⟨_,h⟩
  rw[Nat.sub_self]at h
  exact he a h
theorem getD_set_ne(l:List Int){i j:Nat}(x:Int)(h:i≠j):(l.set i x).getD j 0=l.getD j 0:=by
 simp only[xab,xig h]
theorem zqs(n i:Nat):(List.replicate n (0:Int)).getD i 0=0:=by
 rw[xab,xhr]
 split<;>rfl
theorem short_step{P V q r t x d X:Nat}(h:V=q*d+P*4294967296*r+(t+P*x))(hX:X=r*4294967296+x):V=(q+P*(X/d))*d+P*(X%d)+t:=by
 have e:=xfi X d
 have e1:P*X=P*(X/d)*d+P*(X%d):=by
  rw[xba,xbk (X/d),←xcb,e]
 have e2:P*X=P*4294967296*r+P*x:=by rw[hX,xcb,xba,xbk r]
 rw[xbp]
 omega
theorem d266_eq{a:List Int}(ha:IsL a)(la:a.length≤1073741824){d:Nat}(hd:0<d)(hd2:d<4294967296):∃q,d266 a (d:Int)=some (q,((nv a%d:Nat):Int))∧IsL q∧q.length=a.length∧nv q=nv a/d:=by
 unfold d266
 simp only[xaq,d0le,zbq (n:=a.length) (by omega),xad,cond_true,tn]
 have hd0:decide ((d:Int)=0)=false:=decide_eq_false (by omega)
 refine zqc (Q:=fun r=>∃q,r=some (q,((nv a%d:Nat):Int))∧IsL q∧q.length=a.length∧nv q=nv a/d) (fun(i:Nat) (st:(List Int)×Int×(List Int)×Int×Int)=>∃(q:List Int) (r:Nat),st=(a,(d:Int),q,(r:Int),(i:Int)-1)∧i≤a.length∧IsL q∧q.length=a.length∧r<d∧(∀k,k<i→q.getD k 0=0)∧nv a=nv q*d+4294967296^i*r+nv (a.take i)) a.length ?_ ?_ ?_
 ·refine⟨_,0,by rw[zbj (by omega) (by omega)];rfl,Nat.le_refl _,IsL.zeros _,by simp,hd,fun k _=>zqs _ k,by simp[zea]⟩
 ·rintro i st hi ⟨q,r,rfl,hia,hL,hlen,hr,hz,hv⟩
  obtain⟨x,hx1,hx2,hx3⟩:=zed ha i
  have hi1:(((i+1:Nat):Int))-1=(i:Int):=by omega
  obtain⟨X,hX⟩:∃X,r*4294967296+x=X:=⟨_,rfl⟩
  have hX1:X/d<4294967296:=by
   rw[xdq hd]
   have:(r+1)*4294967296≤d*4294967296:=xaj _ hr
   rw[xbk 4294967296]
   omega
  have hX2:X%d<d:=xdr _ hd
  have t1:Int.tdiv (X:Int) (d:Int)=((X/d:Nat):Int):=rfl
  have t2:Int.tmod (X:Int) (d:Int)=((X%d:Nat):Int):=rfl
  have hw:w ((i:Int)-1)=(i:Int)-1:=zbj (by omega) (by omega)
  simp only[hi1,d0le,dlt (show i<a.length by omega),dlt (show i<q.length by omega),hd0,xak,cond_true,xad,tn,hx1,or64w (show r<4294967296 by omega) hx2,hX,t1,t2,zaz (show X/d<18446744073709551616 by omega),zaz (show X%d<18446744073709551616 by omega),zdh,xcw hX1,hw]
  have e1:=zjy q i (((X/d:Nat):Int)) (by omega)
  rw[hz i (by omega),Int.toNat_natCast]at e1
  refine⟨_,rfl,_,_,rfl,by omega,hL.set i (Int.natCast_nonneg _) (by rw[show(4294967296:Int)=((4294967296:Nat):Int)from rfl];exact Int.ofNat_lt.2 hX1),by simpa using hlen,hX2,fun k hk=>by rw[getD_set_ne _ _ (by omega)];exact hz k (by omega),?_⟩
  have e2:nv (q.set i (((X/d:Nat):Int)))=nv q+4294967296^i*(X/d):=by simpa using e1
  rw[e2]
  rw[xbo,hx3]at hv
  exact short_step hv hX.symm
 ·rintro st ⟨q,r,rfl,hia,hL,hlen,hr,hz,hv⟩
  refine⟨(q,(r:Int)),rfl,q,?_,hL,hlen,?_⟩
  ·simp only[xcz,nv,xhz,Nat.one_mul,xco]at hv
   rw[hv,xbk,Nat.mul_add_mod,xcw hr]
  ·simp only[xcz,nv,xhz,Nat.one_mul,xco]at hv
   rw[hv,xbk,Nat.mul_add_div hd,xfa hr,xco]
theorem shl_nat{x n:Nat}(hn:n≤31):(x:Int)*2^(min (Int.toNat (n:Int)) 64)=((x*2^n:Nat):Int):=by
 rw[tn,show min n 64=n by omega];simp
theorem shr_nat{x n:Nat}(hn:n≤31):Int.fdiv (x:Int) (2^(min (Int.toNat (n:Int)) 64))=((x/2^n:Nat):Int):=by
 rw[tn,show min n 64=n by omega]
 have:((2:Int)^n)=((2^n:Nat):Int):=by simp
 rw[this,xhc _ (Int.natCast_nonneg _)]
 rfl
theorem zoj{n:Nat}(hn:n≤31):2^n*2^(32-n)=4294967296:=by
 rw[←xdk,show n+(32-n)=32 by omega]
theorem low_half{x n:Nat}(hn:n≤31):x*2^n%4294967296=x%2^(32-n)*2^n:=by
 rw[←zoj hn,xbk x,Nat.mul_mod_mul_left,xbk]
theorem low_top{x n o:Nat}(hn:n≤31)(ho:o<2^n):o+x*2^n%4294967296<4294967296:=by
 rw[low_half hn]
 have h1:x%2^(32-n)<2^(32-n):=xdr _ (xfv (by decide))
 have h2:=xaj (2^n) h1
 rw[xbk (2^(32-n)),zoj hn,xfy]at h2
 omega
theorem or32{o x n:Nat}(hn:n≤31)(ho:o<2^n):(BitVec.ofInt 32 (o:Int)|||BitVec.ofInt 32 ((x*2^n%4294967296:Nat):Int)).toNat=o+x*2^n%4294967296:=by
 have h2:o<4294967296:=by have:=low_top (x:=x) hn ho;omega
 rw[xid,zic 32 _ (by omega),zic 32 _ (xdr _ (by decide)),low_half hn]
 exact or_add ho
theorem left_step{P v lo hi x t T:Nat}(hv:v=t*T)(hlo:x*T=lo+4294967296*hi):v+P*lo+P*4294967296*hi=(t+P*x)*T:=by
 rw[xbp,←hv,xba P x T,hlo,xcb,←xba];omega
theorem set_set_nv{out:List Int}(hL:IsL out){i o lo hi:Nat}(h:i+1<out.length)(ho:out.getD i 0=(o:Int))(hlt:nv out<4294967296^(i+1))(h1:o+lo<4294967296)(h2:hi<4294967296) :
  IsL ((out.set i ((o+lo:Nat):Int)).set (i+1) (hi:Int))∧nv ((out.set i ((o+lo:Nat):Int)).set (i+1) (hi:Int))=nv out+4294967296^i*lo+4294967296^i*4294967296*hi:=by
 have q1:=hL.set i (x:=((o+lo:Nat):Int)) (by omega) (by omega)
 refine⟨q1.set _ (by omega) (by omega),?_⟩
 have e1:=zjy out i ((o+lo:Nat):Int) (by omega)
 rw[ho,Int.toNat_natCast,Int.toNat_natCast,xcb]at e1
 have e2:=zlm q1 (i:=i+1) (hi:Int) (by simpa using h) (zjx hL (by omega) (by omega) (by omega) hlt)
 rw[e2,Int.toNat_natCast,xbo]
 omega
theorem d268_eq{a:List Int}(ha:IsL a)(la:a.length≤1073741824){n:Nat}(hn:n≤31):∃out,d268 a (n:Int)=some out∧IsL out∧out.length=a.length+1∧nv out=nv a*2^n:=by
 unfold d268
 have hT:2^n<4294967296:=xeq (by decide) (show n<32 by omega)
 have hT0:0<2^n:=xfv (by decide)
 simp only[zav (show a.length<9223372036854775807 by omega),xaq,d0le,zbq (n:=a.length+1) (by omega),xad,cond_true,tn]
 refine zbv (Q:=fun r=>∃out,r=some out∧IsL out∧out.length=a.length+1∧nv out=nv a*2^n) (fun(i:Nat) (st:Int×(List Int)×(List Int)×Int×Int)=>∃(out:List Int),st=((n:Int),out,a,(a.length:Int),(i:Int))∧IsL out∧out.length=a.length+1∧nv out=nv (a.take i)*2^n) a.length ?_ ?_ ?_
 ·exact⟨_,rfl,IsL.zeros _,by simp,by simp[zea,nv]⟩
 ·rintro i st hi ⟨out,rfl,hL,hlen,hv⟩
  obtain⟨x,hx1,hx2,hx3⟩:=zed ha i
  have htop:=top_lt ha i
  have hlt:nv out<4294967296^i*2^n:=by rw[hv];exact xfg htop hT0
  have ho1:out.getD i 0=((nv out/4294967296^i:Nat):Int):=by
   rw[zfz hL]
   have:nv out/4294967296^i<2^n:=xet hlt
   rw[xcw (by omega)]
  have ho2:nv out/4294967296^i<2^n:=xet hlt
  obtain⟨o,ho⟩:∃o,nv out/4294967296^i=o:=⟨_,rfl⟩
  rw[ho]at ho1 ho2
  have hlt1:nv out<4294967296^(i+1):=by
   rw[xbo]
   exact xap hlt (xcp _ (by omega))
  obtain⟨v,hvx⟩:∃v,x*2^n=v:=⟨_,rfl⟩
  have hv64:v<4294967296*4294967296:=by rw[←hvx];exact Nat.mul_lt_mul'' hx2 hT
  have hor:=or32 (x:=x) hn ho2
  have hlo:=low_top (x:=x) hn ho2
  rw[hvx]at hor hlo
  have s1:wu32 ((o+v%4294967296:Nat):Int)=((o+v%4294967296:Nat):Int):=by rw[zdh,xcw hlo]
  have hhi:v/4294967296<4294967296:=by omega
  have s2:wu32 ((v/4294967296:Nat):Int)=((v/4294967296:Nat):Int):=by rw[zdh,xcw hhi]
  simp only[dlt hi,d0le,dlt (show i<out.length by omega),zav (show i<9223372036854775807 by omega),List.length_set,dlt (show i+1<out.length by omega),cond_true,xad,tn,hx1,ho1,zaz (show x<18446744073709551616 by omega)]
  rw[show(x:Int)*2^(min n 64)=(v:Int) by have:=shl_nat (x:=x) hn;rw[tn,hvx]at this;exact this]
  simp only[zaz (show v<18446744073709551616 by omega),zdh (n:=v),hor,s1,shr32,zaz (show v/4294967296<18446744073709551616 by omega),s2]
  obtain⟨q1,q2⟩:=set_set_nv hL (i:=i) (lo:=v%4294967296) (hi:=v/4294967296) (by omega) ho1 hlt1 hlo hhi
  refine⟨_,rfl,_,rfl,q1,by simpa using hlen,?_⟩
  rw[q2,hx3]
  exact left_step hv (by rw[hvx];omega)
 ·rintro st ⟨out,rfl,hL,hlen,hv⟩
  rw[xav (Nat.le_refl _)]at hv
  exact⟨out,by simp only[nlt (Nat.le_refl a.length),xac],out,rfl,hL,hlen,hv⟩
theorem right_digit{X n:Nat}(hn:n≤31):(X%4294967296+X/4294967296%4294967296*4294967296)/2^n%4294967296=X/2^n%4294967296:=by
 have hT0:0<2^n:=xfv (by decide)
 obtain⟨z,hz⟩:∃z,X%4294967296+X/4294967296%4294967296*4294967296=z:=⟨_,rfl⟩
 have e:X=z+2^n*(2^(32-n)*(X/4294967296/4294967296)*4294967296):=by
  rw[xba,←xba (2^n),zoj hn]
  omega
 rw[hz]
 conv=>rhs;rw[e]
 rw[xie _ _ hT0,Nat.add_mul_mod_self_right]
theorem or64r{a b:Nat}(ha:a<4294967296)(hb:b<4294967296):wu64 (((BitVec.ofInt 64 (b:Int)|||BitVec.ofInt 64 (wu64 ((a:Int)*2^(min (Int.toNat 32) 64)))).toNat:Nat):Int)=((b+a*4294967296:Nat):Int):=by
 rw[shl32,zaz (n:=a*4294967296) (by omega),xid,Nat.or_comm,←xid,or64 ha hb,zaz (by omega)]
 congr 1
 omega
theorem d270_eq{a:List Int}(ha:IsL a)(la:a.length≤1073741824){n:Nat}(hn:n≤31):∃out,d270 a (n:Int)=some out∧IsL out∧out.length=a.length∧nv out=nv a/2^n:=by
 unfold d270
 have hT0:0<2^n:=xfv (by decide)
 simp only[xaq,d0le,zbq (n:=a.length) (by omega),xad,cond_true,tn]
 refine zbv (Q:=fun r=>∃out,r=some out∧IsL out∧out.length=a.length∧nv out=nv a/2^n) (fun(i:Nat) (st:(List Int)×Int×(List Int)×Int×Int)=>∃(out:List Int),st=(a,(n:Int),out,(a.length:Int),(i:Int))∧IsL out∧out.length=a.length∧nv out=nv a/2^n%4294967296^i) a.length ?_ ?_ ?_
 ·exact⟨_,rfl,IsL.zeros _,by simp,by simp[zea,nv,Nat.mod_one]⟩
 ·rintro i st hi ⟨out,rfl,hL,hlen,hv⟩
  have g0:=zfz ha i
  have g1:=zfz ha (i+1)
  rw[xbo,←xdg]at g1
  have hlt:nv out<4294967296^i:=by rw[hv];exact xdr _ (zrj i)
  have hd:=right_digit (X:=nv a/4294967296^i) hn
  obtain⟨X,hX⟩:∃X,nv a/4294967296^i=X:=⟨_,rfl⟩
  rw[hX]at g0 g1 hd
  have b0:X%4294967296<4294967296:=xdr _ (by decide)
  have b1:X/4294967296%4294967296<4294967296:=xdr _ (by decide)
  obtain⟨z,hz⟩:∃z,X%4294967296+X/4294967296%4294967296*4294967296=z:=⟨_,rfl⟩
  rw[hz]at hd
  have hzb:z<18446744073709551616:=by omega
  have hzd:z/2^n<18446744073709551616:=xdt (xdl _ _) hzb
  have sh:Int.fdiv (z:Int) (2^(min n 64))=((z/2^n:Nat):Int):=by have:=shr_nat (x:=z) hn;rwa[tn]at this
  simp only[dlt hi,zhl ha,zav (show i<9223372036854775807 by omega),d0le,dlt (show i<out.length by omega),cond_true,xad,Option.bind_some,g0,g1,or64r b1 b0,hz,tn,sh,zaz hzd,zdh,hd]
  have e1:=zlm hL (i:=i) (((X/2^n%4294967296:Nat):Int)) (by omega) hlt
  rw[Int.toNat_natCast]at e1
  refine⟨_,rfl,_,rfl,hL.set i (by omega) (by omega),by simpa using hlen,?_⟩
  rw[e1,hv,←hX,xdg,xbk (4294967296^i) (2^n),←xdg,Nat.mod_pow_succ]
 ·rintro st ⟨out,rfl,hL,hlen,hv⟩
  refine⟨out,by simp only[nlt (Nat.le_refl a.length),xac],out,rfl,hL,hlen,?_⟩
  rw[hv]
  exact xcw (xdt (xdl _ _) (zsg ha))
end Go.Proofs.YtamgmpngdmnadaaGreat
