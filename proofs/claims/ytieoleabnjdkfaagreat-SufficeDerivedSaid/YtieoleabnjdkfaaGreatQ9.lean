/- Part 9 of what stands below the statement. -/
import Derived.RangeFuncBox
import Derived.RangeFuncLeaves
import Derived.Shelf.Abstract
import Derived.WalkKit
import Derived.OwnWalkIn
import Derived.TacticsInMore
import Derived.LoopNIn
import Derived.LoopIn
import Derived.Maps.AppendAt
import Derived.Shelf.SlIterI.Sorted
import Derived.Test.YtieoleabnjdkfaaGreatQ8
set_option linter.unusedSimpArgs false
set_option linter.unusedVariables false
namespace Go.Proofs.YtieoleabnjdkfaaGreat
open Go Go.Proofs Go.RowKit Go.Shelf
attribute [local go_sem] Oper.semAt_some
def upto {α:Type} (f:Nat→α) (k:Nat):List α:=(List.range k).map f
theorem upto_succ {α:Type} (f:Nat→α) (k:Nat):upto f (k+1)=upto f k++[f k]:=by simp [upto,List.range_succ]
theorem upto_length {α:Type} (f:Nat→α) (k:Nat):(upto f k).length=k:=by simp [upto]
theorem upto_all (zs:List Int):upto (fun j=>zs[j]?.getD 0) zs.length=zs:=by
  apply List.ext_getElem
  · simp [upto]
  · intro i h1 h2
    simp [upto,h2]
set_option maxRecDepth 100000 in
set_option maxHeartbeats 2000000 in
theorem values1_in (F:Fence) (n:Nat) (h7:F.fn 121) (hro:F.round=none) (hn:1≤n) (l Bs Bo n₀ b off len cap:Nat) (zs:List Int) (hreach:len * 8≤140737488351232) (hb:b < n₀) (J Jx:List Int→World→Prop)
    (hY:∀ pre x W,J pre W→pre.length < len→YieldAt F (n - 1) Tryz.prog l #[.int .i64 x] W fun e W' =>
      (e=.returned (.bool true)∧J (pre++[x]) W'∧Below n₀ W W')∨(e=.returned (.bool false)∧Jx (pre++[x]) W'))
    (W:World) (hBs:W.cell? ⟨Bs,Bo,none⟩=some (.slice (some ⟨b,off,none⟩) len cap)) (hc:∀ j,j < len→W.cell? ⟨b,off+j,none⟩=some (.int .i64 (zs[j]?.getD 0))) (h0:J [] W) :
    CallsIn F n Tryz.prog 121 #[.func (.yield l) #[] #[],.pointer (some ⟨Bs,Bo,none⟩)] W fun e W'=>(∃ v,e=.returned v) ∧
      ((∃ ys,ys=upto (fun j=>zs[j]?.getD 0) len∧J ys W')∨(∃ pre,(∃ k,k≤len∧pre=upto (fun j=>zs[j]?.getD 0) k)∧Jx pre W')):=by
  refine callsIn_of_wp Tryz.func121 rfl h7 ?_ hro
  simp only [Tryz.ntmps121,List.size_toArray,List.length_cons,List.length_nil,Nat.reduceAdd,Nat.reduceSub,Array.replicate_succ,Array.replicate_zero,List.push_toArray,List.append_toArray,List.nil_append,List.cons_append]
  gi_wp2
  gi_loopw [7] (fun i wr=>∃ k:Nat,k≤len∧i=.int .i64 k∧J (upto (fun j=>zs[j]?.getD 0) k) wr∧Below n₀ W wr)
    (fun i _=>len - (intOf i).toNat)
  case atStart=>exact ⟨0,Nat.zero_le _,rfl,h0,Below.refl _ _⟩
  case round =>
    obtain ⟨k,hk,rfl,hJs,hnx⟩:=hrel
    have hcx:k < len→wr.cell? ⟨b,off+k,none⟩=some (.int .i64 (zs[k]?.getD 0)):=fun h=>(hnx.cell (p:=⟨b,off+k,none⟩) hb).trans (hc k h)
    by_cases hlt:k < len
    · obtain ⟨fn,tmps,assign,body,hy,hR⟩:=hY _ (zs[k]?.getD 0) wr hJs (by rw [upto_length]; exact hlt)
      have hcx':=hcx hlt
      gi_wp2
      refine hR.mono ?_
      rintro e W3 (⟨rfl,hJ3,hk3⟩ | ⟨rfl,hJx3⟩)
      · gi_wp2
        go_roundw
        case rel=>exact ⟨k+1,by omega,by simp,by rw [upto_succ]; exact hJ3,hnx.trans hk3⟩
        case measure=>simp [intOf]; omega
      · gi_wp2
        refine bodyPost_ret (results_none rfl _ _ _) rfl ?_
        exact ⟨⟨_,rfl⟩,.inr ⟨_,⟨k+1,by omega,(upto_succ _ _).symm⟩,hJx3⟩⟩
    · obtain rfl:k=len:=by omega
      gi_wp2
      go_end0
      exact ⟨⟨_,rfl⟩,.inl ⟨_,rfl,hJs⟩⟩
theorem upto_take (zs:List Int) {k:Nat} (hk:k≤zs.length):upto (fun j=>zs[j]?.getD 0) k=zs.take k:=by
  apply List.ext_getElem
  · simp [upto,hk]
  · intro i h1 h2
    have:i < zs.length:=by simp [upto] at h1; omega
    simp [upto,this]
def IntsAt (n₀:Nat) (W:World) (sv:Value) (zs:List Int):Prop :=
  (∃ a cap,sv=.slice a 0 cap∧zs=[])∨∃ b off cap,sv=.slice (some ⟨b,off,none⟩) zs.length cap∧b < n₀∧∀ j,j < zs.length→W.cell? ⟨b,off+j,none⟩=some (.int .i64 (zs[j]?.getD 0))
theorem IntsAt.below {n₀:Nat} {A B:World} (h:Below n₀ A B) {sv:Value} {zs:List Int}:IntsAt n₀ A sv zs→IntsAt n₀ B sv zs
  | .inl e=>.inl e
  | .inr ⟨b,off,cap,e,hb,hc⟩=>.inr ⟨b,off,cap,e,hb,fun j hj=>(h.cell (p:=⟨b,off+j,none⟩) hb).trans (hc j hj)⟩
set_option maxRecDepth 100000 in
set_option maxHeartbeats 1000000 in
theorem values1_nil_in (F:Fence) (n:Nat) (h7:F.fn 121) (hro:F.round=none) (l Bs Bo:Nat) (a:Option Addr) (cap:Nat) (J:List Int→World→Prop) (W:World) (hBs:W.cell? ⟨Bs,Bo,none⟩=some (.slice a 0 cap)) (h0:J [] W) :
    CallsIn F n Tryz.prog 121 #[.func (.yield l) #[] #[],.pointer (some ⟨Bs,Bo,none⟩)] W fun e W'=>(∃ v,e=.returned v)∧J [] W':=by
  refine callsIn_of_wp Tryz.func121 rfl h7 ?_ hro
  simp only [Tryz.ntmps121,List.size_toArray,List.length_cons,List.length_nil,Nat.reduceAdd,Nat.reduceSub,Array.replicate_succ,Array.replicate_zero,List.push_toArray,List.append_toArray,List.nil_append,List.cons_append]
  gi_wp2
  gi_loopw [7] (fun i wr=>i=.int .i64 0∧J [] wr) (fun _ _=>0)
  case atStart=>exact ⟨rfl,h0⟩
  case round =>
    obtain ⟨rfl,hJs⟩:=hrel
    gi_wp2
    go_end0
    exact ⟨⟨_,rfl⟩,hJs⟩
set_option maxHeartbeats 1000000 in
theorem values_in (F:Fence) (n:Nat) (h5:F.fn 92) (hro:F.round=none) (a:Option Addr) (len cap:Nat) (w:World) :
    CallsIn F n Tryz.prog 92 #[.slice a len cap] w fun e w'=>e=.returned (.func (.func 121) #[] #[.pointer (some ⟨w.heap.size,0,none⟩)])∧w'=w.alloc (.cells #[.slice a len cap] 26):=by
  refine callsIn_of_wp Tryz.func92 rfl h5 ?_ hro
  simp only [Tryz.ntmps92,List.size_toArray,List.length_cons,List.length_nil,Nat.reduceAdd,Nat.reduceSub,Array.replicate_succ,Array.replicate_zero,List.push_toArray,List.append_toArray,List.nil_append,List.cons_append]
  gi_wp2
  go_ret
  exact ⟨rfl,rfl⟩
theorem values_stops (F:Fence) (n:Nat) (h7:F.fn 121) (hro:F.round=none) (hn:1≤n) (Bs Bo n₀:Nat) (sv:Value) (zs:List Int) (hreach:zs.length * 8≤140737488351232) (w:World) (hBs:Bs < w.heap.size) (hn₀:n₀≤w.heap.size)
    (hc:w.cell? ⟨Bs,Bo,none⟩=some sv) (hI:IntsAt n₀ w sv zs) :
    SeqStopsK F n Tryz.prog 121 #[.pointer (some ⟨Bs,Bo,none⟩)] (fun x:Int=>#[Value.int .i64 x]) (Below n₀) (fun ys=>ys=zs) (fun pre=>pre <+: zs) zs.length w:=fun l J Jx W hW _ _ hY h0=>by
  have hc':=(hW.cell (p:=⟨Bs,Bo,none⟩) hBs).trans hc
  rcases hI.below (hW.mono hn₀) with ⟨a,cap,rfl,rfl⟩ | ⟨b,off,cap,rfl,hb,hcs⟩
  · exact (values1_nil_in F n h7 hro l Bs Bo a cap J W hc' h0).mono fun e W' ⟨he,hj⟩=>⟨he,.inl ⟨_,rfl,hj⟩⟩
  · refine (values1_in F n h7 hro hn l Bs Bo n₀ b off zs.length cap zs hreach hb J Jx hY W hc' hcs h0).mono ?_
    rintro e W' ⟨he,⟨ys,rfl,hj⟩ | ⟨pre,⟨k,hk,rfl⟩,hj⟩⟩
    · exact ⟨he,.inl ⟨_,upto_all zs,hj⟩⟩
    · exact ⟨he,.inr ⟨_,by rw [upto_take zs hk]; exact List.take_prefix _ _,hj⟩⟩
end Go.Proofs.YtieoleabnjdkfaaGreat
set_option linter.unusedSimpArgs false
set_option linter.unusedVariables false
namespace Go.Proofs.YtieoleabnjdkfaaGreat
open Go Go.Proofs Go.RowKit Go.Shelf
attribute [local go_sem] Oper.semAt_some
theorem info3i:(Tryz.prog.info? 3).map (fun i=>(i.zero,i.size,i.bytes))=some (some (.int .i64 0),1,8):=by kernel_rfl
set_option maxRecDepth 100000 in
set_option maxHeartbeats 2000000 in
theorem appendSeq_in (F:Fence) (n:Nat) (h138:F.fn 138) (h121:F.fn 121) (hro:F.round=none) (hn:3≤n) (Bs Bo:Nat) (sv:Value) (zs:List Int) (hlen:zs.length≤4294967296) (w:World) (hBs:Bs < w.heap.size)
    (hc:w.cell? ⟨Bs,Bo,none⟩=some sv) (hI:IntsAt w.heap.size w sv zs) :
    CallsIn F n Tryz.prog 138 #[.slice none 0 0,.func (.func 121) #[] #[.pointer (some ⟨Bs,Bo,none⟩)]] w fun e W'=>∃ v,e=.returned v∧W'.ownsRow w.heap.size 3 1 v zs.length (zs.map (Value.int .i64))∧(v=.slice none 0 0↔zs=[])∧Below w.heap.size w W':=by
  have h1:1≤n:=by omega
  obtain ⟨i0,hi,hz0,hz1,hz2⟩:=info_parts info3i
  refine callsIn_of_wp_marks Tryz.func138 rfl h138 ?_ hro
  simp only [Tryz.ntmps138,List.size_toArray,List.length_cons,List.length_nil,Nat.reduceAdd,Nat.reduceSub,Array.replicate_succ,Array.replicate_zero,List.push_toArray,List.append_toArray,List.nil_append,List.cons_append]
  gi_wp2
  have bO:=Boxed.new w 26 (.slice none 0 0)
  have hB0:Below w.heap.size w (w.alloc (.cells #[.slice none 0 0] 26)):=(Below.refl _ w).alloc (Nat.le_refl _) _
  refine wpIn_rangeFunc_ownG hro h1 (gf:=121) (lb:=#[.pointer (some ⟨Bs,Bo,none⟩)]) rfl h121 (enters_of Tryz.func121 (by kernel_rfl) rfl)
    (values_stops F (n - 1) h121 hro (by omega) Bs Bo w.heap.size sv zs (by omega) _ (by simp; omega) (by simp) ((hB0.cell (p:=⟨Bs,Bo,none⟩) hBs).trans hc) (hI.below hB0)) belowK_t (belowK_b (by simp)) (Below.refl _ _) (fun _=>rfl)
    (fun pre W=>(∃ v,Boxed W w.heap.size 26 v∧W.ownsRow w.heap.size 3 1 v pre.length (pre.map (Value.int .i64))∧(v=.slice none 0 0↔pre=[]))∧Below w.heap.size w W)
    (fun _ _ _=>False)
    (OwnFrom.and (Own.from (holdsRow_own w.heap.size w.heap.size 26 3 1 (fun pre:List Int=>pre.length) (fun pre=>pre.map (Value.int .i64)) (fun pre v=>v=.slice none 0 0↔pre=[])) _) (ownFrom_below (Nat.le_refl _) (by simp)))
    (fun _ _ _ _ _ hs _ _=>hs)
    ⟨⟨_,bO,World.ownsRow_nil _ _ _ _,by simp⟩,hB0⟩
    (fun x=>{ tmps:=#[.slice none 0 0,.func (.func 121) #[] #[.pointer (some ⟨Bs,Bo,none⟩)],.pointer (some ⟨w.heap.size,0,none⟩),undef,.slice none 0 0,.int .i64 x,.func (.func 121) #[] #[.pointer (some ⟨Bs,Bo,none⟩)],.int .i64 x,undef,undef,undef,undef,undef],defers:=[] }) ?assign ?body ?done ?stop
  case assign =>
    intro l x W K hK
    gi_wp2
    exact hK
  case body =>
    rintro l pre x W ⟨⟨v,hv,hrow,hnil⟩,hB⟩ hlt
    have hc:=hv.cell
    gi_wp2_with (gi_at_builtin; refine wpListIn_append_own _ rfl _ _ 26 rfl w.heap.size 3 i0 (.int .i64 0) 1 8 Tryz.underlying26 hi hz0 hz1 hz2 rfl (by decide) _ _ _ rfl (hrow.alloc _) ⟨W.heap.size,0,none⟩ 1 1 [.int .i64 x] rfl rfl (cell_one_new _ _ _) (by simp [Value.oneCell']) (by unfold maxLen; omega) (by omega) (by have:=hB.size; simp; omega) ?_; intro v' w1 hown' hgrow _; obtain ⟨g',cap',rfl⟩:=ownsRow_succ hown'; obtain ⟨hv1,hv2,hr2,hk2,hb2⟩:=hv.appended (by decide) hrow hB.size (Nat.le_refl _) hown' hgrow; have hc1:=hv1.cell; have hf1:=hv1.frozen)
    exact ⟨hk2.from _,hb2,⟨_,hv2,by simpa using hr2,by simp⟩,hB.trans hb2⟩
  case done =>
    rintro D ys W hD rfl ⟨⟨v,hv,hrow,hnil⟩,hB⟩ hK
    have hc:=hv.cell
    gi_wp2
    refine ⟨by simp,.inl ⟨_,_,rfl,run_takeDeferred hK,?_⟩⟩
    exact ⟨_,results_tmp rfl _ _ _,v,rfl,ownsRow_putObj hrow _ hK rfl,hnil,hB.trans (belowK_b (w:=w) (Nat.le_refl _) W D _ _ (by simp at hD; omega) hK rfl rfl)⟩
  case stop =>
    rintro D c pre W _ _ h _
    exact h.elim
set_option maxRecDepth 100000 in
set_option maxHeartbeats 2000000 in
theorem collect_in (F:Fence) (n:Nat) (h119:F.fn 119) (h138:F.fn 138) (h121:F.fn 121) (hro:F.round=none) (hn:4≤n) (Bs Bo:Nat) (sv:Value) (zs:List Int) (hlen:zs.length≤4294967296) (w:World) (hBs:Bs < w.heap.size)
    (hc:w.cell? ⟨Bs,Bo,none⟩=some sv) (hI:IntsAt w.heap.size w sv zs) :
    CallsIn F n Tryz.prog 119 #[.func (.func 121) #[] #[.pointer (some ⟨Bs,Bo,none⟩)]] w fun e W'=>∃ v,e=.returned v∧W'.ownsRow w.heap.size 3 1 v zs.length (zs.map (Value.int .i64))∧(v=.slice none 0 0↔zs=[])∧Below w.heap.size w W':=by
  have h1:1≤n:=by omega
  refine callsIn_of_wp Tryz.func119 rfl h119 ?_ hro
  simp only [Tryz.ntmps119,List.size_toArray,List.length_cons,List.length_nil,Nat.reduceAdd,Nat.reduceSub,Array.replicate_succ,Array.replicate_zero,List.push_toArray,List.append_toArray,List.nil_append,List.cons_append]
  gi_wp2_with (gi_at_call 138; refine (appendSeq_in F (n - 1) h138 h121 hro (by omega) Bs Bo sv zs hlen _ hBs hc hI).mono ?_; rintro e w' ⟨v,rfl,hrow,hnil,hb⟩)
  go_ret
  exact ⟨v,rfl,hrow,hnil,hb⟩
end Go.Proofs.YtieoleabnjdkfaaGreat
set_option linter.unusedSimpArgs false
set_option linter.unusedVariables false
namespace Go.Proofs.YtieoleabnjdkfaaGreat
open Go Go.Proofs Go.RowKit Go.Shelf Go.Sort Go.Maps
attribute [local go_sem] Oper.semAt_some
theorem sort_some (blk off cap:Nat) (ss:List Int) (W:World) (hH:Holds (Value.int .i64) W blk off ss.toArray) (hblk:blk < W.heap.size) (hsz:ss.length < 4611686018427387904) (m:Nat) :
    CallsIn Fence.wide m Tryz.prog 120 #[.slice (some ⟨blk,off,none⟩) ss.length cap] W fun e w'=>e=.returned (.tuple #[])∧∃ k os,w'=grow (putRow (Value.int .i64) (Sort.ahead W k) blk off (ss.mergeSort fun x y=>decide (x≤y)).toArray) os :=
  callsIn_wide.2 (AnyM.slices_Sort_int Tryz.sortA blk off cap ss W hH hblk hsz)
theorem sort_none (p:Option Addr) (cap:Nat) (W:World) (m:Nat):CallsIn Fence.wide m Tryz.prog 120 #[.slice p 0 cap] W fun e w'=>e=.returned (.tuple #[])∧w'=W :=
  callsIn_wide.2 (AnyM.slices_Sort_int_none Tryz.sortA p cap W)
set_option maxRecDepth 100000 in
set_option maxHeartbeats 2000000 in
theorem sorted_in (Bs Bo:Nat) (sv:Value) (zs:List Int) (hlen:zs.length≤4294967296) (w:World) (hBs:Bs < w.heap.size)
    (hc:w.cell? ⟨Bs,Bo,none⟩=some sv) (hI:IntsAt w.heap.size w sv zs) :
    CallsIn Fence.wide 5 Tryz.prog 91 #[.func (.func 121) #[] #[.pointer (some ⟨Bs,Bo,none⟩)]] w fun e W'=>∃ v,e=.returned v ∧
      W'.ownsRow w.heap.size 3 1 v zs.length ((zs.mergeSort fun x y=>decide (x≤y)).map (Value.int .i64))∧(v=.slice none 0 0↔zs=[])∧Below w.heap.size w W':=by
  have h1:1≤5:=by omega
  have hro:Fence.wide.round=none:=rfl
  have cC:=collect_in Fence.wide 4 trivial trivial trivial rfl (by omega) Bs Bo sv zs hlen w hBs hc hI
  have hfC:Fence.wide.fn 119:=trivial
  have hfS:Fence.wide.fn 120:=trivial
  refine callsIn_of_wp Tryz.func91 rfl trivial ?_ rfl
  simp only [Tryz.ntmps91,List.size_toArray,List.length_cons,List.length_nil,Nat.reduceAdd,Nat.reduceSub,Array.replicate_succ,Array.replicate_zero,List.push_toArray,List.append_toArray,List.nil_append,List.cons_append]
  gi_wp2_with (gi_at_call 119; refine cC.mono ?_; rintro e W ⟨v,rfl,hrow,hnil,hb⟩)
  rcases hrow.2 with ⟨rfl,hz⟩ | ⟨gb,cap,cur,rfl,hbase,hgb,r1,r2,r3,r4⟩
  · have hss:zs=[]:=List.eq_nil_of_length_eq_zero hz
    subst hss
    gi_wp2_with (gi_at_call 120; refine (sort_none none 0 W _).mono ?_; rintro e w' ⟨rfl,rfl⟩)
    go_ret
    exact ⟨.slice none 0 0,rfl,by simpa using hrow,by simp,hb⟩
  · have hH:Holds (Value.int .i64) W gb 0 zs.toArray:=holds_of_block_i hgb (by simpa using r4)
    have hgl:gb < W.heap.size:=(Array.getElem?_eq_some_iff.1 hgb).1
    have hsz:zs.length < 4611686018427387904:=by omega
    have cS:=fun m=>sort_some gb 0 cap zs W hH hgl hsz m
    gi_wp2_with (gi_at_call 120; refine (cS _).mono ?_; rintro e w' ⟨rfl,nn,os,rfl⟩)
    go_ret
    exact ⟨_,rfl,ownsRow_sorted_i (by simp) hbase hgb r1 r2 r3,hnil,hb.grown (grownBy_sorted_i _) hb.size (fun j hj=>by cases hj; exact hbase)⟩
end Go.Proofs.YtieoleabnjdkfaaGreat
set_option linter.unusedSimpArgs false
set_option linter.unusedVariables false
namespace Go.Proofs.YtieoleabnjdkfaaGreat
open Go Go.Proofs Go.RowKit Go.X
theorem ext_of_below {w w':World} (h:Below w.heap.size w w'):Ext w w':=⟨h.os,h.tape,h.output,h.size,h.block⟩
theorem entV:Enters Tryz.prog 92:=enters_of Tryz.func92 (by kernel_rfl) rfl
theorem entS:Enters Tryz.prog 91:=enters_of Tryz.func91 (by kernel_rfl) rfl
noncomputable def sqE:SqE Tryz.prog where
  fv:=92
  g:=121
  fs:=91
  e:=3
  entV:=entV
  entS:=entS
  vals w A len cap:=(callsIn_wide (n:=0)).1 ((values_in Fence.wide 0 trivial rfl A len cap w).mono fun e w' h=>⟨w.heap.size,h.1,by rw [h.2]; exact Ext.alloc _ _,Nat.le_refl _,by rw [h.2]; simp,by rw [h.2]; exact cell_one_new _ _ _ 0 _ rfl⟩)
  sorts w Bs Bo A cap xs hl hB hc hx:=by
    refine (callsIn_wide (n:=5)).1 ((sorted_in Bs Bo _ xs hl w hB hc ?_).mono ?_)
    · rcases hx with rfl | ⟨b,o,rfl,hb,h⟩
      · exact .inl ⟨A,cap,rfl,rfl⟩
      · refine .inr ⟨b,o,cap,rfl,hb,fun j hj=>?_⟩
        rw [h j hj,List.getElem?_eq_getElem hj]
        rfl
    · rintro e w' ⟨v,rfl,hrow,hnil,hb⟩
      refine ⟨v,rfl,ext_of_below hb,?_⟩
      obtain ⟨h1,h2⟩:=hrow
      rcases h2 with ⟨h2,_⟩ | ⟨g,k,cur,h2,h3,h4,h5,h6,h7,h8⟩
      · exact .inl ⟨h2,hnil.1 h2⟩
      · refine .inr ⟨g,k,cur,h2,h3,h4,h5,h6,by simpa using h7,fun i hi=>?_⟩
        have hi':i < xs.length:=by rw [sortI_length] at hi; exact hi
        have:=congrArg (fun l=>l[i]?) h8
        simp only [List.getElem?_take,Nat.mul_one,hi',if_true,List.getElem?_map] at this
        have h9:(xs.mergeSort fun x y=>decide (x≤y))[i]? = some (sortI xs)[i]:=List.getElem?_eq_getElem hi
        rw [h9] at this
        simpa using this
end Go.Proofs.YtieoleabnjdkfaaGreat
open Go Go.Proofs Go.X
namespace Go.Proofs.YtieoleabnjdkfaaGreat
set_option linter.unusedVariables false
set_option maxRecDepth 100000
noncomputable def d7 (gs:List (List Int × Int)):Option Bool :=
 (whileO (β:=(List (List Int × Int)) ⊕ Bool) (fun ((gs_1,i):(List (List Int × Int)) × Int) =>
   bif (decide (i < (gs_1.length:Int))) then
    bif (decide (0≤i) && decide (i < (gs_1.length:Int))) then
     bif (decide (12 < (((List.getD gs_1 (Int.toNat i) ([],0)).1).length:Int))) then
      some (Sum.inr (Sum.inr false))
     else
      some (Sum.inl (gs_1,(w (i+1))))
    else none
   else
    some (Sum.inr (Sum.inl gs_1))) (gs,0)).bind fun
 | Sum.inl gs_2 =>
  some (decide ((gs_2.length:Int)≤60))
 | Sum.inr t2 =>
  some t2
noncomputable def d35 (l:List Int) (x:Int):Option Bool :=
 (whileO (β:=Unit ⊕ Bool) (fun ((l_1,x_1,i):(List Int) × Int × Int) =>
   bif (decide (i < (l_1.length:Int))) then
    bif (decide (0≤i) && decide (i < (l_1.length:Int))) then
     bif (decide ((List.getD l_1 (Int.toNat i) 0)=x_1)) then
      some (Sum.inr (Sum.inr true))
     else
      some (Sum.inl (l_1,x_1,(w (i+1))))
    else none
   else
    some (Sum.inr (Sum.inl ()))) (l,x,0)).bind fun
 | Sum.inl _ =>
  some false
 | Sum.inr t4 =>
  some t4
def sg35:Sig:=⟨[(y26,.bw),(y2,.sh)],[(y4,.sh)]⟩
def plan35:Plan:=(.seq (.reg [] []) (.seq (.seq (.reg [] []) (.block (.loop [(0,.v y26 .bw),(1,.v y2 .sh),(5,.v y2 .sh)] [(.brk 0,[]),(.ret,[(4,.v y4 .sh)])] (.seq (.seq (.reg [] []) (.cond .nil .nil)) (.seq (.block (.seq (.reg [] []) (.cond (.seq (.reg [] []) .nil) .nil))) (.reg [] [])))))) (.seq (.reg [] []) .nil)))
theorem ev35 (xs:Vals (ptys sg35.ps)):evF (P:=Tryz.prog) tab [] sg35 Tryz.f35.results.toList (code Tryz.f35) plan35 xs=d35 xs.1 xs.2.1:=by kernel_rfl
theorem sim35:Sim Tryz.prog 35 sg35 d35:=sim_ev mixd tabOK Tryz.func35 (code_of rfl) Tryz.call35 (Nat.le_of_ble_eq_true (by kernel_rfl)) (by kernel_rfl) plan35 _ fun xs y h=>(ev35 xs).trans h
noncomputable def E35:FnE Tryz.prog:=⟨35,sg35,d35,sim35⟩
noncomputable def d31 (n:Int) (p:List Int):Option Bool :=
 (whileO (β:=Unit ⊕ Bool) (fun ((n_1,p_1,i):Int × (List Int) × Int) =>
   bif (decide (i < (p_1.length:Int))) then
    letJ (fun ((n_2,p_2,i_1,t34):Int × (List Int) × Int × Bool) =>
      bif t34 then
       some (Sum.inr (Sum.inr false))
      else
       some (Sum.inl (n_2,p_2,(w (i_1+1))))) fun j_ =>
    bif (decide (0≤i) && decide (i < (p_1.length:Int))) then
     bif !(decide ((List.getD p_1 (Int.toNat i) 0) < 0)) then
      bif (decide (0≤i) && decide (i < (p_1.length:Int))) then
       bif !(decide (n_1≤(List.getD p_1 (Int.toNat i) 0))) then
        bif (cutOK 0 i p_1.length) then
         bif (decide (0≤i) && decide (i < (p_1.length:Int))) then
          (d35 (List.drop 0 (List.take (Int.toNat i) p_1)) (List.getD p_1 (Int.toNat i) 0)).bind fun r =>
          j_ (n_1,p_1,i,r)
         else none
        else none
       else
        j_ (n_1,p_1,i,true)
      else none
     else
      j_ (n_1,p_1,i,true)
    else none
   else
    some (Sum.inr (Sum.inl ()))) (n,p,0)).bind fun
 | Sum.inl _ =>
  some true
 | Sum.inr t4 =>
  some t4
def sg31:Sig:=⟨[(y2,.sh),(y26,.bw)],[(y4,.sh)]⟩
def plan31:Plan:=(.seq (.reg [] []) (.seq (.seq (.reg [] []) (.block (.loop [(0,.v y2 .sh),(1,.v y26 .bw),(5,.v y2 .sh)] [(.brk 0,[]),(.ret,[(4,.v y4 .sh)])] (.seq (.seq (.reg [] []) (.cond .nil .nil)) (.seq (.block (.join (.reg [] []) [(0,.v y2 .sh),(1,.v y26 .bw),(5,.v y2 .sh),(34,.v y4 .sh)] (.cond (.seq (.reg [] []) .nil) .nil))) (.reg [] [])))))) (.seq (.reg [] []) .nil)))
theorem ev31 (xs:Vals (ptys sg31.ps)):evF (P:=Tryz.prog) tab [.fn E35] sg31 Tryz.f31.results.toList (code Tryz.f31) plan31 xs=d31 xs.1 xs.2.1:=by kernel_rfl
theorem sim31:Sim Tryz.prog 31 sg31 d31:=sim_ev mixd tabOK Tryz.func31 (code_of rfl) Tryz.call31 (Nat.le_of_ble_eq_true (by kernel_rfl)) (by kernel_rfl) plan31 _ fun xs y h=>(ev31 xs).trans h
noncomputable def E31:FnE Tryz.prog:=⟨31,sg31,d31,sim31⟩
noncomputable def d32 (a:List Int) (b:List Int):Option Bool :=
 (whileO (β:=((List Int) × (List Int)) ⊕ Bool) (fun ((a_1,b_1,i):(List Int) × (List Int) × Int) =>
   letJ (fun ((a_2,b_2,i_1,t15):(List Int) × (List Int) × Int × Bool) =>
     bif t15 then
      bif (decide (0≤i_1) && decide (i_1 < (a_2.length:Int))) then
       bif (decide (0≤i_1) && decide (i_1 < (b_2.length:Int))) then
        bif !(decide ((List.getD a_2 (Int.toNat i_1) 0)=(List.getD b_2 (Int.toNat i_1) 0))) then
         bif (decide (0≤i_1) && decide (i_1 < (a_2.length:Int))) then
          bif (decide (0≤i_1) && decide (i_1 < (b_2.length:Int))) then
           some (Sum.inr (Sum.inr (decide ((List.getD a_2 (Int.toNat i_1) 0) < (List.getD b_2 (Int.toNat i_1) 0)))))
          else none
         else none
        else
         some (Sum.inl (a_2,b_2,(w (i_1+1))))
       else none
      else none
     else
      some (Sum.inr (Sum.inl (a_2,b_2)))) fun j_ =>
   bif (decide (i < (a_1.length:Int))) then
    j_ (a_1,b_1,i,(decide (i < (b_1.length:Int))))
   else
    j_ (a_1,b_1,i,false)) (a,b,0)).bind fun
 | Sum.inl (a_3,b_3) =>
  some (decide ((a_3.length:Int) < (b_3.length:Int)))
 | Sum.inr t4 =>
  some t4
def sg32:Sig:=⟨[(y26,.bw),(y26,.bw)],[(y4,.sh)]⟩
def plan32:Plan:=(.seq (.reg [] []) (.seq (.seq (.reg [] []) (.block (.loop [(0,.v y26 .bw),(1,.v y26 .bw),(5,.v y2 .sh)] [(.brk 0,[(0,.v y26 .bw),(1,.v y26 .bw)]),(.ret,[(4,.v y4 .sh)])] (.seq (.join (.reg [] []) [(0,.v y26 .bw),(1,.v y26 .bw),(5,.v y2 .sh),(15,.v y4 .sh)] (.cond .nil .nil)) (.seq (.block (.seq (.reg [] []) (.cond (.seq (.reg [] []) .nil) .nil))) (.reg [] [])))))) (.seq (.reg [] []) .nil)))
theorem ev32 (xs:Vals (ptys sg32.ps)):evF (P:=Tryz.prog) tab [] sg32 Tryz.f32.results.toList (code Tryz.f32) plan32 xs=d32 xs.1 xs.2.1:=by kernel_rfl
theorem sim32:Sim Tryz.prog 32 sg32 d32:=sim_ev mixd tabOK Tryz.func32 (code_of rfl) Tryz.call32 (Nat.le_of_ble_eq_true (by kernel_rfl)) (by kernel_rfl) plan32 _ fun xs y h=>(ev32 xs).trans h
noncomputable def E32:FnE Tryz.prog:=⟨32,sg32,d32,sim32⟩
noncomputable def d9 (p0:Int) (p1:List (List Int × Int)):Option Bool :=
 letJ (fun ((t0,t1,t12):Int × (List (List Int × Int)) × Bool) =>
   bif t12 then
    some false
   else
    (whileO (β:=Unit ⊕ Bool) (fun ((t0_1,t1_1,t5,t6):Int × (List (List Int × Int)) × Int × Int) =>
      bif (decide (t6 < (t1_1.length:Int))) then
       letJ (fun ((t0_2,t1_2,t5_1,t6_1,t62):Int × (List (List Int × Int)) × Int × Int × Bool) =>
         bif t62 then
          some (Sum.inr (Sum.inr false))
         else
          bif (decide (0≤t6_1) && decide (t6_1 < (t1_2.length:Int))) then
           some (Sum.inl (t0_2,t1_2,(w (t5_1 - ((List.getD t1_2 (Int.toNat t6_1) ([],0)).2))),(w (t6_1+1))))
          else none) fun j__1 =>
       bif (decide (0≤t6) && decide (t6 < (t1_1.length:Int))) then
        (d31 t0_1 ((List.getD t1_1 (Int.toNat t6) ([],0)).1)).bind fun r =>
        bif !(!r) then
         bif (decide (0≤t6) && decide (t6 < (t1_1.length:Int))) then
          bif !(decide ((List.getD t1_1 (Int.toNat t6) ([],0)).2 < 1)) then
           bif (decide (0≤t6) && decide (t6 < (t1_1.length:Int))) then
            bif !(decide (t5 < (List.getD t1_1 (Int.toNat t6) ([],0)).2)) then
             bif (decide (0 < t6)) then
              bif (decide (0≤(w (t6 - 1))) && decide ((w (t6 - 1)) < (t1_1.length:Int))) then
               bif (decide (0≤t6) && decide (t6 < (t1_1.length:Int))) then
                (d32 ((List.getD t1_1 (Int.toNat (w (t6 - 1))) ([],0)).1) ((List.getD t1_1 (Int.toNat t6) ([],0)).1)).bind fun r_1 =>
                j__1 (t0_1,t1_1,t5,t6,!r_1)
               else none
              else none
             else
              j__1 (t0_1,t1_1,t5,t6,false)
            else
             j__1 (t0_1,t1_1,t5,t6,true)
           else none
          else
           j__1 (t0_1,t1_1,t5,t6,true)
         else none
        else
         j__1 (t0_1,t1_1,t5,t6,true)
       else none
      else
       some (Sum.inr (Sum.inl ()))) (t0,t1,100000,0)).bind fun
    | Sum.inl _ =>
     some true
    | Sum.inr t4 =>
     some t4) fun j_ =>
 bif !(decide (p0 < 1)) then
  j_ (p0,p1,(decide (7 < p0)))
 else
  j_ (p0,p1,true)
noncomputable def d10 (x:Int) (n:Int):Option Int :=
 bif (!decide (n=0)) then
  bif (!decide (n=0)) then
   some (w (Int.tmod (w ((w (Int.tmod x n))+n)) n))
  else none
 else none
def sg10:Sig:=⟨[(y2,.sh),(y2,.sh)],[(y2,.sh)]⟩
def plan10:Plan:=(.seq (.reg [] []) (.seq (.reg [] []) .nil))
theorem ev10 (xs:Vals (ptys sg10.ps)):evF (P:=Tryz.prog) tab [] sg10 Tryz.f10.results.toList (code Tryz.f10) plan10 xs=d10 xs.1 xs.2.1:=by kernel_rfl
theorem sim10:Sim Tryz.prog 10 sg10 d10:=sim_ev mixd tabOK Tryz.func10 (code_of rfl) Tryz.call10 (Nat.le_of_ble_eq_true (by kernel_rfl)) (by kernel_rfl) plan10 _ fun xs y h=>(ev10 xs).trans h
noncomputable def E10:FnE Tryz.prog:=⟨10,sg10,d10,sim10⟩
noncomputable def d33 (n:Int):Option (List (List Int)) :=
 (whileO (β:=(List (List Int))) (fun ((n_1,out,i):Int × (List (List Int)) × Int) =>
   bif (decide (i < n_1)) then
    bif (decide ((out.length:Int)+(([[(wu8 (w (97+i)))]]:List (List Int)).length:Int)≤LIM)) then
     some (Sum.inl (n_1,(out++[[(wu8 (w (97+i)))]]),(w (i+1))))
    else none
   else
    some (Sum.inr out)) (n,[],0)).bind fun (out_1:List (List Int)) =>
 some out_1
def sg33:Sig:=⟨[(y2,.sh)],[(y22,(.own 9 .sh))]⟩
def plan33:Plan:=(.seq (.reg [] []) (.seq (.reg [] [{ fl:=2 }]) (.seq (.seq (.reg [] []) (.block (.loop [(0,.v y2 .sh),(3,.v y22 (.own 9 .sh)),(4,.v y2 .sh)] [(.brk 0,[(3,.v y22 (.own 9 .sh))])] (.seq (.seq (.reg [] []) (.cond .nil .nil)) (.seq (.block (.reg [] [])) (.reg [] [])))))) (.seq (.reg [] []) .nil))))
theorem ev33 (xs:Vals (ptys sg33.ps)):evF (P:=Tryz.prog) tab [] sg33 Tryz.f33.results.toList (code Tryz.f33) plan33 xs=d33 xs.1:=by kernel_rfl
theorem sim33:Sim Tryz.prog 33 sg33 d33:=sim_ev mixd tabOK Tryz.func33 (code_of rfl) Tryz.call33 (Nat.le_of_ble_eq_true (by kernel_rfl)) (by kernel_rfl) plan33 _ fun xs y h=>(ev33 xs).trans h
noncomputable def E33:FnE Tryz.prog:=⟨33,sg33,d33,sim33⟩
noncomputable def d11 (method:Int) (n:Int) (seats:Int) (digits:Int) (ties:Int):Option (List Int × (List (List Int) × (Int × (Int × (Int × (Int × (Int × (Int × Int)))))))) :=
 (d33 n).bind fun r =>
 (d10 method 3).bind fun r_1 =>
 (d10 seats 5).bind fun r_2 =>
 (d10 ties 3).bind fun r_3 =>
 letJ (fun ((t10,c):(List Int × (List (List Int) × (Int × (Int × (Int × (Int × (Int × (Int × Int)))))))) × (List Int × (List (List Int) × (Int × (Int × (Int × (Int × (Int × (Int × Int))))))))) =>
   letJ (fun ((t10_1,c_1):(List Int × (List (List Int) × (Int × (Int × (Int × (Int × (Int × (Int × Int)))))))) × (List Int × (List (List Int) × (Int × (Int × (Int × (Int × (Int × (Int × Int))))))))) =>
     some c_1) fun j__1 =>
   bif (decide (c.2.2.1=1)) then
    j__1 (t10,(c.1,c.2.1,c.2.2.1,1,c.2.2.2.2))
   else
    j__1 (t10,c)) fun j_ =>
 bif (decide ((w (1+r_1))=2)) then
  (d10 digits 6).bind fun r_4 =>
  j_ (([],[],0,0,0,0,0,0,0),([99],r,(w (1+r_1)),(w (1+r_2)),0,(w (1+r_4)),(w (1+r_3)),0,0))
 else
  j_ (([],[],0,0,0,0,0,0,0),([99],r,(w (1+r_1)),(w (1+r_2)),0,0,(w (1+r_3)),0,0))
def sg11:Sig:=⟨[(y2,.sh),(y2,.sh),(y2,.sh),(y2,.sh),(y2,.sh)],[(y23,.sh)]⟩
def plan11:Plan:=(.seq (.reg [] []) (.seq (.reg [] [{},{},{},{},{},{},{},{},{},{},{},{ frz:=[(13,[])] }]) (.join (.seq (.reg [] []) (.cond (.reg [] []) .nil)) [(10,.v (.ptr y23) (.own 0 .sh)),(11,.v (.ptr y23) (.own 0 (.pr .sh (.pr .sh (.pr .sh (.pr .sh (.pr .sh (.pr .sh (.pr .sh .sh)))))))))] (.join (.seq (.reg [] []) (.cond (.reg [] []) .nil)) [(10,.v (.ptr y23) (.own 0 .sh)),(11,.v (.ptr y23) (.own 0 (.pr .sh (.pr .sh (.pr .sh (.pr .sh (.pr .sh (.pr .sh (.pr .sh .sh)))))))))] (.seq (.reg [] []) .nil)))))
theorem ev11 (xs:Vals (ptys sg11.ps)):evF (P:=Tryz.prog) tab [.fn E33,.fn E10] sg11 Tryz.f11.results.toList (code Tryz.f11) plan11 xs=d11 xs.1 xs.2.1 xs.2.2.1 xs.2.2.2.1 xs.2.2.2.2.1:=by kernel_rfl
theorem sim11:Sim Tryz.prog 11 sg11 d11:=sim_ev mixd tabOK Tryz.func11 (code_of rfl) Tryz.call11 (Nat.le_of_ble_eq_true (by kernel_rfl)) (by kernel_rfl) plan11 _ fun xs y h=>(ev11 xs).trans h
noncomputable def E11:FnE Tryz.prog:=⟨11,sg11,d11,sim11⟩
noncomputable def d14 (n:Int) (l:List Int):Option (List Int) :=
 (whileO (β:=(List Int)) (fun ((n_1,l_1,out,i):Int × (List Int) × (List Int) × Int) =>
   letJ (fun ((n_2,l_2,out_1,i_1,t17):Int × (List Int) × (List Int) × Int × Bool) =>
     bif t17 then
      letJ (fun ((n_3,l_3,out_2,i_2):Int × (List Int) × (List Int) × Int) =>
        some (Sum.inl (n_3,l_3,out_2,(w (i_2+1))))) fun j__1 =>
      bif (decide (0≤i_1) && decide (i_1 < (l_2.length:Int))) then
       (d10 (List.getD l_2 (Int.toNat i_1) 0) n_2).bind fun r =>
       (d35 out_1 r).bind fun r_1 =>
       bif !r_1 then
        bif (decide ((out_1.length:Int)+(([r]:List Int).length:Int)≤LIM)) then
         j__1 (n_2,l_2,(out_1++[r]),i_1)
        else none
       else
        j__1 (n_2,l_2,out_1,i_1)
      else none
     else
      some (Sum.inr out_1)) fun j_ =>
   bif (decide (i < (l_1.length:Int))) then
    j_ (n_1,l_1,out,i,(decide ((out.length:Int) < n_1)))
   else
    j_ (n_1,l_1,out,i,false)) (n,l,[],0)).bind fun (out_3:List Int) =>
 some out_3
def sg14:Sig:=⟨[(y2,.sh),(y26,.bw)],[(y26,(.own 3 .sh))]⟩
def plan14:Plan:=(.seq (.reg [] []) (.seq (.reg [] [{ fl:=2 }]) (.seq (.seq (.reg [] []) (.block (.loop [(0,.v y2 .sh),(1,.v y26 .bw),(5,.v y26 (.own 3 .sh)),(6,.v y2 .sh)] [(.brk 0,[(5,.v y26 (.own 3 .sh))])] (.seq (.join (.reg [] []) [(0,.v y2 .sh),(1,.v y26 .bw),(5,.v y26 (.own 3 .sh)),(6,.v y2 .sh),(17,.v y4 .sh)] (.cond .nil .nil)) (.join (.block (.seq (.reg [] []) (.seq (.reg [] []) (.cond (.reg [] []) .nil)))) [(0,.v y2 .sh),(1,.v y26 .bw),(5,.v y26 (.own 3 .sh)),(6,.v y2 .sh)] (.reg [] [])))))) (.seq (.reg [] []) .nil))))
theorem ev14 (xs:Vals (ptys sg14.ps)):evF (P:=Tryz.prog) tab [.fn E10,.fn E35] sg14 Tryz.f14.results.toList (code Tryz.f14) plan14 xs=d14 xs.1 xs.2.1:=by kernel_rfl
theorem sim14:Sim Tryz.prog 14 sg14 d14:=sim_ev mixd tabOK Tryz.func14 (code_of rfl) Tryz.call14 (Nat.le_of_ble_eq_true (by kernel_rfl)) (by kernel_rfl) plan14 _ fun xs y h=>(ev14 xs).trans h
noncomputable def E14:FnE Tryz.prog:=⟨14,sg14,d14,sim14⟩
noncomputable def d34 (n:Int) (l:List (List Int)) (most:Int):Option (List (List Int)) :=
 (whileO (β:=(List (List Int))) (fun ((n_1,l_1,most_1,out,i):Int × (List (List Int)) × Int × (List (List Int)) × Int) =>
   letJ (fun ((n_2,l_2,most_2,out_1,i_1,t17):Int × (List (List Int)) × Int × (List (List Int)) × Int × Bool) =>
     bif t17 then
      bif (decide (0≤i_1) && decide (i_1 < (l_2.length:Int))) then
       bif (decide (0≤i_1) && decide (i_1 < (l_2.length:Int))) then
        bif (cutOK 0 (bif (decide (12 < ((List.getD l_2 (Int.toNat i_1) []).length:Int))) then 12 else ((List.getD l_2 (Int.toNat i_1) []).length:Int)) (List.getD l_2 (Int.toNat i_1) []).length) then
         (d14 n_2 (List.drop 0 (List.take (Int.toNat (bif (decide (12 < ((List.getD l_2 (Int.toNat i_1) []).length:Int))) then 12 else ((List.getD l_2 (Int.toNat i_1) []).length:Int))) (List.getD l_2 (Int.toNat i_1) [])))).bind fun r =>
         bif (decide ((out_1.length:Int)+(([r]:List (List Int)).length:Int)≤LIM)) then
          some (Sum.inl (n_2,l_2,most_2,(out_1++[r]),(w (i_1+1))))
         else none
        else none
       else none
      else none
     else
      some (Sum.inr out_1)) fun j_ =>
   bif (decide (i < (l_1.length:Int))) then
    j_ (n_1,l_1,most_1,out,i,(decide (i < most_1)))
   else
    j_ (n_1,l_1,most_1,out,i,false)) (n,l,most,[],0)).bind fun (out_2:List (List Int)) =>
 some out_2
def sg34:Sig:=⟨[(y2,.sh),(y27,.bw),(y2,.sh)],[(y27,(.own 26 .sh))]⟩
def plan34:Plan:=(.seq (.reg [] []) (.seq (.reg [] [{ fl:=2 }]) (.seq (.seq (.reg [] []) (.block (.loop [(0,.v y2 .sh),(1,.v y27 .bw),(2,.v y2 .sh),(7,.v y27 (.own 26 .sh)),(8,.v y2 .sh)] [(.brk 0,[(7,.v y27 (.own 26 .sh))])] (.seq (.join (.reg [] []) [(0,.v y2 .sh),(1,.v y27 .bw),(2,.v y2 .sh),(7,.v y27 (.own 26 .sh)),(8,.v y2 .sh),(17,.v y4 .sh)] (.cond .nil .nil)) (.seq (.block (.reg [] [{},{},{},{},{},{},{},{},{},{},{},{},{},{},{ frz:=[(33,[])] }])) (.reg [] [])))))) (.seq (.reg [] []) .nil))))
theorem ev34 (xs:Vals (ptys sg34.ps)):evF (P:=Tryz.prog) tab [.fn E14] sg34 Tryz.f34.results.toList (code Tryz.f34) plan34 xs=d34 xs.1 xs.2.1 xs.2.2.1:=by kernel_rfl
theorem sim34:Sim Tryz.prog 34 sg34 d34:=sim_ev mixd tabOK Tryz.func34 (code_of rfl) Tryz.call34 (Nat.le_of_ble_eq_true (by kernel_rfl)) (by kernel_rfl) plan34 _ fun xs y h=>(ev34 xs).trans h
noncomputable def E34:FnE Tryz.prog:=⟨34,sg34,d34,sim34⟩
noncomputable def d56 (a:List Int) (b:List Int):Option Bool :=
 (d32 a b).bind fun r =>
 bif !r then
  (d32 b a).bind fun r_1 =>
  some (!r_1)
 else
  some false
def sg56:Sig:=⟨[(y26,.bw),(y26,.bw)],[(y4,.sh)]⟩
def plan56:Plan:=(.seq (.reg [] []) (.seq (.reg [] []) .nil))
theorem ev56 (xs:Vals (ptys sg56.ps)):evF (P:=Tryz.prog) tab [.fn E32] sg56 Tryz.f56.results.toList (code Tryz.f56) plan56 xs=d56 xs.1 xs.2.1:=by kernel_rfl
theorem sim56:Sim Tryz.prog 56 sg56 d56:=sim_ev mixd tabOK Tryz.func56 (code_of rfl) Tryz.call56 (Nat.le_of_ble_eq_true (by kernel_rfl)) (by kernel_rfl) plan56 _ fun xs y h=>(ev56 xs).trans h
noncomputable def E56:FnE Tryz.prog:=⟨56,sg56,d56,sim56⟩
noncomputable def d63 (gs:List (List Int × Int)) (p:List Int) (k:Int):Option (List (List Int × Int)) :=
 (whileO (β:=((List Int) × Int × (List (List Int × Int)) × Bool)) (fun ((gs_1,p_1,k_1,out,done,i):(List (List Int × Int)) × (List Int) × Int × (List (List Int × Int)) × Bool × Int) =>
   bif (decide (i < (gs_1.length:Int))) then
    letJ (fun ((gs_4,p_4,k_4,out_3,done_3,i_3):(List (List Int × Int)) × (List Int) × Int × (List (List Int × Int)) × Bool × Int) =>
      some (Sum.inl (gs_4,p_4,k_4,out_3,done_3,(w (i_3+1))))) fun j__2 =>
    bif (decide (0≤i) && decide (i < (gs_1.length:Int))) then
     letJ (fun ((gs_3,p_3,k_3,out_2,done_2,i_2,g_1):(List (List Int × Int)) × (List Int) × Int × (List (List Int × Int)) × Bool × Int × (List Int × Int)) =>
       bif (decide ((out_2.length:Int)+(([g_1]:List (List Int × Int)).length:Int)≤LIM)) then
        j__2 (gs_3,p_3,k_3,(out_2++[g_1]),done_2,i_2)
       else none) fun j__1 =>
     letJ (fun ((gs_2,p_2,k_2,out_1,done_1,i_1,g,t29):(List (List Int × Int)) × (List Int) × Int × (List (List Int × Int)) × Bool × Int × (List Int × Int) × Bool) =>
       bif t29 then
        (d56 g.1 p_2).bind fun r_1 =>
        bif r_1 then
         bif (decide ((out_1.length:Int)+(([(g.1,(w (g.2+k_2)))]:List (List Int × Int)).length:Int)≤LIM)) then
          j__2 (gs_2,p_2,k_2,(out_1++[(g.1,(w (g.2+k_2)))]),true,i_1)
         else none
        else
         bif (decide ((out_1.length:Int)+(([(p_2,k_2)]:List (List Int × Int)).length:Int)≤LIM)) then
          j__1 (gs_2,p_2,k_2,(out_1++[(p_2,k_2)]),true,i_1,g)
         else none
       else
        j__1 (gs_2,p_2,k_2,out_1,done_1,i_1,g)) fun j_ =>
     bif !done then
      (d32 ((List.getD gs_1 (Int.toNat i) ([],0)).1) p_1).bind fun r =>
      j_ (gs_1,p_1,k_1,out,done,i,(List.getD gs_1 (Int.toNat i) ([],0)),!r)
     else
      j_ (gs_1,p_1,k_1,out,done,i,(List.getD gs_1 (Int.toNat i) ([],0)),false)
    else none
   else
    some (Sum.inr (p_1,k_1,out,done))) (gs,p,k,[],false,0)).bind fun ((p_5,k_5,out_4,done_4):(List Int) × Int × (List (List Int × Int)) × Bool) =>
 letJ (fun (out_5:List (List Int × Int)) =>
   some out_5) fun j__3 =>
 bif !done_4 then
  bif (decide ((out_4.length:Int)+(([(p_5,k_5)]:List (List Int × Int)).length:Int)≤LIM)) then
   j__3 (out_4++[(p_5,k_5)])
  else none
 else
  j__3 out_4
def sg63:Sig:=⟨[(y25,.sh),(y26,.sh),(y2,.sh)],[(y25,(.own 57 .sh))]⟩
def plan63:Plan:=(.seq (.reg [] []) (.seq (.reg [] [{ fl:=2 }]) (.seq (.reg [] []) (.seq (.seq (.reg [] []) (.block (.loop [(0,.v y25 .sh),(1,.v y26 .sh),(2,.v y2 .sh),(7,.v y25 (.own 57 .sh)),(8,.v y4 .sh),(9,.v y2 .sh)] [(.brk 0,[(1,.v y26 .sh),(2,.v y2 .sh),(7,.v y25 (.own 57 .sh)),(8,.v y4 .sh)])] (.seq (.seq (.reg [] []) (.cond .nil .nil)) (.join (.block (.seq (.reg [] []) (.join (.join (.reg [] []) [(0,.v y25 .sh),(1,.v y26 .sh),(2,.v y2 .sh),(7,.v y25 (.own 57 .sh)),(8,.v y4 .sh),(9,.v y2 .sh),(10,.v (.ptr y57) (.own 0 .sh)),(29,.v y4 .sh)] (.cond (.seq (.reg [] []) (.seq (.seq (.reg [] []) (.cond (.seq (.reg [] []) .nil) .nil)) (.reg [] []))) .nil)) [(0,.v y25 .sh),(1,.v y26 .sh),(2,.v y2 .sh),(7,.v y25 (.own 57 .sh)),(8,.v y4 .sh),(9,.v y2 .sh),(10,.v (.ptr y57) (.own 0 .sh))] (.reg [] [])))) [(0,.v y25 .sh),(1,.v y26 .sh),(2,.v y2 .sh),(7,.v y25 (.own 57 .sh)),(8,.v y4 .sh),(9,.v y2 .sh)] (.reg [] [])))))) (.join (.seq (.reg [] []) (.cond (.reg [] []) .nil)) [(7,.v y25 (.own 57 .sh))] (.seq (.reg [] []) .nil))))))
theorem ev63 (xs:Vals (ptys sg63.ps)):evF (P:=Tryz.prog) tab [.fn E32,.fn E56] sg63 Tryz.f63.results.toList (code Tryz.f63) plan63 xs=d63 xs.1 xs.2.1 xs.2.2.1:=by kernel_rfl
theorem sim63:Sim Tryz.prog 63 sg63 d63:=sim_ev mixd tabOK Tryz.func63 (code_of rfl) Tryz.call63 (Nat.le_of_ble_eq_true (by kernel_rfl)) (by kernel_rfl) plan63 _ fun xs y h=>(ev63 xs).trans h
noncomputable def E63:FnE Tryz.prog:=⟨63,sg63,d63,sim63⟩
noncomputable def d30 (n:Int) (ballots:List (List Int)):Option ((List (List Int × Int)) × Int) :=
 letJ (fun ((n_1,ballots_1,t13):Int × (List (List Int)) × Bool) =>
   bif t13 then
    some ([],4)
   else
    bif (decide (100000 < (ballots_1.length:Int))) then
     some ([],7)
    else
     (whileO (β:=(List (List Int × Int)) ⊕ ((List (List Int × Int)) × Int)) (fun ((n_2,ballots_2,gs,i):Int × (List (List Int)) × (List (List Int × Int)) × Int) =>
       bif (decide (i < (ballots_2.length:Int))) then
        bif (decide (0≤i) && decide (i < (ballots_2.length:Int))) then
         (d31 n_2 (List.getD ballots_2 (Int.toNat i) [])).bind fun r =>
         bif !r then
          some (Sum.inr (Sum.inr ([],8)))
         else
          bif (decide (0≤i) && decide (i < (ballots_2.length:Int))) then
           bif (decide ((([]:List Int).length:Int)+((List.getD ballots_2 (Int.toNat i) []).length:Int)≤LIM)) then
            (d63 gs (List.getD ballots_2 (Int.toNat i) []) 1).bind fun r_1 =>
            some (Sum.inl (n_2,ballots_2,r_1,(w (i+1))))
           else none
          else none
        else none
       else
        some (Sum.inr (Sum.inl gs))) (n_1,ballots_1,[],0)).bind fun
     | Sum.inl gs_1 =>
      some (gs_1,0)
     | Sum.inr (t4,t5) =>
      some (t4,t5)) fun j_ =>
 bif !(decide (n < 1)) then
  j_ (n,ballots,(decide (7 < n)))
 else
  j_ (n,ballots,true)
def sg30:Sig:=⟨[(y2,.sh),(y27,.bw)],[(y25,.sh),(y2,.sh)]⟩
def plan30:Plan:=(.post (.seq (.reg [] []) (.seq (.join (.reg [] []) [(0,.v y2 .sh),(1,.v y27 .bw),(13,.v y4 .sh)] (.cond (.seq (.reg [] []) .nil) .nil)) (.seq (.seq (.reg [] []) (.cond (.seq (.reg [] []) .nil) .nil)) (.seq (.reg [] [{ fl:=2 }]) (.seq (.seq (.reg [] []) (.block (.loop [(0,.v y2 .sh),(1,.v y27 .bw),(6,.v y25 (.own 57 .sh)),(7,.v y2 .sh)] [(.brk 0,[(6,.v y25 (.own 57 .sh))]),(.ret,[(4,.v y25 .sh),(5,.v y2 .sh)])] (.seq (.seq (.reg [] []) (.cond .nil .nil)) (.seq (.block (.seq (.seq (.reg [] []) (.cond (.seq (.reg [] []) .nil) .nil)) (.reg [(6,[])] [{},{},{},{},{},{},{ frz:=[(35,[])] }]))) (.reg [] [])))))) (.seq (.reg [] []) .nil)))))) [(4,[])])
theorem ev30 (xs:Vals (ptys sg30.ps)):evF (P:=Tryz.prog) tab [.fn E31,.fn E63] sg30 Tryz.f30.results.toList (code Tryz.f30) plan30 xs=d30 xs.1 xs.2.1:=by kernel_rfl
theorem sim30:Sim Tryz.prog 30 sg30 d30:=sim_ev mixd tabOK Tryz.func30 (code_of rfl) Tryz.call30 (Nat.le_of_ble_eq_true (by kernel_rfl)) (by kernel_rfl) plan30 _ fun xs y h=>(ev30 xs).trans h
noncomputable def E30:FnE Tryz.prog:=⟨30,sg30,d30,sim30⟩
noncomputable def d12 (n:Int) (l:List (List Int)) (most:Int):Option (List (List Int × Int)) :=
 (d34 n l most).bind fun r =>
 (d30 n r).bind fun r_1 =>
 some r_1.1
def sg12:Sig:=⟨[(y2,.sh),(y27,.bw),(y2,.sh)],[(y25,.sh)]⟩
def plan12:Plan:=(.seq (.reg [] []) (.seq (.reg [] [{},{},{},{},{},{},{ fl:=1 }]) (.seq (.reg [] []) .nil)))
theorem ev12 (xs:Vals (ptys sg12.ps)):evF (P:=Tryz.prog) tab [.fn E34,.fn E30] sg12 Tryz.f12.results.toList (code Tryz.f12) plan12 xs=d12 xs.1 xs.2.1 xs.2.2.1:=by kernel_rfl
theorem sim12:Sim Tryz.prog 12 sg12 d12:=sim_ev mixd tabOK Tryz.func12 (code_of rfl) Tryz.call12 (Nat.le_of_ble_eq_true (by kernel_rfl)) (by kernel_rfl) plan12 _ fun xs y h=>(ev12 xs).trans h
noncomputable def E12:FnE Tryz.prog:=⟨12,sg12,d12,sim12⟩
noncomputable def d13 (l:List (List Int)) (n:Int):Option (List (List Int)) :=
 (whileO (β:=(List (List Int))) (fun ((l_1,n_1,out,i):(List (List Int)) × Int × (List (List Int)) × Int) =>
   letJ (fun ((l_2,n_2,out_1,i_1,t15):(List (List Int)) × Int × (List (List Int)) × Int × Bool) =>
     bif t15 then
      bif (decide (0≤i_1) && decide (i_1 < (l_2.length:Int))) then
       bif (decide (0≤i_1) && decide (i_1 < (l_2.length:Int))) then
        bif (cutOK 0 (bif (decide (8 < ((List.getD l_2 (Int.toNat i_1) []).length:Int))) then 8 else ((List.getD l_2 (Int.toNat i_1) []).length:Int)) (List.getD l_2 (Int.toNat i_1) []).length) then
         bif (decide ((out_1.length:Int)+(([(List.drop 0 (List.take (Int.toNat (bif (decide (8 < ((List.getD l_2 (Int.toNat i_1) []).length:Int))) then 8 else ((List.getD l_2 (Int.toNat i_1) []).length:Int))) (List.getD l_2 (Int.toNat i_1) [])))]:List (List Int)).length:Int)≤LIM)) then
          some (Sum.inl (l_2,n_2,(out_1++[(List.drop 0 (List.take (Int.toNat (bif (decide (8 < ((List.getD l_2 (Int.toNat i_1) []).length:Int))) then 8 else ((List.getD l_2 (Int.toNat i_1) []).length:Int))) (List.getD l_2 (Int.toNat i_1) [])))]),(w (i_1+1))))
         else none
        else none
       else none
      else none
     else
      some (Sum.inr out_1)) fun j_ =>
   bif (decide (i < (l_1.length:Int))) then
    j_ (l_1,n_1,out,i,(decide (i < n_1)))
   else
    j_ (l_1,n_1,out,i,false)) (l,n,[],0)).bind fun (out_2:List (List Int)) =>
 some out_2
def sg13:Sig:=⟨[(y27,.sh),(y2,.sh)],[(y27,(.own 26 .sh))]⟩
def plan13:Plan:=(.seq (.reg [] []) (.seq (.reg [] [{ fl:=2 }]) (.seq (.seq (.reg [] []) (.block (.loop [(0,.v y27 .sh),(1,.v y2 .sh),(5,.v y27 (.own 26 .sh)),(6,.v y2 .sh)] [(.brk 0,[(5,.v y27 (.own 26 .sh))])] (.seq (.join (.reg [] []) [(0,.v y27 .sh),(1,.v y2 .sh),(5,.v y27 (.own 26 .sh)),(6,.v y2 .sh),(15,.v y4 .sh)] (.cond .nil .nil)) (.seq (.block (.reg [] [])) (.reg [] [])))))) (.seq (.reg [] []) .nil))))
theorem ev13 (xs:Vals (ptys sg13.ps)):evF (P:=Tryz.prog) tab [] sg13 Tryz.f13.results.toList (code Tryz.f13) plan13 xs=d13 xs.1 xs.2.1:=by kernel_rfl
theorem sim13:Sim Tryz.prog 13 sg13 d13:=sim_ev mixd tabOK Tryz.func13 (code_of rfl) Tryz.call13 (Nat.le_of_ble_eq_true (by kernel_rfl)) (by kernel_rfl) plan13 _ fun xs y h=>(ev13 xs).trans h
noncomputable def E13:FnE Tryz.prog:=⟨13,sg13,d13,sim13⟩
noncomputable def d44 (n:Int):Option (List Int) :=
 (whileO (β:=(List Int)) (fun ((n_1,out,i):Int × (List Int) × Int) =>
   bif (decide (i < n_1)) then
    bif (decide ((out.length:Int)+(([i]:List Int).length:Int)≤LIM)) then
     some (Sum.inl (n_1,(out++[i]),(w (i+1))))
    else none
   else
    some (Sum.inr out)) (n,[],0)).bind fun (out_1:List Int) =>
 some out_1
noncomputable def d72 (n:Int) (l:List Int):Option Bool :=
 bif (decide ((l.length:Int)=n)) then
  (d31 n l).bind fun r =>
  some r
 else
  some false
noncomputable def d43 (p0:Int) (p1:(List Int × (List (List Int) × (Int × (Int × (Int × (Int × (Int × (Int × Int))))))))) (p2:List (List Int × Int)) (p3:List Int):Option Int :=
 letJ (fun ((t0,t2,t3,t5,t9,t25):Int × (List (List Int × Int)) × (List Int) × (List Int × (List (List Int) × (Int × (Int × (Int × (Int × (Int × (Int × Int)))))))) × Int × Bool) =>
   bif t25 then
    some 5
   else
    letJ (fun ((t0_1,t2_1,t3_1,t5_1,t9_1,t10):Int × (List (List Int × Int)) × (List Int) × (List Int × (List (List Int) × (Int × (Int × (Int × (Int × (Int × (Int × Int)))))))) × Int × Bool) =>
      letJ (fun ((t2_2,t3_2,t9_2,t77):(List (List Int × Int)) × (List Int) × Int × Bool) =>
        bif t77 then
         some 4
        else
         (d9 t9_2 t2_2).bind fun r =>
         bif !r then
          some 8
         else
          (d72 t9_2 t3_2).bind fun r_1 =>
          bif !r_1 then
           some 13
          else
           some 0) fun j__2 =>
      bif !(decide (t9_1 < 1)) then
       bif !(decide (7 < t9_1)) then
        bif !(decide (t5_1.2.2.2.1 < 1)) then
         bif !(decide (5 < t5_1.2.2.2.1)) then
          bif (decide (t0_1=1)) then
           bif !(!(decide (t5_1.2.2.2.1=1))) then
            bif !(!t10) then
             bif !(decide (t5_1.2.2.2.2.2.2.1 < 1)) then
              j__2 (t2_1,t3_1,t9_1,(decide (3 < t5_1.2.2.2.2.2.2.1)))
             else
              j__2 (t2_1,t3_1,t9_1,true)
            else
             j__2 (t2_1,t3_1,t9_1,true)
           else
            j__2 (t2_1,t3_1,t9_1,true)
          else
           bif !(!t10) then
            bif !(decide (t5_1.2.2.2.2.2.2.1 < 1)) then
             j__2 (t2_1,t3_1,t9_1,(decide (3 < t5_1.2.2.2.2.2.2.1)))
            else
             j__2 (t2_1,t3_1,t9_1,true)
           else
            j__2 (t2_1,t3_1,t9_1,true)
         else
          j__2 (t2_1,t3_1,t9_1,true)
        else
         j__2 (t2_1,t3_1,t9_1,true)
       else
        j__2 (t2_1,t3_1,t9_1,true)
      else
       j__2 (t2_1,t3_1,t9_1,true)) fun j__1 =>
    bif (decide (t0=2)) then
     bif (decide (1≤t5.2.2.2.2.2.1)) then
      j__1 (t0,t2,t3,t5,t9,(decide (t5.2.2.2.2.2.1≤6)))
     else
      j__1 (t0,t2,t3,t5,t9,false)
    else
     j__1 (t0,t2,t3,t5,t9,(decide (t5.2.2.2.2.2.1=0)))) fun j_ =>
 bif !(decide (p0 < 1)) then
  bif !(decide (3 < p0)) then
   j_ (p0,p2,p3,p1,(p1.2.1.length:Int),!(decide (p1.2.2.1=p0)))
  else
   j_ (p0,p2,p3,p1,(p1.2.1.length:Int),true)
 else
  j_ (p0,p2,p3,p1,(p1.2.1.length:Int),true)
noncomputable def d127 (l:List Int):Option (List Int) :=
 (whileO (β:=(List Int)) (fun ((l_1,out,x):(List Int) × (List Int) × Int) =>
   bif (decide (x < 7)) then
    letJ (fun ((l_2,out_1,x_1):(List Int) × (List Int) × Int) =>
      some (Sum.inl (l_2,out_1,(w (x_1+1))))) fun j_ =>
    (d35 l_1 x).bind fun r =>
    bif r then
     bif (decide ((out.length:Int)+(([x]:List Int).length:Int)≤LIM)) then
      j_ (l_1,(out++[x]),x)
     else none
    else
     j_ (l_1,out,x)
   else
    some (Sum.inr out)) (l,[],0)).bind fun (out_2:List Int) =>
 some out_2
noncomputable def d83 (l:List Int):Option Bool :=
 (whileO (β:=Unit ⊕ Bool) (fun ((l_1,i):(List Int) × Int) =>
   bif (decide (i < (l_1.length:Int))) then
    bif (decide (0≤(w (i - 1))) && decide ((w (i - 1)) < (l_1.length:Int))) then
     bif (decide (0≤i) && decide (i < (l_1.length:Int))) then
      bif (decide ((List.getD l_1 (Int.toNat i) 0)≤(List.getD l_1 (Int.toNat (w (i - 1))) 0))) then
       some (Sum.inr (Sum.inr false))
      else
       some (Sum.inl (l_1,(w (i+1))))
     else none
    else none
   else
    some (Sum.inr (Sum.inl ()))) (l,1)).bind fun
 | Sum.inl _ =>
  some true
 | Sum.inr t2 =>
  some t2
noncomputable def d54 (p0:Int) (p1:(Int × (Int × (Int × (List Int × Int))))):Option Bool :=
 letJ (fun ((t0,t3,t32):Int × (Int × (Int × (Int × (List Int × Int)))) × Bool) =>
   bif t32 then
    some false
   else
    bif (decide (t3.1=1)) then
     bif !(decide (t3.2.1=t3.2.2.1)) then
      bif (decide ((t3.2.2.2.1.length:Int)=0)) then
       some (decide (t3.2.2.2.2=0))
      else
       some false
     else
      some false
    else
     bif (decide (t3.1=2)) then
      bif !(decide (t3.2.1=t3.2.2.1)) then
       (d31 t0 t3.2.2.2.1).bind fun r =>
       bif r then
        (d83 t3.2.2.2.1).bind fun r_1 =>
        bif r_1 then
         (d35 t3.2.2.2.1 t3.2.1).bind fun r_2 =>
         bif r_2 then
          (d35 t3.2.2.2.1 t3.2.2.1).bind fun r_3 =>
          bif r_3 then
           some (decide (t3.2.2.2.2=0))
          else
           some false
         else
          some false
        else
         some false
       else
        some false
      else
       some false
     else
      bif (decide (t3.1=3)) then
       bif (decide (t3.2.2.1=0)) then
        bif (decide ((t3.2.2.2.1.length:Int)=0)) then
         bif (decide (2≤t3.2.2.2.2)) then
          some (decide (t3.2.2.2.2≤6))
         else
          some false
        else
         some false
       else
        some false
      else
       some false) fun j_ =>
 bif !(decide (p0 < 1)) then
  bif !(decide (7 < p0)) then
   bif !(decide (p1.2.1 < 0)) then
    bif !(decide (p0≤p1.2.1)) then
     bif !(decide (p1.2.2.1 < 0)) then
      j_ (p0,p1,(decide (p0≤p1.2.2.1)))
     else
      j_ (p0,p1,true)
    else
     j_ (p0,p1,true)
   else
    j_ (p0,p1,true)
  else
   j_ (p0,p1,true)
 else
  j_ (p0,p1,true)
noncomputable def d79 (n:Int):Option (List Bool) :=
 bif (decide (n=n) && (decide (0≤n) && decide (n≤LIM))) then
  (whileO (β:=(List Bool)) (fun ((n_1,out,i):Int × (List Bool) × Int) =>
    bif (decide (i < n_1)) then
     bif (decide (0≤i) && decide (i < (out.length:Int))) then
      some (Sum.inl (n_1,(List.set out (Int.toNat i) true),(w (i+1))))
     else none
    else
     some (Sum.inr out)) (n,(List.replicate (Int.toNat n) false),0)).bind fun (out_1:List Bool) =>
  some out_1
 else none
noncomputable def d112 (gs:List (List Int × Int)):Option Bool :=
 (d9 7 gs).bind fun r =>
 some r
noncomputable def d132 (remain:List Bool) (i:Int):Option Bool :=
 bif (decide (0≤i)) then
  bif (decide (i < (remain.length:Int))) then
   bif (decide (0≤i) && decide (i < (remain.length:Int))) then
    some (List.getD remain (Int.toNat i) false)
   else none
  else
   some false
 else
  some false
noncomputable def d113 (p:List Int) (remain:List Bool):Option (List Int) :=
 (whileO (β:=(List Int)) (fun ((p_1,remain_1,out,i):(List Int) × (List Bool) × (List Int) × Int) =>
   bif (decide (i < (p_1.length:Int))) then
    letJ (fun ((p_2,remain_2,out_1,i_1):(List Int) × (List Bool) × (List Int) × Int) =>
      some (Sum.inl (p_2,remain_2,out_1,(w (i_1+1))))) fun j_ =>
    bif (decide (0≤i) && decide (i < (p_1.length:Int))) then
     (d132 remain_1 (List.getD p_1 (Int.toNat i) 0)).bind fun r =>
     bif r then
      bif (decide (0≤i) && decide (i < (p_1.length:Int))) then
       bif (decide ((out.length:Int)+(([(List.getD p_1 (Int.toNat i) 0)]:List Int).length:Int)≤LIM)) then
        j_ (p_1,remain_1,(out++[(List.getD p_1 (Int.toNat i) 0)]),i)
       else none
      else none
     else
      j_ (p_1,remain_1,out,i)
    else none
   else
    some (Sum.inr out)) (p,remain,[],0)).bind fun (out_2:List Int) =>
 some out_2
noncomputable def d78 (gs:List (List Int × Int)) (remain:List Bool):Option ((List Int) × Int) :=
 letJ (fun ((gs_1,remain_1,t17):(List (List Int × Int)) × (List Bool) × Bool) =>
   bif t17 then
    some ([],0)
   else
    bif (decide ((remain_1.length:Int)=(remain_1.length:Int)) && (decide (0≤(remain_1.length:Int)) && decide ((remain_1.length:Int)≤LIM))) then
     (whileO (β:=((List Int) × Int)) (fun ((gs_2,remain_2,votes,rest,i):(List (List Int × Int)) × (List Bool) × (List Int) × Int × Int) =>
       bif (decide (i < (gs_2.length:Int))) then
        letJ (fun ((gs_3,remain_3,votes_1,rest_1,i_1):(List (List Int × Int)) × (List Bool) × (List Int) × Int × Int) =>
          some (Sum.inl (gs_3,remain_3,votes_1,rest_1,(w (i_1+1))))) fun j__1 =>
        bif (decide (0≤i) && decide (i < (gs_2.length:Int))) then
         (d113 ((List.getD gs_2 (Int.toNat i) ([],0)).1) remain_2).bind fun r_1 =>
         bif (decide (0 < (r_1.length:Int))) then
          bif (decide (0≤0) && decide (0 < (r_1.length:Int))) then
           bif (decide (0≤(List.getD r_1 0 0)) && decide ((List.getD r_1 0 0) < (votes.length:Int))) then
            bif (decide (0≤i) && decide (i < (gs_2.length:Int))) then
             bif (decide (0≤(List.getD r_1 0 0)) && decide ((List.getD r_1 0 0) < (votes.length:Int))) then
              j__1 (gs_2,remain_2,(List.set votes (Int.toNat (List.getD r_1 0 0)) (w ((List.getD votes (Int.toNat (List.getD r_1 0 0)) 0)+((List.getD gs_2 (Int.toNat i) ([],0)).2)))),rest,i)
             else none
            else none
           else none
          else none
         else
          bif (decide (0≤i) && decide (i < (gs_2.length:Int))) then
           j__1 (gs_2,remain_2,votes,(w (rest+((List.getD gs_2 (Int.toNat i) ([],0)).2))),i)
          else none
        else none
       else
        some (Sum.inr (votes,rest))) (gs_1,remain_1,(List.replicate (Int.toNat (remain_1.length:Int)) 0),0,0)).bind fun ((votes_2,rest_2):(List Int) × Int) =>
     some (votes_2,rest_2)
    else none) fun j_ =>
 bif !(decide (7 < (remain.length:Int))) then
  (d112 gs).bind fun r =>
  j_ (gs,remain,!r)
 else
  j_ (gs,remain,true)
noncomputable def d114 (p:List Int) (x:Int):Option Int :=
 (whileO (β:=(List Int) ⊕ Int) (fun ((p_1,x_1,i):(List Int) × Int × Int) =>
   bif (decide (i < (p_1.length:Int))) then
    bif (decide (0≤i) && decide (i < (p_1.length:Int))) then
     bif (decide ((List.getD p_1 (Int.toNat i) 0)=x_1)) then
      some (Sum.inr (Sum.inr i))
     else
      some (Sum.inl (p_1,x_1,(w (i+1))))
    else none
   else
    some (Sum.inr (Sum.inl p_1))) (p,x,0)).bind fun
 | Sum.inl p_2 =>
  some (p_2.length:Int)
 | Sum.inr t4 =>
  some t4
noncomputable def d80 (gs:List (List Int × Int)) (a:Int) (b:Int):Option Int :=
 (whileO (β:=Int) (fun ((gs_1,a_1,b_1,n,i):(List (List Int × Int)) × Int × Int × Int × Int) =>
   letJ (fun ((gs_2,a_2,b_2,n_1,i_1,t16):(List (List Int × Int)) × Int × Int × Int × Int × Bool) =>
     bif t16 then
      letJ (fun ((gs_3,a_3,b_3,n_2,i_2):(List (List Int × Int)) × Int × Int × Int × Int) =>
        some (Sum.inl (gs_3,a_3,b_3,n_2,(w (i_2+1))))) fun j__1 =>
      bif (decide (0≤i_1) && decide (i_1 < (gs_2.length:Int))) then
       (d114 ((List.getD gs_2 (Int.toNat i_1) ([],0)).1) a_2).bind fun r_1 =>
       bif (decide (0≤i_1) && decide (i_1 < (gs_2.length:Int))) then
        (d114 ((List.getD gs_2 (Int.toNat i_1) ([],0)).1) b_2).bind fun r_2 =>
        bif (decide (r_1 < r_2)) then
         bif (decide (0≤i_1) && decide (i_1 < (gs_2.length:Int))) then
          j__1 (gs_2,a_2,b_2,(w (n_1+((List.getD gs_2 (Int.toNat i_1) ([],0)).2))),i_1)
         else none
        else
         j__1 (gs_2,a_2,b_2,n_1,i_1)
       else none
      else none
     else
      some (Sum.inr n_1)) fun j_ =>
   bif (decide (i < (gs_1.length:Int))) then
    (d112 gs_1).bind fun r =>
    j_ (gs_1,a_1,b_1,n,i,r)
   else
    j_ (gs_1,a_1,b_1,n,i,false)) (gs,a,b,0,0)).bind fun (n_3:Int) =>
 some n_3
noncomputable def d81 (n:Int) (l:List Int):Option (List Bool) :=
 bif (decide (n=n) && (decide (0≤n) && decide (n≤LIM))) then
  (whileO (β:=(List Bool)) (fun ((l_1,out,i):(List Int) × (List Bool) × Int) =>
    bif (decide (i < (l_1.length:Int))) then
     bif (decide (0≤i) && decide (i < (l_1.length:Int))) then
      bif (decide (0≤(List.getD l_1 (Int.toNat i) 0)) && decide ((List.getD l_1 (Int.toNat i) 0) < (out.length:Int))) then
       some (Sum.inl (l_1,(List.set out (Int.toNat (List.getD l_1 (Int.toNat i) 0)) true),(w (i+1))))
      else none
     else none
    else
     some (Sum.inr out)) (l,(List.replicate (Int.toNat n) false),0)).bind fun (out_1:List Bool) =>
  some out_1
 else none
noncomputable def d115 (gs:List (List Int × Int)):Option Int :=
 (whileO (β:=Int) (fun ((gs_1,n,i):(List (List Int × Int)) × Int × Int) =>
   letJ (fun ((gs_2,n_1,i_1,t12):(List (List Int × Int)) × Int × Int × Bool) =>
     bif t12 then
      bif (decide (0≤i_1) && decide (i_1 < (gs_2.length:Int))) then
       some (Sum.inl (gs_2,(w (n_1+((List.getD gs_2 (Int.toNat i_1) ([],0)).2))),(w (i_1+1))))
      else none
     else
      some (Sum.inr n_1)) fun j_ =>
   bif (decide (i < (gs_1.length:Int))) then
    (d112 gs_1).bind fun r =>
    j_ (gs_1,n,i,r)
   else
    j_ (gs_1,n,i,false)) (gs,0,0)).bind fun (n_2:Int) =>
 some n_2
noncomputable def d82 (gs:List (List Int × Int)):Option Int :=
 (d115 gs).bind fun r =>
 letJ (fun (n_1:Int) =>
   some n_1) fun j__1 =>
 letJ (fun ((gs_1,n,t15):(List (List Int × Int)) × Int × Bool) =>
   bif t15 then
    bif (decide (0≤0) && decide (0 < (gs_1.length:Int))) then
     j__1 (w (n - ((List.getD gs_1 0 ([],0)).2)))
    else none
   else
    j__1 n) fun j_ =>
 bif (decide (0 < r)) then
  bif (decide (0≤0) && decide (0 < (gs.length:Int))) then
   j_ (gs,r,(decide ((((List.getD gs 0 ([],0)).1).length:Int)=0)))
  else none
 else
  j_ (gs,r,false)
noncomputable def d53 (p0:Int) (p1:List (List Int × Int)) (p2:(Int × (Int × (Int × (List Int × Int))))):Option (Int × Int) :=
 letJ (fun ((t0,t1,t5,t21):Int × (List (List Int × Int)) × (Int × (Int × (Int × (List Int × Int)))) × Bool) =>
   bif t21 then
    some (0,0)
   else
    (d79 t0).bind fun r_2 =>
    (d78 t1 r_2).bind fun r_3 =>
    bif (decide (t5.1=1)) then
     bif (decide (0≤t5.2.1) && decide (t5.2.1 < (r_3.1.length:Int))) then
      (d80 t1 t5.2.2.1 t5.2.1).bind fun r_4 =>
      some ((List.getD r_3.1 (Int.toNat t5.2.1) 0),r_4)
     else none
    else
     bif (decide (t5.1=2)) then
      (d81 t0 t5.2.2.2.1).bind fun r_5 =>
      (d78 t1 r_5).bind fun r_6 =>
      bif (decide (0≤t5.2.1) && decide (t5.2.1 < (r_6.1.length:Int))) then
       bif (decide (0≤t5.2.2.1) && decide (t5.2.2.1 < (r_6.1.length:Int))) then
        some ((List.getD r_6.1 (Int.toNat t5.2.1) 0),(List.getD r_6.1 (Int.toNat t5.2.2.1) 0))
       else none
      else none
     else
      bif (decide (0≤t5.2.1) && decide (t5.2.1 < (r_3.1.length:Int))) then
       (d82 t1).bind fun r_7 =>
       some ((w (t5.2.2.2.2 * (List.getD r_3.1 (Int.toNat t5.2.1) 0))),r_7)
      else none) fun j_ =>
 (d54 p0 p2).bind fun r =>
 bif !(!r) then
  (d9 p0 p1).bind fun r_1 =>
  j_ (p0,p1,p2,!r_1)
 else
  j_ (p0,p1,p2,true)
noncomputable def d25 (n:Int) (gs:List (List Int × Int)) (a:(Int × (Int × (Int × (List Int × Int))))):Option Int :=
 (d53 n gs a).bind fun r =>
 some (w (r.1 - r.2))
noncomputable def d52 (a:Int) (b:Int):Option Int :=
 bif (decide (a < b)) then
  some (-1)
 else
  bif (decide (b < a)) then
   some 1
  else
   some 0
noncomputable def d24 (a:(Int × (Int × (Int × (List Int × Int))))) (b:(Int × (Int × (Int × (List Int × Int))))):Option Int :=
 (d52 a.1 b.1).bind fun r =>
 (d52 a.2.1 b.2.1).bind fun r_1 =>
 (d52 a.2.2.1 b.2.2.1).bind fun r_2 =>
 (d52 (a.2.2.2.1.length:Int) (b.2.2.2.1.length:Int)).bind fun r_3 =>
 (whileO (β:=((Int × (Int × (Int × (List Int × Int)))) × (Int × (Int × (Int × (List Int × Int))))) ⊕ Int) (fun ((a_1,b_1,t29,t30):(Int × (Int × (Int × (List Int × Int)))) × (Int × (Int × (Int × (List Int × Int)))) × (List Int) × Int) =>
   bif (decide (t30 < 4)) then
    bif (decide (0≤t30) && decide (t30 < 4)) then
     bif !(decide ((List.getD t29 (Int.toNat t30) 0)=0)) then
      some (Sum.inr (Sum.inr (List.getD t29 (Int.toNat t30) 0)))
     else
      some (Sum.inl (a_1,b_1,t29,(w (t30+1))))
    else none
   else
    some (Sum.inr (Sum.inl (a_1,b_1)))) (a,b,[r,r_1,r_2,r_3],0)).bind fun
 | Sum.inl (a_2,b_2) =>
  (d32 a_2.2.2.2.1 b_2.2.2.2.1).bind fun r_4 =>
  bif r_4 then
   some (-1)
  else
   (d32 b_2.2.2.2.1 a_2.2.2.2.1).bind fun r_5 =>
   bif r_5 then
    some 1
   else
    (d52 a_2.2.2.2.2 b_2.2.2.2.2).bind fun r_6 =>
    some r_6
 | Sum.inr t4 =>
  some t4
noncomputable def d104 (p0:Int) (p1:List (List Int × Int)) (p2:List Int):Option ((Int × (Int × (Int × (List Int × Int)))) × Int) :=
 (whileO (β:=((Int × (Int × (Int × (List Int × Int)))) × (Int × (Int × (Int × (List Int × Int)))) × Int)) (fun ((t0,t1,t2,t6,t8,t9,t10,t11):Int × (List (List Int × Int)) × (List Int) × (Int × (Int × (Int × (List Int × Int)))) × (Int × (Int × (Int × (List Int × Int)))) × Int × Bool × Int) =>
   bif (decide (t11 < t0)) then
    letJ (fun ((t0_3,t1_3,t2_3,t6_3,t8_3,t9_3,t10_3,t11_3):Int × (List (List Int × Int)) × (List Int) × (Int × (Int × (Int × (List Int × Int)))) × (Int × (Int × (Int × (List Int × Int)))) × Int × Bool × Int) =>
      some (Sum.inl (t0_3,t1_3,t2_3,t6_3,t8_3,t9_3,t10_3,(w (t11_3+1))))) fun j__2 =>
    bif (decide (0≤0) && decide (0 < (t2.length:Int))) then
     letJ (fun ((t0_1,t1_1,t2_1,t6_1,t8_1,t9_1,t10_1,t11_1,t12):Int × (List (List Int × Int)) × (List Int) × (Int × (Int × (Int × (List Int × Int)))) × (Int × (Int × (Int × (List Int × Int)))) × Int × Bool × Int × (Int × (Int × (Int × (List Int × Int))))) =>
       bif (decide (0≤0) && decide (0 < (t2_1.length:Int))) then
        bif (decide (t11_1=(List.getD t2_1 0 0))) then
         j__2 (t0_1,t1_1,t2_1,t6_1,t8_1,t9_1,t10_1,t11_1)
        else
         (d25 t0_1 t1_1 t12).bind fun r_2 =>
         letJ (fun ((t0_2,t1_2,t2_2,t6_2,t8_2,t9_2,t10_2,t11_2,t12_1,t13,t60):Int × (List (List Int × Int)) × (List Int) × (Int × (Int × (Int × (List Int × Int)))) × (Int × (Int × (Int × (List Int × Int)))) × Int × Bool × Int × (Int × (Int × (Int × (List Int × Int)))) × Int × Bool) =>
           bif t60 then
            j__2 (t0_2,t1_2,t2_2,t6_2,t12_1,t13,true,t11_2)
           else
            j__2 (t0_2,t1_2,t2_2,t6_2,t8_2,t9_2,t10_2,t11_2)) fun j__1 =>
         bif !(!t10_1) then
          bif !(decide (t9_1 < r_2)) then
           bif (decide (r_2=t9_1)) then
            (d24 t12 t8_1).bind fun r_3 =>
            j__1 (t0_1,t1_1,t2_1,t6_1,t8_1,t9_1,t10_1,t11_1,t12,r_2,(decide (r_3 < 0)))
           else
            j__1 (t0_1,t1_1,t2_1,t6_1,t8_1,t9_1,t10_1,t11_1,t12,r_2,false)
          else
           j__1 (t0_1,t1_1,t2_1,t6_1,t8_1,t9_1,t10_1,t11_1,t12,r_2,true)
         else
          j__1 (t0_1,t1_1,t2_1,t6_1,t8_1,t9_1,t10_1,t11_1,t12,r_2,true)
       else none) fun j_ =>
     (d35 t2 t11).bind fun r =>
     bif r then
      bif (decide (0≤0) && decide (0 < (t2.length:Int))) then
       (d127 t2).bind fun r_1 =>
       j_ (t0,t1,t2,t6,t8,t9,t10,t11,(2,(List.getD t2 0 0),t11,r_1,0))
      else none
     else
      j_ (t0,t1,t2,t6,t8,t9,t10,t11,(1,t11,(List.getD t2 0 0),[],0))
    else none
   else
    some (Sum.inr (t6,t8,t9))) (p0,p1,p2,(0,0,0,[],0),(0,0,0,[],0),0,false,0)).bind fun ((t6_4,t8_4,t9_4):(Int × (Int × (Int × (List Int × Int)))) × (Int × (Int × (Int × (List Int × Int)))) × Int) =>
 some (t8_4,t9_4)
noncomputable def d105 (x:Int) (l:List Int):Option (List Int) :=
 bif (decide ((([x]:List Int).length:Int)+(l.length:Int)≤LIM)) then
  some ([x]++l)
 else none
noncomputable def d73F (self_:Int→(List (List Int × Int))→(List Int)→Option (Int × (List (Int × (Int × (Int × (List Int × Int))))))) (p0:Int) (p1:List (List Int × Int)) (p2:List Int):Option (Int × (List (Int × (Int × (Int × (List Int × Int)))))) :=
 (d104 p0 p1 p2).bind fun r =>
 bif (decide ((p2.length:Int)=p0)) then
  some (r.2,[r.1])
 else
  (whileO (β:=((Int × (Int × (Int × (List Int × Int)))) × Int × Int × (List (Int × (Int × (Int × (List Int × Int))))))) (fun ((t0,t1,t2,t8,t9,t10,t11,t12,t13):Int × (List (List Int × Int)) × (List Int) × (Int × (Int × (Int × (List Int × Int)))) × Int × Int × Bool × (List (Int × (Int × (Int × (List Int × Int))))) × Int) =>
    bif (decide (t13 < t0)) then
     letJ (fun ((t0_3,t1_3,t2_3,t8_3,t9_3,t10_3,t11_3,t12_3,t13_3):Int × (List (List Int × Int)) × (List Int) × (Int × (Int × (Int × (List Int × Int)))) × Int × Int × Bool × (List (Int × (Int × (Int × (List Int × Int))))) × Int) =>
       some (Sum.inl (t0_3,t1_3,t2_3,t8_3,t9_3,t10_3,t11_3,t12_3,(w (t13_3+1))))) fun j__2 =>
     (d35 t2 t13).bind fun r_1 =>
     bif r_1 then
      j__2 (t0,t1,t2,t8,t9,t10,t11,t12,t13)
     else
      (d105 t13 t2).bind fun r_2 =>
      (self_ t0 t1 r_2).bind fun r_3 =>
      letJ (fun ((t0_2,t1_2,t2_2,t8_2,t9_2,t10_2,t11_2,t12_2,t13_2,t15_1):Int × (List (List Int × Int)) × (List Int) × (Int × (Int × (Int × (List Int × Int)))) × Int × Int × Bool × (List (Int × (Int × (Int × (List Int × Int))))) × Int × (List (Int × (Int × (Int × (List Int × Int)))))) =>
        bif (decide ((t12_2.length:Int)+(t15_1.length:Int)≤LIM)) then
         j__2 (t0_2,t1_2,t2_2,t8_2,t9_2,t10_2,t11_2,(t12_2++t15_1),t13_2)
        else none) fun j__1 =>
      letJ (fun ((t0_1,t1_1,t2_1,t8_1,t9_1,t10_1,t11_1,t12_1,t13_1,t14,t15,t53):Int × (List (List Int × Int)) × (List Int) × (Int × (Int × (Int × (List Int × Int)))) × Int × Int × Bool × (List (Int × (Int × (Int × (List Int × Int))))) × Int × Int × (List (Int × (Int × (Int × (List Int × Int))))) × Bool) =>
        bif t53 then
         j__1 (t0_1,t1_1,t2_1,t8_1,t9_1,t14,true,t12_1,t13_1,t15)
        else
         j__1 (t0_1,t1_1,t2_1,t8_1,t9_1,t10_1,t11_1,t12_1,t13_1,t15)) fun j_ =>
      bif !(!t11) then
       j_ (t0,t1,t2,t8,t9,t10,t11,t12,t13,r_3.1,r_3.2,(decide (r_3.1 < t10)))
      else
       j_ (t0,t1,t2,t8,t9,t10,t11,t12,t13,r_3.1,r_3.2,true)
    else
     some (Sum.inr (t8,t9,t10,t12))) (p0,p1,p2,r.1,r.2,0,false,[],0)).bind fun ((t8_4,t9_4,t10_4,t12_4):(Int × (Int × (Int × (List Int × Int)))) × Int × Int × (List (Int × (Int × (Int × (List Int × Int)))))) =>
  bif (decide (t10_4≤t9_4)) then
   some (t9_4,[t8_4])
  else
   some (t10_4,t12_4)
def sg73:Sig:=⟨[(y2,.sh),(y25,.bw),(y26,.sh)],[(y2,.sh),(y36,.sh)]⟩
noncomputable def d73N:Nat→Arr (ptys sg73.ps) (Option (Ret sg73.res))
 | 0=>fun _ _ _=>none
 | k+1=>d73F (d73N k)
noncomputable def d73 (p0:Int) (p1:List (List Int × Int)) (p2:List Int):Option (Int × (List (Int × (Int × (Int × (List Int × Int)))))):=d73N 10 p0 p1 p2
noncomputable def d45 (n:Int) (gs:List (List Int × Int)) (winner:Int):Option (Int × (List (Int × (Int × (Int × (List Int × Int)))))) :=
 letJ (fun ((n_1,gs_1,winner_1,t25):Int × (List (List Int × Int)) × Int × Bool) =>
   bif t25 then
    some (0,[])
   else
    (whileO (β:=(Int × (List (Int × (Int × (Int × (List Int × Int))))))) (fun ((n_2,gs_2,winner_2,best,all,x):Int × (List (List Int × Int)) × Int × Int × (List (Int × (Int × (Int × (List Int × Int))))) × Int) =>
      bif (decide (x < n_2)) then
       letJ (fun ((n_3,gs_3,winner_3,best_1,all_1,x_1):Int × (List (List Int × Int)) × Int × Int × (List (Int × (Int × (Int × (List Int × Int))))) × Int) =>
         some (Sum.inl (n_3,gs_3,winner_3,best_1,all_1,(w (x_1+1))))) fun j__1 =>
       bif !(decide (x=winner_2)) then
        (d73 n_2 gs_2 [x]).bind fun r_1 =>
        bif (decide ((all.length:Int)+(r_1.2.length:Int)≤LIM)) then
         j__1 (n_2,gs_2,winner_2,(bif (decide (r_1.1 < best)) then r_1.1 else best),(all++r_1.2),x)
        else none
       else
        j__1 (n_2,gs_2,winner_2,best,all,x)
      else
       some (Sum.inr (best,all))) (n_1,gs_1,winner_1,100000,[],0)).bind fun ((best_2,all_2):Int × (List (Int × (Int × (Int × (List Int × Int)))))) =>
    some ((bif (decide (best_2 < 0)) then 0 else best_2),all_2)) fun j_ =>
 (d9 n gs).bind fun r =>
 bif !(!r) then
  bif !(decide (winner < 0)) then
   j_ (n,gs,winner,(decide (n≤winner)))
  else
   j_ (n,gs,winner,true)
 else
  j_ (n,gs,winner,true)
noncomputable def d46 (l:List (Int × (Int × (Int × (List Int × Int))))):Option (List (Int × (Int × (Int × (List Int × Int))))) :=
 (whileO (β:=(List (Int × (Int × (Int × (List Int × Int)))))) (fun ((l_1,out,i):(List (Int × (Int × (Int × (List Int × Int))))) × (List (Int × (Int × (Int × (List Int × Int))))) × Int) =>
   bif (decide (i < (l_1.length:Int))) then
    letJ (fun ((l_6,out_5,i_5):(List (Int × (Int × (Int × (List Int × Int))))) × (List (Int × (Int × (Int × (List Int × Int))))) × Int) =>
      some (Sum.inl (l_6,out_5,(w (i_5+1))))) fun j__2 =>
    (whileO (β:=((List (Int × (Int × (Int × (List Int × Int))))) × (List (Int × (Int × (Int × (List Int × Int))))) × Int × Int)) (fun ((l_2,out_1,i_1,k):(List (Int × (Int × (Int × (List Int × Int))))) × (List (Int × (Int × (Int × (List Int × Int))))) × Int × Int) =>
      letJ (fun ((l_3,out_2,i_2,k_1,t27):(List (Int × (Int × (Int × (List Int × Int))))) × (List (Int × (Int × (Int × (List Int × Int))))) × Int × Int × Bool) =>
        bif t27 then
         some (Sum.inl (l_3,out_2,i_2,(w (k_1+1))))
        else
         some (Sum.inr (l_3,out_2,i_2,k_1))) fun j_ =>
      bif (decide (k < (out_1.length:Int))) then
       bif (decide (0≤k) && decide (k < (out_1.length:Int))) then
        bif (decide (0≤i_1) && decide (i_1 < (l_2.length:Int))) then
         (d24 (List.getD out_1 (Int.toNat k) (0,0,0,[],0)) (List.getD l_2 (Int.toNat i_1) (0,0,0,[],0))).bind fun r =>
         j_ (l_2,out_1,i_1,k,(decide (r < 0)))
        else none
       else none
      else
       j_ (l_2,out_1,i_1,k,false)) (l_1,out,i,0)).bind fun ((l_4,out_3,i_3,k_2):(List (Int × (Int × (Int × (List Int × Int))))) × (List (Int × (Int × (Int × (List Int × Int))))) × Int × Int) =>
    letJ (fun ((l_5,out_4,i_4,k_3,t45):(List (Int × (Int × (Int × (List Int × Int))))) × (List (Int × (Int × (Int × (List Int × Int))))) × Int × Int × Bool) =>
      bif t45 then
       j__2 (l_5,out_4,i_4)
      else
       bif (cutOK 0 k_3 out_4.length) then
        bif (decide ((([]:List (Int × (Int × (Int × (List Int × Int))))).length:Int)+((List.drop 0 (List.take (Int.toNat k_3) out_4)).length:Int)≤LIM)) then
         bif (decide (0≤i_4) && decide (i_4 < (l_5.length:Int))) then
          bif (decide (((List.drop 0 (List.take (Int.toNat k_3) out_4)).length:Int)+(([(List.getD l_5 (Int.toNat i_4) (0,0,0,[],0))]:List (Int × (Int × (Int × (List Int × Int))))).length:Int)≤LIM)) then
           bif (cutOK k_3 (out_4.length:Int) out_4.length) then
            bif (decide ((((List.drop 0 (List.take (Int.toNat k_3) out_4))++[(List.getD l_5 (Int.toNat i_4) (0,0,0,[],0))]).length:Int)+((List.drop (Int.toNat k_3) (List.take (Int.toNat (out_4.length:Int)) out_4)).length:Int)≤LIM)) then
             j__2 (l_5,(((List.drop 0 (List.take (Int.toNat k_3) out_4))++[(List.getD l_5 (Int.toNat i_4) (0,0,0,[],0))])++(List.drop (Int.toNat k_3) (List.take (Int.toNat (out_4.length:Int)) out_4))),i_4)
            else none
           else none
          else none
         else none
        else none
       else none) fun j__1 =>
    bif (decide (k_2 < (out_3.length:Int))) then
     bif (decide (0≤k_2) && decide (k_2 < (out_3.length:Int))) then
      bif (decide (0≤i_3) && decide (i_3 < (l_4.length:Int))) then
       (d24 (List.getD out_3 (Int.toNat k_2) (0,0,0,[],0)) (List.getD l_4 (Int.toNat i_3) (0,0,0,[],0))).bind fun r_1 =>
       j__1 (l_4,out_3,i_3,k_2,(decide (r_1=0)))
      else none
     else none
    else
     j__1 (l_4,out_3,i_3,k_2,false)
   else
    some (Sum.inr out)) (l,[],0)).bind fun (out_6:List (Int × (Int × (Int × (List Int × Int))))) =>
 some out_6
noncomputable def d16 (p0:(List Int × (List (List Int) × (Int × (Int × (Int × (Int × (Int × (Int × Int))))))))) (p1:List (List Int × Int)) (p2:List Int):Option ((List (Int × (Int × (Int × (List Int × Int))))) × Bool) :=
 letJ (fun ((t1,t2,t3,t8,t30):(List (List Int × Int)) × (List Int) × (List Int × (List (List Int) × (Int × (Int × (Int × (Int × (Int × (Int × Int)))))))) × Int × Bool) =>
   bif t30 then
    some ([],false)
   else
    bif (decide (t8≤t3.2.2.2.1)) then
     some ([],(decide ((t2.length:Int)=t8)))
    else
     bif !(decide ((t2.length:Int)=t3.2.2.2.1)) then
      some ([],false)
     else
      bif (decide (t3.2.2.1=1)) then
       bif (decide (0≤0) && decide (0 < (t2.length:Int))) then
        (d45 t8 t1 (List.getD t2 0 0)).bind fun r_3 =>
        bif (decide (r_3.1 < 1)) then
         some ([],false)
        else
         (d46 r_3.2).bind fun r_4 =>
         some (r_4,true)
       else none
      else
       (whileO (β:=(List (Int × (Int × (Int × (List Int × Int))))) ⊕ ((List (Int × (Int × (Int × (List Int × Int))))) × Bool)) (fun ((t1_1,t2_1,t3_1,t8_1,t9,t12):(List (List Int × Int)) × (List Int) × (List Int × (List (List Int) × (Int × (Int × (Int × (Int × (Int × (Int × Int)))))))) × Int × (List (Int × (Int × (Int × (List Int × Int))))) × Int) =>
         bif (decide (t12 < (t2_1.length:Int))) then
          bif (decide (0≤t12) && decide (t12 < (t2_1.length:Int))) then
           (d25 t8_1 t1_1 (3,(List.getD t2_1 (Int.toNat t12) 0),0,[],(w (t3_1.2.2.2.1+1)))).bind fun r_5 =>
           bif (decide (r_5 < 1)) then
            some (Sum.inr (Sum.inr ([],false)))
           else
            bif (decide ((t9.length:Int)+(([(3,(List.getD t2_1 (Int.toNat t12) 0),0,[],(w (t3_1.2.2.2.1+1)))]:List (Int × (Int × (Int × (List Int × Int))))).length:Int)≤LIM)) then
             some (Sum.inl (t1_1,t2_1,t3_1,t8_1,(t9++[(3,(List.getD t2_1 (Int.toNat t12) 0),0,[],(w (t3_1.2.2.2.1+1)))]),(w (t12+1))))
            else none
          else none
         else
          some (Sum.inr (Sum.inl t9))) (t1,t2,t3,t8,[],0)).bind fun
       | Sum.inl t9_1 =>
        (d46 t9_1).bind fun r_6 =>
        some (r_6,true)
       | Sum.inr (t6,t7) =>
        some (t6,t7)) fun j_ =>
 (d44 (p0.2.1.length:Int)).bind fun r =>
 (d43 p0.2.2.1 p0 p1 r).bind fun r_1 =>
 bif !(!(decide (r_1=0))) then
  (d31 (p0.2.1.length:Int) p2).bind fun r_2 =>
  j_ (p1,p2,p0,(p0.2.1.length:Int),!r_2)
 else
  j_ (p1,p2,p0,(p0.2.1.length:Int),true)
noncomputable def d17 (a:List (Int × (Int × (Int × (List Int × Int))))) (b:List (Int × (Int × (Int × (List Int × Int))))):Option Bool :=
 bif !(decide ((a.length:Int)=(b.length:Int))) then
  some false
 else
  (whileO (β:=Unit ⊕ Bool) (fun ((a_1,b_1,i):(List (Int × (Int × (Int × (List Int × Int))))) × (List (Int × (Int × (Int × (List Int × Int))))) × Int) =>
    bif (decide (i < (a_1.length:Int))) then
     bif (decide (0≤i) && decide (i < (a_1.length:Int))) then
      bif (decide (0≤i) && decide (i < (b_1.length:Int))) then
       (d24 (List.getD a_1 (Int.toNat i) (0,0,0,[],0)) (List.getD b_1 (Int.toNat i) (0,0,0,[],0))).bind fun r =>
       bif !(decide (r=0)) then
        some (Sum.inr (Sum.inr false))
       else
        some (Sum.inl (a_1,b_1,(w (i+1))))
      else none
     else none
    else
     some (Sum.inr (Sum.inl ()))) (a,b,0)).bind fun
  | Sum.inl _ =>
   some true
  | Sum.inr t4 =>
   some t4
noncomputable def d19 (n:Int) (gs:List (List Int × Int)) (winner:Int):Option Int :=
 (d45 n gs winner).bind fun r =>
 some r.1
noncomputable def d128 (n:Int) (l:List Int):Option Bool :=
 bif (decide (0 < (l.length:Int))) then
  (d31 n l).bind fun r =>
  some r
 else
  some false
noncomputable def d107 (p0:Int) (p1:(Int × (Int × (Int × (List Int × Int))))) (p2:List Int):Option Bool :=
 letJ (fun ((t2,t4,t19):(List Int) × (Int × (Int × (Int × (List Int × Int)))) × Bool) =>
   bif t19 then
    some false
   else
    bif (decide (t4.1=1)) then
     (d114 t2 t4.2.2.1).bind fun r_2 =>
     bif (decide (r_2 < (t2.length:Int))) then
      bif (cutOK r_2 (t2.length:Int) t2.length) then
       (d35 (List.drop (Int.toNat r_2) (List.take (Int.toNat (t2.length:Int)) t2)) t4.2.1).bind fun r_3 =>
       some (!r_3)
      else none
     else
      some false
    else
     bif (decide (t4.1=2)) then
      letJ (fun ((t2_1,t4_1,t8,t59):(List Int) × (Int × (Int × (Int × (List Int × Int)))) × Int × Bool) =>
        bif t59 then
         some false
        else
         (whileO (β:=Unit ⊕ Bool) (fun ((t2_2,t4_2,t8_1,t9):(List Int) × (Int × (Int × (Int × (List Int × Int)))) × Int × Int) =>
           bif (decide (t9 < (t4_2.2.2.2.1.length:Int))) then
            bif (cutOK t8_1 (t2_2.length:Int) t2_2.length) then
             bif (decide (0≤t9) && decide (t9 < (t4_2.2.2.2.1.length:Int))) then
              (d35 (List.drop (Int.toNat t8_1) (List.take (Int.toNat (t2_2.length:Int)) t2_2)) (List.getD t4_2.2.2.2.1 (Int.toNat t9) 0)).bind fun r_4 =>
              bif !r_4 then
               some (Sum.inr (Sum.inr false))
              else
               some (Sum.inl (t2_2,t4_2,t8_1,(w (t9+1))))
             else none
            else none
           else
            some (Sum.inr (Sum.inl ()))) (t2_1,t4_1,t8,0)).bind fun
         | Sum.inl _ =>
          some true
         | Sum.inr t6 =>
          some t6) fun j__1 =>
      bif !(decide ((w ((t2.length:Int) - (t4.2.2.2.1.length:Int))) < 0)) then
       bif (decide (0≤(w ((t2.length:Int) - (t4.2.2.2.1.length:Int)))) && decide ((w ((t2.length:Int) - (t4.2.2.2.1.length:Int))) < (t2.length:Int))) then
        j__1 (t2,t4,(w ((t2.length:Int) - (t4.2.2.2.1.length:Int))),!(decide ((List.getD t2 (Int.toNat (w ((t2.length:Int) - (t4.2.2.2.1.length:Int)))) 0)=t4.2.1)))
       else none
      else
       j__1 (t2,t4,(w ((t2.length:Int) - (t4.2.2.2.1.length:Int))),true)
     else
      some false) fun j_ =>
 (d54 p0 p1).bind fun r =>
 bif !(!r) then
  (d128 p0 p2).bind fun r_1 =>
  j_ (p2,p1,!r_1)
 else
  j_ (p2,p1,true)
noncomputable def d76 (n:Int) (order:List Int) (l:List (Int × (Int × (Int × (List Int × Int))))):Option Bool :=
 (whileO (β:=Unit ⊕ Bool) (fun ((n_1,order_1,l_1,i):Int × (List Int) × (List (Int × (Int × (Int × (List Int × Int))))) × Int) =>
   bif (decide (i < (l_1.length:Int))) then
    (whileO (β:=(Int × (List Int) × (List (Int × (Int × (Int × (List Int × Int))))) × Int) ⊕ Bool) (fun ((n_2,order_2,l_2,i_1,k):Int × (List Int) × (List (Int × (Int × (Int × (List Int × Int))))) × Int × Int) =>
      bif (decide (k < n_2)) then
       bif (decide (0≤i_1) && decide (i_1 < (l_2.length:Int))) then
        bif (cutOK k (order_2.length:Int) order_2.length) then
         (d107 n_2 (List.getD l_2 (Int.toNat i_1) (0,0,0,[],0)) (List.drop (Int.toNat k) (List.take (Int.toNat (order_2.length:Int)) order_2))).bind fun r =>
         bif r then
          some (Sum.inr (Sum.inr true))
         else
          some (Sum.inl (n_2,order_2,l_2,i_1,(w (k+1))))
        else none
       else none
      else
       some (Sum.inr (Sum.inl (n_2,order_2,l_2,i_1)))) (n_1,order_1,l_1,i,0)).bind fun
    | Sum.inl (n_3,order_3,l_3,i_2) =>
     some (Sum.inl (n_3,order_3,l_3,(w (i_2+1))))
    | Sum.inr t6 =>
     some (Sum.inr (Sum.inr t6))
   else
    some (Sum.inr (Sum.inl ()))) (n,order,l,0)).bind fun
 | Sum.inl _ =>
  some false
 | Sum.inr t6_1 =>
  some t6_1
noncomputable def d49F (self_:Int→Int→(List Int)→(List (Int × (Int × (Int × (List Int × Int)))))→Option ((List Int) × Bool)) (n:Int) (winner:Int) (begin:List Int) (l:List (Int × (Int × (Int × (List Int × Int))))):Option ((List Int) × Bool) :=
 bif (decide ((begin.length:Int)=n)) then
  bif (decide (0≤(w (n - 1))) && decide ((w (n - 1)) < (begin.length:Int))) then
   bif !(decide ((List.getD begin (Int.toNat (w (n - 1))) 0)=winner)) then
    (d76 n begin l).bind fun r =>
    some (begin,!r)
   else
    some (begin,false)
  else none
 else
  (whileO (β:=Unit ⊕ ((List Int) × Bool)) (fun ((n_1,winner_1,begin_1,l_1,x):Int × Int × (List Int) × (List (Int × (Int × (Int × (List Int × Int))))) × Int) =>
    bif (decide (x < n_1)) then
     letJ (fun ((n_2,winner_2,begin_2,l_2,x_1):Int × Int × (List Int) × (List (Int × (Int × (Int × (List Int × Int))))) × Int) =>
       some (Sum.inl (n_2,winner_2,begin_2,l_2,(w (x_1+1))))) fun j_ =>
     (d35 begin_1 x).bind fun r_1 =>
     bif !r_1 then
      bif (decide ((([]:List Int).length:Int)+(begin_1.length:Int)≤LIM)) then
       bif (decide ((begin_1.length:Int)+(([x]:List Int).length:Int)≤LIM)) then
        (self_ n_1 winner_1 (begin_1++[x]) l_1).bind fun r_2 =>
        bif r_2.2 then
         some (Sum.inr (Sum.inr (r_2.1,true)))
        else
         j_ (n_1,winner_1,begin_1,l_1,x)
       else none
      else none
     else
      j_ (n_1,winner_1,begin_1,l_1,x)
    else
     some (Sum.inr (Sum.inl ()))) (n,winner,begin,l,0)).bind fun
  | Sum.inl _ =>
   some ([],false)
  | Sum.inr (t8,t9) =>
   some (t8,t9)
def sg49:Sig:=⟨[(y2,.sh),(y2,.sh),(y26,.sh),(y36,.bw)],[(y26,.sh),(y4,.sh)]⟩
noncomputable def d49N:Nat→Arr (ptys sg49.ps) (Option (Ret sg49.res))
 | 0=>fun _ _ _ _=>none
 | k+1=>d49F (d49N k)
noncomputable def d49 (n:Int) (winner:Int) (begin:List Int) (l:List (Int × (Int × (Int × (List Int × Int))))):Option ((List Int) × Bool):=d49N 10 n winner begin l
noncomputable def d20 (n:Int) (winner:Int) (l:List (Int × (Int × (Int × (List Int × Int))))):Option ((List Int) × Bool) :=
 letJ (fun ((n_1,winner_1,l_1,t27):Int × Int × (List (Int × (Int × (Int × (List Int × Int))))) × Bool) =>
   bif t27 then
    some ([],false)
   else
    (d49 n_1 winner_1 [] l_1).bind fun r =>
    some (r.1,r.2)) fun j_ =>
 bif !(decide (n < 1)) then
  bif !(decide (7 < n)) then
   bif !(decide (winner < 0)) then
    bif !(decide (n≤winner)) then
     j_ (n,winner,l,(decide (1400 < (l.length:Int))))
    else
     j_ (n,winner,l,true)
   else
    j_ (n,winner,l,true)
  else
   j_ (n,winner,l,true)
 else
  j_ (n,winner,l,true)
noncomputable def d50 (n:Int) (set_:Int):Option (List Bool) :=
 bif (decide (n=n) && (decide (0≤n) && decide (n≤LIM))) then
  (whileO (β:=(List Bool)) (fun ((n_1,set__1,out,i):Int × Int × (List Bool) × Int) =>
    bif (decide (i < n_1)) then
     bif (decide (0≤(wu64 i))) then
      bif (decide (0≤i) && decide (i < (out.length:Int))) then
       some (Sum.inl (n_1,set__1,(List.set out (Int.toNat i) (decide ((w ((BitVec.ofInt 64 (w (Int.fdiv set__1 (2 ^ (min (Int.toNat (wu64 i)) 64)))) &&& BitVec.ofInt 64 1).toNat:Int))=1))),(w (i+1))))
      else none
     else none
    else
     some (Sum.inr out)) (n,set_,(List.replicate (Int.toNat n) false),0)).bind fun (out_1:List Bool) =>
  some out_1
 else none
noncomputable def d21 (p0:Int) (p1:List (List Int × Int)) (p2:Int):Option (List (Int × (Int × (Int × (List Int × Int))))) :=
 (whileO (β:=(List (Int × (Int × (Int × (List Int × Int)))))) (fun ((t0,t1,t2,t7,t8):Int × (List (List Int × Int)) × Int × (List (Int × (Int × (Int × (List Int × Int))))) × Int) =>
   bif (decide (t8 < t0)) then
    (whileO (β:=(Int × (List (List Int × Int)) × Int × (List (Int × (Int × (Int × (List Int × Int))))) × Int)) (fun ((t0_1,t1_1,t2_1,t7_1,t8_1,t9):Int × (List (List Int × Int)) × Int × (List (Int × (Int × (Int × (List Int × Int))))) × Int × Int) =>
      bif (decide (t9 < t0_1)) then
       letJ (fun ((t0_10,t1_10,t2_10,t7_10,t8_10,t9_9):Int × (List (List Int × Int)) × Int × (List (Int × (Int × (Int × (List Int × Int))))) × Int × Int) =>
         some (Sum.inl (t0_10,t1_10,t2_10,t7_10,t8_10,(w (t9_9+1))))) fun j__4 =>
       bif (decide (t8_1=t9)) then
        j__4 (t0_1,t1_1,t2_1,t7_1,t8_1,t9)
       else
        letJ (fun ((t0_2,t1_2,t2_2,t7_2,t8_2,t9_1):Int × (List (List Int × Int)) × Int × (List (Int × (Int × (Int × (List Int × Int))))) × Int × Int) =>
          (whileO (β:=(Int × (List (List Int × Int)) × Int × (List (Int × (Int × (Int × (List Int × Int))))) × Int × Int)) (fun ((t0_3,t1_3,t2_3,t7_3,t8_3,t9_2,t11):Int × (List (List Int × Int)) × Int × (List (Int × (Int × (Int × (List Int × Int))))) × Int × Int × Int) =>
            bif (decide (0≤(wu64 t0_3))) then
             bif (decide (t11 < (w (1 * 2 ^ (min (Int.toNat (wu64 t0_3)) 64))))) then
              letJ (fun ((t0_8,t1_8,t2_8,t7_8,t8_8,t9_7,t11_5):Int × (List (List Int × Int)) × Int × (List (Int × (Int × (Int × (List Int × Int))))) × Int × Int × Int) =>
                some (Sum.inl (t0_8,t1_8,t2_8,t7_8,t8_8,t9_7,(w (t11_5+1))))) fun j__3 =>
              (d50 t0_3 t11).bind fun r_1 =>
              letJ (fun ((t0_4,t1_4,t2_4,t7_4,t8_4,t9_3,t11_1,t12,t62):Int × (List (List Int × Int)) × Int × (List (Int × (Int × (Int × (List Int × Int))))) × Int × Int × Int × (List Bool) × Bool) =>
                bif t62 then
                 j__3 (t0_4,t1_4,t2_4,t7_4,t8_4,t9_3,t11_1)
                else
                 (whileO (β:=(Int × (List (List Int × Int)) × Int × (List (Int × (Int × (Int × (List Int × Int))))) × Int × Int × Int × (Int × (Int × (Int × (List Int × Int)))))) (fun ((t0_5,t1_5,t2_5,t7_5,t8_5,t9_4,t11_2,t12_1,t13,t14):Int × (List (List Int × Int)) × Int × (List (Int × (Int × (Int × (List Int × Int))))) × Int × Int × Int × (List Bool) × (Int × (Int × (Int × (List Int × Int)))) × Int) =>
                   bif (decide (t14 < t0_5)) then
                    letJ (fun ((t0_6,t1_6,t2_6,t7_6,t8_6,t9_5,t11_3,t12_2,t13_1,t14_1):Int × (List (List Int × Int)) × Int × (List (Int × (Int × (Int × (List Int × Int))))) × Int × Int × Int × (List Bool) × (Int × (Int × (Int × (List Int × Int)))) × Int) =>
                      some (Sum.inl (t0_6,t1_6,t2_6,t7_6,t8_6,t9_5,t11_3,t12_2,t13_1,(w (t14_1+1))))) fun j__2 =>
                    bif (decide (0≤t14) && decide (t14 < (t12_1.length:Int))) then
                     bif (List.getD t12_1 (Int.toNat t14) false) then
                      bif (decide ((t13.2.2.2.1.length:Int)+(([t14]:List Int).length:Int)≤LIM)) then
                       j__2 (t0_5,t1_5,t2_5,t7_5,t8_5,t9_4,t11_2,t12_1,(t13.1,t13.2.1,t13.2.2.1,(t13.2.2.2.1++[t14]),t13.2.2.2.2),t14)
                      else none
                     else
                      j__2 (t0_5,t1_5,t2_5,t7_5,t8_5,t9_4,t11_2,t12_1,t13,t14)
                    else none
                   else
                    some (Sum.inr (t0_5,t1_5,t2_5,t7_5,t8_5,t9_4,t11_2,t13))) (t0_4,t1_4,t2_4,t7_4,t8_4,t9_3,t11_1,t12,(2,t8_4,t9_3,[],0),0)).bind fun ((t0_7,t1_7,t2_7,t7_7,t8_7,t9_6,t11_4,t13_2):Int × (List (List Int × Int)) × Int × (List (Int × (Int × (Int × (List Int × Int))))) × Int × Int × Int × (Int × (Int × (Int × (List Int × Int))))) =>
                 (d25 t0_7 t1_7 t13_2).bind fun r_2 =>
                 bif (decide (t2_7≤r_2)) then
                  bif (decide ((t7_7.length:Int)+(([t13_2]:List (Int × (Int × (Int × (List Int × Int))))).length:Int)≤LIM)) then
                   j__3 (t0_7,t1_7,t2_7,(t7_7++[t13_2]),t8_7,t9_6,t11_4)
                  else none
                 else
                  j__3 (t0_7,t1_7,t2_7,t7_7,t8_7,t9_6,t11_4)) fun j__1 =>
              bif (decide (0≤t8_3) && decide (t8_3 < (r_1.length:Int))) then
               bif !(!(List.getD r_1 (Int.toNat t8_3) false)) then
                bif (decide (0≤t9_2) && decide (t9_2 < (r_1.length:Int))) then
                 j__1 (t0_3,t1_3,t2_3,t7_3,t8_3,t9_2,t11,r_1,!(List.getD r_1 (Int.toNat t9_2) false))
                else none
               else
                j__1 (t0_3,t1_3,t2_3,t7_3,t8_3,t9_2,t11,r_1,true)
              else none
             else
              some (Sum.inr (t0_3,t1_3,t2_3,t7_3,t8_3,t9_2))
            else none) (t0_2,t1_2,t2_2,t7_2,t8_2,t9_1,0)).bind fun ((t0_9,t1_9,t2_9,t7_9,t8_9,t9_8):Int × (List (List Int × Int)) × Int × (List (Int × (Int × (Int × (List Int × Int))))) × Int × Int) =>
          j__4 (t0_9,t1_9,t2_9,t7_9,t8_9,t9_8)) fun j_ =>
        (d25 t0_1 t1_1 (1,t8_1,t9,[],0)).bind fun r =>
        bif (decide (t2_1≤r)) then
         bif (decide ((t7_1.length:Int)+(([(1,t8_1,t9,[],0)]:List (Int × (Int × (Int × (List Int × Int))))).length:Int)≤LIM)) then
          j_ (t0_1,t1_1,t2_1,(t7_1++[(1,t8_1,t9,[],0)]),t8_1,t9)
         else none
        else
         j_ (t0_1,t1_1,t2_1,t7_1,t8_1,t9)
      else
       some (Sum.inr (t0_1,t1_1,t2_1,t7_1,t8_1))) (t0,t1,t2,t7,t8,0)).bind fun ((t0_11,t1_11,t2_11,t7_11,t8_11):Int × (List (List Int × Int)) × Int × (List (Int × (Int × (Int × (List Int × Int))))) × Int) =>
    some (Sum.inl (t0_11,t1_11,t2_11,t7_11,(w (t8_11+1))))
   else
    some (Sum.inr t7)) (p0,p1,p2,[],0)).bind fun (t7_12:List (Int × (Int × (Int × (List Int × Int))))) =>
 some t7_12
noncomputable def d22 (l:List Int) (n:Int):Option (List Int) :=
 bif (cutOK 0 (bif (decide (n < (l.length:Int))) then n else (l.length:Int)) l.length) then
  some (List.drop 0 (List.take (Int.toNat (bif (decide (n < (l.length:Int))) then n else (l.length:Int))) l))
 else none
def sg22:Sig:=⟨[(y26,.sh),(y2,.sh)],[(y26,.sh)]⟩
def plan22:Plan:=(.seq (.reg [] []) (.seq (.reg [] []) .nil))
theorem ev22 (xs:Vals (ptys sg22.ps)):evF (P:=Tryz.prog) tab [] sg22 Tryz.f22.results.toList (code Tryz.f22) plan22 xs=d22 xs.1 xs.2.1:=by kernel_rfl
theorem sim22:Sim Tryz.prog 22 sg22 d22:=sim_ev mixd tabOK Tryz.func22 (code_of rfl) Tryz.call22 (Nat.le_of_ble_eq_true (by kernel_rfl)) (by kernel_rfl) plan22 _ fun xs y h=>(ev22 xs).trans h
noncomputable def E22:FnE Tryz.prog:=⟨22,sg22,d22,sim22⟩
noncomputable def d86 (n:Int) (l:List Int):Option Bool :=
 (whileO (β:=Unit ⊕ Bool) (fun ((n_1,l_1,t7,t8,t9):Int × (List Int) × (List Int) × Int × Int) =>
   bif (decide (t9 < t8)) then
    bif (decide (0≤t9) && decide (t9 < (t7.length:Int))) then
     letJ (fun ((n_2,l_2,t7_1,t8_1,t9_1,t33):Int × (List Int) × (List Int) × Int × Int × Bool) =>
       bif t33 then
        some (Sum.inr (Sum.inr false))
       else
        some (Sum.inl (n_2,l_2,t7_1,t8_1,(w (t9_1+1))))) fun j_ =>
     bif !(decide ((List.getD t7 (Int.toNat t9) 0) < 0)) then
      bif !(decide (n_1≤(List.getD t7 (Int.toNat t9) 0))) then
       bif (decide (0 < t9)) then
        bif (decide (0≤(w (t9 - 1))) && decide ((w (t9 - 1)) < (l_1.length:Int))) then
         j_ (n_1,l_1,t7,t8,t9,(decide ((List.getD t7 (Int.toNat t9) 0)≤(List.getD l_1 (Int.toNat (w (t9 - 1))) 0))))
        else none
       else
        j_ (n_1,l_1,t7,t8,t9,false)
      else
       j_ (n_1,l_1,t7,t8,t9,true)
     else
      j_ (n_1,l_1,t7,t8,t9,true)
    else none
   else
    some (Sum.inr (Sum.inl ()))) (n,l,l,(l.length:Int),0)).bind fun
 | Sum.inl _ =>
  some true
 | Sum.inr t4 =>
  some t4
def sg86:Sig:=⟨[(y2,.sh),(y26,.bw)],[(y4,.sh)]⟩
def plan86:Plan:=(.seq (.reg [] []) (.seq (.seq (.reg [] []) (.block (.loop [(0,.v y2 .sh),(1,.v y26 .bw),(7,.v y26 .bw),(8,.v y2 .sh),(9,.v y2 .sh)] [(.brk 0,[]),(.ret,[(4,.v y4 .sh)])] (.seq (.reg [] []) (.seq (.cond .nil .nil) (.seq (.block (.seq (.reg [] []) (.join (.reg [] []) [(0,.v y2 .sh),(1,.v y26 .bw),(7,.v y26 .bw),(8,.v y2 .sh),(9,.v y2 .sh),(33,.v y4 .sh)] (.cond (.seq (.reg [] []) .nil) .nil)))) (.reg [] []))))))) (.seq (.reg [] []) .nil)))
theorem ev86 (xs:Vals (ptys sg86.ps)):evF (P:=Tryz.prog) tab [] sg86 Tryz.f86.results.toList (code Tryz.f86) plan86 xs=d86 xs.1 xs.2.1:=by kernel_rfl
theorem sim86:Sim Tryz.prog 86 sg86 d86:=sim_ev mixd tabOK Tryz.func86 (code_of rfl) Tryz.call86 (Nat.le_of_ble_eq_true (by kernel_rfl)) (by kernel_rfl) plan86 _ fun xs y h=>(ev86 xs).trans h
noncomputable def E86:FnE Tryz.prog:=⟨86,sg86,d86,sim86⟩
noncomputable def d85 (s:List Int) (v:Int):Option Int :=
 (whileO (β:=Unit ⊕ Int) (fun ((s_1,v_1,t7,t8):(List Int) × Int × Int × Int) =>
   bif (decide (t8 < t7)) then
    bif (decide (0≤t8) && decide (t8 < (s_1.length:Int))) then
     bif (decide (v_1=(List.getD s_1 (Int.toNat t8) 0))) then
      some (Sum.inr (Sum.inr t8))
     else
      some (Sum.inl (s_1,v_1,t7,(w (t8+1))))
    else none
   else
    some (Sum.inr (Sum.inl ()))) (s,v,(s.length:Int),0)).bind fun
 | Sum.inl _ =>
  some (-1)
 | Sum.inr t4 =>
  some t4
def sg85:Sig:=⟨[(y26,.bw),(y2,.sh)],[(y2,.sh)]⟩
def plan85:Plan:=(.seq (.reg [] []) (.seq (.seq (.reg [] []) (.block (.loop [(0,.v y26 .bw),(1,.v y2 .sh),(7,.v y2 .sh),(8,.v y2 .sh)] [(.brk 0,[]),(.ret,[(4,.v y2 .sh)])] (.seq (.reg [] []) (.seq (.cond .nil .nil) (.seq (.block (.seq (.reg [] []) (.seq (.reg [] []) (.cond (.seq (.reg [] []) .nil) .nil)))) (.reg [] []))))))) (.seq (.reg [] []) .nil)))
theorem ev85 (xs:Vals (ptys sg85.ps)):evF (P:=Tryz.prog) tab [] sg85 Tryz.f85.results.toList (code Tryz.f85) plan85 xs=d85 xs.1 xs.2.1:=by kernel_rfl
theorem sim85:Sim Tryz.prog 85 sg85 d85:=sim_ev mixd tabOK Tryz.func85 (code_of rfl) Tryz.call85 (Nat.le_of_ble_eq_true (by kernel_rfl)) (by kernel_rfl) plan85 _ fun xs y h=>(ev85 xs).trans h
noncomputable def E85:FnE Tryz.prog:=⟨85,sg85,d85,sim85⟩
noncomputable def d58 (s:List Int) (v:Int):Option Bool :=
 (d85 s v).bind fun r =>
 some (decide (0≤r))
def sg58:Sig:=⟨[(y26,.bw),(y2,.sh)],[(y4,.sh)]⟩
def plan58:Plan:=(.seq (.reg [] []) (.seq (.reg [] []) .nil))
theorem ev58 (xs:Vals (ptys sg58.ps)):evF (P:=Tryz.prog) tab [.fn E85] sg58 Tryz.f58.results.toList (code Tryz.f58) plan58 xs=d58 xs.1 xs.2.1:=by kernel_rfl
theorem sim58:Sim Tryz.prog 58 sg58 d58:=sim_ev mixd tabOK Tryz.func58 (code_of rfl) Tryz.call58 (Nat.le_of_ble_eq_true (by kernel_rfl)) (by kernel_rfl) plan58 _ fun xs y h=>(ev58 xs).trans h
noncomputable def E58:FnE Tryz.prog:=⟨58,sg58,d58,sim58⟩
noncomputable def d59 (p0:Int) (p1:(Int × (Int × (Int × (List Int × Int))))):Option Bool :=
 letJ (fun ((t0,t3,t32):Int × (Int × (Int × (Int × (List Int × Int)))) × Bool) =>
   bif t32 then
    some false
   else
    bif (decide (t3.1=1)) then
     bif !(decide (t3.2.1=t3.2.2.1)) then
      bif (decide ((t3.2.2.2.1.length:Int)=0)) then
       some (decide (t3.2.2.2.2=0))
      else
       some false
     else
      some false
    else
     bif (decide (t3.1=2)) then
      bif !(decide (t3.2.1=t3.2.2.1)) then
       bif (decide (t3.2.2.2.2=0)) then
        (d86 t0 t3.2.2.2.1).bind fun r =>
        bif r then
         (d58 t3.2.2.2.1 t3.2.1).bind fun r_1 =>
         bif r_1 then
          (d58 t3.2.2.2.1 t3.2.2.1).bind fun r_2 =>
          some r_2
         else
          some false
        else
         some false
       else
        some false
      else
       some false
     else
      bif (decide (t3.1=3)) then
       bif (decide (t3.2.2.1=0)) then
        bif (decide ((t3.2.2.2.1.length:Int)=0)) then
         bif (decide (2≤t3.2.2.2.2)) then
          some (decide (t3.2.2.2.2≤6))
         else
          some false
        else
         some false
       else
        some false
      else
       some false) fun j_ =>
 bif !(decide (p0 < 1)) then
  bif !(decide (7 < p0)) then
   bif !(decide (p1.2.1 < 0)) then
    bif !(decide (p0≤p1.2.1)) then
     bif !(decide (p1.2.2.1 < 0)) then
      j_ (p0,p1,(decide (p0≤p1.2.2.1)))
     else
      j_ (p0,p1,true)
    else
     j_ (p0,p1,true)
   else
    j_ (p0,p1,true)
  else
   j_ (p0,p1,true)
 else
  j_ (p0,p1,true)
def sg59:Sig:=⟨[(y2,.sh),(y49,.bw)],[(y4,.sh)]⟩
def plan59:Plan:=(.seq (.reg [] []) (.seq (.join (.reg [] []) [(0,.v y2 .sh),(3,.v (.ptr y49) (.own 0 .bw)),(32,.v y4 .sh)] (.cond (.seq (.reg [] []) .nil) .nil)) (.seq (.seq (.reg [] []) (.block (.seq (.reg [] []) (.cond (.seq (.reg [] []) .nil) (.seq (.reg [] []) (.cond (.seq (.reg [] []) .nil) (.seq (.reg [] []) (.cond (.seq (.reg [] []) .nil) .nil)))))))) (.seq (.reg [] []) .nil))))
theorem ev59 (xs:Vals (ptys sg59.ps)):evF (P:=Tryz.prog) tab [.fn E86,.fn E58] sg59 Tryz.f59.results.toList (code Tryz.f59) plan59 xs=d59 xs.1 xs.2.1:=by kernel_rfl
theorem sim59:Sim Tryz.prog 59 sg59 d59:=sim_ev mixd tabOK Tryz.func59 (code_of rfl) Tryz.call59 (Nat.le_of_ble_eq_true (by kernel_rfl)) (by kernel_rfl) plan59 _ fun xs y h=>(ev59 xs).trans h
noncomputable def E59:FnE Tryz.prog:=⟨59,sg59,d59,sim59⟩
noncomputable def d106 (n:Int) (prefs:List Int):Option Bool :=
 (whileO (β:=Unit ⊕ Bool) (fun ((n_1,seen,t8,t9,t10):Int × (List Bool) × (List Int) × Int × Int) =>
   bif (decide (t10 < t9)) then
    bif (decide (0≤t10) && decide (t10 < (t8.length:Int))) then
     letJ (fun ((n_2,seen_1,p,t8_1,t9_1,t10_1,t25):Int × (List Bool) × Int × (List Int) × Int × Int × Bool) =>
       bif t25 then
        some (Sum.inr (Sum.inr false))
       else
        bif (decide (0≤p) && decide (p < 7)) then
         some (Sum.inl (n_2,(List.set seen_1 (Int.toNat p) true),t8_1,t9_1,(w (t10_1+1))))
        else none) fun j_ =>
     bif !(decide ((List.getD t8 (Int.toNat t10) 0) < 0)) then
      bif !(decide (n_1≤(List.getD t8 (Int.toNat t10) 0))) then
       bif (decide (0≤(List.getD t8 (Int.toNat t10) 0)) && decide ((List.getD t8 (Int.toNat t10) 0) < 7)) then
        j_ (n_1,seen,(List.getD t8 (Int.toNat t10) 0),t8,t9,t10,(List.getD seen (Int.toNat (List.getD t8 (Int.toNat t10) 0)) false))
       else none
      else
       j_ (n_1,seen,(List.getD t8 (Int.toNat t10) 0),t8,t9,t10,true)
     else
      j_ (n_1,seen,(List.getD t8 (Int.toNat t10) 0),t8,t9,t10,true)
    else none
   else
    some (Sum.inr (Sum.inl ()))) (n,[false,false,false,false,false,false,false],prefs,(prefs.length:Int),0)).bind fun
 | Sum.inl _ =>
  some true
 | Sum.inr t4 =>
  some t4
def sg106:Sig:=⟨[(y2,.sh),(y26,.bw)],[(y4,.sh)]⟩
def plan106:Plan:=(.seq (.reg [] []) (.seq (.reg [] []) (.seq (.seq (.reg [] []) (.block (.loop [(0,.v y2 .sh),(5,.v (.ptr y152) (.own 0 .sh)),(8,.v y26 .bw),(9,.v y2 .sh),(10,.v y2 .sh)] [(.brk 0,[]),(.ret,[(4,.v y4 .sh)])] (.seq (.reg [] []) (.seq (.cond .nil .nil) (.seq (.block (.seq (.reg [] []) (.seq (.join (.reg [] []) [(0,.v y2 .sh),(5,.v (.ptr y152) (.own 0 .sh)),(7,.v y2 .sh),(8,.v y26 .bw),(9,.v y2 .sh),(10,.v y2 .sh),(25,.v y4 .sh)] (.cond (.seq (.reg [] []) .nil) .nil)) (.reg [] [])))) (.reg [] []))))))) (.seq (.reg [] []) .nil))))
theorem ev106 (xs:Vals (ptys sg106.ps)):evF (P:=Tryz.prog) tab [] sg106 Tryz.f106.results.toList (code Tryz.f106) plan106 xs=d106 xs.1 xs.2.1:=by kernel_rfl
theorem sim106:Sim Tryz.prog 106 sg106 d106:=sim_ev mixd tabOK Tryz.func106 (code_of rfl) Tryz.call106 (Nat.le_of_ble_eq_true (by kernel_rfl)) (by kernel_rfl) plan106 _ fun xs y h=>(ev106 xs).trans h
noncomputable def E106:FnE Tryz.prog:=⟨106,sg106,d106,sim106⟩
noncomputable def d103 (x:Int):Option Bool :=
 some (!(decide (x=x)))
def sg103:Sig:=⟨[(y2,.sh)],[(y4,.sh)]⟩
def plan103:Plan:=(.seq (.reg [] []) (.seq (.reg [] []) .nil))
theorem ev103 (xs:Vals (ptys sg103.ps)):evF (P:=Tryz.prog) tab [] sg103 Tryz.f103.results.toList (code Tryz.f103) plan103 xs=d103 xs.1:=by kernel_rfl
theorem sim103:Sim Tryz.prog 103 sg103 d103:=sim_ev mixd tabOK Tryz.func103 (code_of rfl) Tryz.call103 (Nat.le_of_ble_eq_true (by kernel_rfl)) (by kernel_rfl) plan103 _ fun xs y h=>(ev103 xs).trans h
noncomputable def E103:FnE Tryz.prog:=⟨103,sg103,d103,sim103⟩
noncomputable def d70 (x:Int) (y:Int):Option Int :=
 (d103 x).bind fun r =>
 (d103 y).bind fun r_1 =>
 bif r then
  bif r_1 then
   some 0
  else
   some (-1)
 else
  bif r_1 then
   some 1
  else
   bif (decide (x < y)) then
    some (-1)
   else
    bif (decide (y < x)) then
     some 1
    else
     some 0
def sg70:Sig:=⟨[(y2,.sh),(y2,.sh)],[(y2,.sh)]⟩
def plan70:Plan:=(.seq (.reg [] []) (.seq (.reg [] []) (.seq (.reg [] []) (.seq (.seq (.reg [] []) (.cond (.seq (.seq (.reg [] []) (.cond (.seq (.reg [] []) .nil) .nil)) (.seq (.reg [] []) .nil)) .nil)) (.seq (.seq (.reg [] []) (.cond (.seq (.reg [] []) .nil) .nil)) (.seq (.seq (.reg [] []) (.cond (.seq (.reg [] []) .nil) .nil)) (.seq (.seq (.reg [] []) (.cond (.seq (.reg [] []) .nil) .nil)) (.seq (.reg [] []) .nil))))))))
theorem ev70 (xs:Vals (ptys sg70.ps)):evF (P:=Tryz.prog) tab [.fn E103] sg70 Tryz.f70.results.toList (code Tryz.f70) plan70 xs=d70 xs.1 xs.2.1:=by kernel_rfl
theorem sim70:Sim Tryz.prog 70 sg70 d70:=sim_ev mixd tabOK Tryz.func70 (code_of rfl) Tryz.call70 (Nat.le_of_ble_eq_true (by kernel_rfl)) (by kernel_rfl) plan70 _ fun xs y h=>(ev70 xs).trans h
noncomputable def E70:FnE Tryz.prog:=⟨70,sg70,d70,sim70⟩
noncomputable def d71 (s1:List Int) (s2:List Int):Option Int :=
 (whileO (β:=((List Int) × (List Int)) ⊕ Int) (fun ((s1_1,s2_1,t9,t10,t11):(List Int) × (List Int) × (List Int) × Int × Int) =>
   bif (decide (t11 < t10)) then
    bif (decide (0≤t11) && decide (t11 < (t9.length:Int))) then
     bif (decide ((s2_1.length:Int)≤t11)) then
      some (Sum.inr (Sum.inr 1))
     else
      bif (decide (0≤t11) && decide (t11 < (s2_1.length:Int))) then
       (d70 (List.getD t9 (Int.toNat t11) 0) (List.getD s2_1 (Int.toNat t11) 0)).bind fun r =>
       bif !(decide (r=0)) then
        some (Sum.inr (Sum.inr r))
       else
        some (Sum.inl (s1_1,s2_1,t9,t10,(w (t11+1))))
      else none
    else none
   else
    some (Sum.inr (Sum.inl (s1_1,s2_1)))) (s1,s2,s1,(s1.length:Int),0)).bind fun
 | Sum.inl (s1_2,s2_2) =>
  bif (decide ((s1_2.length:Int) < (s2_2.length:Int))) then
   some (-1)
  else
   some 0
 | Sum.inr t4 =>
  some t4
def sg71:Sig:=⟨[(y26,.bw),(y26,.bw)],[(y2,.sh)]⟩
def plan71:Plan:=(.seq (.reg [] []) (.seq (.seq (.reg [] []) (.block (.loop [(0,.v y26 .bw),(1,.v y26 .bw),(9,.v y26 .bw),(10,.v y2 .sh),(11,.v y2 .sh)] [(.brk 0,[(0,.v y26 .bw),(1,.v y26 .bw)]),(.ret,[(4,.v y2 .sh)])] (.seq (.reg [] []) (.seq (.cond .nil .nil) (.seq (.block (.seq (.reg [] []) (.seq (.seq (.reg [] []) (.cond (.seq (.reg [] []) .nil) .nil)) (.seq (.reg [] []) (.seq (.reg [] []) (.seq (.reg [] []) (.cond (.seq (.reg [] []) .nil) .nil))))))) (.reg [] []))))))) (.seq (.seq (.reg [] []) (.cond (.seq (.reg [] []) .nil) .nil)) (.seq (.reg [] []) .nil))))
theorem ev71 (xs:Vals (ptys sg71.ps)):evF (P:=Tryz.prog) tab [.fn E70] sg71 Tryz.f71.results.toList (code Tryz.f71) plan71 xs=d71 xs.1 xs.2.1:=by kernel_rfl
theorem sim71:Sim Tryz.prog 71 sg71 d71:=sim_ev mixd tabOK Tryz.func71 (code_of rfl) Tryz.call71 (Nat.le_of_ble_eq_true (by kernel_rfl)) (by kernel_rfl) plan71 _ fun xs y h=>(ev71 xs).trans h
noncomputable def E71:FnE Tryz.prog:=⟨71,sg71,d71,sim71⟩
noncomputable def d74 (n:Int) (gs:List (List Int × Int)):Option Bool :=
 (whileO (β:=Unit ⊕ Bool) (fun ((n_1,gs_1,total,t8,t9,t10):Int × (List (List Int × Int)) × Int × (List (List Int × Int)) × Int × Int) =>
   bif (decide (t10 < t9)) then
    bif (decide (0≤t10) && decide (t10 < (t8.length:Int))) then
     letJ (fun ((n_2,gs_2,total_1,i,g,t8_1,t9_1,t10_1,t31):Int × (List (List Int × Int)) × Int × Int × (List Int × Int) × (List (List Int × Int)) × Int × Int × Bool) =>
       bif t31 then
        some (Sum.inr (Sum.inr false))
       else
        letJ (fun ((n_3,gs_3,total_2,g_1,t8_2,t9_2,t10_2,t45):Int × (List (List Int × Int)) × Int × (List Int × Int) × (List (List Int × Int)) × Int × Int × Bool) =>
          bif t45 then
           some (Sum.inr (Sum.inr false))
          else
           some (Sum.inl (n_3,gs_3,(w (total_2+g_1.2)),t8_2,t9_2,(w (t10_2+1))))) fun j__1 =>
        bif (decide (0 < i)) then
         bif (decide (0≤(w (i - 1))) && decide ((w (i - 1)) < (gs_2.length:Int))) then
          (d71 ((List.getD gs_2 (Int.toNat (w (i - 1))) ([],0)).1) g.1).bind fun r_1 =>
          j__1 (n_2,gs_2,total_1,g,t8_1,t9_1,t10_1,(decide (0≤r_1)))
         else none
        else
         j__1 (n_2,gs_2,total_1,g,t8_1,t9_1,t10_1,false)) fun j_ =>
     bif !(decide ((List.getD t8 (Int.toNat t10) ([],0)).2 < 1)) then
      bif !(decide ((w (100000 - total)) < (List.getD t8 (Int.toNat t10) ([],0)).2)) then
       (d106 n_1 ((List.getD t8 (Int.toNat t10) ([],0)).1)).bind fun r =>
       j_ (n_1,gs_1,total,t10,(List.getD t8 (Int.toNat t10) ([],0)),t8,t9,t10,!r)
      else
       j_ (n_1,gs_1,total,t10,(List.getD t8 (Int.toNat t10) ([],0)),t8,t9,t10,true)
     else
      j_ (n_1,gs_1,total,t10,(List.getD t8 (Int.toNat t10) ([],0)),t8,t9,t10,true)
    else none
   else
    some (Sum.inr (Sum.inl ()))) (n,gs,0,gs,(gs.length:Int),0)).bind fun
 | Sum.inl _ =>
  some true
 | Sum.inr t4 =>
  some t4
def sg74:Sig:=⟨[(y2,.sh),(y25,.bw)],[(y4,.sh)]⟩
def plan74:Plan:=(.seq (.reg [] []) (.seq (.reg [] []) (.seq (.seq (.reg [] []) (.block (.loop [(0,.v y2 .sh),(1,.v y25 .bw),(5,.v y2 .sh),(8,.v y25 .bw),(9,.v y2 .sh),(10,.v y2 .sh)] [(.brk 0,[]),(.ret,[(4,.v y4 .sh)])] (.seq (.reg [] []) (.seq (.cond .nil .nil) (.seq (.block (.seq (.reg [] []) (.seq (.join (.reg [] []) [(0,.v y2 .sh),(1,.v y25 .bw),(5,.v y2 .sh),(6,.v y2 .sh),(7,.v (.ptr y57) (.own 0 .bw)),(8,.v y25 .bw),(9,.v y2 .sh),(10,.v y2 .sh),(31,.v y4 .sh)] (.cond (.seq (.reg [] []) .nil) .nil)) (.seq (.join (.reg [] []) [(0,.v y2 .sh),(1,.v y25 .bw),(5,.v y2 .sh),(7,.v (.ptr y57) (.own 0 .bw)),(8,.v y25 .bw),(9,.v y2 .sh),(10,.v y2 .sh),(45,.v y4 .sh)] (.cond (.seq (.reg [] []) .nil) .nil)) (.reg [] []))))) (.reg [] []))))))) (.seq (.reg [] []) .nil))))
theorem ev74 (xs:Vals (ptys sg74.ps)):evF (P:=Tryz.prog) tab [.fn E106,.fn E71] sg74 Tryz.f74.results.toList (code Tryz.f74) plan74 xs=d74 xs.1 xs.2.1:=by kernel_rfl
theorem sim74:Sim Tryz.prog 74 sg74 d74:=sim_ev mixd tabOK Tryz.func74 (code_of rfl) Tryz.call74 (Nat.le_of_ble_eq_true (by kernel_rfl)) (by kernel_rfl) plan74 _ fun xs y h=>(ev74 xs).trans h
noncomputable def E74:FnE Tryz.prog:=⟨74,sg74,d74,sim74⟩
noncomputable def d47 (n:Int) (gs:List (List Int × Int)):Option Bool :=
 bif (decide (1≤n)) then
  bif (decide (n≤7)) then
   (d74 n gs).bind fun r =>
   some r
  else
   some false
 else
  some false
def sg47:Sig:=⟨[(y2,.sh),(y25,.bw)],[(y4,.sh)]⟩
def plan47:Plan:=(.seq (.reg [] []) (.seq (.reg [] []) .nil))
theorem ev47 (xs:Vals (ptys sg47.ps)):evF (P:=Tryz.prog) tab [.fn E74] sg47 Tryz.f47.results.toList (code Tryz.f47) plan47 xs=d47 xs.1 xs.2.1:=by kernel_rfl
theorem sim47:Sim Tryz.prog 47 sg47 d47:=sim_ev mixd tabOK Tryz.func47 (code_of rfl) Tryz.call47 (Nat.le_of_ble_eq_true (by kernel_rfl)) (by kernel_rfl) plan47 _ fun xs y h=>(ev47 xs).trans h
noncomputable def E47:FnE Tryz.prog:=⟨47,sg47,d47,sim47⟩
noncomputable def d108 (gs:List (List Int × Int)) (c:Int):Option Int :=
 (whileO (β:=Int) (fun ((c_1,count,t8,t9,t10):Int × Int × (List (List Int × Int)) × Int × Int) =>
   bif (decide (t10 < t9)) then
    letJ (fun ((c_3,count_2,t8_2,t9_2,t10_2):Int × Int × (List (List Int × Int)) × Int × Int) =>
      some (Sum.inl (c_3,count_2,t8_2,t9_2,(w (t10_2+1))))) fun j__1 =>
    bif (decide (0≤t10) && decide (t10 < (t8.length:Int))) then
     letJ (fun ((c_2,count_1,g,t8_1,t9_1,t10_1,t25):Int × Int × (List Int × Int) × (List (List Int × Int)) × Int × Int × Bool) =>
       bif t25 then
        j__1 (c_2,(w (count_1+g.2)),t8_1,t9_1,t10_1)
       else
        j__1 (c_2,count_1,t8_1,t9_1,t10_1)) fun j_ =>
     bif (decide (0 < (((List.getD t8 (Int.toNat t10) ([],0)).1).length:Int))) then
      bif (decide (0≤0) && decide (0 < (((List.getD t8 (Int.toNat t10) ([],0)).1).length:Int))) then
       j_ (c_1,count,(List.getD t8 (Int.toNat t10) ([],0)),t8,t9,t10,(decide ((List.getD ((List.getD t8 (Int.toNat t10) ([],0)).1) 0 0)=c_1)))
      else none
     else
      j_ (c_1,count,(List.getD t8 (Int.toNat t10) ([],0)),t8,t9,t10,false)
    else none
   else
    some (Sum.inr count)) (c,0,gs,(gs.length:Int),0)).bind fun (count_3:Int) =>
 some count_3
def sg108:Sig:=⟨[(y25,.bw),(y2,.sh)],[(y2,.sh)]⟩
def plan108:Plan:=(.seq (.reg [] []) (.seq (.reg [] []) (.seq (.seq (.reg [] []) (.block (.loop [(1,.v y2 .sh),(5,.v y2 .sh),(8,.v y25 .bw),(9,.v y2 .sh),(10,.v y2 .sh)] [(.brk 0,[(5,.v y2 .sh)])] (.seq (.reg [] []) (.seq (.cond .nil .nil) (.join (.block (.seq (.reg [] []) (.join (.reg [] []) [(1,.v y2 .sh),(5,.v y2 .sh),(7,.v (.ptr y57) (.own 0 .bw)),(8,.v y25 .bw),(9,.v y2 .sh),(10,.v y2 .sh),(25,.v y4 .sh)] (.cond (.reg [] []) .nil)))) [(1,.v y2 .sh),(5,.v y2 .sh),(8,.v y25 .bw),(9,.v y2 .sh),(10,.v y2 .sh)] (.reg [] []))))))) (.seq (.reg [] []) .nil))))
theorem ev108 (xs:Vals (ptys sg108.ps)):evF (P:=Tryz.prog) tab [] sg108 Tryz.f108.results.toList (code Tryz.f108) plan108 xs=d108 xs.1 xs.2.1:=by kernel_rfl
theorem sim108:Sim Tryz.prog 108 sg108 d108:=sim_ev mixd tabOK Tryz.func108 (code_of rfl) Tryz.call108 (Nat.le_of_ble_eq_true (by kernel_rfl)) (by kernel_rfl) plan108 _ fun xs y h=>(ev108 xs).trans h
noncomputable def E108:FnE Tryz.prog:=⟨108,sg108,d108,sim108⟩
noncomputable def d129 (gs:List (List Int × Int)):Option Bool :=
 (d74 7 gs).bind fun r =>
 some r
def sg129:Sig:=⟨[(y25,.bw)],[(y4,.sh)]⟩
def plan129:Plan:=(.seq (.reg [] []) (.seq (.reg [] []) .nil))
theorem ev129 (xs:Vals (ptys sg129.ps)):evF (P:=Tryz.prog) tab [.fn E74] sg129 Tryz.f129.results.toList (code Tryz.f129) plan129 xs=d129 xs.1:=by kernel_rfl
theorem sim129:Sim Tryz.prog 129 sg129 d129:=sim_ev mixd tabOK Tryz.func129 (code_of rfl) Tryz.call129 (Nat.le_of_ble_eq_true (by kernel_rfl)) (by kernel_rfl) plan129 _ fun xs y h=>(ev129 xs).trans h
noncomputable def E129:FnE Tryz.prog:=⟨129,sg129,d129,sim129⟩
noncomputable def d109 (gs:List (List Int × Int)) (a:Int) (b:Int):Option Int :=
 letJ (fun ((gs_1,a_1,b_1,t19):(List (List Int × Int)) × Int × Int × Bool) =>
   bif t19 then
    some 0
   else
    (whileO (β:=Int) (fun ((a_2,b_2,n,t20,t21,t22):Int × Int × Int × (List (List Int × Int)) × Int × Int) =>
      bif (decide (t22 < t21)) then
       letJ (fun ((a_4,b_4,n_2,t20_2,t21_2,t22_2):Int × Int × Int × (List (List Int × Int)) × Int × Int) =>
         some (Sum.inl (a_4,b_4,n_2,t20_2,t21_2,(w (t22_2+1))))) fun j__2 =>
       bif (decide (0≤t22) && decide (t22 < (t20.length:Int))) then
        (d85 ((List.getD t20 (Int.toNat t22) ([],0)).1) a_2).bind fun r_1 =>
        (d85 ((List.getD t20 (Int.toNat t22) ([],0)).1) b_2).bind fun r_2 =>
        letJ (fun ((a_3,b_3,n_1,g,t20_1,t21_1,t22_1,t44):Int × Int × Int × (List Int × Int) × (List (List Int × Int)) × Int × Int × Bool) =>
          bif t44 then
           j__2 (a_3,b_3,(w (n_1+g.2)),t20_1,t21_1,t22_1)
          else
           j__2 (a_3,b_3,n_1,t20_1,t21_1,t22_1)) fun j__1 =>
        bif (decide (0≤r_1)) then
         bif !(decide (r_2 < 0)) then
          j__1 (a_2,b_2,n,(List.getD t20 (Int.toNat t22) ([],0)),t20,t21,t22,(decide (r_1 < r_2)))
         else
          j__1 (a_2,b_2,n,(List.getD t20 (Int.toNat t22) ([],0)),t20,t21,t22,true)
        else
         j__1 (a_2,b_2,n,(List.getD t20 (Int.toNat t22) ([],0)),t20,t21,t22,false)
       else none
      else
       some (Sum.inr n)) (a_1,b_1,0,gs_1,(gs_1.length:Int),0)).bind fun (n_3:Int) =>
    some n_3) fun j_ =>
 (d129 gs).bind fun r =>
 bif !(!r) then
  j_ (gs,a,b,(decide (a=b)))
 else
  j_ (gs,a,b,true)
def sg109:Sig:=⟨[(y25,.bw),(y2,.sh),(y2,.sh)],[(y2,.sh)]⟩
def plan109:Plan:=(.seq (.reg [] []) (.seq (.join (.reg [] []) [(0,.v y25 .bw),(1,.v y2 .sh),(2,.v y2 .sh),(19,.v y4 .sh)] (.cond (.seq (.reg [] []) .nil) .nil)) (.seq (.reg [] []) (.seq (.seq (.reg [] []) (.block (.loop [(1,.v y2 .sh),(2,.v y2 .sh),(7,.v y2 .sh),(20,.v y25 .bw),(21,.v y2 .sh),(22,.v y2 .sh)] [(.brk 0,[(7,.v y2 .sh)])] (.seq (.reg [] []) (.seq (.cond .nil .nil) (.join (.block (.seq (.reg [] []) (.seq (.reg [] []) (.join (.reg [] []) [(1,.v y2 .sh),(2,.v y2 .sh),(7,.v y2 .sh),(9,.v (.ptr y57) (.own 0 .bw)),(20,.v y25 .bw),(21,.v y2 .sh),(22,.v y2 .sh),(44,.v y4 .sh)] (.cond (.reg [] []) .nil))))) [(1,.v y2 .sh),(2,.v y2 .sh),(7,.v y2 .sh),(20,.v y25 .bw),(21,.v y2 .sh),(22,.v y2 .sh)] (.reg [] []))))))) (.seq (.reg [] []) .nil)))))
theorem ev109 (xs:Vals (ptys sg109.ps)):evF (P:=Tryz.prog) tab [.fn E129,.fn E85] sg109 Tryz.f109.results.toList (code Tryz.f109) plan109 xs=d109 xs.1 xs.2.1 xs.2.2.1:=by kernel_rfl
theorem sim109:Sim Tryz.prog 109 sg109 d109:=sim_ev mixd tabOK Tryz.func109 (code_of rfl) Tryz.call109 (Nat.le_of_ble_eq_true (by kernel_rfl)) (by kernel_rfl) plan109 _ fun xs y h=>(ev109 xs).trans h
noncomputable def E109:FnE Tryz.prog:=⟨109,sg109,d109,sim109⟩
noncomputable def d137 (remain:List Bool) (i:Int):Option Bool :=
 bif (decide (i < (remain.length:Int))) then
  bif (decide (0≤i) && decide (i < (remain.length:Int))) then
   some (List.getD remain (Int.toNat i) false)
  else none
 else
  some false
def sg137:Sig:=⟨[(y81,.bw),(y2,.sh)],[(y4,.sh)]⟩
def plan137:Plan:=(.seq (.reg [] []) (.seq (.reg [] []) .nil))
theorem ev137 (xs:Vals (ptys sg137.ps)):evF (P:=Tryz.prog) tab [] sg137 Tryz.f137.results.toList (code Tryz.f137) plan137 xs=d137 xs.1 xs.2.1:=by kernel_rfl
theorem sim137:Sim Tryz.prog 137 sg137 d137:=sim_ev mixd tabOK Tryz.func137 (code_of rfl) Tryz.call137 (Nat.le_of_ble_eq_true (by kernel_rfl)) (by kernel_rfl) plan137 _ fun xs y h=>(ev137 xs).trans h
noncomputable def E137:FnE Tryz.prog:=⟨137,sg137,d137,sim137⟩
noncomputable def d136 (p:Int) (p1:List Bool):Option Bool :=
 (d137 p1 p).bind fun r =>
 some r
def sg136:Sig:=⟨[(y2,.bw),((.ptr y81),.bw)],[(y4,.sh)]⟩
def plan136:Plan:=(.seq (.reg [] []) (.seq (.reg [] []) .nil))
theorem ev136 (xs:Vals (ptys sg136.ps)):evF (P:=Tryz.prog) tab [.fn E137] sg136 Tryz.f136.results.toList (code Tryz.f136) plan136 xs=d136 xs.1 xs.2.1:=by kernel_rfl
theorem sim136:Sim Tryz.prog 136 sg136 d136:=sim_ev mixd tabOK Tryz.func136 (code_of rfl) Tryz.call136 (Nat.le_of_ble_eq_true (by kernel_rfl)) (by kernel_rfl) plan136 _ fun xs y h=>(ev136 xs).trans h
noncomputable def E136:FnE Tryz.prog:=⟨136,sg136,d136,sim136⟩
noncomputable def d135 (s:List Int) (f:(Int→Option Bool)):Option Int :=
 (whileO (β:=Unit ⊕ Int) (fun ((s_1,f_1,t7,t8):(List Int) × (Int→Option Bool) × Int × Int) =>
   bif (decide (t8 < t7)) then
    bif (decide (0≤t8) && decide (t8 < (s_1.length:Int))) then
     (f_1 (List.getD s_1 (Int.toNat t8) 0)).bind fun r =>
     bif r then
      some (Sum.inr (Sum.inr t8))
     else
      some (Sum.inl (s_1,f_1,t7,(w (t8+1))))
    else none
   else
    some (Sum.inr (Sum.inl ()))) (s,f,(s.length:Int),0)).bind fun
 | Sum.inl _ =>
  some (-1)
 | Sum.inr t4 =>
  some t4
def sg135:Sig:=⟨[(y26,.bw),(y138,.bw)],[(y2,.sh)]⟩
def plan135:Plan:=(.seq (.reg [] []) (.seq (.seq (.reg [] []) (.block (.loop [(0,.v y26 .bw),(1,.v y138 .bw),(7,.v y2 .sh),(8,.v y2 .sh)] [(.brk 0,[]),(.ret,[(4,.v y2 .sh)])] (.seq (.reg [] []) (.seq (.cond .nil .nil) (.seq (.block (.seq (.reg [] []) (.seq (.reg [] []) (.cond (.seq (.reg [] []) .nil) .nil)))) (.reg [] []))))))) (.seq (.reg [] []) .nil)))
theorem ev135 (xs:Vals (ptys sg135.ps)):evF (P:=Tryz.prog) tab [] sg135 Tryz.f135.results.toList (code Tryz.f135) plan135 xs=d135 xs.1 xs.2.1:=by kernel_rfl
theorem sim135:Sim Tryz.prog 135 sg135 d135:=sim_ev mixd tabOK Tryz.func135 (code_of rfl) Tryz.call135 (Nat.le_of_ble_eq_true (by kernel_rfl)) (by kernel_rfl) plan135 _ fun xs y h=>(ev135 xs).trans h
noncomputable def E135:FnE Tryz.prog:=⟨135,sg135,d135,sim135⟩
noncomputable def d118 (gs:List (List Int × Int)) (remain:List Bool):Option ((List Int) × Int) :=
 letJ (fun ((gs_1,remain_1,exhausted,t16):(List (List Int × Int)) × (List Bool) × Int × Bool) =>
   bif t16 then
    some ([],0)
   else
    bif (decide ((remain_1.length:Int)=(remain_1.length:Int)) && (decide (0≤(remain_1.length:Int)) && decide ((remain_1.length:Int)≤LIM))) then
     (whileO (β:=((List Int) × Int)) (fun ((remain_2,votes,exhausted_1,t20,t21,t22):(List Bool) × (List Int) × Int × (List (List Int × Int)) × Int × Int) =>
       bif (decide (t22 < t21)) then
        letJ (fun ((remain_3,votes_1,exhausted_2,t20_1,t21_1,t22_1):(List Bool) × (List Int) × Int × (List (List Int × Int)) × Int × Int) =>
          some (Sum.inl (remain_3,votes_1,exhausted_2,t20_1,t21_1,(w (t22_1+1))))) fun j__1 =>
        bif (decide (0≤t22) && decide (t22 < (t20.length:Int))) then
         (d135 ((List.getD t20 (Int.toNat t22) ([],0)).1) (fun a=>d136 a remain_2)).bind fun r_1 =>
         bif (decide (r_1 < 0)) then
          j__1 (remain_2,votes,(w (exhausted_1+((List.getD t20 (Int.toNat t22) ([],0)).2))),t20,t21,t22)
         else
          bif (decide (0≤r_1) && decide (r_1 < (((List.getD t20 (Int.toNat t22) ([],0)).1).length:Int))) then
           bif (decide (0≤(List.getD ((List.getD t20 (Int.toNat t22) ([],0)).1) (Int.toNat r_1) 0)) && decide ((List.getD ((List.getD t20 (Int.toNat t22) ([],0)).1) (Int.toNat r_1) 0) < (votes.length:Int))) then
            bif (decide (0≤(List.getD ((List.getD t20 (Int.toNat t22) ([],0)).1) (Int.toNat r_1) 0)) && decide ((List.getD ((List.getD t20 (Int.toNat t22) ([],0)).1) (Int.toNat r_1) 0) < (votes.length:Int))) then
             j__1 (remain_2,(List.set votes (Int.toNat (List.getD ((List.getD t20 (Int.toNat t22) ([],0)).1) (Int.toNat r_1) 0)) (w ((List.getD votes (Int.toNat (List.getD ((List.getD t20 (Int.toNat t22) ([],0)).1) (Int.toNat r_1) 0)) 0)+((List.getD t20 (Int.toNat t22) ([],0)).2)))),exhausted_1,t20,t21,t22)
            else none
           else none
          else none
        else none
       else
        some (Sum.inr (votes,exhausted_1))) (remain_1,(List.replicate (Int.toNat (remain_1.length:Int)) 0),exhausted,gs_1,(gs_1.length:Int),0)).bind fun ((votes_2,exhausted_3):(List Int) × Int) =>
     some (votes_2,exhausted_3)
    else none) fun j_ =>
 (d129 gs).bind fun r =>
 bif !(!r) then
  j_ (gs,remain,0,(decide (7 < (remain.length:Int))))
 else
  j_ (gs,remain,0,true)
def sg118:Sig:=⟨[(y25,.bw),(y81,.bw)],[(y26,.sh),(y2,.sh)]⟩
def plan118:Plan:=(.post (.seq (.reg [] []) (.seq (.join (.reg [] []) [(0,.v y25 .bw),(3,.v (.ptr y81) (.own 0 .bw)),(5,.v y2 .sh),(16,.v y4 .sh)] (.cond (.seq (.reg [] []) .nil) .nil)) (.seq (.reg [] []) (.seq (.seq (.reg [] []) (.block (.loop [(3,.v (.ptr y81) (.own 0 .bw)),(4,.v y26 (.own 3 .sh)),(5,.v y2 .sh),(20,.v y25 .bw),(21,.v y2 .sh),(22,.v y2 .sh)] [(.brk 0,[(4,.v y26 (.own 3 .sh)),(5,.v y2 .sh)])] (.seq (.reg [] []) (.seq (.cond .nil .nil) (.join (.block (.seq (.reg [] []) (.seq (.reg [] []) (.seq (.reg [] []) (.cond (.reg [] []) (.reg [] [])))))) [(3,.v (.ptr y81) (.own 0 .bw)),(4,.v y26 (.own 3 .sh)),(5,.v y2 .sh),(20,.v y25 .bw),(21,.v y2 .sh),(22,.v y2 .sh)] (.reg [] []))))))) (.seq (.reg [] []) .nil))))) [(4,[])])
theorem ev118 (xs:Vals (ptys sg118.ps)):evF (P:=Tryz.prog) tab [.fn E129,.fn E135,.fn E136] sg118 Tryz.f118.results.toList (code Tryz.f118) plan118 xs=d118 xs.1 xs.2.1:=by kernel_rfl
theorem sim118:Sim Tryz.prog 118 sg118 d118:=sim_ev mixd tabOK Tryz.func118 (code_of rfl) Tryz.call118 (Nat.le_of_ble_eq_true (by kernel_rfl)) (by kernel_rfl) plan118 _ fun xs y h=>(ev118 xs).trans h
noncomputable def E118:FnE Tryz.prog:=⟨118,sg118,d118,sim118⟩
noncomputable def d110 (n:Int) (gs:List (List Int × Int)) (remaining:List Int):Option (List Int) :=
 bif (decide (n=n) && (decide (0≤n) && decide (n≤LIM))) then
  (whileO (β:=((List (List Int × Int)) × (List Bool))) (fun ((gs_1,remain,t14,t15,t16):(List (List Int × Int)) × (List Bool) × (List Int) × Int × Int) =>
    bif (decide (t16 < t15)) then
     bif (decide (0≤t16) && decide (t16 < (t14.length:Int))) then
      bif (decide (0≤(List.getD t14 (Int.toNat t16) 0)) && decide ((List.getD t14 (Int.toNat t16) 0) < (remain.length:Int))) then
       some (Sum.inl (gs_1,(List.set remain (Int.toNat (List.getD t14 (Int.toNat t16) 0)) true),t14,t15,(w (t16+1))))
      else none
     else none
    else
     some (Sum.inr (gs_1,remain))) (gs,(List.replicate (Int.toNat n) false),remaining,(remaining.length:Int),0)).bind fun ((gs_2,remain_1):(List (List Int × Int)) × (List Bool)) =>
  (d118 gs_2 remain_1).bind fun r =>
  some r.1
 else none
def sg110:Sig:=⟨[(y2,.sh),(y25,.bw),(y26,.bw)],[(y26,.sh)]⟩
def plan110:Plan:=(.seq (.reg [] []) (.seq (.reg [] []) (.seq (.seq (.reg [] []) (.block (.loop [(1,.v y25 .bw),(7,.v y81 (.own 4 .sh)),(14,.v y26 .bw),(15,.v y2 .sh),(16,.v y2 .sh)] [(.brk 0,[(1,.v y25 .bw),(7,.v y81 (.own 4 .sh))])] (.seq (.reg [] []) (.seq (.cond .nil .nil) (.seq (.block (.seq (.reg [] []) (.reg [] []))) (.reg [] []))))))) (.seq (.reg [] [{},{},{},{ fl:=1 }]) (.seq (.reg [] []) .nil)))))
theorem ev110 (xs:Vals (ptys sg110.ps)):evF (P:=Tryz.prog) tab [.fn E118] sg110 Tryz.f110.results.toList (code Tryz.f110) plan110 xs=d110 xs.1 xs.2.1 xs.2.2.1:=by kernel_rfl
theorem sim110:Sim Tryz.prog 110 sg110 d110:=sim_ev mixd tabOK Tryz.func110 (code_of rfl) Tryz.call110 (Nat.le_of_ble_eq_true (by kernel_rfl)) (by kernel_rfl) plan110 _ fun xs y h=>(ev110 xs).trans h
noncomputable def E110:FnE Tryz.prog:=⟨110,sg110,d110,sim110⟩
noncomputable def d130 (l:List (List Int × Int)) (number:((List Int × Int)→Option Int)):Option Int :=
 (whileO (β:=Int) (fun ((number_1,n,t8,t9,t10):((List Int × Int)→Option Int) × Int × (List (List Int × Int)) × Int × Int) =>
   bif (decide (t10 < t9)) then
    bif (decide (0≤t10) && decide (t10 < (t8.length:Int))) then
     (number_1 (List.getD t8 (Int.toNat t10) ([],0))).bind fun r =>
     some (Sum.inl (number_1,(w (n+r)),t8,t9,(w (t10+1))))
    else none
   else
    some (Sum.inr n)) (number,0,l,(l.length:Int),0)).bind fun (n_1:Int) =>
 some n_1
def sg130:Sig:=⟨[(y25,.bw),(y154,.bw)],[(y2,.sh)]⟩
def plan130:Plan:=(.seq (.reg [] []) (.seq (.reg [] []) (.seq (.seq (.reg [] []) (.block (.loop [(1,.v y154 .bw),(5,.v y2 .sh),(8,.v y25 .bw),(9,.v y2 .sh),(10,.v y2 .sh)] [(.brk 0,[(5,.v y2 .sh)])] (.seq (.reg [] []) (.seq (.cond .nil .nil) (.seq (.block (.seq (.reg [] []) (.reg [] []))) (.reg [] []))))))) (.seq (.reg [] []) .nil))))
theorem ev130 (xs:Vals (ptys sg130.ps)):evF (P:=Tryz.prog) tab [] sg130 Tryz.f130.results.toList (code Tryz.f130) plan130 xs=d130 xs.1 xs.2.1:=by kernel_rfl
theorem sim130:Sim Tryz.prog 130 sg130 d130:=sim_ev mixd tabOK Tryz.func130 (code_of rfl) Tryz.call130 (Nat.le_of_ble_eq_true (by kernel_rfl)) (by kernel_rfl) plan130 _ fun xs y h=>(ev130 xs).trans h
noncomputable def E130:FnE Tryz.prog:=⟨130,sg130,d130,sim130⟩
noncomputable def d131 (g:(List Int × Int)):Option Int :=
 bif (decide ((g.1.length:Int)=0)) then
  some 0
 else
  some g.2
def sg131:Sig:=⟨[(y57,.bw)],[(y2,.sh)]⟩
def plan131:Plan:=(.seq (.reg [] []) (.seq (.seq (.reg [] []) (.cond (.seq (.reg [] []) .nil) .nil)) (.seq (.reg [] []) .nil)))
theorem ev131 (xs:Vals (ptys sg131.ps)):evF (P:=Tryz.prog) tab [] sg131 Tryz.f131.results.toList (code Tryz.f131) plan131 xs=d131 xs.1:=by kernel_rfl
theorem sim131:Sim Tryz.prog 131 sg131 d131:=sim_ev mixd tabOK Tryz.func131 (code_of rfl) Tryz.call131 (Nat.le_of_ble_eq_true (by kernel_rfl)) (by kernel_rfl) plan131 _ fun xs y h=>(ev131 xs).trans h
noncomputable def E131:FnE Tryz.prog:=⟨131,sg131,d131,sim131⟩
noncomputable def d111 (gs:List (List Int × Int)):Option Int :=
 (d129 gs).bind fun r =>
 bif !r then
  some 0
 else
  (d130 gs (fun a=>d131 a)).bind fun r_1 =>
  some r_1
def sg111:Sig:=⟨[(y25,.bw)],[(y2,.sh)]⟩
def plan111:Plan:=(.seq (.reg [] []) (.seq (.seq (.reg [] []) (.cond (.seq (.reg [] []) .nil) .nil)) (.seq (.reg [] []) .nil)))
theorem ev111 (xs:Vals (ptys sg111.ps)):evF (P:=Tryz.prog) tab [.fn E129,.fn E130,.fn E131] sg111 Tryz.f111.results.toList (code Tryz.f111) plan111 xs=d111 xs.1:=by kernel_rfl
theorem sim111:Sim Tryz.prog 111 sg111 d111:=sim_ev mixd tabOK Tryz.func111 (code_of rfl) Tryz.call111 (Nat.le_of_ble_eq_true (by kernel_rfl)) (by kernel_rfl) plan111 _ fun xs y h=>(ev111 xs).trans h
noncomputable def E111:FnE Tryz.prog:=⟨111,sg111,d111,sim111⟩
noncomputable def d77 (n:Int) (gs:List (List Int × Int)) (a:(Int × (Int × (Int × (List Int × Int))))):Option (Int × Int) :=
 letJ (fun ((n_1,gs_1,a_1,t18):Int × (List (List Int × Int)) × (Int × (Int × (Int × (List Int × Int)))) × Bool) =>
   bif t18 then
    some (0,0)
   else
    bif (decide (a_1.1=1)) then
     (d108 gs_1 a_1.2.1).bind fun r_2 =>
     (d109 gs_1 a_1.2.2.1 a_1.2.1).bind fun r_3 =>
     some (r_2,r_3)
    else
     bif (decide (a_1.1=2)) then
      (d110 n_1 gs_1 a_1.2.2.2.1).bind fun r_4 =>
      bif (decide (0≤a_1.2.1) && decide (a_1.2.1 < (r_4.length:Int))) then
       bif (decide (0≤a_1.2.2.1) && decide (a_1.2.2.1 < (r_4.length:Int))) then
        some ((List.getD r_4 (Int.toNat a_1.2.1) 0),(List.getD r_4 (Int.toNat a_1.2.2.1) 0))
       else none
      else none
     else
      (d108 gs_1 a_1.2.1).bind fun r_5 =>
      (d111 gs_1).bind fun r_6 =>
      some ((w (a_1.2.2.2.2 * r_5)),r_6)) fun j_ =>
 (d59 n a).bind fun r =>
 bif !(!r) then
  (d47 n gs).bind fun r_1 =>
  j_ (n,gs,a,!r_1)
 else
  j_ (n,gs,a,true)
def sg77:Sig:=⟨[(y2,.sh),(y25,.bw),(y49,.bw)],[(y2,.sh),(y2,.sh)]⟩
def plan77:Plan:=(.seq (.reg [] []) (.seq (.join (.reg [] []) [(0,.v y2 .sh),(1,.v y25 .bw),(5,.v (.ptr y49) (.own 0 .bw)),(18,.v y4 .sh)] (.cond (.seq (.reg [] []) .nil) .nil)) (.seq (.seq (.reg [] []) (.block (.seq (.reg [] []) (.cond (.seq (.reg [] []) .nil) (.seq (.reg [] []) (.cond (.seq (.reg [] []) (.seq (.reg [] []) .nil)) .nil)))))) (.seq (.reg [] []) .nil))))
theorem ev77 (xs:Vals (ptys sg77.ps)):evF (P:=Tryz.prog) tab [.fn E59,.fn E47,.fn E108,.fn E109,.fn E110,.fn E111] sg77 Tryz.f77.results.toList (code Tryz.f77) plan77 xs=d77 xs.1 xs.2.1 xs.2.2.1:=by kernel_rfl
theorem sim77:Sim Tryz.prog 77 sg77 d77:=sim_ev mixd tabOK Tryz.func77 (code_of rfl) Tryz.call77 (Nat.le_of_ble_eq_true (by kernel_rfl)) (by kernel_rfl) plan77 _ fun xs y h=>(ev77 xs).trans h
noncomputable def E77:FnE Tryz.prog:=⟨77,sg77,d77,sim77⟩
noncomputable def d51 (n:Int) (gs:List (List Int × Int)) (a:(Int × (Int × (Int × (List Int × Int))))):Option Int :=
 (d77 n gs a).bind fun r =>
 some (w (r.1 - r.2))
def sg51:Sig:=⟨[(y2,.sh),(y25,.bw),(y49,.bw)],[(y2,.sh)]⟩
def plan51:Plan:=(.seq (.reg [] []) (.seq (.reg [] [{},{},{},{},{ fl:=1 }]) (.seq (.reg [] []) .nil)))
theorem ev51 (xs:Vals (ptys sg51.ps)):evF (P:=Tryz.prog) tab [.fn E77] sg51 Tryz.f51.results.toList (code Tryz.f51) plan51 xs=d51 xs.1 xs.2.1 xs.2.2.1:=by kernel_rfl
theorem sim51:Sim Tryz.prog 51 sg51 d51:=sim_ev mixd tabOK Tryz.func51 (code_of rfl) Tryz.call51 (Nat.le_of_ble_eq_true (by kernel_rfl)) (by kernel_rfl) plan51 _ fun xs y h=>(ev51 xs).trans h
noncomputable def E51:FnE Tryz.prog:=⟨51,sg51,d51,sim51⟩
noncomputable def d23 (n:Int) (gs:List (List Int × Int)) (a:(Int × (Int × (Int × (List Int × Int))))):Option Bool :=
 (d51 n gs a).bind fun r =>
 some (decide (0 < r))
def sg23:Sig:=⟨[(y2,.sh),(y25,.bw),(y49,.bw)],[(y4,.sh)]⟩
def plan23:Plan:=(.seq (.reg [] []) (.seq (.reg [] []) .nil))
theorem ev23 (xs:Vals (ptys sg23.ps)):evF (P:=Tryz.prog) tab [.fn E51] sg23 Tryz.f23.results.toList (code Tryz.f23) plan23 xs=d23 xs.1 xs.2.1 xs.2.2.1:=by kernel_rfl
theorem sim23:Sim Tryz.prog 23 sg23 d23:=sim_ev mixd tabOK Tryz.func23 (code_of rfl) Tryz.call23 (Nat.le_of_ble_eq_true (by kernel_rfl)) (by kernel_rfl) plan23 _ fun xs y h=>(ev23 xs).trans h
noncomputable def d26 (p0:(List Int × (List (List Int) × (Int × (Int × (Int × (Int × (Int × (Int × Int))))))))) (p1:List Int) (p2:List (Int × (Int × (Int × (List Int × Int))))):Option Bool :=
 letJ (fun ((t1,t2,t3,t7,t34):(List Int) × (List (Int × (Int × (Int × (List Int × Int))))) × (List Int × (List (List Int) × (Int × (Int × (Int × (Int × (Int × (Int × Int)))))))) × Int × Bool) =>
   bif t34 then
    some false
   else
    (whileO (β:=((List Int) × (List (Int × (Int × (Int × (List Int × Int))))) × (List Int × (List (List Int) × (Int × (Int × (Int × (Int × (Int × (Int × Int)))))))) × Int) ⊕ Bool) (fun ((t1_1,t2_1,t3_1,t7_1,t8):(List Int) × (List (Int × (Int × (Int × (List Int × Int))))) × (List Int × (List (List Int) × (Int × (Int × (Int × (Int × (Int × (Int × Int)))))))) × Int × Int) =>
      bif (decide (t8 < (t2_1.length:Int))) then
       bif (decide (0≤t8) && decide (t8 < (t2_1.length:Int))) then
        (d54 t7_1 (List.getD t2_1 (Int.toNat t8) (0,0,0,[],0))).bind fun r_3 =>
        bif !r_3 then
         some (Sum.inr (Sum.inr false))
        else
         some (Sum.inl (t1_1,t2_1,t3_1,t7_1,(w (t8+1))))
       else none
      else
       some (Sum.inr (Sum.inl (t1_1,t2_1,t3_1,t7_1)))) (t1,t2,t3,t7,0)).bind fun
    | Sum.inl (t1_2,t2_2,t3_2,t7_2) =>
     bif (decide (t7_2≤t3_2.2.2.2.1)) then
      some (decide ((t1_2.length:Int)=t7_2))
     else
      bif !(decide ((t1_2.length:Int)=t3_2.2.2.2.1)) then
       some false
      else
       bif (decide (t3_2.2.2.1=1)) then
        bif (decide (0≤0) && decide (0 < (t1_2.length:Int))) then
         (d20 t7_2 (List.getD t1_2 0 0) t2_2).bind fun r_4 =>
         some (!r_4.2)
        else none
       else
        (whileO (β:=Unit ⊕ Bool) (fun ((t1_3,t2_3,t3_3,t11):(List Int) × (List (Int × (Int × (Int × (List Int × Int))))) × (List Int × (List (List Int) × (Int × (Int × (Int × (Int × (Int × (Int × Int)))))))) × Int) =>
          bif (decide (t11 < (t1_3.length:Int))) then
           (whileO (β:=((List Int) × (List (Int × (Int × (Int × (List Int × Int))))) × (List Int × (List (List Int) × (Int × (Int × (Int × (Int × (Int × (Int × Int)))))))) × Int × Bool)) (fun ((t1_4,t2_4,t3_4,t11_1,t12,t13):(List Int) × (List (Int × (Int × (Int × (List Int × Int))))) × (List Int × (List (List Int) × (Int × (Int × (Int × (Int × (Int × (Int × Int)))))))) × Int × Bool × Int) =>
             bif (decide (t13 < (t2_4.length:Int))) then
              letJ (fun ((t1_5,t2_5,t3_5,t11_2,t12_1,t13_1):(List Int) × (List (Int × (Int × (Int × (List Int × Int))))) × (List Int × (List (List Int) × (Int × (Int × (Int × (Int × (Int × (Int × Int)))))))) × Int × Bool × Int) =>
                some (Sum.inl (t1_5,t2_5,t3_5,t11_2,t12_1,(w (t13_1+1))))) fun j__1 =>
              bif !t12 then
               bif (decide (0≤t13) && decide (t13 < (t2_4.length:Int))) then
                bif (decide (0≤t11_1) && decide (t11_1 < (t1_4.length:Int))) then
                 (d24 (List.getD t2_4 (Int.toNat t13) (0,0,0,[],0)) (3,(List.getD t1_4 (Int.toNat t11_1) 0),0,[],(w (t3_4.2.2.2.1+1)))).bind fun r_5 =>
                 j__1 (t1_4,t2_4,t3_4,t11_1,(decide (r_5=0)),t13)
                else none
               else none
              else
               j__1 (t1_4,t2_4,t3_4,t11_1,true,t13)
             else
              some (Sum.inr (t1_4,t2_4,t3_4,t11_1,t12))) (t1_3,t2_3,t3_3,t11,false,0)).bind fun ((t1_6,t2_6,t3_6,t11_3,t12_2):(List Int) × (List (Int × (Int × (Int × (List Int × Int))))) × (List Int × (List (List Int) × (Int × (Int × (Int × (Int × (Int × (Int × Int)))))))) × Int × Bool) =>
           bif !t12_2 then
            some (Sum.inr (Sum.inr false))
           else
            some (Sum.inl (t1_6,t2_6,t3_6,(w (t11_3+1))))
          else
           some (Sum.inr (Sum.inl ()))) (t1_2,t2_2,t3_2,0)).bind fun
        | Sum.inl _ =>
         some true
        | Sum.inr t6_1 =>
         some t6_1
    | Sum.inr t6 =>
     some t6) fun j_ =>
 (d44 (p0.2.1.length:Int)).bind fun r =>
 (d43 p0.2.2.1 p0 [] r).bind fun r_1 =>
 bif !(!(decide (r_1=0))) then
  (d31 (p0.2.1.length:Int) p1).bind fun r_2 =>
  bif !(!r_2) then
   j_ (p1,p2,p0,(p0.2.1.length:Int),(decide (1400 < (p2.length:Int))))
  else
   j_ (p1,p2,p0,(p0.2.1.length:Int),true)
 else
  j_ (p1,p2,p0,(p0.2.1.length:Int),true)
noncomputable def d62 (p0:Int) (p1:Int) (p2:Int) (p3:Int) (p4:Int) (p5:Int):Option (Int × (Int × (Int × (List Int × Int)))) :=
 (d10 p1 3).bind fun r =>
 (d10 p2 p0).bind fun r_1 =>
 bif (decide ((w (1+r))=3)) then
  (d10 p5 5).bind fun r_2 =>
  some ((w (1+r)),r_1,0,[],(w (2+r_2)))
 else
  (d10 p3 (w (p0 - 1))).bind fun r_3 =>
  (d10 (w ((w (r_1+1))+r_3)) p0).bind fun r_4 =>
  letJ (fun ((t12_4,t13_4):(Int × (Int × (Int × (List Int × Int)))) × (Int × (Int × (Int × (List Int × Int))))) =>
    some t13_4) fun j__2 =>
  bif (decide ((w (1+r))=2)) then
   (whileO (β:=((Int × (Int × (Int × (List Int × Int)))) × (Int × (Int × (Int × (List Int × Int)))))) (fun ((t0,t4,t12,t13,t14):Int × Int × (Int × (Int × (Int × (List Int × Int)))) × (Int × (Int × (Int × (List Int × Int)))) × Int) =>
     bif (decide (t14 < t0)) then
      letJ (fun ((t0_2,t4_2,t12_2,t13_2,t14_2):Int × Int × (Int × (Int × (Int × (List Int × Int)))) × (Int × (Int × (Int × (List Int × Int)))) × Int) =>
        some (Sum.inl (t0_2,t4_2,t12_2,t13_2,(w (t14_2+1))))) fun j__1 =>
      letJ (fun ((t0_1,t4_1,t12_1,t13_1,t14_1,t67):Int × Int × (Int × (Int × (Int × (List Int × Int)))) × (Int × (Int × (Int × (List Int × Int)))) × Int × Bool) =>
        bif t67 then
         bif (decide ((t13_1.2.2.2.1.length:Int)+(([t14_1]:List Int).length:Int)≤LIM)) then
          j__1 (t0_1,t4_1,t12_1,(t13_1.1,t13_1.2.1,t13_1.2.2.1,(t13_1.2.2.2.1++[t14_1]),t13_1.2.2.2.2),t14_1)
         else none
        else
         j__1 (t0_1,t4_1,t12_1,t13_1,t14_1)) fun j_ =>
      bif !(decide (t14=t13.2.1)) then
       bif !(decide (t14=t13.2.2.1)) then
        (d10 t4 128).bind fun r_5 =>
        bif (decide (0≤(wu64 t14))) then
         j_ (t0,t4,t12,t13,t14,(decide ((w ((BitVec.ofInt 64 (w (Int.fdiv r_5 (2 ^ (min (Int.toNat (wu64 t14)) 64)))) &&& BitVec.ofInt 64 1).toNat:Int))=1)))
        else none
       else
        j_ (t0,t4,t12,t13,t14,true)
      else
       j_ (t0,t4,t12,t13,t14,true)
     else
      some (Sum.inr (t12,t13))) (p0,p4,(0,0,0,[],0),((w (1+r)),r_1,r_4,[],0),0)).bind fun ((t12_3,t13_3):(Int × (Int × (Int × (List Int × Int)))) × (Int × (Int × (Int × (List Int × Int))))) =>
   j__2 (t12_3,t13_3)
  else
   j__2 ((0,0,0,[],0),((w (1+r)),r_1,r_4,[],0))
def sg62:Sig:=⟨[(y2,.sh),(y2,.sh),(y2,.sh),(y2,.sh),(y2,.sh),(y2,.sh)],[(y49,.sh)]⟩
def plan62:Plan:=(.seq (.reg [] []) (.seq (.reg [] [{},{},{},{},{},{},{ fl:=7 }]) (.seq (.seq (.reg [] []) (.cond (.seq (.reg [] []) (.seq (.reg [(13,[0,1,1,1,0])] []) .nil)) .nil)) (.seq (.reg [] []) (.join (.seq (.reg [] []) (.cond (.seq (.reg [] []) (.block (.loop [(0,.v y2 .sh),(4,.v y2 .sh),(12,.v (.ptr y49) (.own 0 .sh)),(13,.v (.ptr y49) (.own 0 (.pr .sh (.pr .sh (.pr .sh (.pr (.own 3 .sh) .sh)))))),(14,.v y2 .sh)] [(.brk 0,[(12,.v (.ptr y49) (.own 0 .sh)),(13,.v (.ptr y49) (.own 0 (.pr .sh (.pr .sh (.pr .sh (.pr (.own 3 .sh) .sh))))))])] (.seq (.seq (.reg [] []) (.cond .nil .nil)) (.join (.block (.join (.reg [] []) [(0,.v y2 .sh),(4,.v y2 .sh),(12,.v (.ptr y49) (.own 0 .sh)),(13,.v (.ptr y49) (.own 0 (.pr .sh (.pr .sh (.pr .sh (.pr (.own 3 .sh) .sh)))))),(14,.v y2 .sh),(67,.v y4 .sh)] (.cond (.reg [] []) .nil))) [(0,.v y2 .sh),(4,.v y2 .sh),(12,.v (.ptr y49) (.own 0 .sh)),(13,.v (.ptr y49) (.own 0 (.pr .sh (.pr .sh (.pr .sh (.pr (.own 3 .sh) .sh)))))),(14,.v y2 .sh)] (.reg [] [])))))) .nil)) [(12,.v (.ptr y49) (.own 0 .sh)),(13,.v (.ptr y49) (.own 0 (.pr .sh (.pr .sh (.pr .sh (.pr (.own 3 .sh) .sh))))))] (.seq (.reg [(13,[0,1,1,1,0])] []) .nil))))))
theorem ev62 (xs:Vals (ptys sg62.ps)):evF (P:=Tryz.prog) tab [.fn E10] sg62 Tryz.f62.results.toList (code Tryz.f62) plan62 xs=d62 xs.1 xs.2.1 xs.2.2.1 xs.2.2.2.1 xs.2.2.2.2.1 xs.2.2.2.2.2.1:=by kernel_rfl
theorem sim62:Sim Tryz.prog 62 sg62 d62:=sim_ev mixd tabOK Tryz.func62 (code_of rfl) Tryz.call62 (Nat.le_of_ble_eq_true (by kernel_rfl)) (by kernel_rfl) plan62 _ fun xs y h=>(ev62 xs).trans h
noncomputable def E62:FnE Tryz.prog:=⟨62,sg62,d62,sim62⟩
noncomputable def d29 (n:Int) (l:List (List Int)):Option (List (Int × (Int × (Int × (List Int × Int))))) :=
 (whileO (β:=(List (Int × (Int × (Int × (List Int × Int)))))) (fun ((n_1,l_1,out,i):Int × (List (List Int)) × (List (Int × (Int × (Int × (List Int × Int))))) × Int) =>
   letJ (fun ((n_2,l_2,out_1,i_1,t16):Int × (List (List Int)) × (List (Int × (Int × (Int × (List Int × Int))))) × Int × Bool) =>
     bif t16 then
      (whileO (β:=(Int × (List (List Int)) × (List (Int × (Int × (Int × (List Int × Int))))) × Int × (List Int))) (fun ((n_3,l_3,out_2,i_2,k,j__1):Int × (List (List Int)) × (List (Int × (Int × (Int × (List Int × Int))))) × Int × (List Int) × Int) =>
        letJ (fun ((n_4,l_4,out_3,i_3,k_1,j__2,t29):Int × (List (List Int)) × (List (Int × (Int × (Int × (List Int × Int))))) × Int × (List Int) × Int × Bool) =>
          bif t29 then
           bif (decide (0≤i_3) && decide (i_3 < (l_4.length:Int))) then
            bif (decide (0≤j__2) && decide (j__2 < ((List.getD l_4 (Int.toNat i_3) []).length:Int))) then
             bif (decide (0≤j__2) && decide (j__2 < 5)) then
              some (Sum.inl (n_4,l_4,out_3,i_3,(List.set k_1 (Int.toNat j__2) (List.getD (List.getD l_4 (Int.toNat i_3) []) (Int.toNat j__2) 0)),(w (j__2+1))))
             else none
            else none
           else none
          else
           some (Sum.inr (n_4,l_4,out_3,i_3,k_1))) fun j__3 =>
        bif (decide (j__1 < 5)) then
         bif (decide (0≤i_2) && decide (i_2 < (l_3.length:Int))) then
          j__3 (n_3,l_3,out_2,i_2,k,j__1,(decide (j__1 < ((List.getD l_3 (Int.toNat i_2) []).length:Int))))
         else none
        else
         j__3 (n_3,l_3,out_2,i_2,k,j__1,false)) (n_2,l_2,out_1,i_1,[0,0,0,0,0],0)).bind fun ((n_5,l_5,out_4,i_4,k_2):Int × (List (List Int)) × (List (Int × (Int × (Int × (List Int × Int))))) × Int × (List Int)) =>
      (d62 n_5 (List.getD k_2 0 0) (List.getD k_2 1 0) (List.getD k_2 2 0) (List.getD k_2 3 0) (List.getD k_2 4 0)).bind fun r =>
      bif (decide ((out_4.length:Int)+(([r]:List (Int × (Int × (Int × (List Int × Int))))).length:Int)≤LIM)) then
       some (Sum.inl (n_5,l_5,(out_4++[r]),(w (i_4+1))))
      else none
     else
      some (Sum.inr out_1)) fun j_ =>
   bif (decide (i < (l_1.length:Int))) then
    j_ (n_1,l_1,out,i,(decide (i < 12)))
   else
    j_ (n_1,l_1,out,i,false)) (n,l,[],0)).bind fun (out_5:List (Int × (Int × (Int × (List Int × Int))))) =>
 some out_5
def sg29:Sig:=⟨[(y2,.sh),(y27,.bw)],[(y36,(.own 49 .sh))]⟩
def plan29:Plan:=(.seq (.reg [] []) (.seq (.reg [] [{ fl:=2 }]) (.seq (.seq (.reg [] []) (.block (.loop [(0,.v y2 .sh),(1,.v y27 .bw),(5,.v y36 (.own 49 .sh)),(6,.v y2 .sh)] [(.brk 0,[(5,.v y36 (.own 49 .sh))])] (.seq (.join (.reg [] []) [(0,.v y2 .sh),(1,.v y27 .bw),(5,.v y36 (.own 49 .sh)),(6,.v y2 .sh),(16,.v y4 .sh)] (.cond .nil .nil)) (.seq (.block (.seq (.reg [] []) (.seq (.seq (.reg [] []) (.block (.loop [(0,.v y2 .sh),(1,.v y27 .bw),(5,.v y36 (.own 49 .sh)),(6,.v y2 .sh),(7,.v (.ptr y90) (.own 0 .sh)),(8,.v y2 .sh)] [(.brk 2,[(0,.v y2 .sh),(1,.v y27 .bw),(5,.v y36 (.own 49 .sh)),(6,.v y2 .sh),(7,.v (.ptr y90) (.own 0 .sh))])] (.seq (.join (.reg [] []) [(0,.v y2 .sh),(1,.v y27 .bw),(5,.v y36 (.own 49 .sh)),(6,.v y2 .sh),(7,.v (.ptr y90) (.own 0 .sh)),(8,.v y2 .sh),(29,.v y4 .sh)] (.cond .nil .nil)) (.seq (.block (.reg [] [])) (.reg [] [])))))) (.reg [] [])))) (.reg [] [])))))) (.seq (.reg [] []) .nil))))
theorem ev29 (xs:Vals (ptys sg29.ps)):evF (P:=Tryz.prog) tab [.fn E62] sg29 Tryz.f29.results.toList (code Tryz.f29) plan29 xs=d29 xs.1 xs.2.1:=by kernel_rfl
theorem sim29:Sim Tryz.prog 29 sg29 d29:=sim_ev mixd tabOK Tryz.func29 (code_of rfl) Tryz.call29 (Nat.le_of_ble_eq_true (by kernel_rfl)) (by kernel_rfl) plan29 _ fun xs y h=>(ev29 xs).trans h
noncomputable def E29:FnE Tryz.prog:=⟨29,sg29,d29,sim29⟩
noncomputable def d75 (tail:List Int):Option (List Int) :=
 bif (decide ((tail.length:Int)=(tail.length:Int)) && (decide (0≤(tail.length:Int)) && decide ((tail.length:Int)≤LIM))) then
  (whileO (β:=(List Int)) (fun ((b,t9,t10,t11):(List Int) × (List Int) × Int × Int) =>
    bif (decide (t11 < t10)) then
     bif (decide (0≤t11) && decide (t11 < (t9.length:Int))) then
      bif (decide (0≤t11) && decide (t11 < (b.length:Int))) then
       some (Sum.inl ((List.set b (Int.toNat t11) (wu8 (List.getD t9 (Int.toNat t11) 0))),t9,t10,(w (t11+1))))
      else none
     else none
    else
     some (Sum.inr b)) ((List.replicate (Int.toNat (tail.length:Int)) 0),tail,(tail.length:Int),0)).bind fun (b_1:List Int) =>
  some b_1
 else none
def sg75:Sig:=⟨[(y26,.bw)],[(y9,.sh)]⟩
def plan75:Plan:=(.seq (.reg [] []) (.seq (.reg [] []) (.seq (.seq (.reg [] []) (.block (.loop [(3,.v y93 (.own 5 .sh)),(9,.v y26 .bw),(10,.v y2 .sh),(11,.v y2 .sh)] [(.brk 0,[(3,.v y93 (.own 5 .sh))])] (.seq (.reg [] []) (.seq (.cond .nil .nil) (.seq (.block (.seq (.reg [] []) (.reg [] []))) (.reg [] []))))))) (.seq (.reg [] []) .nil))))
theorem ev75 (xs:Vals (ptys sg75.ps)):evF (P:=Tryz.prog) tab [] sg75 Tryz.f75.results.toList (code Tryz.f75) plan75 xs=d75 xs.1:=by kernel_rfl
theorem sim75:Sim Tryz.prog 75 sg75 d75:=sim_ev mixd tabOK Tryz.func75 (code_of rfl) Tryz.call75 (Nat.le_of_ble_eq_true (by kernel_rfl)) (by kernel_rfl) plan75 _ fun xs y h=>(ev75 xs).trans h
noncomputable def d69 (vals:List Int):Option Int :=
 (whileO (β:=Int ⊕ Int) (fun ((zero,t6,t7,t8):Int × (List Int) × Int × Int) =>
   bif (decide (t8 < t7)) then
    bif (decide (0≤t8) && decide (t8 < (t6.length:Int))) then
     bif !(decide ((List.getD t6 (Int.toNat t8) 0)=zero)) then
      some (Sum.inr (Sum.inr (List.getD t6 (Int.toNat t8) 0)))
     else
      some (Sum.inl (zero,t6,t7,(w (t8+1))))
    else none
   else
    some (Sum.inr (Sum.inl zero))) (0,vals,(vals.length:Int),0)).bind fun
 | Sum.inl zero_1 =>
  some zero_1
 | Sum.inr t2 =>
  some t2
def sg69:Sig:=⟨[(y26,.bw)],[(y2,.sh)]⟩
def plan69:Plan:=(.seq (.reg [] []) (.seq (.reg [] []) (.seq (.seq (.reg [] []) (.block (.loop [(3,.v y2 .sh),(6,.v y26 .bw),(7,.v y2 .sh),(8,.v y2 .sh)] [(.brk 0,[(3,.v y2 .sh)]),(.ret,[(2,.v y2 .sh)])] (.seq (.reg [] []) (.seq (.cond .nil .nil) (.seq (.block (.seq (.reg [] []) (.seq (.reg [] []) (.cond (.seq (.reg [] []) .nil) .nil)))) (.reg [] []))))))) (.seq (.reg [] []) .nil))))
theorem ev69 (xs:Vals (ptys sg69.ps)):evF (P:=Tryz.prog) tab [] sg69 Tryz.f69.results.toList (code Tryz.f69) plan69 xs=d69 xs.1:=by kernel_rfl
theorem sim69:Sim Tryz.prog 69 sg69 d69:=sim_ev mixd tabOK Tryz.func69 (code_of rfl) Tryz.call69 (Nat.le_of_ble_eq_true (by kernel_rfl)) (by kernel_rfl) plan69 _ fun xs y h=>(ev69 xs).trans h
noncomputable def E69:FnE Tryz.prog:=⟨69,sg69,d69,sim69⟩
noncomputable def d40 (a:(Int × (Int × (Int × (List Int × Int))))) (b:(Int × (Int × (Int × (List Int × Int))))):Option Int :=
 (d70 a.1 b.1).bind fun r =>
 (d70 a.2.1 b.2.1).bind fun r_1 =>
 (d70 a.2.2.1 b.2.2.1).bind fun r_2 =>
 (d70 (a.2.2.2.1.length:Int) (b.2.2.2.1.length:Int)).bind fun r_3 =>
 (d71 a.2.2.2.1 b.2.2.2.1).bind fun r_4 =>
 (d70 a.2.2.2.2 b.2.2.2.2).bind fun r_5 =>
 (d69 [r,r_1,r_2,r_3,r_4,r_5]).bind fun r_6 =>
 some r_6
def sg40:Sig:=⟨[(y49,.bw),(y49,.bw)],[(y2,.sh)]⟩
def plan40:Plan:=(.seq (.reg [] []) (.seq (.reg [] []) .nil))
theorem ev40 (xs:Vals (ptys sg40.ps)):evF (P:=Tryz.prog) tab [.fn E70,.fn E71,.fn E69] sg40 Tryz.f40.results.toList (code Tryz.f40) plan40 xs=d40 xs.1 xs.2.1:=by kernel_rfl
theorem sim40:Sim Tryz.prog 40 sg40 d40:=sim_ev mixd tabOK Tryz.func40 (code_of rfl) Tryz.call40 (Nat.le_of_ble_eq_true (by kernel_rfl)) (by kernel_rfl) plan40 _ fun xs y h=>(ev40 xs).trans h
noncomputable def E40:FnE Tryz.prog:=⟨40,sg40,d40,sim40⟩
noncomputable def d88 (l:List Int) (n:Int):Option Bool :=
 bif (decide ((l.length:Int)=n)) then
  (d106 n l).bind fun r =>
  some r
 else
  some false
def sg88:Sig:=⟨[(y26,.bw),(y2,.sh)],[(y4,.sh)]⟩
def plan88:Plan:=(.seq (.reg [] []) (.seq (.reg [] []) .nil))
theorem ev88 (xs:Vals (ptys sg88.ps)):evF (P:=Tryz.prog) tab [.fn E106] sg88 Tryz.f88.results.toList (code Tryz.f88) plan88 xs=d88 xs.1 xs.2.1:=by kernel_rfl
theorem sim88:Sim Tryz.prog 88 sg88 d88:=sim_ev mixd tabOK Tryz.func88 (code_of rfl) Tryz.call88 (Nat.le_of_ble_eq_true (by kernel_rfl)) (by kernel_rfl) plan88 _ fun xs y h=>(ev88 xs).trans h
noncomputable def E88:FnE Tryz.prog:=⟨88,sg88,d88,sim88⟩
noncomputable def d64 (p0:Int) (p1:(List Int × (List (List Int) × (Int × (Int × (Int × (Int × (Int × (Int × Int))))))))) (p2:List (List Int × Int)) (p3:List Int):Option Int :=
 letJ (fun ((t0,t2,t3,t5,t9,t10):Int × (List (List Int × Int)) × (List Int) × (List Int × (List (List Int) × (Int × (Int × (Int × (Int × (Int × (Int × Int)))))))) × Int × Bool) =>
   letJ (fun ((t0_1,t2_1,t3_1,t5_1,t9_1,t10_1,t27):Int × (List (List Int × Int)) × (List Int) × (List Int × (List (List Int) × (Int × (Int × (Int × (Int × (Int × (Int × Int)))))))) × Int × Bool × Bool) =>
     bif t27 then
      some 5
     else
      letJ (fun ((t2_5,t3_5,t9_5,t40_3):(List (List Int × Int)) × (List Int) × Int × Bool) =>
        bif t40_3 then
         some 4
        else
         (d74 t9_5 t2_5).bind fun r =>
         bif !r then
          some 8
         else
          (d88 t3_5 t9_5).bind fun r_1 =>
          bif !r_1 then
           some 13
          else
           some 0) fun j__5 =>
      letJ (fun ((t0_2,t2_2,t3_2,t5_2,t9_2,t10_2,t40):Int × (List (List Int × Int)) × (List Int) × (List Int × (List (List Int) × (Int × (Int × (Int × (Int × (Int × (Int × Int)))))))) × Int × Bool × Bool) =>
        bif t40 then
         j__5 (t2_2,t3_2,t9_2,t40)
        else
         letJ (fun ((t0_3,t2_3,t3_3,t5_3,t9_3,t10_3,t40_1):Int × (List (List Int × Int)) × (List Int) × (List Int × (List (List Int) × (Int × (Int × (Int × (Int × (Int × (Int × Int)))))))) × Int × Bool × Bool) =>
           bif t40_1 then
            j__5 (t2_3,t3_3,t9_3,t40_1)
           else
            letJ (fun ((t2_4,t3_4,t5_4,t9_4,t10_4,t40_2):(List (List Int × Int)) × (List Int) × (List Int × (List (List Int) × (Int × (Int × (Int × (Int × (Int × (Int × Int)))))))) × Int × Bool × Bool) =>
              bif t40_2 then
               j__5 (t2_4,t3_4,t9_4,t40_2)
              else
               bif !t10_4 then
                j__5 (t2_4,t3_4,t9_4,!t10_4)
               else
                bif !(decide (t5_4.2.2.2.2.2.2.1 < 1)) then
                 j__5 (t2_4,t3_4,t9_4,(decide (3 < t5_4.2.2.2.2.2.2.1)))
                else
                 j__5 (t2_4,t3_4,t9_4,true)) fun j__4 =>
            bif (decide (t0_3=1)) then
             j__4 (t2_3,t3_3,t5_3,t9_3,t10_3,!(decide (t5_3.2.2.2.1=1)))
            else
             j__4 (t2_3,t3_3,t5_3,t9_3,t10_3,false)) fun j__3 =>
         bif !(decide (t5_2.2.2.2.1 < 1)) then
          j__3 (t0_2,t2_2,t3_2,t5_2,t9_2,t10_2,(decide (5 < t5_2.2.2.2.1)))
         else
          j__3 (t0_2,t2_2,t3_2,t5_2,t9_2,t10_2,true)) fun j__2 =>
      bif !(decide (t9_1 < 1)) then
       j__2 (t0_1,t2_1,t3_1,t5_1,t9_1,t10_1,(decide (7 < t9_1)))
      else
       j__2 (t0_1,t2_1,t3_1,t5_1,t9_1,t10_1,true)) fun j__1 =>
   bif !(decide (t0 < 1)) then
    bif !(decide (3 < t0)) then
     j__1 (t0,t2,t3,t5,t9,t10,!(decide (t5.2.2.1=t0)))
    else
     j__1 (t0,t2,t3,t5,t9,t10,true)
   else
    j__1 (t0,t2,t3,t5,t9,t10,true)) fun j_ =>
 bif (decide (p0=2)) then
  bif (decide (1≤p1.2.2.2.2.2.1)) then
   j_ (p0,p2,p3,p1,(p1.2.1.length:Int),(decide (p1.2.2.2.2.2.1≤6)))
  else
   j_ (p0,p2,p3,p1,(p1.2.1.length:Int),false)
 else
  j_ (p0,p2,p3,p1,(p1.2.1.length:Int),(decide (p1.2.2.2.2.2.1=0)))
def sg64:Sig:=⟨[(y2,.sh),(y23,.bw),(y25,.bw),(y26,.bw)],[(y2,.sh)]⟩
def plan64:Plan:=(.seq (.reg [] []) (.seq (.reg [] []) (.seq (.reg [] []) (.join (.seq (.reg [] []) (.cond (.reg [] []) .nil)) [(0,.v y2 .sh),(2,.v y25 .bw),(3,.v y26 .bw),(5,.v (.ptr y23) (.own 0 .bw)),(9,.v y2 .sh),(10,.v y4 .sh)] (.seq (.block (.join (.reg [] []) [(0,.v y2 .sh),(2,.v y25 .bw),(3,.v y26 .bw),(5,.v (.ptr y23) (.own 0 .bw)),(9,.v y2 .sh),(10,.v y4 .sh),(27,.v y4 .sh)] (.cond (.seq (.reg [] []) .nil) (.join (.join (.reg [] []) [(0,.v y2 .sh),(2,.v y25 .bw),(3,.v y26 .bw),(5,.v (.ptr y23) (.own 0 .bw)),(9,.v y2 .sh),(10,.v y4 .sh),(40,.v y4 .sh)] (.cond .nil (.join (.reg [] []) [(0,.v y2 .sh),(2,.v y25 .bw),(3,.v y26 .bw),(5,.v (.ptr y23) (.own 0 .bw)),(9,.v y2 .sh),(10,.v y4 .sh),(40,.v y4 .sh)] (.cond .nil (.join (.reg [] []) [(2,.v y25 .bw),(3,.v y26 .bw),(5,.v (.ptr y23) (.own 0 .bw)),(9,.v y2 .sh),(10,.v y4 .sh),(40,.v y4 .sh)] (.cond .nil (.seq (.reg [] []) (.cond .nil (.reg [] []))))))))) [(2,.v y25 .bw),(3,.v y26 .bw),(9,.v y2 .sh),(40,.v y4 .sh)] (.cond (.seq (.reg [] []) .nil) (.seq (.reg [] []) (.cond (.seq (.reg [] []) .nil) (.seq (.reg [] []) (.cond (.seq (.reg [] []) .nil) .nil))))))))) (.seq (.reg [] []) .nil))))))
theorem ev64 (xs:Vals (ptys sg64.ps)):evF (P:=Tryz.prog) tab [.fn E74,.fn E88] sg64 Tryz.f64.results.toList (code Tryz.f64) plan64 xs=d64 xs.1 xs.2.1 xs.2.2.1 xs.2.2.2.1:=by kernel_rfl
theorem sim64:Sim Tryz.prog 64 sg64 d64:=sim_ev mixd tabOK Tryz.func64 (code_of rfl) Tryz.call64 (Nat.le_of_ble_eq_true (by kernel_rfl)) (by kernel_rfl) plan64 _ fun xs y h=>(ev64 xs).trans h
noncomputable def E64:FnE Tryz.prog:=⟨64,sg64,d64,sim64⟩
noncomputable def d36 (c:(List Int × (List (List Int) × (Int × (Int × (Int × (Int × (Int × (Int × Int))))))))) (gs:List (List Int × Int)) (winners:List Int):Option Bool :=
 (whileO (β:=((List (List Int × Int)) × (List Int) × (List Int × (List (List Int) × (Int × (Int × (Int × (Int × (Int × (Int × Int)))))))) × Int × (List Int))) (fun ((gs_1,winners_1,c_1,n,lots,t16,t17):(List (List Int × Int)) × (List Int) × (List Int × (List (List Int) × (Int × (Int × (Int × (Int × (Int × (Int × Int)))))))) × Int × (List Int) × Int × Int) =>
   bif (decide (t17 < t16)) then
    bif (decide ((lots.length:Int)+(([t17]:List Int).length:Int)≤LIM)) then
     some (Sum.inl (gs_1,winners_1,c_1,n,(lots++[t17]),t16,(w (t17+1))))
    else none
   else
    some (Sum.inr (gs_1,winners_1,c_1,n,lots))) (gs,winners,c,(c.2.1.length:Int),[],(bif (decide (7 < (c.2.1.length:Int))) then 7 else (c.2.1.length:Int)),0)).bind fun ((gs_2,winners_2,c_2,n_1,lots_1):(List (List Int × Int)) × (List Int) × (List Int × (List (List Int) × (Int × (Int × (Int × (Int × (Int × (Int × Int)))))))) × Int × (List Int)) =>
 (d64 c_2.2.2.1 c_2 gs_2 lots_1).bind fun r =>
 bif !(decide (r=0)) then
  some false
 else
  (whileO (β:=Unit ⊕ Bool) (fun ((winners_3,n_2,t32,t33,t34):(List Int) × Int × (List Int) × Int × Int) =>
    bif (decide (t34 < t33)) then
     bif (decide (0≤t34) && decide (t34 < (t32.length:Int))) then
      letJ (fun ((winners_4,n_3,t32_1,t33_1,t34_1,t52):(List Int) × Int × (List Int) × Int × Int × Bool) =>
        bif t52 then
         some (Sum.inr (Sum.inr false))
        else
         some (Sum.inl (winners_4,n_3,t32_1,t33_1,(w (t34_1+1))))) fun j_ =>
      bif !(decide ((List.getD t32 (Int.toNat t34) 0) < 0)) then
       bif !(decide (n_2≤(List.getD t32 (Int.toNat t34) 0))) then
        bif (cutOK 0 t34 winners_3.length) then
         (d58 (List.drop 0 (List.take (Int.toNat t34) winners_3)) (List.getD t32 (Int.toNat t34) 0)).bind fun r_1 =>
         j_ (winners_3,n_2,t32,t33,t34,r_1)
        else none
       else
        j_ (winners_3,n_2,t32,t33,t34,true)
      else
       j_ (winners_3,n_2,t32,t33,t34,true)
     else none
    else
     some (Sum.inr (Sum.inl ()))) (winners_2,n_1,winners_2,(winners_2.length:Int),0)).bind fun
  | Sum.inl _ =>
   some true
  | Sum.inr t6 =>
   some t6
def sg36:Sig:=⟨[(y23,.bw),(y25,.bw),(y26,.bw)],[(y4,.sh)]⟩
def plan36:Plan:=(.seq (.reg [] []) (.seq (.reg [] []) (.seq (.reg [] [{ fl:=2 }]) (.seq (.seq (.reg [] []) (.block (.loop [(1,.v y25 .bw),(2,.v y26 .bw),(3,.v (.ptr y23) (.own 0 .bw)),(7,.v y2 .sh),(8,.v y26 (.own 3 .sh)),(16,.v y2 .sh),(17,.v y2 .sh)] [(.brk 0,[(1,.v y25 .bw),(2,.v y26 .bw),(3,.v (.ptr y23) (.own 0 .bw)),(7,.v y2 .sh),(8,.v y26 (.own 3 .sh))])] (.seq (.reg [] []) (.seq (.cond .nil .nil) (.seq (.block (.seq (.reg [] []) (.reg [] []))) (.reg [] []))))))) (.seq (.seq (.reg [] []) (.cond (.seq (.reg [] []) .nil) .nil)) (.seq (.seq (.reg [] []) (.block (.loop [(2,.v y26 .bw),(7,.v y2 .sh),(32,.v y26 .bw),(33,.v y2 .sh),(34,.v y2 .sh)] [(.brk 2,[]),(.ret,[(6,.v y4 .sh)])] (.seq (.reg [] []) (.seq (.cond .nil .nil) (.seq (.block (.seq (.reg [] []) (.join (.reg [] []) [(2,.v y26 .bw),(7,.v y2 .sh),(32,.v y26 .bw),(33,.v y2 .sh),(34,.v y2 .sh),(52,.v y4 .sh)] (.cond (.seq (.reg [] []) .nil) .nil)))) (.reg [] []))))))) (.seq (.reg [] []) .nil)))))))
theorem ev36 (xs:Vals (ptys sg36.ps)):evF (P:=Tryz.prog) tab [.fn E64,.fn E58] sg36 Tryz.f36.results.toList (code Tryz.f36) plan36 xs=d36 xs.1 xs.2.1 xs.2.2.1:=by kernel_rfl
theorem sim36:Sim Tryz.prog 36 sg36 d36:=sim_ev mixd tabOK Tryz.func36 (code_of rfl) Tryz.call36 (Nat.le_of_ble_eq_true (by kernel_rfl)) (by kernel_rfl) plan36 _ fun xs y h=>(ev36 xs).trans h
noncomputable def d141 (n:Int) (tail:List Int):Option Bool :=
 (whileO (β:=(List Int) ⊕ Bool) (fun ((n_1,tail_1,t7,t8,t9):Int × (List Int) × (List Int) × Int × Int) =>
   bif (decide (t9 < t8)) then
    bif (decide (0≤t9) && decide (t9 < (t7.length:Int))) then
     letJ (fun ((n_2,tail_2,t7_1,t8_1,t9_1,t27):Int × (List Int) × (List Int) × Int × Int × Bool) =>
       bif t27 then
        some (Sum.inr (Sum.inr false))
       else
        some (Sum.inl (n_2,tail_2,t7_1,t8_1,(w (t9_1+1))))) fun j_ =>
     bif !(decide ((List.getD t7 (Int.toNat t9) 0) < 0)) then
      bif !(decide (n_1≤(List.getD t7 (Int.toNat t9) 0))) then
       bif (cutOK 0 t9 tail_1.length) then
        (d58 (List.drop 0 (List.take (Int.toNat t9) tail_1)) (List.getD t7 (Int.toNat t9) 0)).bind fun r =>
        j_ (n_1,tail_1,t7,t8,t9,r)
       else none
      else
       j_ (n_1,tail_1,t7,t8,t9,true)
     else
      j_ (n_1,tail_1,t7,t8,t9,true)
    else none
   else
    some (Sum.inr (Sum.inl tail_1))) (n,tail,tail,(tail.length:Int),0)).bind fun
 | Sum.inl tail_3 =>
  some (decide (0 < (tail_3.length:Int)))
 | Sum.inr t4 =>
  some t4
def sg141:Sig:=⟨[(y2,.sh),(y26,.bw)],[(y4,.sh)]⟩
def plan141:Plan:=(.seq (.reg [] []) (.seq (.seq (.reg [] []) (.block (.loop [(0,.v y2 .sh),(1,.v y26 .bw),(7,.v y26 .bw),(8,.v y2 .sh),(9,.v y2 .sh)] [(.brk 0,[(1,.v y26 .bw)]),(.ret,[(4,.v y4 .sh)])] (.seq (.reg [] []) (.seq (.cond .nil .nil) (.seq (.block (.seq (.reg [] []) (.join (.reg [] []) [(0,.v y2 .sh),(1,.v y26 .bw),(7,.v y26 .bw),(8,.v y2 .sh),(9,.v y2 .sh),(27,.v y4 .sh)] (.cond (.seq (.reg [] []) .nil) .nil)))) (.reg [] []))))))) (.seq (.reg [] []) .nil)))
theorem ev141 (xs:Vals (ptys sg141.ps)):evF (P:=Tryz.prog) tab [.fn E58] sg141 Tryz.f141.results.toList (code Tryz.f141) plan141 xs=d141 xs.1 xs.2.1:=by kernel_rfl
theorem sim141:Sim Tryz.prog 141 sg141 d141:=sim_ev mixd tabOK Tryz.func141 (code_of rfl) Tryz.call141 (Nat.le_of_ble_eq_true (by kernel_rfl)) (by kernel_rfl) plan141 _ fun xs y h=>(ev141 xs).trans h
noncomputable def E141:FnE Tryz.prog:=⟨141,sg141,d141,sim141⟩
noncomputable def d142 (s1:List Int) (s2:List Int):Option Bool :=
 bif !(decide ((s1.length:Int)=(s2.length:Int))) then
  some false
 else
  (whileO (β:=Unit ⊕ Bool) (fun ((s1_1,s2_1,t12,t13):(List Int) × (List Int) × Int × Int) =>
    bif (decide (t13 < t12)) then
     bif (decide (0≤t13) && decide (t13 < (s1_1.length:Int))) then
      bif (decide (0≤t13) && decide (t13 < (s2_1.length:Int))) then
       bif !(decide ((List.getD s1_1 (Int.toNat t13) 0)=(List.getD s2_1 (Int.toNat t13) 0))) then
        some (Sum.inr (Sum.inr false))
       else
        some (Sum.inl (s1_1,s2_1,t12,(w (t13+1))))
      else none
     else none
    else
     some (Sum.inr (Sum.inl ()))) (s1,s2,(s1.length:Int),0)).bind fun
  | Sum.inl _ =>
   some true
  | Sum.inr t4 =>
   some t4
def sg142:Sig:=⟨[(y26,.bw),(y26,.bw)],[(y4,.sh)]⟩
def plan142:Plan:=(.seq (.reg [] []) (.seq (.seq (.reg [] []) (.cond (.seq (.reg [] []) .nil) .nil)) (.seq (.seq (.reg [] []) (.block (.loop [(0,.v y26 .bw),(1,.v y26 .bw),(12,.v y2 .sh),(13,.v y2 .sh)] [(.brk 0,[]),(.ret,[(4,.v y4 .sh)])] (.seq (.reg [] []) (.seq (.cond .nil .nil) (.seq (.block (.seq (.reg [] []) (.seq (.reg [] []) (.cond (.seq (.reg [] []) .nil) .nil)))) (.reg [] []))))))) (.seq (.reg [] []) .nil))))
theorem ev142 (xs:Vals (ptys sg142.ps)):evF (P:=Tryz.prog) tab [] sg142 Tryz.f142.results.toList (code Tryz.f142) plan142 xs=d142 xs.1 xs.2.1:=by kernel_rfl
theorem sim142:Sim Tryz.prog 142 sg142 d142:=sim_ev mixd tabOK Tryz.func142 (code_of rfl) Tryz.call142 (Nat.le_of_ble_eq_true (by kernel_rfl)) (by kernel_rfl) plan142 _ fun xs y h=>(ev142 xs).trans h
noncomputable def E142:FnE Tryz.prog:=⟨142,sg142,d142,sim142⟩
noncomputable def d134 (p0:Int) (p1:(Int × (Int × (Int × (List Int × Int))))) (p2:List Int):Option Bool :=
 letJ (fun ((t2,t4,t18):(List Int) × (Int × (Int × (Int × (List Int × Int)))) × Bool) =>
   bif t18 then
    some false
   else
    bif (decide (t4.1=1)) then
     (d85 t2 t4.2.2.1).bind fun r_2 =>
     bif (decide (0≤r_2)) then
      bif (cutOK r_2 (t2.length:Int) t2.length) then
       (d58 (List.drop (Int.toNat r_2) (List.take (Int.toNat (t2.length:Int)) t2)) t4.2.1).bind fun r_3 =>
       some (!r_3)
      else none
     else
      some false
    else
     bif (decide (t4.1=2)) then
      bif (decide (0≤(w ((t2.length:Int) - (t4.2.2.2.1.length:Int))))) then
       bif (decide (0≤(w ((t2.length:Int) - (t4.2.2.2.1.length:Int)))) && decide ((w ((t2.length:Int) - (t4.2.2.2.1.length:Int))) < (t2.length:Int))) then
        bif (decide ((List.getD t2 (Int.toNat (w ((t2.length:Int) - (t4.2.2.2.1.length:Int)))) 0)=t4.2.1)) then
         bif (cutOK (w ((t2.length:Int) - (t4.2.2.2.1.length:Int))) (t2.length:Int) t2.length) then
          (bif decide (((List.drop (Int.toNat (w ((t2.length:Int) - (t4.2.2.2.1.length:Int)))) (List.take (Int.toNat (t2.length:Int)) t2)).length:Int)≤LIM) then some () else none).bind fun u =>
          (d142 (sortI (List.drop (Int.toNat (w ((t2.length:Int) - (t4.2.2.2.1.length:Int)))) (List.take (Int.toNat (t2.length:Int)) t2))) t4.2.2.2.1).bind fun r_4 =>
          some r_4
         else none
        else
         some false
       else none
      else
       some false
     else
      some false) fun j_ =>
 (d59 p0 p1).bind fun r =>
 bif !(!r) then
  (d141 p0 p2).bind fun r_1 =>
  j_ (p2,p1,!r_1)
 else
  j_ (p2,p1,true)
def sg134:Sig:=⟨[(y2,.sh),(y49,.bw),(y26,.bw)],[(y4,.sh)]⟩
def plan134:Plan:=(.seq (.reg [] []) (.seq (.join (.reg [] []) [(2,.v y26 .bw),(4,.v (.ptr y49) (.own 0 .bw)),(18,.v y4 .sh)] (.cond (.seq (.reg [] []) .nil) .nil)) (.seq (.seq (.reg [] []) (.block (.seq (.reg [] []) (.cond (.seq (.reg [] []) (.seq (.reg [] []) .nil)) (.seq (.reg [] []) (.cond (.seq (.reg [] []) (.seq (.reg [] []) .nil)) .nil)))))) (.seq (.reg [] []) .nil))))
theorem ev134 (xs:Vals (ptys sg134.ps)):evF (P:=Tryz.prog) tab [.fn E59,.fn E141,.fn E85,.fn E58,.sq sqE,.fn E142] sg134 Tryz.f134.results.toList (code Tryz.f134) plan134 xs=d134 xs.1 xs.2.1 xs.2.2.1:=by kernel_rfl
theorem sim134:Sim Tryz.prog 134 sg134 d134:=sim_ev mixd tabOK Tryz.func134 (code_of rfl) Tryz.call134 (Nat.le_of_ble_eq_true (by kernel_rfl)) (by kernel_rfl) plan134 _ fun xs y h=>(ev134 xs).trans h
noncomputable def E134:FnE Tryz.prog:=⟨134,sg134,d134,sim134⟩
noncomputable def d133 (a:(Int × (Int × (Int × (List Int × Int))))) (p1:Int) (p2:List Int):Option Bool :=
 (d134 p1 a p2).bind fun r =>
 some r
def sg133:Sig:=⟨[(y49,.bw),((.ptr y2),.bw),((.ptr y26),.bw)],[(y4,.sh)]⟩
def plan133:Plan:=(.seq (.reg [] []) (.seq (.reg [] []) .nil))
theorem ev133 (xs:Vals (ptys sg133.ps)):evF (P:=Tryz.prog) tab [.fn E134] sg133 Tryz.f133.results.toList (code Tryz.f133) plan133 xs=d133 xs.1 xs.2.1 xs.2.2.1:=by kernel_rfl
theorem sim133:Sim Tryz.prog 133 sg133 d133:=sim_ev mixd tabOK Tryz.func133 (code_of rfl) Tryz.call133 (Nat.le_of_ble_eq_true (by kernel_rfl)) (by kernel_rfl) plan133 _ fun xs y h=>(ev133 xs).trans h
noncomputable def E133:FnE Tryz.prog:=⟨133,sg133,d133,sim133⟩
noncomputable def d87 (s:List (Int × (Int × (Int × (List Int × Int))))) (f:((Int × (Int × (Int × (List Int × Int))))→Option Bool)):Option Int :=
 (whileO (β:=Unit ⊕ Int) (fun ((s_1,f_1,t7,t8):(List (Int × (Int × (Int × (List Int × Int))))) × ((Int × (Int × (Int × (List Int × Int))))→Option Bool) × Int × Int) =>
   bif (decide (t8 < t7)) then
    bif (decide (0≤t8) && decide (t8 < (s_1.length:Int))) then
     (f_1 (List.getD s_1 (Int.toNat t8) (0,0,0,[],0))).bind fun r =>
     bif r then
      some (Sum.inr (Sum.inr t8))
     else
      some (Sum.inl (s_1,f_1,t7,(w (t8+1))))
    else none
   else
    some (Sum.inr (Sum.inl ()))) (s,f,(s.length:Int),0)).bind fun
 | Sum.inl _ =>
  some (-1)
 | Sum.inr t4 =>
  some t4
def sg87:Sig:=⟨[(y36,.bw),(y89,.bw)],[(y2,.sh)]⟩
def plan87:Plan:=(.seq (.reg [] []) (.seq (.seq (.reg [] []) (.block (.loop [(0,.v y36 .bw),(1,.v y89 .bw),(7,.v y2 .sh),(8,.v y2 .sh)] [(.brk 0,[]),(.ret,[(4,.v y2 .sh)])] (.seq (.reg [] []) (.seq (.cond .nil .nil) (.seq (.block (.seq (.reg [] []) (.seq (.reg [] []) (.cond (.seq (.reg [] []) .nil) .nil)))) (.reg [] []))))))) (.seq (.reg [] []) .nil)))
theorem ev87 (xs:Vals (ptys sg87.ps)):evF (P:=Tryz.prog) tab [] sg87 Tryz.f87.results.toList (code Tryz.f87) plan87 xs=d87 xs.1 xs.2.1:=by kernel_rfl
theorem sim87:Sim Tryz.prog 87 sg87 d87:=sim_ev mixd tabOK Tryz.func87 (code_of rfl) Tryz.call87 (Nat.le_of_ble_eq_true (by kernel_rfl)) (by kernel_rfl) plan87 _ fun xs y h=>(ev87 xs).trans h
noncomputable def E87:FnE Tryz.prog:=⟨87,sg87,d87,sim87⟩
noncomputable def d60 (s:List (Int × (Int × (Int × (List Int × Int))))) (f:((Int × (Int × (Int × (List Int × Int))))→Option Bool)):Option Bool :=
 (d87 s f).bind fun r =>
 some (decide (0≤r))
def sg60:Sig:=⟨[(y36,.bw),(y89,.bw)],[(y4,.sh)]⟩
def plan60:Plan:=(.seq (.reg [] []) (.seq (.reg [] []) .nil))
theorem ev60 (xs:Vals (ptys sg60.ps)):evF (P:=Tryz.prog) tab [.fn E87] sg60 Tryz.f60.results.toList (code Tryz.f60) plan60 xs=d60 xs.1 xs.2.1:=by kernel_rfl
theorem sim60:Sim Tryz.prog 60 sg60 d60:=sim_ev mixd tabOK Tryz.func60 (code_of rfl) Tryz.call60 (Nat.le_of_ble_eq_true (by kernel_rfl)) (by kernel_rfl) plan60 _ fun xs y h=>(ev60 xs).trans h
noncomputable def E60:FnE Tryz.prog:=⟨60,sg60,d60,sim60⟩
noncomputable def d117 (n:Int) (l:List (Int × (Int × (Int × (List Int × Int))))) (tail:List Int):Option Bool :=
 (d60 l (fun a=>d133 a n tail)).bind fun r =>
 some r
def sg117:Sig:=⟨[(y2,.sh),(y36,.bw),(y26,.bw)],[(y4,.sh)]⟩
def plan117:Plan:=(.seq (.reg [] []) (.seq (.reg [] []) .nil))
theorem ev117 (xs:Vals (ptys sg117.ps)):evF (P:=Tryz.prog) tab [.fn E60,.fn E133] sg117 Tryz.f117.results.toList (code Tryz.f117) plan117 xs=d117 xs.1 xs.2.1 xs.2.2.1:=by kernel_rfl
theorem sim117:Sim Tryz.prog 117 sg117 d117:=sim_ev mixd tabOK Tryz.func117 (code_of rfl) Tryz.call117 (Nat.le_of_ble_eq_true (by kernel_rfl)) (by kernel_rfl) plan117 _ fun xs y h=>(ev117 xs).trans h
noncomputable def d57 (c:(List Int × (List (List Int) × (Int × (Int × (Int × (Int × (Int × (Int × Int))))))))):Option Bool :=
 (whileO (β:=((List Int × (List (List Int) × (Int × (Int × (Int × (Int × (Int × (Int × Int)))))))) × (List Int))) (fun ((c_1,lots,t8,t9):(List Int × (List (List Int) × (Int × (Int × (Int × (Int × (Int × (Int × Int)))))))) × (List Int) × Int × Int) =>
   bif (decide (t9 < t8)) then
    bif (decide ((lots.length:Int)+(([t9]:List Int).length:Int)≤LIM)) then
     some (Sum.inl (c_1,(lots++[t9]),t8,(w (t9+1))))
    else none
   else
    some (Sum.inr (c_1,lots))) (c,[],(bif (decide (7 < (c.2.1.length:Int))) then 7 else (c.2.1.length:Int)),0)).bind fun ((c_2,lots_1):(List Int × (List (List Int) × (Int × (Int × (Int × (Int × (Int × (Int × Int)))))))) × (List Int)) =>
 (d64 c_2.2.2.1 c_2 [] lots_1).bind fun r =>
 some (decide (r=0))
def sg57:Sig:=⟨[(y23,.bw)],[(y4,.sh)]⟩
def plan57:Plan:=(.seq (.reg [] []) (.seq (.reg [] [{ fl:=2 }]) (.seq (.seq (.reg [] []) (.block (.loop [(1,.v (.ptr y23) (.own 0 .bw)),(3,.v y26 (.own 3 .sh)),(8,.v y2 .sh),(9,.v y2 .sh)] [(.brk 0,[(1,.v (.ptr y23) (.own 0 .bw)),(3,.v y26 (.own 3 .sh))])] (.seq (.reg [] []) (.seq (.cond .nil .nil) (.seq (.block (.seq (.reg [] []) (.reg [] []))) (.reg [] []))))))) (.seq (.reg [] []) .nil))))
theorem ev57 (xs:Vals (ptys sg57.ps)):evF (P:=Tryz.prog) tab [.fn E64] sg57 Tryz.f57.results.toList (code Tryz.f57) plan57 xs=d57 xs.1:=by kernel_rfl
theorem sim57:Sim Tryz.prog 57 sg57 d57:=sim_ev mixd tabOK Tryz.func57 (code_of rfl) Tryz.call57 (Nat.le_of_ble_eq_true (by kernel_rfl)) (by kernel_rfl) plan57 _ fun xs y h=>(ev57 xs).trans h
noncomputable def E57:FnE Tryz.prog:=⟨57,sg57,d57,sim57⟩
noncomputable def d61 (a:(Int × (Int × (Int × (List Int × Int))))) (p1:(Int × (Int × (Int × (List Int × Int))))):Option Bool :=
 (d40 a p1).bind fun r =>
 some (decide (r=0))
def sg61:Sig:=⟨[(y49,.bw),((.ptr y49),.bw)],[(y4,.sh)]⟩
def plan61:Plan:=(.seq (.reg [] []) (.seq (.reg [] []) .nil))
theorem ev61 (xs:Vals (ptys sg61.ps)):evF (P:=Tryz.prog) tab [.fn E40] sg61 Tryz.f61.results.toList (code Tryz.f61) plan61 xs=d61 xs.1 xs.2.1:=by kernel_rfl
theorem sim61:Sim Tryz.prog 61 sg61 d61:=sim_ev mixd tabOK Tryz.func61 (code_of rfl) Tryz.call61 (Nat.le_of_ble_eq_true (by kernel_rfl)) (by kernel_rfl) plan61 _ fun xs y h=>(ev61 xs).trans h
noncomputable def E61:FnE Tryz.prog:=⟨61,sg61,d61,sim61⟩
end Go.Proofs.YtieoleabnjdkfaaGreat
set_option linter.unusedSimpArgs false
set_option linter.unusedVariables false
namespace Go.X
open Go Go.RowKit
section
variable {P:Program}
theorem region_inv (hm:P.follows .mixedOrders=true) {id:Nat} {ops:Array Oper} {Q:Exit→Act→World→Prop} (J:(Nat→Bool)→Act→World→Prop)
    (hac:∀ k o,ops[k]? = some o→o.guard=none∧∀ e∈o.after,Region.binds .any e=true→e.on < k)
    (step:∀ (D:Nat→Bool) i o a w,ops[i]? = some o→D i=false→(∀ e∈o.after,Region.binds .any e=true→D e.on=true)→J D a w→o.wp P a w (fun a' w'=>J (fun k=>D k || k == i) a' w') Q)
    (fin:∀ (D:Nat→Bool) a w,(∀ k,k < ops.size→D k=true)→J D a w→Q .normal a w)
    {a:Act} {w:World} (h0:J (fun _=>false) a w.drew):(Code.region id ops true).wp P Q a w:=by
  have hready:∀ (listed:Array Bool),listed.size=ops.size→Region.ready .any ops listed=[]→∀ k,k < ops.size→listed.getD k true=true:=fun listed hs hr=>by
    intro k
    induction k using Nat.strongRecOn with
    | _ k ih =>
      intro hk
      cases hl:listed.getD k true with
      | true=>rfl
      | false =>
        exfalso
        have hmem:k∈Region.ready .any ops listed:=mem_ready.2 ⟨hl,ops[k],Array.getElem?_eq_getElem hk,fun e he hb=>by
          have hlt:=(hac k _ (Array.getElem?_eq_getElem hk)).2 e he hb
          have:=ih e.on hlt (by omega)
          simpa [hs,show e.on < ops.size from by omega] using this⟩
        rw [hr] at hmem
        cases hmem
  have hdone:∀ (listed:Array Bool) (k:Nat),listed.size=ops.size→k < ops.size→listed.getD k true=true→listed.getD k false=true:=fun listed k hs hk h=>by simpa [hs,hk] using h
  have key:∀ (fuel:Nat) (listed:Array Bool) (a:Act) (w:World),listed.size=ops.size→((List.range ops.size).filter fun k=>!listed.getD k true).length=fuel →
      J (fun k=>listed.getD k false) a w→wpAny P .any ops Q fuel listed a w:=by
    intro fuel
    induction fuel with
    | zero =>
      intro listed a w hs hf h
      have hall:∀ k,k < ops.size→listed.getD k true=true:=fun k hk=>by
        have:=List.eq_nil_of_length_eq_zero hf
        rw [List.filter_eq_nil_iff] at this
        simpa using this k (List.mem_range.2 hk)
      refine ⟨?_,fin _ a w (fun k hk=>hdone listed k hs hk (hall k hk)) h⟩
      apply List.eq_nil_iff_forall_not_mem.2
      intro k hk
      obtain ⟨h1,o,ho,_⟩:=mem_ready.1 hk
      rw [hall k (Array.getElem?_eq_some_iff.1 ho).1] at h1
      cases h1
    | succ fuel ih =>
      intro listed a w hs hf h
      refine ⟨fun hr=>fin _ a w (fun k hk=>hdone listed k hs hk (hready listed hs hr k hk)) h,fun i hi=>?_⟩
      obtain ⟨hun,o,ho,hedge⟩:=mem_ready.1 hi
      have hin:i < ops.size:=(Array.getElem?_eq_some_iff.1 ho).1
      have hiun:listed.getD i false=false:=by simpa [hs,hin] using hun
      have hset:(listed.setIfInBounds i true).size=ops.size:=by simpa using hs
      have hwant:Region.wanted o (yielded ops a.tmps)=true:=by unfold Region.wanted; rw [(hac i o ho).1]
      unfold wpOp
      rw [ho]
      show if Region.wanted o (yielded ops a.tmps)=true then _ else _
      rw [if_pos hwant]
      refine .inl (Oper.wp_mono (fun a' w' h'=>?_) (step _ i o a w ho hiun hedge h))
      refine ih _ a' w' hset ?_ ?_
      · have key:∀ (l:List Nat),l.Nodup→i∈l→(l.filter fun k=>!listed.getD k true).length=(l.filter fun k=>!(listed.setIfInBounds i true).getD k true).length+1:=by
          intro l
          induction l with
          | nil=>intro _ h; cases h
          | cons x l ih2 =>
            intro hnd hmem
            obtain ⟨hx,hnd'⟩:=List.nodup_cons.1 hnd
            rw [List.filter_cons,List.filter_cons]
            by_cases hxi:x=i
            · subst hxi
              have e1:(!listed.getD x true)=true:=by rw [hun]; rfl
              have e2:(!(listed.setIfInBounds x true).getD x true)=false:=by simp [hs,hin]
              rw [if_pos e1,e2]
              simp only [Bool.false_eq_true,if_false,List.length_cons]
              congr 1
              congr 1
              apply List.filter_congr
              intro k hk
              have hkx:x ≠ k:=fun he=>hx (he ▸ hk)
              rw [getD_set_ne true hkx]
            · have hmem':i∈l:=(List.mem_cons.1 hmem).resolve_left (fun e=>hxi e.symm)
              have:=ih2 hnd' hmem'
              rw [getD_set_ne true (Ne.symm hxi)]
              split
              · rw [List.length_cons,List.length_cons,this]
              · exact this
        have:=key _ List.nodup_range (List.mem_range.2 hin)
        omega
      · have e:(fun k=>(listed.setIfInBounds i true).getD k false)=fun k=>listed.getD k false || k == i:=by
          funext k
          by_cases hki:k=i
          · subst hki; simp [hs,hin]
          · rw [getD_set_ne false (Ne.symm hki)]
            simp [hki]
        rw [e]
        exact h'
  refine wp_region_any hm ?_
  have hrep:∀ (k:Nat) (d:Bool),k < ops.size→(Array.replicate ops.size false).getD k d=false:=fun k d hk=>by simp [hk]
  have hself:((List.range ops.size).filter fun k=>!(Array.replicate ops.size false).getD k true)=List.range ops.size:=by
    rw [List.filter_eq_self]
    intro k hk
    rw [List.mem_range] at hk
    rw [hrep k true hk]; rfl
  refine key ops.size _ a _ (by simp) (by rw [hself,List.length_range]) ?_
  have e:(fun k=>(Array.replicate ops.size false).getD k false)=fun _=>false:=by
    funext k
    by_cases hk:k < ops.size
    · exact hrep k false hk
    · simp [hk]
  rw [e]
  exact h0
end
end Go.X
