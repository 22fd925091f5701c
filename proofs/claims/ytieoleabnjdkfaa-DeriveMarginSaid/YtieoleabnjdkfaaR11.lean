/- Part 11 of what stands below the statement. -/
import Derived.Maps.AppendAt
import Derived.Shelf.SlIterI.Sorted
import Derived.Test.YtieoleabnjdkfaaR10
set_option linter.unusedSimpArgs false
set_option linter.unusedVariables false
namespace Go.Proofs.Ytieoleabnjdkfaa
open Go Go.Proofs Go.RowKit Go.Shelf
attribute [local go_sem] Oper.semAt_some
def upto {α:Type} (f:Nat→α) (k:Nat):List α:=(List.range k).map f
theorem upto_succ {α:Type} (f:Nat→α) (k:Nat):upto f (k+1)=upto f k++[f k]:=by simp [upto,List.range_succ]
theorem upto_length {α:Type} (f:Nat→α) (k:Nat):(upto f k).length=k:=by simp [upto]
theorem upto_all (zs:List Int):upto (fun j=>zs[j]?.getD 0) zs.length=zs:=by
  apply List.ext_getElem
  · simp [upto]
  · intro i h1 h2
    simp [upto,h2]
set_option maxRecDepth 100000 in
set_option maxHeartbeats 2000000 in
theorem values1_in (F:Fence) (n:Nat) (h7:F.fn 84) (hro:F.round=none) (hn:1≤n) (l Bs Bo n₀ b off len cap:Nat) (zs:List Int) (hreach:len * 8≤140737488351232) (hb:b < n₀) (J Jx:List Int→World→Prop)
    (hY:∀ pre x W,J pre W→pre.length < len→YieldAt F (n - 1) Try.prog l #[.int .i64 x] W fun e W' =>
      (e=.returned (.bool true)∧J (pre++[x]) W'∧Below n₀ W W')∨(e=.returned (.bool false)∧Jx (pre++[x]) W'))
    (W:World) (hBs:W.cell? ⟨Bs,Bo,none⟩=some (.slice (some ⟨b,off,none⟩) len cap)) (hc:∀ j,j < len→W.cell? ⟨b,off+j,none⟩=some (.int .i64 (zs[j]?.getD 0))) (h0:J [] W) :
    CallsIn F n Try.prog 84 #[.func (.yield l) #[] #[],.pointer (some ⟨Bs,Bo,none⟩)] W fun e W'=>(∃ v,e=.returned v) ∧
      ((∃ ys,ys=upto (fun j=>zs[j]?.getD 0) len∧J ys W')∨(∃ pre,(∃ k,k≤len∧pre=upto (fun j=>zs[j]?.getD 0) k)∧Jx pre W')):=by
  refine callsIn_of_wp Try.func84 rfl h7 ?_ hro
  simp only [Try.ntmps84,List.size_toArray,List.length_cons,List.length_nil,Nat.reduceAdd,Nat.reduceSub,Array.replicate_succ,Array.replicate_zero,List.push_toArray,List.append_toArray,List.nil_append,List.cons_append]
  gi_wp2
  gi_loopw [7] (fun i wr=>∃ k:Nat,k≤len∧i=.int .i64 k∧J (upto (fun j=>zs[j]?.getD 0) k) wr∧Below n₀ W wr)
    (fun i _=>len - (intOf i).toNat)
  case atStart=>exact ⟨0,Nat.zero_le _,rfl,h0,Below.refl _ _⟩
  case round =>
    obtain ⟨k,hk,rfl,hJs,hnx⟩:=hrel
    have hcx:k < len→wr.cell? ⟨b,off+k,none⟩=some (.int .i64 (zs[k]?.getD 0)):=fun h=>(hnx.cell (p:=⟨b,off+k,none⟩) hb).trans (hc k h)
    by_cases hlt:k < len
    · obtain ⟨fn,tmps,assign,body,hy,hR⟩:=hY _ (zs[k]?.getD 0) wr hJs (by rw [upto_length]; exact hlt)
      have hcx':=hcx hlt
      gi_wp2
      refine hR.mono ?_
      rintro e W3 (⟨rfl,hJ3,hk3⟩ | ⟨rfl,hJx3⟩)
      · gi_wp2
        go_roundw
        case rel=>exact ⟨k+1,by omega,by simp,by rw [upto_succ]; exact hJ3,hnx.trans hk3⟩
        case measure=>simp [intOf]; omega
      · gi_wp2
        refine bodyPost_ret (results_none rfl _ _ _) rfl ?_
        exact ⟨⟨_,rfl⟩,.inr ⟨_,⟨k+1,by omega,(upto_succ _ _).symm⟩,hJx3⟩⟩
    · obtain rfl:k=len:=by omega
      gi_wp2
      go_end0
      exact ⟨⟨_,rfl⟩,.inl ⟨_,rfl,hJs⟩⟩
theorem upto_take (zs:List Int) {k:Nat} (hk:k≤zs.length):upto (fun j=>zs[j]?.getD 0) k=zs.take k:=by
  apply List.ext_getElem
  · simp [upto,hk]
  · intro i h1 h2
    have:i < zs.length:=by simp [upto] at h1; omega
    simp [upto,this]
def IntsAt (n₀:Nat) (W:World) (sv:Value) (zs:List Int):Prop :=
  (∃ a cap,sv=.slice a 0 cap∧zs=[])∨∃ b off cap,sv=.slice (some ⟨b,off,none⟩) zs.length cap∧b < n₀∧∀ j,j < zs.length→W.cell? ⟨b,off+j,none⟩=some (.int .i64 (zs[j]?.getD 0))
theorem IntsAt.below {n₀:Nat} {A B:World} (h:Below n₀ A B) {sv:Value} {zs:List Int}:IntsAt n₀ A sv zs→IntsAt n₀ B sv zs
  | .inl e=>.inl e
  | .inr ⟨b,off,cap,e,hb,hc⟩=>.inr ⟨b,off,cap,e,hb,fun j hj=>(h.cell (p:=⟨b,off+j,none⟩) hb).trans (hc j hj)⟩
set_option maxRecDepth 100000 in
set_option maxHeartbeats 1000000 in
theorem values1_nil_in (F:Fence) (n:Nat) (h7:F.fn 84) (hro:F.round=none) (l Bs Bo:Nat) (a:Option Addr) (cap:Nat) (J:List Int→World→Prop) (W:World) (hBs:W.cell? ⟨Bs,Bo,none⟩=some (.slice a 0 cap)) (h0:J [] W) :
    CallsIn F n Try.prog 84 #[.func (.yield l) #[] #[],.pointer (some ⟨Bs,Bo,none⟩)] W fun e W'=>(∃ v,e=.returned v)∧J [] W':=by
  refine callsIn_of_wp Try.func84 rfl h7 ?_ hro
  simp only [Try.ntmps84,List.size_toArray,List.length_cons,List.length_nil,Nat.reduceAdd,Nat.reduceSub,Array.replicate_succ,Array.replicate_zero,List.push_toArray,List.append_toArray,List.nil_append,List.cons_append]
  gi_wp2
  gi_loopw [7] (fun i wr=>i=.int .i64 0∧J [] wr) (fun _ _=>0)
  case atStart=>exact ⟨rfl,h0⟩
  case round =>
    obtain ⟨rfl,hJs⟩:=hrel
    gi_wp2
    go_end0
    exact ⟨⟨_,rfl⟩,hJs⟩
set_option maxHeartbeats 1000000 in
theorem values_in (F:Fence) (n:Nat) (h5:F.fn 63) (hro:F.round=none) (a:Option Addr) (len cap:Nat) (w:World) :
    CallsIn F n Try.prog 63 #[.slice a len cap] w fun e w'=>e=.returned (.func (.func 84) #[] #[.pointer (some ⟨w.heap.size,0,none⟩)])∧w'=w.alloc (.cells #[.slice a len cap] 27):=by
  refine callsIn_of_wp Try.func63 rfl h5 ?_ hro
  simp only [Try.ntmps63,List.size_toArray,List.length_cons,List.length_nil,Nat.reduceAdd,Nat.reduceSub,Array.replicate_succ,Array.replicate_zero,List.push_toArray,List.append_toArray,List.nil_append,List.cons_append]
  gi_wp2
  go_ret
  exact ⟨rfl,rfl⟩
theorem values_stops (F:Fence) (n:Nat) (h7:F.fn 84) (hro:F.round=none) (hn:1≤n) (Bs Bo n₀:Nat) (sv:Value) (zs:List Int) (hreach:zs.length * 8≤140737488351232) (w:World) (hBs:Bs < w.heap.size) (hn₀:n₀≤w.heap.size)
    (hc:w.cell? ⟨Bs,Bo,none⟩=some sv) (hI:IntsAt n₀ w sv zs) :
    SeqStopsK F n Try.prog 84 #[.pointer (some ⟨Bs,Bo,none⟩)] (fun x:Int=>#[Value.int .i64 x]) (Below n₀) (fun ys=>ys=zs) (fun pre=>pre <+: zs) zs.length w:=fun l J Jx W hW _ _ hY h0=>by
  have hc':=(hW.cell (p:=⟨Bs,Bo,none⟩) hBs).trans hc
  rcases hI.below (hW.mono hn₀) with ⟨a,cap,rfl,rfl⟩ | ⟨b,off,cap,rfl,hb,hcs⟩
  · exact (values1_nil_in F n h7 hro l Bs Bo a cap J W hc' h0).mono fun e W' ⟨he,hj⟩=>⟨he,.inl ⟨_,rfl,hj⟩⟩
  · refine (values1_in F n h7 hro hn l Bs Bo n₀ b off zs.length cap zs hreach hb J Jx hY W hc' hcs h0).mono ?_
    rintro e W' ⟨he,⟨ys,rfl,hj⟩ | ⟨pre,⟨k,hk,rfl⟩,hj⟩⟩
    · exact ⟨he,.inl ⟨_,upto_all zs,hj⟩⟩
    · exact ⟨he,.inr ⟨_,by rw [upto_take zs hk]; exact List.take_prefix _ _,hj⟩⟩
end Go.Proofs.Ytieoleabnjdkfaa
set_option linter.unusedSimpArgs false
set_option linter.unusedVariables false
namespace Go.Proofs.Ytieoleabnjdkfaa
open Go Go.Proofs Go.RowKit Go.Shelf
attribute [local go_sem] Oper.semAt_some
theorem info3i:(Try.prog.info? 3).map (fun i=>(i.zero,i.size,i.bytes))=some (some (.int .i64 0),1,8):=by kernel_rfl
set_option maxRecDepth 100000 in
set_option maxHeartbeats 2000000 in
theorem appendSeq_in (F:Fence) (n:Nat) (h93:F.fn 93) (h84:F.fn 84) (hro:F.round=none) (hn:3≤n) (Bs Bo:Nat) (sv:Value) (zs:List Int) (hlen:zs.length≤4294967296) (w:World) (hBs:Bs < w.heap.size)
    (hc:w.cell? ⟨Bs,Bo,none⟩=some sv) (hI:IntsAt w.heap.size w sv zs) :
    CallsIn F n Try.prog 93 #[.slice none 0 0,.func (.func 84) #[] #[.pointer (some ⟨Bs,Bo,none⟩)]] w fun e W'=>∃ v,e=.returned v∧W'.ownsRow w.heap.size 3 1 v zs.length (zs.map (Value.int .i64))∧(v=.slice none 0 0↔zs=[])∧Below w.heap.size w W':=by
  have h1:1≤n:=by omega
  obtain ⟨i0,hi,hz0,hz1,hz2⟩:=info_parts info3i
  refine callsIn_of_wp_marks Try.func93 rfl h93 ?_ hro
  simp only [Try.ntmps93,List.size_toArray,List.length_cons,List.length_nil,Nat.reduceAdd,Nat.reduceSub,Array.replicate_succ,Array.replicate_zero,List.push_toArray,List.append_toArray,List.nil_append,List.cons_append]
  gi_wp2
  have bO:=Boxed.new w 27 (.slice none 0 0)
  have hB0:Below w.heap.size w (w.alloc (.cells #[.slice none 0 0] 27)):=(Below.refl _ w).alloc (Nat.le_refl _) _
  refine wpIn_rangeFunc_ownG hro h1 (gf:=84) (lb:=#[.pointer (some ⟨Bs,Bo,none⟩)]) rfl h84 (enters_of Try.func84 (by kernel_rfl) rfl)
    (values_stops F (n - 1) h84 hro (by omega) Bs Bo w.heap.size sv zs (by omega) _ (by simp; omega) (by simp) ((hB0.cell (p:=⟨Bs,Bo,none⟩) hBs).trans hc) (hI.below hB0)) belowK_t (belowK_b (by simp)) (Below.refl _ _) (fun _=>rfl)
    (fun pre W=>(∃ v,Boxed W w.heap.size 27 v∧W.ownsRow w.heap.size 3 1 v pre.length (pre.map (Value.int .i64))∧(v=.slice none 0 0↔pre=[]))∧Below w.heap.size w W)
    (fun _ _ _=>False)
    (OwnFrom.and (Own.from (holdsRow_own w.heap.size w.heap.size 27 3 1 (fun pre:List Int=>pre.length) (fun pre=>pre.map (Value.int .i64)) (fun pre v=>v=.slice none 0 0↔pre=[])) _) (ownFrom_below (Nat.le_refl _) (by simp)))
    (fun _ _ _ _ _ hs _ _=>hs)
    ⟨⟨_,bO,World.ownsRow_nil _ _ _ _,by simp⟩,hB0⟩
    (fun x=>{ tmps:=#[.slice none 0 0,.func (.func 84) #[] #[.pointer (some ⟨Bs,Bo,none⟩)],.pointer (some ⟨w.heap.size,0,none⟩),undef,.slice none 0 0,.int .i64 x,.func (.func 84) #[] #[.pointer (some ⟨Bs,Bo,none⟩)],.int .i64 x,undef,undef,undef,undef,undef],defers:=[] }) ?assign ?body ?done ?stop
  case assign =>
    intro l x W K hK
    gi_wp2
    exact hK
  case body =>
    rintro l pre x W ⟨⟨v,hv,hrow,hnil⟩,hB⟩ hlt
    have hc:=hv.cell
    gi_wp2_with (gi_at_builtin; refine wpListIn_append_own _ rfl _ _ 27 rfl w.heap.size 3 i0 (.int .i64 0) 1 8 Try.underlying27 hi hz0 hz1 hz2 rfl (by decide) _ _ _ rfl (hrow.alloc _) ⟨W.heap.size,0,none⟩ 1 1 [.int .i64 x] rfl rfl (cell_one_new _ _ _) (by simp [Value.oneCell']) (by unfold maxLen; omega) (by omega) (by have:=hB.size; simp; omega) ?_; intro v' w1 hown' hgrow _; obtain ⟨g',cap',rfl⟩:=ownsRow_succ hown'; obtain ⟨hv1,hv2,hr2,hk2,hb2⟩:=hv.appended (by decide) hrow hB.size (Nat.le_refl _) hown' hgrow; have hc1:=hv1.cell; have hf1:=hv1.frozen)
    exact ⟨hk2.from _,hb2,⟨_,hv2,by simpa using hr2,by simp⟩,hB.trans hb2⟩
  case done =>
    rintro D ys W hD rfl ⟨⟨v,hv,hrow,hnil⟩,hB⟩ hK
    have hc:=hv.cell
    gi_wp2
    refine ⟨by simp,.inl ⟨_,_,rfl,run_takeDeferred hK,?_⟩⟩
    exact ⟨_,results_tmp rfl _ _ _,v,rfl,ownsRow_putObj hrow _ hK rfl,hnil,hB.trans (belowK_b (w:=w) (Nat.le_refl _) W D _ _ (by simp at hD; omega) hK rfl rfl)⟩
  case stop =>
    rintro D c pre W _ _ h _
    exact h.elim
set_option maxRecDepth 100000 in
set_option maxHeartbeats 2000000 in
theorem collect_in (F:Fence) (n:Nat) (h82:F.fn 82) (h93:F.fn 93) (h84:F.fn 84) (hro:F.round=none) (hn:4≤n) (Bs Bo:Nat) (sv:Value) (zs:List Int) (hlen:zs.length≤4294967296) (w:World) (hBs:Bs < w.heap.size)
    (hc:w.cell? ⟨Bs,Bo,none⟩=some sv) (hI:IntsAt w.heap.size w sv zs) :
    CallsIn F n Try.prog 82 #[.func (.func 84) #[] #[.pointer (some ⟨Bs,Bo,none⟩)]] w fun e W'=>∃ v,e=.returned v∧W'.ownsRow w.heap.size 3 1 v zs.length (zs.map (Value.int .i64))∧(v=.slice none 0 0↔zs=[])∧Below w.heap.size w W':=by
  have h1:1≤n:=by omega
  refine callsIn_of_wp Try.func82 rfl h82 ?_ hro
  simp only [Try.ntmps82,List.size_toArray,List.length_cons,List.length_nil,Nat.reduceAdd,Nat.reduceSub,Array.replicate_succ,Array.replicate_zero,List.push_toArray,List.append_toArray,List.nil_append,List.cons_append]
  gi_wp2_with (gi_at_call 93; refine (appendSeq_in F (n - 1) h93 h84 hro (by omega) Bs Bo sv zs hlen _ hBs hc hI).mono ?_; rintro e w' ⟨v,rfl,hrow,hnil,hb⟩)
  go_ret
  exact ⟨v,rfl,hrow,hnil,hb⟩
end Go.Proofs.Ytieoleabnjdkfaa
set_option linter.unusedSimpArgs false
set_option linter.unusedVariables false
namespace Go.Proofs.Ytieoleabnjdkfaa
open Go Go.Proofs Go.RowKit Go.Shelf Go.Sort Go.Maps
attribute [local go_sem] Oper.semAt_some
theorem sort_some (blk off cap:Nat) (ss:List Int) (W:World) (hH:Holds (Value.int .i64) W blk off ss.toArray) (hblk:blk < W.heap.size) (hsz:ss.length < 4611686018427387904) (m:Nat) :
    CallsIn Fence.wide m Try.prog 83 #[.slice (some ⟨blk,off,none⟩) ss.length cap] W fun e w'=>e=.returned (.tuple #[])∧∃ k os,w'=grow (putRow (Value.int .i64) (Sort.ahead W k) blk off (ss.mergeSort fun x y=>decide (x≤y)).toArray) os :=
  callsIn_wide.2 (AnyM.slices_Sort_int Try.sortA blk off cap ss W hH hblk hsz)
theorem sort_none (p:Option Addr) (cap:Nat) (W:World) (m:Nat):CallsIn Fence.wide m Try.prog 83 #[.slice p 0 cap] W fun e w'=>e=.returned (.tuple #[])∧w'=W :=
  callsIn_wide.2 (AnyM.slices_Sort_int_none Try.sortA p cap W)
set_option maxRecDepth 100000 in
set_option maxHeartbeats 2000000 in
theorem sorted_in (Bs Bo:Nat) (sv:Value) (zs:List Int) (hlen:zs.length≤4294967296) (w:World) (hBs:Bs < w.heap.size)
    (hc:w.cell? ⟨Bs,Bo,none⟩=some sv) (hI:IntsAt w.heap.size w sv zs) :
    CallsIn Fence.wide 5 Try.prog 62 #[.func (.func 84) #[] #[.pointer (some ⟨Bs,Bo,none⟩)]] w fun e W'=>∃ v,e=.returned v ∧
      W'.ownsRow w.heap.size 3 1 v zs.length ((zs.mergeSort fun x y=>decide (x≤y)).map (Value.int .i64))∧(v=.slice none 0 0↔zs=[])∧Below w.heap.size w W':=by
  have h1:1≤5:=by omega
  have hro:Fence.wide.round=none:=rfl
  have cC:=collect_in Fence.wide 4 trivial trivial trivial rfl (by omega) Bs Bo sv zs hlen w hBs hc hI
  have hfC:Fence.wide.fn 82:=trivial
  have hfS:Fence.wide.fn 83:=trivial
  refine callsIn_of_wp Try.func62 rfl trivial ?_ rfl
  simp only [Try.ntmps62,List.size_toArray,List.length_cons,List.length_nil,Nat.reduceAdd,Nat.reduceSub,Array.replicate_succ,Array.replicate_zero,List.push_toArray,List.append_toArray,List.nil_append,List.cons_append]
  gi_wp2_with (gi_at_call 82; refine cC.mono ?_; rintro e W ⟨v,rfl,hrow,hnil,hb⟩)
  rcases hrow.2 with ⟨rfl,hz⟩ | ⟨gb,cap,cur,rfl,hbase,hgb,r1,r2,r3,r4⟩
  · have hss:zs=[]:=List.eq_nil_of_length_eq_zero hz
    subst hss
    gi_wp2_with (gi_at_call 83; refine (sort_none none 0 W _).mono ?_; rintro e w' ⟨rfl,rfl⟩)
    go_ret
    exact ⟨.slice none 0 0,rfl,by simpa using hrow,by simp,hb⟩
  · have hH:Holds (Value.int .i64) W gb 0 zs.toArray:=holds_of_block_i hgb (by simpa using r4)
    have hgl:gb < W.heap.size:=(Array.getElem?_eq_some_iff.1 hgb).1
    have hsz:zs.length < 4611686018427387904:=by omega
    have cS:=fun m=>sort_some gb 0 cap zs W hH hgl hsz m
    gi_wp2_with (gi_at_call 83; refine (cS _).mono ?_; rintro e w' ⟨rfl,nn,os,rfl⟩)
    go_ret
    exact ⟨_,rfl,ownsRow_sorted_i (by simp) hbase hgb r1 r2 r3,hnil,hb.grown (grownBy_sorted_i _) hb.size (fun j hj=>by cases hj; exact hbase)⟩
end Go.Proofs.Ytieoleabnjdkfaa
set_option linter.unusedSimpArgs false
set_option linter.unusedVariables false
namespace Go.Proofs.Ytieoleabnjdkfaa
open Go Go.Proofs Go.RowKit Go.X
theorem ext_of_below {w w':World} (h:Below w.heap.size w w'):Ext w w':=⟨h.os,h.tape,h.output,h.size,h.block⟩
theorem entV:Enters Try.prog 63:=enters_of Try.func63 (by kernel_rfl) rfl
theorem entS:Enters Try.prog 62:=enters_of Try.func62 (by kernel_rfl) rfl
noncomputable def sqE:SqE Try.prog where
  fv:=63
  g:=84
  fs:=62
  e:=3
  entV:=entV
  entS:=entS
  vals w A len cap:=(callsIn_wide (n:=0)).1 ((values_in Fence.wide 0 trivial rfl A len cap w).mono fun e w' h=>⟨w.heap.size,h.1,by rw [h.2]; exact Ext.alloc _ _,Nat.le_refl _,by rw [h.2]; simp,by rw [h.2]; exact cell_one_new _ _ _ 0 _ rfl⟩)
  sorts w Bs Bo A cap xs hl hB hc hx:=by
    refine (callsIn_wide (n:=5)).1 ((sorted_in Bs Bo _ xs hl w hB hc ?_).mono ?_)
    · rcases hx with rfl | ⟨b,o,rfl,hb,h⟩
      · exact .inl ⟨A,cap,rfl,rfl⟩
      · refine .inr ⟨b,o,cap,rfl,hb,fun j hj=>?_⟩
        rw [h j hj,List.getElem?_eq_getElem hj]
        rfl
    · rintro e w' ⟨v,rfl,hrow,hnil,hb⟩
      refine ⟨v,rfl,ext_of_below hb,?_⟩
      obtain ⟨h1,h2⟩:=hrow
      rcases h2 with ⟨h2,_⟩ | ⟨g,k,cur,h2,h3,h4,h5,h6,h7,h8⟩
      · exact .inl ⟨h2,hnil.1 h2⟩
      · refine .inr ⟨g,k,cur,h2,h3,h4,h5,h6,by simpa using h7,fun i hi=>?_⟩
        have hi':i < xs.length:=by rw [sortI_length] at hi; exact hi
        have:=congrArg (fun l=>l[i]?) h8
        simp only [List.getElem?_take,Nat.mul_one,hi',if_true,List.getElem?_map] at this
        have h9:(xs.mergeSort fun x y=>decide (x≤y))[i]? = some (sortI xs)[i]:=List.getElem?_eq_getElem hi
        rw [h9] at this
        simpa using this
end Go.Proofs.Ytieoleabnjdkfaa
