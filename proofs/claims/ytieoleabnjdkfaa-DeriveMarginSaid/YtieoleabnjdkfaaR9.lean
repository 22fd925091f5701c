/- Part 9 of what stands below the statement. -/
import Derived.RangeFuncBox
import Derived.RangeFuncLeaves
import Derived.RangeFuncNested
import Derived.Shelf.Abstract
import Derived.WalkKit
import Derived.OwnWalkIn
import Derived.TacticsInMore
import Derived.LoopNIn
import Derived.LoopIn
import Derived.Test.YtieoleabnjdkfaaR8
set_option linter.unusedSimpArgs false
set_option linter.unusedVariables false
namespace Go.X
open Go Go.RowKit
structure Kx (X:Nat→Prop) (w w':World):Prop where
  os:w'.os=w.os
  tape:w'.tape=w.tape
  output:w'.output=w.output
  size:w.heap.size≤w'.heap.size
  block:∀ b,b < w.heap.size→¬ X b→w'.heap[b]? = w.heap[b]?
theorem Kx.refl (X:Nat→Prop) (w:World):Kx X w w:=⟨rfl,rfl,rfl,Nat.le_refl _,fun _ _ _=>rfl⟩
theorem Kx.trans {X:Nat→Prop} {a b c:World} (h:Kx X a b) (k:Kx X b c):Kx X a c :=
  ⟨k.os.trans h.os,k.tape.trans h.tape,k.output.trans h.output,Nat.le_trans h.size k.size,fun i hi hx=>(k.block i (Nat.lt_of_lt_of_le hi h.size) hx).trans (h.block i hi hx)⟩
theorem Kx.of_ext {X:Nat→Prop} {w w':World} (h:Ext w w'):Kx X w w':=⟨h.os,h.tape,h.output,h.size,fun b hb _=>h.block b hb⟩
theorem Kx.drew {X:Nat→Prop} (w:World):Kx X w w.drew:=⟨rfl,rfl,rfl,Nat.le_refl _,fun _ _ _=>rfl⟩
section
variable {P:Program}
end
end Go.X
set_option linter.unusedSimpArgs false
set_option linter.unusedVariables false
namespace Go.Proofs.Ytieoleabnjdkfaa
open Go Go.Proofs Go.RowKit Go.X
def stF (F:Nat→Prop) (W:World):St:=⟨W,F,fun _=>False,fun _=>none,fun _=>undef⟩
theorem stF_wf {F:Nat→Prop} {W:World} (h:∀ b,F b→b < W.heap.size):(stF F W).WF:=⟨fun b hb=>⟨rfl,h b hb⟩,fun b hb=>hb.elim,fun b p hb=>by cases hb⟩
theorem frm_ext {F:Nat→Prop} {W:World} {S':St} (h:Frm (stF F W) S'):Ext W S'.w:=⟨h.os,h.tape,h.output,h.size,fun k hk=>h.kept k hk rfl⟩
theorem sr_int {S:St} {p:X.Place} {m:Md} (hm:m=.sh∨m=.bw) {n:Int} (hn:IntKind.i64.wrap n=n):SR Try.prog (.int .i64) S m p n (.int .i64 n) :=
  ⟨by rcases hm with rfl | rfl <;> exact ⟨by simp [vcells,Ty.agg],hn⟩,fun h=>by cases h⟩
end Go.Proofs.Ytieoleabnjdkfaa
