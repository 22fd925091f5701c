/- If Check accepts a list of assertions that hold on a pile, the winners of the count are the claimed ones: SufficeProves answers true for every input. -/
import Derived.Test.YtfgjbkjddcjlfaaGreatRows
import Derived.WalkKit
import Derived.ProofKit
import Derived.Test.YtfgjbkjddcjlfaaGreatS20
set_option linter.unusedSimpArgs false
set_option linter.unusedVariables false
open Go Go.Proofs Go.X
namespace Go.Proofs.YtfgjbkjddcjlfaaGreat
namespace sufficeProves
theorem own:ownKnob Tryz.prog.godebug=none:=by kernel_rfl
theorem laid:laidOutB Tryz.prog=true:=by kernel_rfl
set_option maxRecDepth 100000 in
theorem lifted(os:Os)(started:os.Started)(H:Type)(enc:TypeId×Value→H) :
  ReturnsInHanded {} Tryz.checked os 3 .any (Rows.sufficeProvesSpec.pre6 enc Tryz.prog Tryz.f3 Rows.sufficeProvesRow.domain false) (Rows.sufficeProvesSpec.post enc Tryz.prog Tryz.f3 false true false false):=by
 refine returnsInHanded_of_change_sized (C:=Tryz.checked) own started (by kernel_rfl) Tryz.func3
  (ChangeSpec.witness6 (enc:=enc) (C:=Tryz.checked) false ⟨#[],#[.int .i64 0, .int .i64 0, .int .i64 0, .int .i64 0, .int .i64 0, .int .i64 0, .slice none 0 0, .slice none 0 0, .slice none 0 0, .int .i64 0],[]⟩ 8 (by kernel_rfl) (by kernel_rfl) (by kernel_rfl) (by kernel_rfl)) ?_
 intro W base args ds gs before hval hW hcnd hwt _
 have hW':=hW
 obtain⟨p,q,hA,hV,rfl,hfz,hnd⟩:=hW
 obtain⟨rfl,rfl⟩:=Go.ChangeShapes.trodVars_none hV
 have hwt':∀n∈DataW.weightsEach Tryz.prog Tryz.f3.params.toList ds,n≤reachBytes:=fun n hn=>by
  have:=xbt.1 hwt n (by
   have e1:(Rows.sufficeProvesSpec.plain.varTypes Tryz.checked.prog)= []:=rfl
   rw[e1,xco,xco]
   exact hn)
  simpa using this
 refine(law_calls (sp:=fun _=>true) (n:=9) (base:=base) (fun _=>rfl) sim3 (fun xs hx=>⟨true,d3_true hx.1 hx.2.1 hx.2.2.1 hx.2.2.2.1 hx.2.2.2.2.1 hx.2.2.2.2.2.1 hx.2.2.2.2.2.2.1.1 hx.2.2.2.2.2.2.1.2 hx.2.2.2.2.2.2.2.1.1 hx.2.2.2.2.2.2.2.1.2 hx.2.2.2.2.2.2.2.2.1 hx.2.2.2.2.2.2.2.2.2.1,rfl⟩) (by kernel_rfl) hA (fun j t v ht hv=>hval j t v (by rw[←xbm];exact ht) (by rw[←xbm];exact hv)) hwt').mono fun e W' ⟨he,hb⟩=>?_
 subst he
 refine⟨_,rfl,law_post (t:=4) laid (by kernel_rfl) rfl hW' hb (by kernel_rfl) Tryz.underlying4 fun ds hds=>?_⟩
 have hds':ds.length=10:=hds
 match ds,hds' with
 | [d1,d2,d3,d4,d5,d6,d7,d8,d9,d10],_=>rfl
set_option maxHeartbeats 40000000 in
theorem facts:joinedFacts Tryz.pinned.checked.prog 3 Tryz.f3 Rows.sufficeProvesSpec Rows.sufficeProvesRow=true:=by
 unfold joinedFacts
 simp only[xan]
 and_intros<;>(as_aux_lemma=>kernel_rfl)
theorem proved:Rows.SufficeProvesSaid:=
 OpenClaim.holds_of_wide 3 Tryz.f3 rfl rfl rfl rfl rfl rfl rfl ⟨rfl,rfl,rfl,rfl,rfl⟩ rfl rfl rfl rfl rfl (by kernel_rfl) Tryz.func3 facts
  (xbl (by kernel_rfl)) (by unfold Func.isWrapper;first | (rw[if_pos (by decide +kernel)];kernel_rfl) | (rw[if_neg (by decide +kernel)];exact⟨rfl,rfl⟩))
  (fun os started H enc _=>lifted os started H enc)
#print axioms proved
end sufficeProves
end Go.Proofs.YtfgjbkjddcjlfaaGreat
