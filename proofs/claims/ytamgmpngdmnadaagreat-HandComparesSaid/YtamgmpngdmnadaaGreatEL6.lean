/- Compare of the hand count and of the document zte: HandCompares answers true for every input. -/
import Derived.Test.YtamgmpngdmnadaaGreatRows
import Derived.WalkKit
import Derived.ProofKit
import Derived.Test.YtamgmpngdmnadaaGreatE18
set_option linter.unusedSimpArgs false
set_option linter.unusedVariables false
open Go Go.Proofs Go.X
namespace Go.Proofs.YtamgmpngdmnadaaGreat
namespace handCompares
theorem own:ownKnob Tryz.prog.godebug=none:=by kernel_rfl
theorem laid:laidOutB Tryz.prog=true:=by kernel_rfl
set_option maxRecDepth 100000 in
theorem lifted(os:Os)(started:os.Started)(H:Type)(enc:TypeId×Value→H) :
  ReturnsInHanded {} Tryz.checked os 6 .any (Rows.handComparesSpec.pre6 enc Tryz.prog Tryz.f6 Rows.handComparesRow.domain false) (Rows.handComparesSpec.post enc Tryz.prog Tryz.f6 false true false false):=by
 refine returnsInHanded_of_change_sized (C:=Tryz.checked) own started (by kernel_rfl) Tryz.func6
  (ChangeSpec.witness6 (enc:=enc) (C:=Tryz.checked) false ⟨#[],#[.slice none 0 0, .slice none 0 0, .bool false, .int .i64 0, .slice none 0 0, .slice none 0 0, .slice none 0 0, .slice none 0 0],[]⟩ 8 (by kernel_rfl) (by kernel_rfl) (by kernel_rfl) (by kernel_rfl)) ?_
 intro W base args ds gs before hval hW hcnd hwt _
 have hW':=hW
 obtain⟨p,q,hA,hV,rfl,hfz,hnd⟩:=hW
 obtain⟨rfl,rfl⟩:=xgp hV
 have hwt':∀n∈DataW.weightsEach Tryz.prog Tryz.f6.params.toList ds,n≤reachBytes:=fun n hn=>by
  have:=xbi.1 hwt n (by
   have e1:(Rows.handComparesSpec.plain.varTypes Tryz.checked.prog)= []:=rfl
   rw[e1,xbq,xbq]
   exact hn)
  simpa using this
 refine(zor (sp:=fun _=>true) (n:=9) (base:=base) (fun _=>rfl) sim6 (fun xs hx=>⟨true,d6_true hx.1.1 (fun x h=>(hx.1.2 x h).2.2.1) hx.2.1.1 (fun p h=>(hx.2.1.2 p h).2.1) hx.2.2.2.1 hx.2.2.2.2.1.1 hx.2.2.2.2.1.2 hx.2.2.2.2.2.1.1 hx.2.2.2.2.2.1.2 hx.2.2.2.2.2.2.1.1 hx.2.2.2.2.2.2.2.1.1,rfl⟩) (by kernel_rfl) hA (fun j t v ht hv=>hval j t v (by rw[←xar];exact ht) (by rw[←xar];exact hv)) hwt').mono fun e W' ⟨he,hb⟩=>?_
 subst he
 refine⟨_,rfl,zsl (t:=4) laid (by kernel_rfl) rfl hW' hb (by kernel_rfl) Tryz.underlying4 fun ds hds=>?_⟩
 have hds':ds.length=8:=hds
 match ds,hds' with
 | [d1,d2,d3,d4,d5,d6,d7,d8],_=>rfl
set_option maxHeartbeats 40000000 in
theorem facts:joinedFacts Tryz.pinned.checked.prog 6 Tryz.f6 Rows.handComparesSpec Rows.handComparesRow=true:=by
 unfold joinedFacts
 simp only[xaf]
 and_intros<;>(as_aux_lemma=>kernel_rfl)
theorem proved:Rows.HandComparesSaid:=
 OpenClaim.holds_of_wide 6 Tryz.f6 rfl rfl rfl rfl rfl rfl rfl ⟨rfl,rfl,rfl,rfl,rfl⟩ rfl rfl rfl rfl rfl (by kernel_rfl) Tryz.func6 facts
  (of_decide_eq_true (by kernel_rfl)) (by unfold Func.isWrapper;first | (rw[if_pos (by decide +kernel)];kernel_rfl) | (rw[if_neg (by decide +kernel)];exact⟨rfl,rfl⟩))
  (fun os started H enc _=>lifted os started H enc)
#print axioms proved
end handCompares
end Go.Proofs.YtamgmpngdmnadaaGreat
