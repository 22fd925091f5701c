/- What MeekDistributes says of Distribute holds: it answers true for every input. -/
import Derived.Test.YtmipjomnjkmdbaaGreatRows
import Derived.WalkKit
import Derived.ProofKit
import Derived.Test.YtmipjomnjkmdbaaGreatU15
set_option linter.unusedSimpArgs false
set_option linter.unusedVariables false
open Go Go.Proofs Go.X
namespace Go.Proofs.YtmipjomnjkmdbaaGreat
namespace meekDistributes
theorem own:ownKnob Tryz.prog.godebug=none:=by kernel_rfl
theorem laid:laidOutB Tryz.prog=true:=by kernel_rfl
set_option maxRecDepth 100000 in
theorem lifted(os:Os)(started:os.Started)(H:Type)(enc:TypeId×Value→H) :
  ReturnsInHanded {} Tryz.checked os 12 .any (Rows.meekDistributesSpec.pre6 enc Tryz.prog Tryz.f12 Rows.meekDistributesRow.domain false) (Rows.meekDistributesSpec.post enc Tryz.prog Tryz.f12 false true false false):=by
 refine returnsInHanded_of_change_sized (C:=Tryz.checked) own started (by kernel_rfl) Tryz.func12
  (ChangeSpec.witness6 (enc:=enc) (C:=Tryz.checked) false ⟨#[],#[.int .i64 0, .slice none 0 0, .slice none 0 0, .bool false, .slice none 0 0],[]⟩ 8 (by kernel_rfl) (by kernel_rfl) (by kernel_rfl) (by kernel_rfl)) ?_
 intro W base args ds gs before hval hW hcnd hwt _
 have hW':=hW
 obtain⟨p,q,hA,hV,rfl,hfz,hnd⟩:=hW
 obtain⟨rfl,rfl⟩:=Go.ChangeShapes.trodVars_none hV
 have hwt':∀n∈DataW.weightsEach Tryz.prog Tryz.f12.params.toList ds,n≤reachBytes:=fun n hn=>by
  have:=xby.1 hwt n (by
   have e1:(Rows.meekDistributesSpec.plain.varTypes Tryz.checked.prog)= []:=rfl
   rw[e1,xcm,xcm]
   exact hn)
  simpa using this
 refine(law_calls (sp:=fun _=>true) (n:=9) (base:=base) (fun _=>rfl) sim12 (fun xs hx=>⟨true,d12_true hx.1 hx.2.1.1 hx.2.1.2 ⟨hx.2.2.1.1,fun g hg=>⟨(hx.2.2.1.2 g hg).1.1,wt_int (hx.2.2.1.2 g hg).2⟩⟩ hx.2.2.2.2.1.1 hx.2.2.2.2.1.2,rfl⟩) (by kernel_rfl) hA (fun j t v ht hv=>hval j t v (by rw[←xau];exact ht) (by rw[←xau];exact hv)) hwt').mono fun e W' ⟨he,hb⟩=>?_
 subst he
 refine⟨_,rfl,law_post (t:=4) laid (by kernel_rfl) rfl hW' hb (by kernel_rfl) Tryz.underlying4 fun ds hds=>?_⟩
 have hds':ds.length=5:=hds
 match ds,hds' with
 | [d1,d2,d3,d4,d5],_=>rfl
set_option maxHeartbeats 40000000 in
theorem facts:joinedFacts Tryz.pinned.checked.prog 12 Tryz.f12 Rows.meekDistributesSpec Rows.meekDistributesRow=true:=by
 unfold joinedFacts
 simp only[xaf]
 and_intros<;>(as_aux_lemma=>kernel_rfl)
theorem proved:Rows.MeekDistributesSaid:=
 OpenClaim.holds_of_wide 12 Tryz.f12 rfl rfl rfl rfl rfl rfl rfl ⟨rfl,rfl,rfl,rfl,rfl⟩ rfl rfl rfl rfl rfl (by kernel_rfl) Tryz.func12 facts
  (of_decide_eq_true (by kernel_rfl)) (by unfold Func.isWrapper;first | (rw[if_pos (by decide +kernel)];kernel_rfl) | (rw[if_neg (by decide +kernel)];exact⟨rfl,rfl⟩))
  (fun os started H enc _=>lifted os started H enc)
#print axioms proved
end meekDistributes
end Go.Proofs.YtmipjomnjkmdbaaGreat
