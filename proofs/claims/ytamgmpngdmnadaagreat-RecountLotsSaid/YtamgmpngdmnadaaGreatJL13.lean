/- A transcript is accepted for other lots exactly if both counts have it. -/
import Derived.Test.YtamgmpngdmnadaaGreatRows
import Derived.WalkKit
import Derived.ProofKit
import Derived.Test.YtamgmpngdmnadaaGreatJ17
set_option linter.unusedSimpArgs false
set_option linter.unusedVariables false
open Go Go.Proofs Go.X
namespace Go.Proofs.YtamgmpngdmnadaaGreat
namespace recountLots
theorem own:ownKnob Tryz.prog.godebug=none:=by kernel_rfl
theorem laid:laidOutB Tryz.prog=true:=by kernel_rfl
set_option maxRecDepth 100000 in
theorem lifted(os:Os)(started:os.Started)(H:Type)(enc:TypeId×Value->H) :
  ReturnsInHanded {} Tryz.checked os 13 .any (Rows.recountLotsSpec.pre6 enc Tryz.prog Tryz.f13 Rows.recountLotsRow.domain false) (Rows.recountLotsSpec.post enc Tryz.prog Tryz.f13 false true false false):=by
 refine returnsInHanded_of_change_sized (C:=Tryz.checked) own started (by kernel_rfl) Tryz.func13
  (ChangeSpec.witness6 (enc:=enc) (C:=Tryz.checked) false ⟨#[],#[.agg #[.int .i64 0, .int .i64 0, .int .i64 0, .int .i64 0, .int .i64 0, .int .i64 0, .slice none 0 0, .int .i64 0, .int .i64 0, .int .i64 0, .int .i64 0], .int .i64 0],[]⟩ 8 (by kernel_rfl) (by kernel_rfl) (by kernel_rfl) (by kernel_rfl)) ?_
 intro W base args ds gs before hc hW hf hg _;have hh:=hW;obtain⟨p,q,hA,hV,rfl,hj,hi⟩:=hW;obtain⟨rfl,rfl⟩:=xig hV;have hd:∀n∈DataW.weightsEach Tryz.prog Tryz.f13.params.toList ds,n<=reachBytes:=λn hn=>by
  have:=xbl.1 hg n (by have e1:(Rows.recountLotsSpec.plain.varTypes Tryz.checked.prog)= []:=rfl;rw[e1,xbn,xbn];exact hn)
  simpa using this
 refine(zsv (sp:=λ_=>true) (n:=9) (base:=base) (λ_=>rfl) sim13 (λxs hx=>⟨true,d13_true hx.1.1 hx.1.2.1 hx.1.2.2.1 hx.1.2.2.2.1 hx.1.2.2.2.2.1 hx.1.2.2.2.2.2.1 hx.1.2.2.2.2.2.2.1.1 hx.1.2.2.2.2.2.2.1.2 hx.2.1,rfl⟩) (by kernel_rfl) hA (λj t v ht hv=>hc j t v (by rw[<-xbe];exact ht) (by rw[<-xbe];exact hv)) hd).mono λe W' ⟨he,hb⟩=>?_;subst he;refine⟨_,rfl,zyq (t:=4) laid (by kernel_rfl) rfl hh hb (by kernel_rfl) Tryz.underlying4 λds hds=>?_⟩;have ha:ds.length=2:=hds;match ds,ha with
 | [d1,d2],_=>rfl
set_option maxHeartbeats 40000000 in
theorem facts:joinedFacts Tryz.pinned.checked.prog 13 Tryz.f13 Rows.recountLotsSpec Rows.recountLotsRow=true:=by unfold joinedFacts;simp only[xal];and_intros<;>(as_aux_lemma=>kernel_rfl)
theorem proved:Rows.RecountLotsSaid:=
 OpenClaim.holds_of_wide 13 Tryz.f13 rfl rfl rfl rfl rfl rfl rfl ⟨rfl,rfl,rfl,rfl,rfl⟩ rfl rfl rfl rfl rfl (by kernel_rfl) Tryz.func13 facts
  (xbc (by kernel_rfl)) (by unfold Func.isWrapper;first | (rw[if_pos (by decide +kernel)];kernel_rfl) | (rw[if_neg (by decide +kernel)];exact⟨rfl,rfl⟩))
  (λos started H enc _=>lifted os started H enc)
#print axioms proved
end recountLots
end Go.Proofs.YtamgmpngdmnadaaGreat
