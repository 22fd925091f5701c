/-
  No cell of these rows narrows 'for every input' (looked for: loops, veiled, ifaces, maps, wideKeys, modest, calm, conditions, laid).
  DERIVED. THE GIVEN ROWS OF THIS SEAT. 11 by the template 'for every input the law returns true; each argument reads behind the call as it read before'; 0 by the template 'total and deterministic' (their statements: YtamgmpngdmnadaaGreatTotals.lean).
  GIVEN WITH THE SEED: the statements are not yours to turn. If you find one false, say at which input.
  Laid BY PROGRAM, IN A SANDBOX (cutbox-rows.mjs): the forced cells as the released guide's own fill.sh prints them over the translation 09dd746e1cb15bc8… (all of the seat's roots in one cut). By AI agents, Wed Nov 11 2026. No macro, syntax, notation, axiom, sorry.
-/
import Derived.Test.YtamgmpngdmnadaaGreatChecked
import GoSem.Claim
import GoSem.ClaimJoined
import GoSem.ClaimMapViews
import Derived.JoinedTies
import Derived.KernelRfl
namespace Go.Proofs.YtamgmpngdmnadaaGreat
/- THE CELL 'sum', in the pinned program and in every row, IS THE sha256 OF THE DUMP (.gsa) THAT YtamgmpngdmnadaaGreatProg.lean LOADS. Nothing in Lean hashes anything: it is a label: what it is worth is what the hold of that sum in a sandbox is worth. -/
noncomputable def Tryz.pinned : Pinned := { name := "ytamgmpngdmnadaagreat", sum := "09dd746e1cb15bc88af19429c47148a75a446ccd16f0e76aca8f9119b0daca08", checked := Tryz.checked }
namespace Rows
def none {H : Type} : Left H := { results := [], args := [] }

/-- 'electionlaw41.HandCounts': WHATEVER THE INPUT: true; the input reads as it did. -/
def handCountsSpec : ChangeSpec := { name := "handCounts", fn := fun _ => fun
  | [d1, d2, d3, d4, d5, d6] => { results := [.lit (.bool true)], args := [d1, d2, d3, d4, d5, d6] }
  | _ => none }
def handCountsRow : OpenClaim := { program := "ytamgmpngdmnadaagreat", sum := "09dd746e1cb15bc88af19429c47148a75a446ccd16f0e76aca8f9119b0daca08", func := "election/electionlaw41.HandCounts", spec := "handCounts", unfollowed := true, recurses := true, apart := false }
def HandCountsSaid : Prop := handCountsRow.holds Tryz.pinned (OpenSpec.ofChange handCountsSpec)

/-- ITS FALSE NEIGHBOUR: 'it returns false'. Refute it at one input. -/
def handCountsWrong : ChangeSpec := { name := "handCounts", fn := fun _ => fun
  | [d1, d2, d3, d4, d5, d6] => { results := [.lit (.bool false)], args := [d1, d2, d3, d4, d5, d6] }
  | _ => none }
def HandCountsWrongFalsely : Prop := handCountsRow.holds Tryz.pinned (OpenSpec.ofChange handCountsWrong)

/-- 'electionlaw41.HandSettles': WHATEVER THE INPUT: true; the input reads as it did. -/
def handSettlesSpec : ChangeSpec := { name := "handSettles", fn := fun _ => fun
  | [d1, d2, d3, d4] => { results := [.lit (.bool true)], args := [d1, d2, d3, d4] }
  | _ => none }
def handSettlesRow : OpenClaim := { program := "ytamgmpngdmnadaagreat", sum := "09dd746e1cb15bc88af19429c47148a75a446ccd16f0e76aca8f9119b0daca08", func := "election/electionlaw41.HandSettles", spec := "handSettles", unfollowed := true, recurses := true, apart := false }
def HandSettlesSaid : Prop := handSettlesRow.holds Tryz.pinned (OpenSpec.ofChange handSettlesSpec)

/-- ITS FALSE NEIGHBOUR: 'it returns false'. Refute it at one input. -/
def handSettlesWrong : ChangeSpec := { name := "handSettles", fn := fun _ => fun
  | [d1, d2, d3, d4] => { results := [.lit (.bool false)], args := [d1, d2, d3, d4] }
  | _ => none }
def HandSettlesWrongFalsely : Prop := handSettlesRow.holds Tryz.pinned (OpenSpec.ofChange handSettlesWrong)

/-- 'electionlaw41.HandOrders': WHATEVER THE INPUT: true; the input reads as it did. -/
def handOrdersSpec : ChangeSpec := { name := "handOrders", fn := fun _ => fun
  | [d1, d2, d3, d4, d5, d6, d7, d8, d9] => { results := [.lit (.bool true)], args := [d1, d2, d3, d4, d5, d6, d7, d8, d9] }
  | _ => none }
def handOrdersRow : OpenClaim := { program := "ytamgmpngdmnadaagreat", sum := "09dd746e1cb15bc88af19429c47148a75a446ccd16f0e76aca8f9119b0daca08", func := "election/electionlaw41.HandOrders", spec := "handOrders", unfollowed := true, recurses := true, apart := false }
def HandOrdersSaid : Prop := handOrdersRow.holds Tryz.pinned (OpenSpec.ofChange handOrdersSpec)

/-- ITS FALSE NEIGHBOUR: 'it returns false'. Refute it at one input. -/
def handOrdersWrong : ChangeSpec := { name := "handOrders", fn := fun _ => fun
  | [d1, d2, d3, d4, d5, d6, d7, d8, d9] => { results := [.lit (.bool false)], args := [d1, d2, d3, d4, d5, d6, d7, d8, d9] }
  | _ => none }
def HandOrdersWrongFalsely : Prop := handOrdersRow.holds Tryz.pinned (OpenSpec.ofChange handOrdersWrong)

/-- 'electionlaw41.HandCompares': WHATEVER THE INPUT: true; the input reads as it did. -/
def handComparesSpec : ChangeSpec := { name := "handCompares", fn := fun _ => fun
  | [d1, d2, d3, d4, d5, d6, d7, d8] => { results := [.lit (.bool true)], args := [d1, d2, d3, d4, d5, d6, d7, d8] }
  | _ => none }
def handComparesRow : OpenClaim := { program := "ytamgmpngdmnadaagreat", sum := "09dd746e1cb15bc88af19429c47148a75a446ccd16f0e76aca8f9119b0daca08", func := "election/electionlaw41.HandCompares", spec := "handCompares", unfollowed := true, recurses := true, apart := false }
def HandComparesSaid : Prop := handComparesRow.holds Tryz.pinned (OpenSpec.ofChange handComparesSpec)

/-- ITS FALSE NEIGHBOUR: 'it returns false'. Refute it at one input. -/
def handComparesWrong : ChangeSpec := { name := "handCompares", fn := fun _ => fun
  | [d1, d2, d3, d4, d5, d6, d7, d8] => { results := [.lit (.bool false)], args := [d1, d2, d3, d4, d5, d6, d7, d8] }
  | _ => none }
def HandComparesWrongFalsely : Prop := handComparesRow.holds Tryz.pinned (OpenSpec.ofChange handComparesWrong)

/-- 'electionlaw41.HandAgrees': WHATEVER THE INPUT: true; the input reads as it did. -/
def handAgreesSpec : ChangeSpec := { name := "handAgrees", fn := fun _ => fun
  | [d1, d2, d3, d4, d5, d6, d7] => { results := [.lit (.bool true)], args := [d1, d2, d3, d4, d5, d6, d7] }
  | _ => none }
def handAgreesRow : OpenClaim := { program := "ytamgmpngdmnadaagreat", sum := "09dd746e1cb15bc88af19429c47148a75a446ccd16f0e76aca8f9119b0daca08", func := "election/electionlaw41.HandAgrees", spec := "handAgrees", unfollowed := true, recurses := true, apart := false }
def HandAgreesSaid : Prop := handAgreesRow.holds Tryz.pinned (OpenSpec.ofChange handAgreesSpec)

/-- ITS FALSE NEIGHBOUR: 'it returns false'. Refute it at one input. -/
def handAgreesWrong : ChangeSpec := { name := "handAgrees", fn := fun _ => fun
  | [d1, d2, d3, d4, d5, d6, d7] => { results := [.lit (.bool false)], args := [d1, d2, d3, d4, d5, d6, d7] }
  | _ => none }
def HandAgreesWrongFalsely : Prop := handAgreesRow.holds Tryz.pinned (OpenSpec.ofChange handAgreesWrong)

/-- 'electionlaw30.RecountRefuses': WHATEVER THE INPUT: true; the input reads as it did. -/
def recountRefusesSpec : ChangeSpec := { name := "recountRefuses", fn := fun _ => fun
  | [d] => { results := [.lit (.bool true)], args := [d] }
  | _ => none }
def recountRefusesRow : OpenClaim := { program := "ytamgmpngdmnadaagreat", sum := "09dd746e1cb15bc88af19429c47148a75a446ccd16f0e76aca8f9119b0daca08", func := "election/electionlaw30.RecountRefuses", spec := "recountRefuses", unfollowed := true, recurses := true, apart := false }
def RecountRefusesSaid : Prop := recountRefusesRow.holds Tryz.pinned (OpenSpec.ofChange recountRefusesSpec)

/-- ITS FALSE NEIGHBOUR: 'it returns false'. Refute it at one input. -/
def recountRefusesWrong : ChangeSpec := { name := "recountRefuses", fn := fun _ => fun
  | [d] => { results := [.lit (.bool false)], args := [d] }
  | _ => none }
def RecountRefusesWrongFalsely : Prop := recountRefusesRow.holds Tryz.pinned (OpenSpec.ofChange recountRefusesWrong)

/-- 'electionlaw30.RecountTells': WHATEVER THE INPUT: true; the input reads as it did. -/
def recountTellsSpec : ChangeSpec := { name := "recountTells", fn := fun _ => fun
  | [d1, d2, d3, d4, d5, d6] => { results := [.lit (.bool true)], args := [d1, d2, d3, d4, d5, d6] }
  | _ => none }
def recountTellsRow : OpenClaim := { program := "ytamgmpngdmnadaagreat", sum := "09dd746e1cb15bc88af19429c47148a75a446ccd16f0e76aca8f9119b0daca08", func := "election/electionlaw30.RecountTells", spec := "recountTells", unfollowed := true, recurses := true, apart := false }
def RecountTellsSaid : Prop := recountTellsRow.holds Tryz.pinned (OpenSpec.ofChange recountTellsSpec)

/-- ITS FALSE NEIGHBOUR: 'it returns false'. Refute it at one input. -/
def recountTellsWrong : ChangeSpec := { name := "recountTells", fn := fun _ => fun
  | [d1, d2, d3, d4, d5, d6] => { results := [.lit (.bool false)], args := [d1, d2, d3, d4, d5, d6] }
  | _ => none }
def RecountTellsWrongFalsely : Prop := recountTellsRow.holds Tryz.pinned (OpenSpec.ofChange recountTellsWrong)

/-- 'electionlaw30.RecountWinners': WHATEVER THE INPUT: true; the input reads as it did. -/
def recountWinnersSpec : ChangeSpec := { name := "recountWinners", fn := fun _ => fun
  | [d1, d2, d3, d4] => { results := [.lit (.bool true)], args := [d1, d2, d3, d4] }
  | _ => none }
def recountWinnersRow : OpenClaim := { program := "ytamgmpngdmnadaagreat", sum := "09dd746e1cb15bc88af19429c47148a75a446ccd16f0e76aca8f9119b0daca08", func := "election/electionlaw30.RecountWinners", spec := "recountWinners", unfollowed := true, recurses := true, apart := false }
def RecountWinnersSaid : Prop := recountWinnersRow.holds Tryz.pinned (OpenSpec.ofChange recountWinnersSpec)

/-- ITS FALSE NEIGHBOUR: 'it returns false'. Refute it at one input. -/
def recountWinnersWrong : ChangeSpec := { name := "recountWinners", fn := fun _ => fun
  | [d1, d2, d3, d4] => { results := [.lit (.bool false)], args := [d1, d2, d3, d4] }
  | _ => none }
def RecountWinnersWrongFalsely : Prop := recountWinnersRow.holds Tryz.pinned (OpenSpec.ofChange recountWinnersWrong)

/-- 'electionlaw30.RecountAccepts': WHATEVER THE INPUT: true; the input reads as it did. -/
def recountAcceptsSpec : ChangeSpec := { name := "recountAccepts", fn := fun _ => fun
  | [d] => { results := [.lit (.bool true)], args := [d] }
  | _ => none }
def recountAcceptsRow : OpenClaim := { program := "ytamgmpngdmnadaagreat", sum := "09dd746e1cb15bc88af19429c47148a75a446ccd16f0e76aca8f9119b0daca08", func := "election/electionlaw30.RecountAccepts", spec := "recountAccepts", unfollowed := true, recurses := true, apart := false }
def RecountAcceptsSaid : Prop := recountAcceptsRow.holds Tryz.pinned (OpenSpec.ofChange recountAcceptsSpec)

/-- ITS FALSE NEIGHBOUR: 'it returns false'. Refute it at one input. -/
def recountAcceptsWrong : ChangeSpec := { name := "recountAccepts", fn := fun _ => fun
  | [d] => { results := [.lit (.bool false)], args := [d] }
  | _ => none }
def RecountAcceptsWrongFalsely : Prop := recountAcceptsRow.holds Tryz.pinned (OpenSpec.ofChange recountAcceptsWrong)

/-- 'electionlaw30.RecountOther': WHATEVER THE INPUT: true; the input reads as it did. -/
def recountOtherSpec : ChangeSpec := { name := "recountOther", fn := fun _ => fun
  | [d1, d2] => { results := [.lit (.bool true)], args := [d1, d2] }
  | _ => none }
def recountOtherRow : OpenClaim := { program := "ytamgmpngdmnadaagreat", sum := "09dd746e1cb15bc88af19429c47148a75a446ccd16f0e76aca8f9119b0daca08", func := "election/electionlaw30.RecountOther", spec := "recountOther", unfollowed := true, recurses := true, apart := false }
def RecountOtherSaid : Prop := recountOtherRow.holds Tryz.pinned (OpenSpec.ofChange recountOtherSpec)

/-- ITS FALSE NEIGHBOUR: 'it returns false'. Refute it at one input. -/
def recountOtherWrong : ChangeSpec := { name := "recountOther", fn := fun _ => fun
  | [d1, d2] => { results := [.lit (.bool false)], args := [d1, d2] }
  | _ => none }
def RecountOtherWrongFalsely : Prop := recountOtherRow.holds Tryz.pinned (OpenSpec.ofChange recountOtherWrong)

/-- 'electionlaw30.RecountLots': WHATEVER THE INPUT: true; the input reads as it did. -/
def recountLotsSpec : ChangeSpec := { name := "recountLots", fn := fun _ => fun
  | [d1, d2] => { results := [.lit (.bool true)], args := [d1, d2] }
  | _ => none }
def recountLotsRow : OpenClaim := { program := "ytamgmpngdmnadaagreat", sum := "09dd746e1cb15bc88af19429c47148a75a446ccd16f0e76aca8f9119b0daca08", func := "election/electionlaw30.RecountLots", spec := "recountLots", unfollowed := true, recurses := true, apart := false }
def RecountLotsSaid : Prop := recountLotsRow.holds Tryz.pinned (OpenSpec.ofChange recountLotsSpec)

/-- ITS FALSE NEIGHBOUR: 'it returns false'. Refute it at one input. -/
def recountLotsWrong : ChangeSpec := { name := "recountLots", fn := fun _ => fun
  | [d1, d2] => { results := [.lit (.bool false)], args := [d1, d2] }
  | _ => none }
def RecountLotsWrongFalsely : Prop := recountLotsRow.holds Tryz.pinned (OpenSpec.ofChange recountLotsWrong)

/- THE SECOND FORM. 'bulk': how many values and letters a reading holds, each counted each time it is reached (what is shared counts as often as it is met; a slice's spare places count too). A statement '..UptoSaid' is the law's where the arguments, and the package variables that the reading takes, are together of bulk at most 1048576: NARROWER than '..Said'. Prove '..Said' where nothing that the law and all that it calls make is longer than what came in: it says more and counts as full. Else prove '..UptoSaid'. A law counts once. -/
mutual
def uptoBulk {H : Type} : DataW H → Nat
  | .lit (.string bytes) => bytes.length + 1
  | .lit _ => 1
  | .nil => 1
  | .ptr d => uptoBulk d + 1
  | .slice elems spare => uptoBulkAll elems + uptoBulkAll spare + 1
  | .agg parts => uptoBulkAll parts + 1
  | .iface _ d => uptoBulk d + 1
  | .map entries => uptoBulkEntries entries + 1
  | .held _ => 1
def uptoBulkAll {H : Type} : List (DataW H) → Nat
  | [] => 0
  | d :: r => uptoBulk d + uptoBulkAll r
def uptoBulkEntries {H : Type} : List (Lit × DataW H) → Nat
  | [] => 0
  | x :: r => uptoBulkEntry x + uptoBulkEntries r
def uptoBulkEntry {H : Type} : Lit × DataW H → Nat
  | (.string bytes, d) => bytes.length + uptoBulk d + 1
  | (_, d) => uptoBulk d + 1
 end
def uptoSmall : (H : Type) → List (DataW H) → Bool := fun _ ds => decide (uptoBulkAll ds ≤ 1048576)
def OpenSpec.upto (s : _root_.Go.ChangeSpec) : _root_.Go.OpenSpec := { _root_.Go.OpenSpec.ofChange s with cond := some uptoSmall }

/-- 'electionlaw41.HandCounts', WHERE WHAT IT READS IS OF BULK AT MOST 1048576: true; the input reads as it did. -/
def handCountsUptoRow : OpenClaim := { program := "ytamgmpngdmnadaagreat", sum := "09dd746e1cb15bc88af19429c47148a75a446ccd16f0e76aca8f9119b0daca08", func := "election/electionlaw41.HandCounts", spec := "handCounts", unfollowed := true, recurses := true, apart := false, narrowed := true }
def HandCountsUptoSaid : Prop := handCountsUptoRow.holds Tryz.pinned (OpenSpec.upto handCountsSpec)

/-- 'electionlaw41.HandSettles', WHERE WHAT IT READS IS OF BULK AT MOST 1048576: true; the input reads as it did. -/
def handSettlesUptoRow : OpenClaim := { program := "ytamgmpngdmnadaagreat", sum := "09dd746e1cb15bc88af19429c47148a75a446ccd16f0e76aca8f9119b0daca08", func := "election/electionlaw41.HandSettles", spec := "handSettles", unfollowed := true, recurses := true, apart := false, narrowed := true }
def HandSettlesUptoSaid : Prop := handSettlesUptoRow.holds Tryz.pinned (OpenSpec.upto handSettlesSpec)

/-- 'electionlaw41.HandOrders', WHERE WHAT IT READS IS OF BULK AT MOST 1048576: true; the input reads as it did. -/
def handOrdersUptoRow : OpenClaim := { program := "ytamgmpngdmnadaagreat", sum := "09dd746e1cb15bc88af19429c47148a75a446ccd16f0e76aca8f9119b0daca08", func := "election/electionlaw41.HandOrders", spec := "handOrders", unfollowed := true, recurses := true, apart := false, narrowed := true }
def HandOrdersUptoSaid : Prop := handOrdersUptoRow.holds Tryz.pinned (OpenSpec.upto handOrdersSpec)

/-- 'electionlaw41.HandCompares', WHERE WHAT IT READS IS OF BULK AT MOST 1048576: true; the input reads as it did. -/
def handComparesUptoRow : OpenClaim := { program := "ytamgmpngdmnadaagreat", sum := "09dd746e1cb15bc88af19429c47148a75a446ccd16f0e76aca8f9119b0daca08", func := "election/electionlaw41.HandCompares", spec := "handCompares", unfollowed := true, recurses := true, apart := false, narrowed := true }
def HandComparesUptoSaid : Prop := handComparesUptoRow.holds Tryz.pinned (OpenSpec.upto handComparesSpec)

/-- 'electionlaw41.HandAgrees', WHERE WHAT IT READS IS OF BULK AT MOST 1048576: true; the input reads as it did. -/
def handAgreesUptoRow : OpenClaim := { program := "ytamgmpngdmnadaagreat", sum := "09dd746e1cb15bc88af19429c47148a75a446ccd16f0e76aca8f9119b0daca08", func := "election/electionlaw41.HandAgrees", spec := "handAgrees", unfollowed := true, recurses := true, apart := false, narrowed := true }
def HandAgreesUptoSaid : Prop := handAgreesUptoRow.holds Tryz.pinned (OpenSpec.upto handAgreesSpec)

/-- 'electionlaw30.RecountRefuses', WHERE WHAT IT READS IS OF BULK AT MOST 1048576: true; the input reads as it did. -/
def recountRefusesUptoRow : OpenClaim := { program := "ytamgmpngdmnadaagreat", sum := "09dd746e1cb15bc88af19429c47148a75a446ccd16f0e76aca8f9119b0daca08", func := "election/electionlaw30.RecountRefuses", spec := "recountRefuses", unfollowed := true, recurses := true, apart := false, narrowed := true }
def RecountRefusesUptoSaid : Prop := recountRefusesUptoRow.holds Tryz.pinned (OpenSpec.upto recountRefusesSpec)

/-- 'electionlaw30.RecountTells', WHERE WHAT IT READS IS OF BULK AT MOST 1048576: true; the input reads as it did. -/
def recountTellsUptoRow : OpenClaim := { program := "ytamgmpngdmnadaagreat", sum := "09dd746e1cb15bc88af19429c47148a75a446ccd16f0e76aca8f9119b0daca08", func := "election/electionlaw30.RecountTells", spec := "recountTells", unfollowed := true, recurses := true, apart := false, narrowed := true }
def RecountTellsUptoSaid : Prop := recountTellsUptoRow.holds Tryz.pinned (OpenSpec.upto recountTellsSpec)

/-- 'electionlaw30.RecountWinners', WHERE WHAT IT READS IS OF BULK AT MOST 1048576: true; the input reads as it did. -/
def recountWinnersUptoRow : OpenClaim := { program := "ytamgmpngdmnadaagreat", sum := "09dd746e1cb15bc88af19429c47148a75a446ccd16f0e76aca8f9119b0daca08", func := "election/electionlaw30.RecountWinners", spec := "recountWinners", unfollowed := true, recurses := true, apart := false, narrowed := true }
def RecountWinnersUptoSaid : Prop := recountWinnersUptoRow.holds Tryz.pinned (OpenSpec.upto recountWinnersSpec)

/-- 'electionlaw30.RecountAccepts', WHERE WHAT IT READS IS OF BULK AT MOST 1048576: true; the input reads as it did. -/
def recountAcceptsUptoRow : OpenClaim := { program := "ytamgmpngdmnadaagreat", sum := "09dd746e1cb15bc88af19429c47148a75a446ccd16f0e76aca8f9119b0daca08", func := "election/electionlaw30.RecountAccepts", spec := "recountAccepts", unfollowed := true, recurses := true, apart := false, narrowed := true }
def RecountAcceptsUptoSaid : Prop := recountAcceptsUptoRow.holds Tryz.pinned (OpenSpec.upto recountAcceptsSpec)

/-- 'electionlaw30.RecountOther', WHERE WHAT IT READS IS OF BULK AT MOST 1048576: true; the input reads as it did. -/
def recountOtherUptoRow : OpenClaim := { program := "ytamgmpngdmnadaagreat", sum := "09dd746e1cb15bc88af19429c47148a75a446ccd16f0e76aca8f9119b0daca08", func := "election/electionlaw30.RecountOther", spec := "recountOther", unfollowed := true, recurses := true, apart := false, narrowed := true }
def RecountOtherUptoSaid : Prop := recountOtherUptoRow.holds Tryz.pinned (OpenSpec.upto recountOtherSpec)

/-- 'electionlaw30.RecountLots', WHERE WHAT IT READS IS OF BULK AT MOST 1048576: true; the input reads as it did. -/
def recountLotsUptoRow : OpenClaim := { program := "ytamgmpngdmnadaagreat", sum := "09dd746e1cb15bc88af19429c47148a75a446ccd16f0e76aca8f9119b0daca08", func := "election/electionlaw30.RecountLots", spec := "recountLots", unfollowed := true, recurses := true, apart := false, narrowed := true }
def RecountLotsUptoSaid : Prop := recountLotsUptoRow.holds Tryz.pinned (OpenSpec.upto recountLotsSpec)

end Rows
end Go.Proofs.YtamgmpngdmnadaaGreat
