/-
  No cell of these rows narrows 'for every input' (looked for: loops, veiled, ifaces, maps, wideKeys, modest, calm, conditions, laid).
  DERIVED. THE GIVEN ROWS OF THIS SEAT. 13 by the template 'for every input the law returns true; each argument reads behind the call as it read before'; 0 by the template 'total and deterministic' (their statements: YthemaffjohmhnaaTotals.lean).
  GIVEN WITH THE SEED: the statements are not yours to turn. If you find one false, say at which input.
  Laid BY PROGRAM, IN A SANDBOX (cutbox-rows.mjs): the forced cells as the released guide's own fill.sh prints them over the translation 827082a029d01a70… (all of the seat's roots in one cut). By AI agents, Wed Nov 11 2026. No macro, syntax, notation, axiom, sorry.
-/
import Derived.Test.YthemaffjohmhnaaChecked
import GoSem.Claim
import GoSem.ClaimJoined
import GoSem.ClaimMapViews
import Derived.JoinedTies
import Derived.KernelRfl
namespace Go.Proofs.Ythemaffjohmhnaa
/- THE CELL 'sum', in the pinned program and in every row, IS THE sha256 OF THE DUMP (.gsa) THAT YthemaffjohmhnaaProg.lean LOADS. Nothing in Lean hashes anything: it is a label: what it is worth is what the hold of that sum in a sandbox is worth. -/
noncomputable def Try.pinned : Pinned := { name := "ythemaffjohmhnaa", sum := "827082a029d01a702ccc27fa9d92ca77dd60d9ef414381480e7d4e61cd7ca2ad", checked := Try.checked }
namespace Rows
def none {H : Type} : Left H := { results := [], args := [] }

/-- 'electionlaw33.AssertionTells': WHATEVER THE INPUT: true; the input reads as it did. -/
def assertionTellsSpec : ChangeSpec := { name := "assertionTells", fn := fun _ => fun
  | [d1, d2, d3, d4, d5, d6, d7, d8, d9, d10, d11, d12] => { results := [.lit (.bool true)], args := [d1, d2, d3, d4, d5, d6, d7, d8, d9, d10, d11, d12] }
  | _ => none }
def assertionTellsRow : OpenClaim := { program := "ythemaffjohmhnaa", sum := "827082a029d01a702ccc27fa9d92ca77dd60d9ef414381480e7d4e61cd7ca2ad", func := "election/electionlaw33.AssertionTells", spec := "assertionTells", unfollowed := true, recurses := true, apart := false }
def AssertionTellsSaid : Prop := assertionTellsRow.holds Try.pinned (OpenSpec.ofChange assertionTellsSpec)

/-- ITS FALSE NEIGHBOUR: 'it returns false'. Refute it at one input. -/
def assertionTellsWrong : ChangeSpec := { name := "assertionTells", fn := fun _ => fun
  | [d1, d2, d3, d4, d5, d6, d7, d8, d9, d10, d11, d12] => { results := [.lit (.bool false)], args := [d1, d2, d3, d4, d5, d6, d7, d8, d9, d10, d11, d12] }
  | _ => none }
def AssertionTellsWrongFalsely : Prop := assertionTellsRow.holds Try.pinned (OpenSpec.ofChange assertionTellsWrong)

/-- 'electionlaw33.AssertionContradicts': WHATEVER THE INPUT: true; the input reads as it did. -/
def assertionContradictsSpec : ChangeSpec := { name := "assertionContradicts", fn := fun _ => fun
  | [d1, d2, d3, d4, d5, d6, d7, d8, d9, d10, d11] => { results := [.lit (.bool true)], args := [d1, d2, d3, d4, d5, d6, d7, d8, d9, d10, d11] }
  | _ => none }
def assertionContradictsRow : OpenClaim := { program := "ythemaffjohmhnaa", sum := "827082a029d01a702ccc27fa9d92ca77dd60d9ef414381480e7d4e61cd7ca2ad", func := "election/electionlaw33.AssertionContradicts", spec := "assertionContradicts", unfollowed := true, recurses := true, apart := false }
def AssertionContradictsSaid : Prop := assertionContradictsRow.holds Try.pinned (OpenSpec.ofChange assertionContradictsSpec)

/-- ITS FALSE NEIGHBOUR: 'it returns false'. Refute it at one input. -/
def assertionContradictsWrong : ChangeSpec := { name := "assertionContradicts", fn := fun _ => fun
  | [d1, d2, d3, d4, d5, d6, d7, d8, d9, d10, d11] => { results := [.lit (.bool false)], args := [d1, d2, d3, d4, d5, d6, d7, d8, d9, d10, d11] }
  | _ => none }
def AssertionContradictsWrongFalsely : Prop := assertionContradictsRow.holds Try.pinned (OpenSpec.ofChange assertionContradictsWrong)

/-- 'electionlaw33.AssertionRight': WHATEVER THE INPUT: true; the input reads as it did. -/
def assertionRightSpec : ChangeSpec := { name := "assertionRight", fn := fun _ => fun
  | [d1, d2, d3, d4, d5, d6] => { results := [.lit (.bool true)], args := [d1, d2, d3, d4, d5, d6] }
  | _ => none }
def assertionRightRow : OpenClaim := { program := "ythemaffjohmhnaa", sum := "827082a029d01a702ccc27fa9d92ca77dd60d9ef414381480e7d4e61cd7ca2ad", func := "election/electionlaw33.AssertionRight", spec := "assertionRight", unfollowed := true, recurses := true, apart := false }
def AssertionRightSaid : Prop := assertionRightRow.holds Try.pinned (OpenSpec.ofChange assertionRightSpec)

/-- ITS FALSE NEIGHBOUR: 'it returns false'. Refute it at one input. -/
def assertionRightWrong : ChangeSpec := { name := "assertionRight", fn := fun _ => fun
  | [d1, d2, d3, d4, d5, d6] => { results := [.lit (.bool false)], args := [d1, d2, d3, d4, d5, d6] }
  | _ => none }
def AssertionRightWrongFalsely : Prop := assertionRightRow.holds Try.pinned (OpenSpec.ofChange assertionRightWrong)

/-- 'electionlaw33.AssertionCompare': WHATEVER THE INPUT: true; the input reads as it did. -/
def assertionCompareSpec : ChangeSpec := { name := "assertionCompare", fn := fun _ => fun
  | [d1, d2, d3, d4, d5, d6] => { results := [.lit (.bool true)], args := [d1, d2, d3, d4, d5, d6] }
  | _ => none }
def assertionCompareRow : OpenClaim := { program := "ythemaffjohmhnaa", sum := "827082a029d01a702ccc27fa9d92ca77dd60d9ef414381480e7d4e61cd7ca2ad", func := "election/electionlaw33.AssertionCompare", spec := "assertionCompare", unfollowed := true, recurses := true, apart := false }
def AssertionCompareSaid : Prop := assertionCompareRow.holds Try.pinned (OpenSpec.ofChange assertionCompareSpec)

/-- ITS FALSE NEIGHBOUR: 'it returns false'. Refute it at one input. -/
def assertionCompareWrong : ChangeSpec := { name := "assertionCompare", fn := fun _ => fun
  | [d1, d2, d3, d4, d5, d6] => { results := [.lit (.bool false)], args := [d1, d2, d3, d4, d5, d6] }
  | _ => none }
def AssertionCompareWrongFalsely : Prop := assertionCompareRow.holds Try.pinned (OpenSpec.ofChange assertionCompareWrong)

/-- 'electionlaw33.AssertionReads': WHATEVER THE INPUT: true; the input reads as it did. -/
def assertionReadsSpec : ChangeSpec := { name := "assertionReads", fn := fun _ => fun
  | [d1, d2, d3, d4, d5, d6, d7] => { results := [.lit (.bool true)], args := [d1, d2, d3, d4, d5, d6, d7] }
  | _ => none }
def assertionReadsRow : OpenClaim := { program := "ythemaffjohmhnaa", sum := "827082a029d01a702ccc27fa9d92ca77dd60d9ef414381480e7d4e61cd7ca2ad", func := "election/electionlaw33.AssertionReads", spec := "assertionReads", unfollowed := true, recurses := true, apart := false }
def AssertionReadsSaid : Prop := assertionReadsRow.holds Try.pinned (OpenSpec.ofChange assertionReadsSpec)

/-- ITS FALSE NEIGHBOUR: 'it returns false'. Refute it at one input. -/
def assertionReadsWrong : ChangeSpec := { name := "assertionReads", fn := fun _ => fun
  | [d1, d2, d3, d4, d5, d6, d7] => { results := [.lit (.bool false)], args := [d1, d2, d3, d4, d5, d6, d7] }
  | _ => none }
def AssertionReadsWrongFalsely : Prop := assertionReadsRow.holds Try.pinned (OpenSpec.ofChange assertionReadsWrong)

/-- 'electionlaw33.AssertionBack': WHATEVER THE INPUT: true; the input reads as it did. -/
def assertionBackSpec : ChangeSpec := { name := "assertionBack", fn := fun _ => fun
  | [d1, d2, d3, d4, d5, d6, d7] => { results := [.lit (.bool true)], args := [d1, d2, d3, d4, d5, d6, d7] }
  | _ => none }
def assertionBackRow : OpenClaim := { program := "ythemaffjohmhnaa", sum := "827082a029d01a702ccc27fa9d92ca77dd60d9ef414381480e7d4e61cd7ca2ad", func := "election/electionlaw33.AssertionBack", spec := "assertionBack", unfollowed := true, recurses := true, apart := false }
def AssertionBackSaid : Prop := assertionBackRow.holds Try.pinned (OpenSpec.ofChange assertionBackSpec)

/-- ITS FALSE NEIGHBOUR: 'it returns false'. Refute it at one input. -/
def assertionBackWrong : ChangeSpec := { name := "assertionBack", fn := fun _ => fun
  | [d1, d2, d3, d4, d5, d6, d7] => { results := [.lit (.bool false)], args := [d1, d2, d3, d4, d5, d6, d7] }
  | _ => none }
def AssertionBackWrongFalsely : Prop := assertionBackRow.holds Try.pinned (OpenSpec.ofChange assertionBackWrong)

/-- 'electionlaw36.AssorterOpposite': WHATEVER THE INPUT: true; the input reads as it did. -/
def assorterOppositeSpec : ChangeSpec := { name := "assorterOpposite", fn := fun _ => fun
  | [d1, d2, d3, d4, d5] => { results := [.lit (.bool true)], args := [d1, d2, d3, d4, d5] }
  | _ => none }
def assorterOppositeRow : OpenClaim := { program := "ythemaffjohmhnaa", sum := "827082a029d01a702ccc27fa9d92ca77dd60d9ef414381480e7d4e61cd7ca2ad", func := "election/electionlaw36.AssorterOpposite", spec := "assorterOpposite", unfollowed := true, recurses := true, apart := false }
def AssorterOppositeSaid : Prop := assorterOppositeRow.holds Try.pinned (OpenSpec.ofChange assorterOppositeSpec)

/-- ITS FALSE NEIGHBOUR: 'it returns false'. Refute it at one input. -/
def assorterOppositeWrong : ChangeSpec := { name := "assorterOpposite", fn := fun _ => fun
  | [d1, d2, d3, d4, d5] => { results := [.lit (.bool false)], args := [d1, d2, d3, d4, d5] }
  | _ => none }
def AssorterOppositeWrongFalsely : Prop := assorterOppositeRow.holds Try.pinned (OpenSpec.ofChange assorterOppositeWrong)

/-- 'electionlaw36.AssorterTells': WHATEVER THE INPUT: true; the input reads as it did. -/
def assorterTellsSpec : ChangeSpec := { name := "assorterTells", fn := fun _ => fun
  | [d1, d2, d3, d4, d5, d6, d7, d8, d9, d10, d11, d12] => { results := [.lit (.bool true)], args := [d1, d2, d3, d4, d5, d6, d7, d8, d9, d10, d11, d12] }
  | _ => none }
def assorterTellsRow : OpenClaim := { program := "ythemaffjohmhnaa", sum := "827082a029d01a702ccc27fa9d92ca77dd60d9ef414381480e7d4e61cd7ca2ad", func := "election/electionlaw36.AssorterTells", spec := "assorterTells", unfollowed := true, recurses := true, apart := false }
def AssorterTellsSaid : Prop := assorterTellsRow.holds Try.pinned (OpenSpec.ofChange assorterTellsSpec)

/-- ITS FALSE NEIGHBOUR: 'it returns false'. Refute it at one input. -/
def assorterTellsWrong : ChangeSpec := { name := "assorterTells", fn := fun _ => fun
  | [d1, d2, d3, d4, d5, d6, d7, d8, d9, d10, d11, d12] => { results := [.lit (.bool false)], args := [d1, d2, d3, d4, d5, d6, d7, d8, d9, d10, d11, d12] }
  | _ => none }
def AssorterTellsWrongFalsely : Prop := assorterTellsRow.holds Try.pinned (OpenSpec.ofChange assorterTellsWrong)

/-- 'electionlaw36.AssorterTally': WHATEVER THE INPUT: true; the input reads as it did. -/
def assorterTallySpec : ChangeSpec := { name := "assorterTally", fn := fun _ => fun
  | [d1, d2, d3, d4, d5, d6, d7, d8, d9, d10, d11, d12] => { results := [.lit (.bool true)], args := [d1, d2, d3, d4, d5, d6, d7, d8, d9, d10, d11, d12] }
  | _ => none }
def assorterTallyRow : OpenClaim := { program := "ythemaffjohmhnaa", sum := "827082a029d01a702ccc27fa9d92ca77dd60d9ef414381480e7d4e61cd7ca2ad", func := "election/electionlaw36.AssorterTally", spec := "assorterTally", unfollowed := true, recurses := true, apart := false }
def AssorterTallySaid : Prop := assorterTallyRow.holds Try.pinned (OpenSpec.ofChange assorterTallySpec)

/-- ITS FALSE NEIGHBOUR: 'it returns false'. Refute it at one input. -/
def assorterTallyWrong : ChangeSpec := { name := "assorterTally", fn := fun _ => fun
  | [d1, d2, d3, d4, d5, d6, d7, d8, d9, d10, d11, d12] => { results := [.lit (.bool false)], args := [d1, d2, d3, d4, d5, d6, d7, d8, d9, d10, d11, d12] }
  | _ => none }
def AssorterTallyWrongFalsely : Prop := assorterTallyRow.holds Try.pinned (OpenSpec.ofChange assorterTallyWrong)

/-- 'electionlaw36.AssorterOver': WHATEVER THE INPUT: true; the input reads as it did. -/
def assorterOverSpec : ChangeSpec := { name := "assorterOver", fn := fun _ => fun
  | [d1, d2, d3, d4, d5, d6, d7, d8, d9, d10] => { results := [.lit (.bool true)], args := [d1, d2, d3, d4, d5, d6, d7, d8, d9, d10] }
  | _ => none }
def assorterOverRow : OpenClaim := { program := "ythemaffjohmhnaa", sum := "827082a029d01a702ccc27fa9d92ca77dd60d9ef414381480e7d4e61cd7ca2ad", func := "election/electionlaw36.AssorterOver", spec := "assorterOver", unfollowed := true, recurses := true, apart := false }
def AssorterOverSaid : Prop := assorterOverRow.holds Try.pinned (OpenSpec.ofChange assorterOverSpec)

/-- ITS FALSE NEIGHBOUR: 'it returns false'. Refute it at one input. -/
def assorterOverWrong : ChangeSpec := { name := "assorterOver", fn := fun _ => fun
  | [d1, d2, d3, d4, d5, d6, d7, d8, d9, d10] => { results := [.lit (.bool false)], args := [d1, d2, d3, d4, d5, d6, d7, d8, d9, d10] }
  | _ => none }
def AssorterOverWrongFalsely : Prop := assorterOverRow.holds Try.pinned (OpenSpec.ofChange assorterOverWrong)

/-- 'electionlaw35.SufficeWitness': WHATEVER THE INPUT: true; the input reads as it did. -/
def sufficeWitnessSpec : ChangeSpec := { name := "sufficeWitness", fn := fun _ => fun
  | [d1, d2, d3, d4] => { results := [.lit (.bool true)], args := [d1, d2, d3, d4] }
  | _ => none }
def sufficeWitnessRow : OpenClaim := { program := "ythemaffjohmhnaa", sum := "827082a029d01a702ccc27fa9d92ca77dd60d9ef414381480e7d4e61cd7ca2ad", func := "election/electionlaw35.SufficeWitness", spec := "sufficeWitness", unfollowed := true, recurses := true, apart := false }
def SufficeWitnessSaid : Prop := sufficeWitnessRow.holds Try.pinned (OpenSpec.ofChange sufficeWitnessSpec)

/-- ITS FALSE NEIGHBOUR: 'it returns false'. Refute it at one input. -/
def sufficeWitnessWrong : ChangeSpec := { name := "sufficeWitness", fn := fun _ => fun
  | [d1, d2, d3, d4] => { results := [.lit (.bool false)], args := [d1, d2, d3, d4] }
  | _ => none }
def SufficeWitnessWrongFalsely : Prop := sufficeWitnessRow.holds Try.pinned (OpenSpec.ofChange sufficeWitnessWrong)

/-- 'electionlaw36.AssorterFound': WHATEVER THE INPUT: true; the input reads as it did. -/
def assorterFoundSpec : ChangeSpec := { name := "assorterFound", fn := fun _ => fun
  | [d1, d2, d3, d4, d5, d6, d7, d8, d9, d10] => { results := [.lit (.bool true)], args := [d1, d2, d3, d4, d5, d6, d7, d8, d9, d10] }
  | _ => none }
def assorterFoundRow : OpenClaim := { program := "ythemaffjohmhnaa", sum := "827082a029d01a702ccc27fa9d92ca77dd60d9ef414381480e7d4e61cd7ca2ad", func := "election/electionlaw36.AssorterFound", spec := "assorterFound", unfollowed := true, recurses := true, apart := false }
def AssorterFoundSaid : Prop := assorterFoundRow.holds Try.pinned (OpenSpec.ofChange assorterFoundSpec)

/-- ITS FALSE NEIGHBOUR: 'it returns false'. Refute it at one input. -/
def assorterFoundWrong : ChangeSpec := { name := "assorterFound", fn := fun _ => fun
  | [d1, d2, d3, d4, d5, d6, d7, d8, d9, d10] => { results := [.lit (.bool false)], args := [d1, d2, d3, d4, d5, d6, d7, d8, d9, d10] }
  | _ => none }
def AssorterFoundWrongFalsely : Prop := assorterFoundRow.holds Try.pinned (OpenSpec.ofChange assorterFoundWrong)

/-- 'electionlaw36.AssorterMean': WHATEVER THE INPUT: true; the input reads as it did. -/
def assorterMeanSpec : ChangeSpec := { name := "assorterMean", fn := fun _ => fun
  | [d1, d2, d3, d4, d5, d6, d7] => { results := [.lit (.bool true)], args := [d1, d2, d3, d4, d5, d6, d7] }
  | _ => none }
def assorterMeanRow : OpenClaim := { program := "ythemaffjohmhnaa", sum := "827082a029d01a702ccc27fa9d92ca77dd60d9ef414381480e7d4e61cd7ca2ad", func := "election/electionlaw36.AssorterMean", spec := "assorterMean", unfollowed := true, recurses := true, apart := false }
def AssorterMeanSaid : Prop := assorterMeanRow.holds Try.pinned (OpenSpec.ofChange assorterMeanSpec)

/-- ITS FALSE NEIGHBOUR: 'it returns false'. Refute it at one input. -/
def assorterMeanWrong : ChangeSpec := { name := "assorterMean", fn := fun _ => fun
  | [d1, d2, d3, d4, d5, d6, d7] => { results := [.lit (.bool false)], args := [d1, d2, d3, d4, d5, d6, d7] }
  | _ => none }
def AssorterMeanWrongFalsely : Prop := assorterMeanRow.holds Try.pinned (OpenSpec.ofChange assorterMeanWrong)

/- THE SECOND FORM. 'bulk': how many values and letters a reading holds, each counted each time it is reached (what is shared counts as often as it is met; a slice's spare places count too). A statement '..UptoSaid' is the law's where the arguments, and the package variables that the reading takes, are together of bulk at most 1048576: NARROWER than '..Said'. Prove '..Said' where nothing that the law and all that it calls make is longer than what came in: it says more and counts as full. Else prove '..UptoSaid'. A law counts once. -/
mutual
def uptoBulk {H : Type} : DataW H → Nat
  | .lit (.string bytes) => bytes.length + 1
  | .lit _ => 1
  | .nil => 1
  | .ptr d => uptoBulk d + 1
  | .slice elems spare => uptoBulkAll elems + uptoBulkAll spare + 1
  | .agg parts => uptoBulkAll parts + 1
  | .iface _ d => uptoBulk d + 1
  | .map entries => uptoBulkEntries entries + 1
  | .held _ => 1
def uptoBulkAll {H : Type} : List (DataW H) → Nat
  | [] => 0
  | d :: r => uptoBulk d + uptoBulkAll r
def uptoBulkEntries {H : Type} : List (Lit × DataW H) → Nat
  | [] => 0
  | x :: r => uptoBulkEntry x + uptoBulkEntries r
def uptoBulkEntry {H : Type} : Lit × DataW H → Nat
  | (.string bytes, d) => bytes.length + uptoBulk d + 1
  | (_, d) => uptoBulk d + 1
 end
def uptoSmall : (H : Type) → List (DataW H) → Bool := fun _ ds => decide (uptoBulkAll ds ≤ 1048576)
def OpenSpec.upto (s : _root_.Go.ChangeSpec) : _root_.Go.OpenSpec := { _root_.Go.OpenSpec.ofChange s with cond := some uptoSmall }

/-- 'electionlaw33.AssertionTells', WHERE WHAT IT READS IS OF BULK AT MOST 1048576: true; the input reads as it did. -/
def assertionTellsUptoRow : OpenClaim := { program := "ythemaffjohmhnaa", sum := "827082a029d01a702ccc27fa9d92ca77dd60d9ef414381480e7d4e61cd7ca2ad", func := "election/electionlaw33.AssertionTells", spec := "assertionTells", unfollowed := true, recurses := true, apart := false, narrowed := true }
def AssertionTellsUptoSaid : Prop := assertionTellsUptoRow.holds Try.pinned (OpenSpec.upto assertionTellsSpec)

/-- 'electionlaw33.AssertionContradicts', WHERE WHAT IT READS IS OF BULK AT MOST 1048576: true; the input reads as it did. -/
def assertionContradictsUptoRow : OpenClaim := { program := "ythemaffjohmhnaa", sum := "827082a029d01a702ccc27fa9d92ca77dd60d9ef414381480e7d4e61cd7ca2ad", func := "election/electionlaw33.AssertionContradicts", spec := "assertionContradicts", unfollowed := true, recurses := true, apart := false, narrowed := true }
def AssertionContradictsUptoSaid : Prop := assertionContradictsUptoRow.holds Try.pinned (OpenSpec.upto assertionContradictsSpec)

/-- 'electionlaw33.AssertionRight', WHERE WHAT IT READS IS OF BULK AT MOST 1048576: true; the input reads as it did. -/
def assertionRightUptoRow : OpenClaim := { program := "ythemaffjohmhnaa", sum := "827082a029d01a702ccc27fa9d92ca77dd60d9ef414381480e7d4e61cd7ca2ad", func := "election/electionlaw33.AssertionRight", spec := "assertionRight", unfollowed := true, recurses := true, apart := false, narrowed := true }
def AssertionRightUptoSaid : Prop := assertionRightUptoRow.holds Try.pinned (OpenSpec.upto assertionRightSpec)

/-- 'electionlaw33.AssertionCompare', WHERE WHAT IT READS IS OF BULK AT MOST 1048576: true; the input reads as it did. -/
def assertionCompareUptoRow : OpenClaim := { program := "ythemaffjohmhnaa", sum := "827082a029d01a702ccc27fa9d92ca77dd60d9ef414381480e7d4e61cd7ca2ad", func := "election/electionlaw33.AssertionCompare", spec := "assertionCompare", unfollowed := true, recurses := true, apart := false, narrowed := true }
def AssertionCompareUptoSaid : Prop := assertionCompareUptoRow.holds Try.pinned (OpenSpec.upto assertionCompareSpec)

/-- 'electionlaw33.AssertionReads', WHERE WHAT IT READS IS OF BULK AT MOST 1048576: true; the input reads as it did. -/
def assertionReadsUptoRow : OpenClaim := { program := "ythemaffjohmhnaa", sum := "827082a029d01a702ccc27fa9d92ca77dd60d9ef414381480e7d4e61cd7ca2ad", func := "election/electionlaw33.AssertionReads", spec := "assertionReads", unfollowed := true, recurses := true, apart := false, narrowed := true }
def AssertionReadsUptoSaid : Prop := assertionReadsUptoRow.holds Try.pinned (OpenSpec.upto assertionReadsSpec)

/-- 'electionlaw33.AssertionBack', WHERE WHAT IT READS IS OF BULK AT MOST 1048576: true; the input reads as it did. -/
def assertionBackUptoRow : OpenClaim := { program := "ythemaffjohmhnaa", sum := "827082a029d01a702ccc27fa9d92ca77dd60d9ef414381480e7d4e61cd7ca2ad", func := "election/electionlaw33.AssertionBack", spec := "assertionBack", unfollowed := true, recurses := true, apart := false, narrowed := true }
def AssertionBackUptoSaid : Prop := assertionBackUptoRow.holds Try.pinned (OpenSpec.upto assertionBackSpec)

/-- 'electionlaw36.AssorterOpposite', WHERE WHAT IT READS IS OF BULK AT MOST 1048576: true; the input reads as it did. -/
def assorterOppositeUptoRow : OpenClaim := { program := "ythemaffjohmhnaa", sum := "827082a029d01a702ccc27fa9d92ca77dd60d9ef414381480e7d4e61cd7ca2ad", func := "election/electionlaw36.AssorterOpposite", spec := "assorterOpposite", unfollowed := true, recurses := true, apart := false, narrowed := true }
def AssorterOppositeUptoSaid : Prop := assorterOppositeUptoRow.holds Try.pinned (OpenSpec.upto assorterOppositeSpec)

/-- 'electionlaw36.AssorterTells', WHERE WHAT IT READS IS OF BULK AT MOST 1048576: true; the input reads as it did. -/
def assorterTellsUptoRow : OpenClaim := { program := "ythemaffjohmhnaa", sum := "827082a029d01a702ccc27fa9d92ca77dd60d9ef414381480e7d4e61cd7ca2ad", func := "election/electionlaw36.AssorterTells", spec := "assorterTells", unfollowed := true, recurses := true, apart := false, narrowed := true }
def AssorterTellsUptoSaid : Prop := assorterTellsUptoRow.holds Try.pinned (OpenSpec.upto assorterTellsSpec)

/-- 'electionlaw36.AssorterTally', WHERE WHAT IT READS IS OF BULK AT MOST 1048576: true; the input reads as it did. -/
def assorterTallyUptoRow : OpenClaim := { program := "ythemaffjohmhnaa", sum := "827082a029d01a702ccc27fa9d92ca77dd60d9ef414381480e7d4e61cd7ca2ad", func := "election/electionlaw36.AssorterTally", spec := "assorterTally", unfollowed := true, recurses := true, apart := false, narrowed := true }
def AssorterTallyUptoSaid : Prop := assorterTallyUptoRow.holds Try.pinned (OpenSpec.upto assorterTallySpec)

/-- 'electionlaw36.AssorterOver', WHERE WHAT IT READS IS OF BULK AT MOST 1048576: true; the input reads as it did. -/
def assorterOverUptoRow : OpenClaim := { program := "ythemaffjohmhnaa", sum := "827082a029d01a702ccc27fa9d92ca77dd60d9ef414381480e7d4e61cd7ca2ad", func := "election/electionlaw36.AssorterOver", spec := "assorterOver", unfollowed := true, recurses := true, apart := false, narrowed := true }
def AssorterOverUptoSaid : Prop := assorterOverUptoRow.holds Try.pinned (OpenSpec.upto assorterOverSpec)

/-- 'electionlaw35.SufficeWitness', WHERE WHAT IT READS IS OF BULK AT MOST 1048576: true; the input reads as it did. -/
def sufficeWitnessUptoRow : OpenClaim := { program := "ythemaffjohmhnaa", sum := "827082a029d01a702ccc27fa9d92ca77dd60d9ef414381480e7d4e61cd7ca2ad", func := "election/electionlaw35.SufficeWitness", spec := "sufficeWitness", unfollowed := true, recurses := true, apart := false, narrowed := true }
def SufficeWitnessUptoSaid : Prop := sufficeWitnessUptoRow.holds Try.pinned (OpenSpec.upto sufficeWitnessSpec)

/-- 'electionlaw36.AssorterFound', WHERE WHAT IT READS IS OF BULK AT MOST 1048576: true; the input reads as it did. -/
def assorterFoundUptoRow : OpenClaim := { program := "ythemaffjohmhnaa", sum := "827082a029d01a702ccc27fa9d92ca77dd60d9ef414381480e7d4e61cd7ca2ad", func := "election/electionlaw36.AssorterFound", spec := "assorterFound", unfollowed := true, recurses := true, apart := false, narrowed := true }
def AssorterFoundUptoSaid : Prop := assorterFoundUptoRow.holds Try.pinned (OpenSpec.upto assorterFoundSpec)

/-- 'electionlaw36.AssorterMean', WHERE WHAT IT READS IS OF BULK AT MOST 1048576: true; the input reads as it did. -/
def assorterMeanUptoRow : OpenClaim := { program := "ythemaffjohmhnaa", sum := "827082a029d01a702ccc27fa9d92ca77dd60d9ef414381480e7d4e61cd7ca2ad", func := "election/electionlaw36.AssorterMean", spec := "assorterMean", unfollowed := true, recurses := true, apart := false, narrowed := true }
def AssorterMeanUptoSaid : Prop := assorterMeanUptoRow.holds Try.pinned (OpenSpec.upto assorterMeanSpec)

end Rows
end Go.Proofs.Ythemaffjohmhnaa
