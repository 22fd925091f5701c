/-
  No cell of these rows narrows 'for every input' (looked for: loops, veiled, ifaces, maps, wideKeys, modest, calm, conditions, laid).
  DERIVED. THE GIVEN ROWS OF THIS SEAT. 3 by the template 'for every input the law returns true; each argument reads behind the call as it read before'; 0 by the template 'total and deterministic' (their statements: YtieoleabnjdkfaaTotals.lean).
  GIVEN WITH THE SEED: the statements are not yours to turn. If you find one false, say at which input.
  Laid BY PROGRAM, IN A SANDBOX (cutbox-rows.mjs): the forced cells as the released guide's own fill.sh prints them over the translation ba36025b9fbdc2af… (all of the seat's roots in one cut). By AI agents, Wed Nov 11 2026. No macro, syntax, notation, axiom, sorry.
-/
import Derived.Test.YtieoleabnjdkfaaChecked
import GoSem.Claim
import GoSem.ClaimJoined
import GoSem.ClaimMapViews
import Derived.JoinedTies
import Derived.KernelRfl
namespace Go.Proofs.Ytieoleabnjdkfaa
/- THE CELL 'sum', in the pinned program and in every row, IS THE sha256 OF THE DUMP (.gsa) THAT YtieoleabnjdkfaaProg.lean LOADS. Nothing in Lean hashes anything: it is a label: what it is worth is what the hold of that sum in a sandbox is worth. -/
noncomputable def Try.pinned : Pinned := { name := "ytieoleabnjdkfaa", sum := "ba36025b9fbdc2aff3d016cddd56578fbac5d222f36dbfa359eb4fa533672359", checked := Try.checked }
namespace Rows
def none {H : Type} : Left H := { results := [], args := [] }

/-- 'electionlaw34.DeriveRenames': WHATEVER THE INPUT: true; the input reads as it did. -/
def deriveRenamesSpec : ChangeSpec := { name := "deriveRenames", fn := fun _ => fun
  | [d1, d2, d3, d4] => { results := [.lit (.bool true)], args := [d1, d2, d3, d4] }
  | _ => none }
def deriveRenamesRow : OpenClaim := { program := "ytieoleabnjdkfaa", sum := "ba36025b9fbdc2aff3d016cddd56578fbac5d222f36dbfa359eb4fa533672359", func := "election/electionlaw34.DeriveRenames", spec := "deriveRenames", unfollowed := true, recurses := true, apart := false }
def DeriveRenamesSaid : Prop := deriveRenamesRow.holds Try.pinned (OpenSpec.ofChange deriveRenamesSpec)

/-- ITS FALSE NEIGHBOUR: 'it returns false'. Refute it at one input. -/
def deriveRenamesWrong : ChangeSpec := { name := "deriveRenames", fn := fun _ => fun
  | [d1, d2, d3, d4] => { results := [.lit (.bool false)], args := [d1, d2, d3, d4] }
  | _ => none }
def DeriveRenamesWrongFalsely : Prop := deriveRenamesRow.holds Try.pinned (OpenSpec.ofChange deriveRenamesWrong)

/-- 'electionlaw34.DeriveExists': WHATEVER THE INPUT: true; the input reads as it did. -/
def deriveExistsSpec : ChangeSpec := { name := "deriveExists", fn := fun _ => fun
  | [d1, d2, d3, d4] => { results := [.lit (.bool true)], args := [d1, d2, d3, d4] }
  | _ => none }
def deriveExistsRow : OpenClaim := { program := "ytieoleabnjdkfaa", sum := "ba36025b9fbdc2aff3d016cddd56578fbac5d222f36dbfa359eb4fa533672359", func := "election/electionlaw34.DeriveExists", spec := "deriveExists", unfollowed := true, recurses := true, apart := false }
def DeriveExistsSaid : Prop := deriveExistsRow.holds Try.pinned (OpenSpec.ofChange deriveExistsSpec)

/-- ITS FALSE NEIGHBOUR: 'it returns false'. Refute it at one input. -/
def deriveExistsWrong : ChangeSpec := { name := "deriveExists", fn := fun _ => fun
  | [d1, d2, d3, d4] => { results := [.lit (.bool false)], args := [d1, d2, d3, d4] }
  | _ => none }
def DeriveExistsWrongFalsely : Prop := deriveExistsRow.holds Try.pinned (OpenSpec.ofChange deriveExistsWrong)

/-- 'electionlaw34.DeriveMargin': WHATEVER THE INPUT: true; the input reads as it did. -/
def deriveMarginSpec : ChangeSpec := { name := "deriveMargin", fn := fun _ => fun
  | [d1, d2, d3, d4] => { results := [.lit (.bool true)], args := [d1, d2, d3, d4] }
  | _ => none }
def deriveMarginRow : OpenClaim := { program := "ytieoleabnjdkfaa", sum := "ba36025b9fbdc2aff3d016cddd56578fbac5d222f36dbfa359eb4fa533672359", func := "election/electionlaw34.DeriveMargin", spec := "deriveMargin", unfollowed := true, recurses := true, apart := false }
def DeriveMarginSaid : Prop := deriveMarginRow.holds Try.pinned (OpenSpec.ofChange deriveMarginSpec)

/-- ITS FALSE NEIGHBOUR: 'it returns false'. Refute it at one input. -/
def deriveMarginWrong : ChangeSpec := { name := "deriveMargin", fn := fun _ => fun
  | [d1, d2, d3, d4] => { results := [.lit (.bool false)], args := [d1, d2, d3, d4] }
  | _ => none }
def DeriveMarginWrongFalsely : Prop := deriveMarginRow.holds Try.pinned (OpenSpec.ofChange deriveMarginWrong)

/- THE SECOND FORM. 'bulk': how many values and letters a reading holds, each counted each time it is reached (what is shared counts as often as it is met; a slice's spare places count too). A statement '..UptoSaid' is the law's where the arguments, and the package variables that the reading takes, are together of bulk at most 1048576: NARROWER than '..Said'. Prove '..Said' where nothing that the law and all that it calls make is longer than what came in: it says more and counts as full. Else prove '..UptoSaid'. A law counts once. -/
mutual
def uptoBulk {H : Type} : DataW H → Nat
  | .lit (.string bytes) => bytes.length + 1
  | .lit _ => 1
  | .nil => 1
  | .ptr d => uptoBulk d + 1
  | .slice elems spare => uptoBulkAll elems + uptoBulkAll spare + 1
  | .agg parts => uptoBulkAll parts + 1
  | .iface _ d => uptoBulk d + 1
  | .map entries => uptoBulkEntries entries + 1
  | .held _ => 1
def uptoBulkAll {H : Type} : List (DataW H) → Nat
  | [] => 0
  | d :: r => uptoBulk d + uptoBulkAll r
def uptoBulkEntries {H : Type} : List (Lit × DataW H) → Nat
  | [] => 0
  | x :: r => uptoBulkEntry x + uptoBulkEntries r
def uptoBulkEntry {H : Type} : Lit × DataW H → Nat
  | (.string bytes, d) => bytes.length + uptoBulk d + 1
  | (_, d) => uptoBulk d + 1
 end
def uptoSmall : (H : Type) → List (DataW H) → Bool := fun _ ds => decide (uptoBulkAll ds ≤ 1048576)
def OpenSpec.upto (s : _root_.Go.ChangeSpec) : _root_.Go.OpenSpec := { _root_.Go.OpenSpec.ofChange s with cond := some uptoSmall }

/-- 'electionlaw34.DeriveRenames', WHERE WHAT IT READS IS OF BULK AT MOST 1048576: true; the input reads as it did. -/
def deriveRenamesUptoRow : OpenClaim := { program := "ytieoleabnjdkfaa", sum := "ba36025b9fbdc2aff3d016cddd56578fbac5d222f36dbfa359eb4fa533672359", func := "election/electionlaw34.DeriveRenames", spec := "deriveRenames", unfollowed := true, recurses := true, apart := false, narrowed := true }
def DeriveRenamesUptoSaid : Prop := deriveRenamesUptoRow.holds Try.pinned (OpenSpec.upto deriveRenamesSpec)

/-- 'electionlaw34.DeriveExists', WHERE WHAT IT READS IS OF BULK AT MOST 1048576: true; the input reads as it did. -/
def deriveExistsUptoRow : OpenClaim := { program := "ytieoleabnjdkfaa", sum := "ba36025b9fbdc2aff3d016cddd56578fbac5d222f36dbfa359eb4fa533672359", func := "election/electionlaw34.DeriveExists", spec := "deriveExists", unfollowed := true, recurses := true, apart := false, narrowed := true }
def DeriveExistsUptoSaid : Prop := deriveExistsUptoRow.holds Try.pinned (OpenSpec.upto deriveExistsSpec)

/-- 'electionlaw34.DeriveMargin', WHERE WHAT IT READS IS OF BULK AT MOST 1048576: true; the input reads as it did. -/
def deriveMarginUptoRow : OpenClaim := { program := "ytieoleabnjdkfaa", sum := "ba36025b9fbdc2aff3d016cddd56578fbac5d222f36dbfa359eb4fa533672359", func := "election/electionlaw34.DeriveMargin", spec := "deriveMargin", unfollowed := true, recurses := true, apart := false, narrowed := true }
def DeriveMarginUptoSaid : Prop := deriveMarginUptoRow.holds Try.pinned (OpenSpec.upto deriveMarginSpec)

end Rows
end Go.Proofs.Ytieoleabnjdkfaa
