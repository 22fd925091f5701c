/-
  No cell of these rows narrows 'for every input' (looked for: loops, veiled, ifaces, maps, wideKeys, modest, calm, conditions, laid).
  DERIVED. THE GIVEN ROWS OF THIS SEAT. 4 by the template 'for every input the law returns true; each argument reads behind the call as it read before'; 0 by the template 'total and deterministic' (their statements: YtieoleabnjdkfaaGreatTotals.lean).
  GIVEN WITH THE SEED: the statements are not yours to turn. If you find one false, say at which input.
  Laid BY PROGRAM, IN A SANDBOX (cutbox-rows.mjs): the forced cells as the released guide's own fill.sh prints them over the translation 6886ce7f259ba3f3… (all of the seat's roots in one cut). By AI agents, Wed Nov 11 2026. No macro, syntax, notation, axiom, sorry.
-/
import Derived.Test.YtieoleabnjdkfaaGreatChecked
import GoSem.Claim
import GoSem.ClaimJoined
import GoSem.ClaimMapViews
import Derived.JoinedTies
import Derived.KernelRfl
namespace Go.Proofs.YtieoleabnjdkfaaGreat
/- THE CELL 'sum', in the pinned program and in every row, IS THE sha256 OF THE DUMP (.gsa) THAT YtieoleabnjdkfaaGreatProg.lean LOADS. Nothing in Lean hashes anything: it is a label: what it is worth is what the hold of that sum in a sandbox is worth. -/
noncomputable def Tryz.pinned : Pinned := { name := "ytieoleabnjdkfaagreat", sum := "6886ce7f259ba3f34a14df58302a023dea64c1ff8932feb32f74df1fecde9ff3", checked := Tryz.checked }
namespace Rows
def none {H : Type} : Left H := { results := [], args := [] }

/-- 'electionlaw34.DeriveTells': WHATEVER THE INPUT: true; the input reads as it did. -/
def deriveTellsSpec : ChangeSpec := { name := "deriveTells", fn := fun _ => fun
  | [d1, d2, d3, d4, d5, d6] => { results := [.lit (.bool true)], args := [d1, d2, d3, d4, d5, d6] }
  | _ => none }
def deriveTellsRow : OpenClaim := { program := "ytieoleabnjdkfaagreat", sum := "6886ce7f259ba3f34a14df58302a023dea64c1ff8932feb32f74df1fecde9ff3", func := "election/electionlaw34.DeriveTells", spec := "deriveTells", unfollowed := true, recurses := true, apart := false }
def DeriveTellsSaid : Prop := deriveTellsRow.holds Tryz.pinned (OpenSpec.ofChange deriveTellsSpec)

/-- ITS FALSE NEIGHBOUR: 'it returns false'. Refute it at one input. -/
def deriveTellsWrong : ChangeSpec := { name := "deriveTells", fn := fun _ => fun
  | [d1, d2, d3, d4, d5, d6] => { results := [.lit (.bool false)], args := [d1, d2, d3, d4, d5, d6] }
  | _ => none }
def DeriveTellsWrongFalsely : Prop := deriveTellsRow.holds Tryz.pinned (OpenSpec.ofChange deriveTellsWrong)

/-- 'electionlaw34.DeriveBest': WHATEVER THE INPUT: true; the input reads as it did. -/
def deriveBestSpec : ChangeSpec := { name := "deriveBest", fn := fun _ => fun
  | [d1, d2, d3] => { results := [.lit (.bool true)], args := [d1, d2, d3] }
  | _ => none }
def deriveBestRow : OpenClaim := { program := "ytieoleabnjdkfaagreat", sum := "6886ce7f259ba3f34a14df58302a023dea64c1ff8932feb32f74df1fecde9ff3", func := "election/electionlaw34.DeriveBest", spec := "deriveBest", unfollowed := true, recurses := true, apart := false }
def DeriveBestSaid : Prop := deriveBestRow.holds Tryz.pinned (OpenSpec.ofChange deriveBestSpec)

/-- ITS FALSE NEIGHBOUR: 'it returns false'. Refute it at one input. -/
def deriveBestWrong : ChangeSpec := { name := "deriveBest", fn := fun _ => fun
  | [d1, d2, d3] => { results := [.lit (.bool false)], args := [d1, d2, d3] }
  | _ => none }
def DeriveBestWrongFalsely : Prop := deriveBestRow.holds Tryz.pinned (OpenSpec.ofChange deriveBestWrong)

/-- 'electionlaw34.DeriveHolds': WHATEVER THE INPUT: true; the input reads as it did. -/
def deriveHoldsSpec : ChangeSpec := { name := "deriveHolds", fn := fun _ => fun
  | [d1, d2, d3, d4, d5, d6] => { results := [.lit (.bool true)], args := [d1, d2, d3, d4, d5, d6] }
  | _ => none }
def deriveHoldsRow : OpenClaim := { program := "ytieoleabnjdkfaagreat", sum := "6886ce7f259ba3f34a14df58302a023dea64c1ff8932feb32f74df1fecde9ff3", func := "election/electionlaw34.DeriveHolds", spec := "deriveHolds", unfollowed := true, recurses := true, apart := false }
def DeriveHoldsSaid : Prop := deriveHoldsRow.holds Tryz.pinned (OpenSpec.ofChange deriveHoldsSpec)

/-- ITS FALSE NEIGHBOUR: 'it returns false'. Refute it at one input. -/
def deriveHoldsWrong : ChangeSpec := { name := "deriveHolds", fn := fun _ => fun
  | [d1, d2, d3, d4, d5, d6] => { results := [.lit (.bool false)], args := [d1, d2, d3, d4, d5, d6] }
  | _ => none }
def DeriveHoldsWrongFalsely : Prop := deriveHoldsRow.holds Tryz.pinned (OpenSpec.ofChange deriveHoldsWrong)

/-- 'electionlaw35.SufficeDerived': WHATEVER THE INPUT: true; the input reads as it did. -/
def sufficeDerivedSpec : ChangeSpec := { name := "sufficeDerived", fn := fun _ => fun
  | [d1, d2, d3, d4, d5, d6, d7] => { results := [.lit (.bool true)], args := [d1, d2, d3, d4, d5, d6, d7] }
  | _ => none }
def sufficeDerivedRow : OpenClaim := { program := "ytieoleabnjdkfaagreat", sum := "6886ce7f259ba3f34a14df58302a023dea64c1ff8932feb32f74df1fecde9ff3", func := "election/electionlaw35.SufficeDerived", spec := "sufficeDerived", unfollowed := true, recurses := true, apart := false }
def SufficeDerivedSaid : Prop := sufficeDerivedRow.holds Tryz.pinned (OpenSpec.ofChange sufficeDerivedSpec)

/-- ITS FALSE NEIGHBOUR: 'it returns false'. Refute it at one input. -/
def sufficeDerivedWrong : ChangeSpec := { name := "sufficeDerived", fn := fun _ => fun
  | [d1, d2, d3, d4, d5, d6, d7] => { results := [.lit (.bool false)], args := [d1, d2, d3, d4, d5, d6, d7] }
  | _ => none }
def SufficeDerivedWrongFalsely : Prop := sufficeDerivedRow.holds Tryz.pinned (OpenSpec.ofChange sufficeDerivedWrong)

/- THE SECOND FORM. 'bulk': how many values and letters a reading holds, each counted each time it is reached (what is shared counts as often as it is met; a slice's spare places count too). A statement '..UptoSaid' is the law's where the arguments, and the package variables that the reading takes, are together of bulk at most 1048576: NARROWER than '..Said'. Prove '..Said' where nothing that the law and all that it calls make is longer than what came in: it says more and counts as full. Else prove '..UptoSaid'. A law counts once. -/
mutual
def uptoBulk {H : Type} : DataW H → Nat
  | .lit (.string bytes) => bytes.length + 1
  | .lit _ => 1
  | .nil => 1
  | .ptr d => uptoBulk d + 1
  | .slice elems spare => uptoBulkAll elems + uptoBulkAll spare + 1
  | .agg parts => uptoBulkAll parts + 1
  | .iface _ d => uptoBulk d + 1
  | .map entries => uptoBulkEntries entries + 1
  | .held _ => 1
def uptoBulkAll {H : Type} : List (DataW H) → Nat
  | [] => 0
  | d :: r => uptoBulk d + uptoBulkAll r
def uptoBulkEntries {H : Type} : List (Lit × DataW H) → Nat
  | [] => 0
  | x :: r => uptoBulkEntry x + uptoBulkEntries r
def uptoBulkEntry {H : Type} : Lit × DataW H → Nat
  | (.string bytes, d) => bytes.length + uptoBulk d + 1
  | (_, d) => uptoBulk d + 1
 end
def uptoSmall : (H : Type) → List (DataW H) → Bool := fun _ ds => decide (uptoBulkAll ds ≤ 1048576)
def OpenSpec.upto (s : _root_.Go.ChangeSpec) : _root_.Go.OpenSpec := { _root_.Go.OpenSpec.ofChange s with cond := some uptoSmall }

/-- 'electionlaw34.DeriveTells', WHERE WHAT IT READS IS OF BULK AT MOST 1048576: true; the input reads as it did. -/
def deriveTellsUptoRow : OpenClaim := { program := "ytieoleabnjdkfaagreat", sum := "6886ce7f259ba3f34a14df58302a023dea64c1ff8932feb32f74df1fecde9ff3", func := "election/electionlaw34.DeriveTells", spec := "deriveTells", unfollowed := true, recurses := true, apart := false, narrowed := true }
def DeriveTellsUptoSaid : Prop := deriveTellsUptoRow.holds Tryz.pinned (OpenSpec.upto deriveTellsSpec)

/-- 'electionlaw34.DeriveBest', WHERE WHAT IT READS IS OF BULK AT MOST 1048576: true; the input reads as it did. -/
def deriveBestUptoRow : OpenClaim := { program := "ytieoleabnjdkfaagreat", sum := "6886ce7f259ba3f34a14df58302a023dea64c1ff8932feb32f74df1fecde9ff3", func := "election/electionlaw34.DeriveBest", spec := "deriveBest", unfollowed := true, recurses := true, apart := false, narrowed := true }
def DeriveBestUptoSaid : Prop := deriveBestUptoRow.holds Tryz.pinned (OpenSpec.upto deriveBestSpec)

/-- 'electionlaw34.DeriveHolds', WHERE WHAT IT READS IS OF BULK AT MOST 1048576: true; the input reads as it did. -/
def deriveHoldsUptoRow : OpenClaim := { program := "ytieoleabnjdkfaagreat", sum := "6886ce7f259ba3f34a14df58302a023dea64c1ff8932feb32f74df1fecde9ff3", func := "election/electionlaw34.DeriveHolds", spec := "deriveHolds", unfollowed := true, recurses := true, apart := false, narrowed := true }
def DeriveHoldsUptoSaid : Prop := deriveHoldsUptoRow.holds Tryz.pinned (OpenSpec.upto deriveHoldsSpec)

/-- 'electionlaw35.SufficeDerived', WHERE WHAT IT READS IS OF BULK AT MOST 1048576: true; the input reads as it did. -/
def sufficeDerivedUptoRow : OpenClaim := { program := "ytieoleabnjdkfaagreat", sum := "6886ce7f259ba3f34a14df58302a023dea64c1ff8932feb32f74df1fecde9ff3", func := "election/electionlaw35.SufficeDerived", spec := "sufficeDerived", unfollowed := true, recurses := true, apart := false, narrowed := true }
def SufficeDerivedUptoSaid : Prop := sufficeDerivedUptoRow.holds Tryz.pinned (OpenSpec.upto sufficeDerivedSpec)

end Rows
end Go.Proofs.YtieoleabnjdkfaaGreat
