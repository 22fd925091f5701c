/-
  No cell of these rows narrows 'for every input' (looked for: loops, veiled, ifaces, maps, wideKeys, modest, calm, conditions, laid).
  DERIVED. THE GIVEN ROWS OF THIS SEAT. 16 by the template 'for every input the law returns true; each argument reads behind the call as it read before'; 0 by the template 'total and deterministic' (their statements: YtmipjomnjkmdbaaGreatTotals.lean).
  GIVEN WITH THE SEED: the statements are not yours to turn. If you find one false, say at which input.
  Laid BY PROGRAM, IN A SANDBOX (cutbox-rows.mjs): the forced cells as the released guide's own fill.sh prints them over the translation 0b816bedd24c6cdd… (all of the seat's roots in one cut). By AI agents, Wed Nov 11 2026. No macro, syntax, notation, axiom, sorry.
-/
import Derived.Test.YtmipjomnjkmdbaaGreatChecked
import GoSem.Claim
import GoSem.ClaimJoined
import GoSem.ClaimMapViews
import Derived.JoinedTies
import Derived.KernelRfl
namespace Go.Proofs.YtmipjomnjkmdbaaGreat
/- THE CELL 'sum', in the pinned program and in every row, IS THE sha256 OF THE DUMP (.gsa) THAT YtmipjomnjkmdbaaGreatProg.lean LOADS. Nothing in Lean hashes anything: it is a label: what it is worth is what the hold of that sum in a sandbox is worth. -/
noncomputable def Tryz.pinned : Pinned := { name := "ytmipjomnjkmdbaagreat", sum := "0b816bedd24c6cdd45a1b3640fd695412be7498567d786f54dd8c248d70bccf0", checked := Tryz.checked }
namespace Rows
def none {H : Type} : Left H := { results := [], args := [] }

/-- 'electionlaw28.GregoryCounts': WHATEVER THE INPUT: true; the input reads as it did. -/
def gregoryCountsSpec : ChangeSpec := { name := "gregoryCounts", fn := fun _ => fun
  | [d1, d2, d3, d4, d5, d6, d7] => { results := [.lit (.bool true)], args := [d1, d2, d3, d4, d5, d6, d7] }
  | _ => none }
def gregoryCountsRow : OpenClaim := { program := "ytmipjomnjkmdbaagreat", sum := "0b816bedd24c6cdd45a1b3640fd695412be7498567d786f54dd8c248d70bccf0", func := "election/electionlaw28.GregoryCounts", spec := "gregoryCounts", unfollowed := true, recurses := true, apart := false }
def GregoryCountsSaid : Prop := gregoryCountsRow.holds Tryz.pinned (OpenSpec.ofChange gregoryCountsSpec)

/-- ITS FALSE NEIGHBOUR: 'it returns false'. Refute it at one input. -/
def gregoryCountsWrong : ChangeSpec := { name := "gregoryCounts", fn := fun _ => fun
  | [d1, d2, d3, d4, d5, d6, d7] => { results := [.lit (.bool false)], args := [d1, d2, d3, d4, d5, d6, d7] }
  | _ => none }
def GregoryCountsWrongFalsely : Prop := gregoryCountsRow.holds Tryz.pinned (OpenSpec.ofChange gregoryCountsWrong)

/-- 'electionlaw28.GregoryQuota': WHATEVER THE INPUT: true; the input reads as it did. -/
def gregoryQuotaSpec : ChangeSpec := { name := "gregoryQuota", fn := fun _ => fun
  | [d1, d2] => { results := [.lit (.bool true)], args := [d1, d2] }
  | _ => none }
def gregoryQuotaRow : OpenClaim := { program := "ytmipjomnjkmdbaagreat", sum := "0b816bedd24c6cdd45a1b3640fd695412be7498567d786f54dd8c248d70bccf0", func := "election/electionlaw28.GregoryQuota", spec := "gregoryQuota", unfollowed := true, recurses := true, apart := false }
def GregoryQuotaSaid : Prop := gregoryQuotaRow.holds Tryz.pinned (OpenSpec.ofChange gregoryQuotaSpec)

/-- ITS FALSE NEIGHBOUR: 'it returns false'. Refute it at one input. -/
def gregoryQuotaWrong : ChangeSpec := { name := "gregoryQuota", fn := fun _ => fun
  | [d1, d2] => { results := [.lit (.bool false)], args := [d1, d2] }
  | _ => none }
def GregoryQuotaWrongFalsely : Prop := gregoryQuotaRow.holds Tryz.pinned (OpenSpec.ofChange gregoryQuotaWrong)

/-- 'electionlaw28.GregorySums': WHATEVER THE INPUT: true; the input reads as it did. -/
def gregorySumsSpec : ChangeSpec := { name := "gregorySums", fn := fun _ => fun
  | [d1, d2, d3, d4, d5] => { results := [.lit (.bool true)], args := [d1, d2, d3, d4, d5] }
  | _ => none }
def gregorySumsRow : OpenClaim := { program := "ytmipjomnjkmdbaagreat", sum := "0b816bedd24c6cdd45a1b3640fd695412be7498567d786f54dd8c248d70bccf0", func := "election/electionlaw28.GregorySums", spec := "gregorySums", unfollowed := true, recurses := true, apart := false }
def GregorySumsSaid : Prop := gregorySumsRow.holds Tryz.pinned (OpenSpec.ofChange gregorySumsSpec)

/-- ITS FALSE NEIGHBOUR: 'it returns false'. Refute it at one input. -/
def gregorySumsWrong : ChangeSpec := { name := "gregorySums", fn := fun _ => fun
  | [d1, d2, d3, d4, d5] => { results := [.lit (.bool false)], args := [d1, d2, d3, d4, d5] }
  | _ => none }
def GregorySumsWrongFalsely : Prop := gregorySumsRow.holds Tryz.pinned (OpenSpec.ofChange gregorySumsWrong)

/-- 'electionlaw28.GregoryKeeps': WHATEVER THE INPUT: true; the input reads as it did. -/
def gregoryKeepsSpec : ChangeSpec := { name := "gregoryKeeps", fn := fun _ => fun
  | [d1, d2, d3, d4, d5] => { results := [.lit (.bool true)], args := [d1, d2, d3, d4, d5] }
  | _ => none }
def gregoryKeepsRow : OpenClaim := { program := "ytmipjomnjkmdbaagreat", sum := "0b816bedd24c6cdd45a1b3640fd695412be7498567d786f54dd8c248d70bccf0", func := "election/electionlaw28.GregoryKeeps", spec := "gregoryKeeps", unfollowed := true, recurses := true, apart := false }
def GregoryKeepsSaid : Prop := gregoryKeepsRow.holds Tryz.pinned (OpenSpec.ofChange gregoryKeepsSpec)

/-- ITS FALSE NEIGHBOUR: 'it returns false'. Refute it at one input. -/
def gregoryKeepsWrong : ChangeSpec := { name := "gregoryKeeps", fn := fun _ => fun
  | [d1, d2, d3, d4, d5] => { results := [.lit (.bool false)], args := [d1, d2, d3, d4, d5] }
  | _ => none }
def GregoryKeepsWrongFalsely : Prop := gregoryKeepsRow.holds Tryz.pinned (OpenSpec.ofChange gregoryKeepsWrong)

/-- 'electionlaw28.GregoryRenames': WHATEVER THE INPUT: true; the input reads as it did. -/
def gregoryRenamesSpec : ChangeSpec := { name := "gregoryRenames", fn := fun _ => fun
  | [d1, d2, d3, d4, d5, d6] => { results := [.lit (.bool true)], args := [d1, d2, d3, d4, d5, d6] }
  | _ => none }
def gregoryRenamesRow : OpenClaim := { program := "ytmipjomnjkmdbaagreat", sum := "0b816bedd24c6cdd45a1b3640fd695412be7498567d786f54dd8c248d70bccf0", func := "election/electionlaw28.GregoryRenames", spec := "gregoryRenames", unfollowed := true, recurses := true, apart := false }
def GregoryRenamesSaid : Prop := gregoryRenamesRow.holds Tryz.pinned (OpenSpec.ofChange gregoryRenamesSpec)

/-- ITS FALSE NEIGHBOUR: 'it returns false'. Refute it at one input. -/
def gregoryRenamesWrong : ChangeSpec := { name := "gregoryRenames", fn := fun _ => fun
  | [d1, d2, d3, d4, d5, d6] => { results := [.lit (.bool false)], args := [d1, d2, d3, d4, d5, d6] }
  | _ => none }
def GregoryRenamesWrongFalsely : Prop := gregoryRenamesRow.holds Tryz.pinned (OpenSpec.ofChange gregoryRenamesWrong)

/-- 'electionlaw28.GregoryCoalition': WHATEVER THE INPUT: true; the input reads as it did. -/
def gregoryCoalitionSpec : ChangeSpec := { name := "gregoryCoalition", fn := fun _ => fun
  | [d1, d2, d3, d4, d5, d6, d7] => { results := [.lit (.bool true)], args := [d1, d2, d3, d4, d5, d6, d7] }
  | _ => none }
def gregoryCoalitionRow : OpenClaim := { program := "ytmipjomnjkmdbaagreat", sum := "0b816bedd24c6cdd45a1b3640fd695412be7498567d786f54dd8c248d70bccf0", func := "election/electionlaw28.GregoryCoalition", spec := "gregoryCoalition", unfollowed := true, recurses := true, apart := false }
def GregoryCoalitionSaid : Prop := gregoryCoalitionRow.holds Tryz.pinned (OpenSpec.ofChange gregoryCoalitionSpec)

/-- ITS FALSE NEIGHBOUR: 'it returns false'. Refute it at one input. -/
def gregoryCoalitionWrong : ChangeSpec := { name := "gregoryCoalition", fn := fun _ => fun
  | [d1, d2, d3, d4, d5, d6, d7] => { results := [.lit (.bool false)], args := [d1, d2, d3, d4, d5, d6, d7] }
  | _ => none }
def GregoryCoalitionWrongFalsely : Prop := gregoryCoalitionRow.holds Tryz.pinned (OpenSpec.ofChange gregoryCoalitionWrong)

/-- 'electionlaw28.GregoryFirst': WHATEVER THE INPUT: true; the input reads as it did. -/
def gregoryFirstSpec : ChangeSpec := { name := "gregoryFirst", fn := fun _ => fun
  | [d1, d2, d3, d4, d5] => { results := [.lit (.bool true)], args := [d1, d2, d3, d4, d5] }
  | _ => none }
def gregoryFirstRow : OpenClaim := { program := "ytmipjomnjkmdbaagreat", sum := "0b816bedd24c6cdd45a1b3640fd695412be7498567d786f54dd8c248d70bccf0", func := "election/electionlaw28.GregoryFirst", spec := "gregoryFirst", unfollowed := true, recurses := true, apart := false }
def GregoryFirstSaid : Prop := gregoryFirstRow.holds Tryz.pinned (OpenSpec.ofChange gregoryFirstSpec)

/-- ITS FALSE NEIGHBOUR: 'it returns false'. Refute it at one input. -/
def gregoryFirstWrong : ChangeSpec := { name := "gregoryFirst", fn := fun _ => fun
  | [d1, d2, d3, d4, d5] => { results := [.lit (.bool false)], args := [d1, d2, d3, d4, d5] }
  | _ => none }
def GregoryFirstWrongFalsely : Prop := gregoryFirstRow.holds Tryz.pinned (OpenSpec.ofChange gregoryFirstWrong)

/-- 'electionlaw28.GregorySingle': WHATEVER THE INPUT: true; the input reads as it did. -/
def gregorySingleSpec : ChangeSpec := { name := "gregorySingle", fn := fun _ => fun
  | [d1, d2, d3, d4] => { results := [.lit (.bool true)], args := [d1, d2, d3, d4] }
  | _ => none }
def gregorySingleRow : OpenClaim := { program := "ytmipjomnjkmdbaagreat", sum := "0b816bedd24c6cdd45a1b3640fd695412be7498567d786f54dd8c248d70bccf0", func := "election/electionlaw28.GregorySingle", spec := "gregorySingle", unfollowed := true, recurses := true, apart := false }
def GregorySingleSaid : Prop := gregorySingleRow.holds Tryz.pinned (OpenSpec.ofChange gregorySingleSpec)

/-- ITS FALSE NEIGHBOUR: 'it returns false'. Refute it at one input. -/
def gregorySingleWrong : ChangeSpec := { name := "gregorySingle", fn := fun _ => fun
  | [d1, d2, d3, d4] => { results := [.lit (.bool false)], args := [d1, d2, d3, d4] }
  | _ => none }
def GregorySingleWrongFalsely : Prop := gregorySingleRow.holds Tryz.pinned (OpenSpec.ofChange gregorySingleWrong)

/-- 'electionlaw27.MeekCounts': WHATEVER THE INPUT: true; the input reads as it did. -/
def meekCountsSpec : ChangeSpec := { name := "meekCounts", fn := fun _ => fun
  | [d1, d2, d3, d4, d5, d6, d7] => { results := [.lit (.bool true)], args := [d1, d2, d3, d4, d5, d6, d7] }
  | _ => none }
def meekCountsRow : OpenClaim := { program := "ytmipjomnjkmdbaagreat", sum := "0b816bedd24c6cdd45a1b3640fd695412be7498567d786f54dd8c248d70bccf0", func := "election/electionlaw27.MeekCounts", spec := "meekCounts", unfollowed := true, recurses := true, apart := false }
def MeekCountsSaid : Prop := meekCountsRow.holds Tryz.pinned (OpenSpec.ofChange meekCountsSpec)

/-- ITS FALSE NEIGHBOUR: 'it returns false'. Refute it at one input. -/
def meekCountsWrong : ChangeSpec := { name := "meekCounts", fn := fun _ => fun
  | [d1, d2, d3, d4, d5, d6, d7] => { results := [.lit (.bool false)], args := [d1, d2, d3, d4, d5, d6, d7] }
  | _ => none }
def MeekCountsWrongFalsely : Prop := meekCountsRow.holds Tryz.pinned (OpenSpec.ofChange meekCountsWrong)

/-- 'electionlaw27.MeekDistributes': WHATEVER THE INPUT: true; the input reads as it did. -/
def meekDistributesSpec : ChangeSpec := { name := "meekDistributes", fn := fun _ => fun
  | [d1, d2, d3, d4, d5] => { results := [.lit (.bool true)], args := [d1, d2, d3, d4, d5] }
  | _ => none }
def meekDistributesRow : OpenClaim := { program := "ytmipjomnjkmdbaagreat", sum := "0b816bedd24c6cdd45a1b3640fd695412be7498567d786f54dd8c248d70bccf0", func := "election/electionlaw27.MeekDistributes", spec := "meekDistributes", unfollowed := true, recurses := true, apart := false }
def MeekDistributesSaid : Prop := meekDistributesRow.holds Tryz.pinned (OpenSpec.ofChange meekDistributesSpec)

/-- ITS FALSE NEIGHBOUR: 'it returns false'. Refute it at one input. -/
def meekDistributesWrong : ChangeSpec := { name := "meekDistributes", fn := fun _ => fun
  | [d1, d2, d3, d4, d5] => { results := [.lit (.bool false)], args := [d1, d2, d3, d4, d5] }
  | _ => none }
def MeekDistributesWrongFalsely : Prop := meekDistributesRow.holds Tryz.pinned (OpenSpec.ofChange meekDistributesWrong)

/-- 'electionlaw27.MeekSums': WHATEVER THE INPUT: true; the input reads as it did. -/
def meekSumsSpec : ChangeSpec := { name := "meekSums", fn := fun _ => fun
  | [d1, d2, d3, d4, d5, d6] => { results := [.lit (.bool true)], args := [d1, d2, d3, d4, d5, d6] }
  | _ => none }
def meekSumsRow : OpenClaim := { program := "ytmipjomnjkmdbaagreat", sum := "0b816bedd24c6cdd45a1b3640fd695412be7498567d786f54dd8c248d70bccf0", func := "election/electionlaw27.MeekSums", spec := "meekSums", unfollowed := true, recurses := true, apart := false }
def MeekSumsSaid : Prop := meekSumsRow.holds Tryz.pinned (OpenSpec.ofChange meekSumsSpec)

/-- ITS FALSE NEIGHBOUR: 'it returns false'. Refute it at one input. -/
def meekSumsWrong : ChangeSpec := { name := "meekSums", fn := fun _ => fun
  | [d1, d2, d3, d4, d5, d6] => { results := [.lit (.bool false)], args := [d1, d2, d3, d4, d5, d6] }
  | _ => none }
def MeekSumsWrongFalsely : Prop := meekSumsRow.holds Tryz.pinned (OpenSpec.ofChange meekSumsWrong)

/-- 'electionlaw27.MeekKeeps': WHATEVER THE INPUT: true; the input reads as it did. -/
def meekKeepsSpec : ChangeSpec := { name := "meekKeeps", fn := fun _ => fun
  | [d1, d2, d3, d4, d5, d6] => { results := [.lit (.bool true)], args := [d1, d2, d3, d4, d5, d6] }
  | _ => none }
def meekKeepsRow : OpenClaim := { program := "ytmipjomnjkmdbaagreat", sum := "0b816bedd24c6cdd45a1b3640fd695412be7498567d786f54dd8c248d70bccf0", func := "election/electionlaw27.MeekKeeps", spec := "meekKeeps", unfollowed := true, recurses := true, apart := false }
def MeekKeepsSaid : Prop := meekKeepsRow.holds Tryz.pinned (OpenSpec.ofChange meekKeepsSpec)

/-- ITS FALSE NEIGHBOUR: 'it returns false'. Refute it at one input. -/
def meekKeepsWrong : ChangeSpec := { name := "meekKeeps", fn := fun _ => fun
  | [d1, d2, d3, d4, d5, d6] => { results := [.lit (.bool false)], args := [d1, d2, d3, d4, d5, d6] }
  | _ => none }
def MeekKeepsWrongFalsely : Prop := meekKeepsRow.holds Tryz.pinned (OpenSpec.ofChange meekKeepsWrong)

/-- 'electionlaw27.MeekRenames': WHATEVER THE INPUT: true; the input reads as it did. -/
def meekRenamesSpec : ChangeSpec := { name := "meekRenames", fn := fun _ => fun
  | [d1, d2, d3, d4, d5, d6, d7] => { results := [.lit (.bool true)], args := [d1, d2, d3, d4, d5, d6, d7] }
  | _ => none }
def meekRenamesRow : OpenClaim := { program := "ytmipjomnjkmdbaagreat", sum := "0b816bedd24c6cdd45a1b3640fd695412be7498567d786f54dd8c248d70bccf0", func := "election/electionlaw27.MeekRenames", spec := "meekRenames", unfollowed := true, recurses := true, apart := false }
def MeekRenamesSaid : Prop := meekRenamesRow.holds Tryz.pinned (OpenSpec.ofChange meekRenamesSpec)

/-- ITS FALSE NEIGHBOUR: 'it returns false'. Refute it at one input. -/
def meekRenamesWrong : ChangeSpec := { name := "meekRenames", fn := fun _ => fun
  | [d1, d2, d3, d4, d5, d6, d7] => { results := [.lit (.bool false)], args := [d1, d2, d3, d4, d5, d6, d7] }
  | _ => none }
def MeekRenamesWrongFalsely : Prop := meekRenamesRow.holds Tryz.pinned (OpenSpec.ofChange meekRenamesWrong)

/-- 'electionlaw27.MeekLast': WHATEVER THE INPUT: true; the input reads as it did. -/
def meekLastSpec : ChangeSpec := { name := "meekLast", fn := fun _ => fun
  | [d1, d2, d3, d4, d5, d6] => { results := [.lit (.bool true)], args := [d1, d2, d3, d4, d5, d6] }
  | _ => none }
def meekLastRow : OpenClaim := { program := "ytmipjomnjkmdbaagreat", sum := "0b816bedd24c6cdd45a1b3640fd695412be7498567d786f54dd8c248d70bccf0", func := "election/electionlaw27.MeekLast", spec := "meekLast", unfollowed := true, recurses := true, apart := false }
def MeekLastSaid : Prop := meekLastRow.holds Tryz.pinned (OpenSpec.ofChange meekLastSpec)

/-- ITS FALSE NEIGHBOUR: 'it returns false'. Refute it at one input. -/
def meekLastWrong : ChangeSpec := { name := "meekLast", fn := fun _ => fun
  | [d1, d2, d3, d4, d5, d6] => { results := [.lit (.bool false)], args := [d1, d2, d3, d4, d5, d6] }
  | _ => none }
def MeekLastWrongFalsely : Prop := meekLastRow.holds Tryz.pinned (OpenSpec.ofChange meekLastWrong)

/-- 'electionlaw27.MeekFirst': WHATEVER THE INPUT: true; the input reads as it did. -/
def meekFirstSpec : ChangeSpec := { name := "meekFirst", fn := fun _ => fun
  | [d1, d2, d3, d4, d5, d6] => { results := [.lit (.bool true)], args := [d1, d2, d3, d4, d5, d6] }
  | _ => none }
def meekFirstRow : OpenClaim := { program := "ytmipjomnjkmdbaagreat", sum := "0b816bedd24c6cdd45a1b3640fd695412be7498567d786f54dd8c248d70bccf0", func := "election/electionlaw27.MeekFirst", spec := "meekFirst", unfollowed := true, recurses := true, apart := false }
def MeekFirstSaid : Prop := meekFirstRow.holds Tryz.pinned (OpenSpec.ofChange meekFirstSpec)

/-- ITS FALSE NEIGHBOUR: 'it returns false'. Refute it at one input. -/
def meekFirstWrong : ChangeSpec := { name := "meekFirst", fn := fun _ => fun
  | [d1, d2, d3, d4, d5, d6] => { results := [.lit (.bool false)], args := [d1, d2, d3, d4, d5, d6] }
  | _ => none }
def MeekFirstWrongFalsely : Prop := meekFirstRow.holds Tryz.pinned (OpenSpec.ofChange meekFirstWrong)

/-- 'electionlaw27.MeekSingle': WHATEVER THE INPUT: true; the input reads as it did. -/
def meekSingleSpec : ChangeSpec := { name := "meekSingle", fn := fun _ => fun
  | [d1, d2, d3, d4, d5] => { results := [.lit (.bool true)], args := [d1, d2, d3, d4, d5] }
  | _ => none }
def meekSingleRow : OpenClaim := { program := "ytmipjomnjkmdbaagreat", sum := "0b816bedd24c6cdd45a1b3640fd695412be7498567d786f54dd8c248d70bccf0", func := "election/electionlaw27.MeekSingle", spec := "meekSingle", unfollowed := true, recurses := true, apart := false }
def MeekSingleSaid : Prop := meekSingleRow.holds Tryz.pinned (OpenSpec.ofChange meekSingleSpec)

/-- ITS FALSE NEIGHBOUR: 'it returns false'. Refute it at one input. -/
def meekSingleWrong : ChangeSpec := { name := "meekSingle", fn := fun _ => fun
  | [d1, d2, d3, d4, d5] => { results := [.lit (.bool false)], args := [d1, d2, d3, d4, d5] }
  | _ => none }
def MeekSingleWrongFalsely : Prop := meekSingleRow.holds Tryz.pinned (OpenSpec.ofChange meekSingleWrong)

/- THE SECOND FORM. 'bulk': how many values and letters a reading holds, each counted each time it is reached (what is shared counts as often as it is met; a slice's spare places count too). A statement '..UptoSaid' is the law's where the arguments, and the package variables that the reading takes, are together of bulk at most 1048576: NARROWER than '..Said'. Prove '..Said' where nothing that the law and all that it calls make is longer than what came in: it says more and counts as full. Else prove '..UptoSaid'. A law counts once. -/
mutual
def uptoBulk {H : Type} : DataW H → Nat
  | .lit (.string bytes) => bytes.length + 1
  | .lit _ => 1
  | .nil => 1
  | .ptr d => uptoBulk d + 1
  | .slice elems spare => uptoBulkAll elems + uptoBulkAll spare + 1
  | .agg parts => uptoBulkAll parts + 1
  | .iface _ d => uptoBulk d + 1
  | .map entries => uptoBulkEntries entries + 1
  | .held _ => 1
def uptoBulkAll {H : Type} : List (DataW H) → Nat
  | [] => 0
  | d :: r => uptoBulk d + uptoBulkAll r
def uptoBulkEntries {H : Type} : List (Lit × DataW H) → Nat
  | [] => 0
  | x :: r => uptoBulkEntry x + uptoBulkEntries r
def uptoBulkEntry {H : Type} : Lit × DataW H → Nat
  | (.string bytes, d) => bytes.length + uptoBulk d + 1
  | (_, d) => uptoBulk d + 1
 end
def uptoSmall : (H : Type) → List (DataW H) → Bool := fun _ ds => decide (uptoBulkAll ds ≤ 1048576)
def OpenSpec.upto (s : _root_.Go.ChangeSpec) : _root_.Go.OpenSpec := { _root_.Go.OpenSpec.ofChange s with cond := some uptoSmall }

/-- 'electionlaw28.GregoryCounts', WHERE WHAT IT READS IS OF BULK AT MOST 1048576: true; the input reads as it did. -/
def gregoryCountsUptoRow : OpenClaim := { program := "ytmipjomnjkmdbaagreat", sum := "0b816bedd24c6cdd45a1b3640fd695412be7498567d786f54dd8c248d70bccf0", func := "election/electionlaw28.GregoryCounts", spec := "gregoryCounts", unfollowed := true, recurses := true, apart := false, narrowed := true }
def GregoryCountsUptoSaid : Prop := gregoryCountsUptoRow.holds Tryz.pinned (OpenSpec.upto gregoryCountsSpec)

/-- 'electionlaw28.GregoryQuota', WHERE WHAT IT READS IS OF BULK AT MOST 1048576: true; the input reads as it did. -/
def gregoryQuotaUptoRow : OpenClaim := { program := "ytmipjomnjkmdbaagreat", sum := "0b816bedd24c6cdd45a1b3640fd695412be7498567d786f54dd8c248d70bccf0", func := "election/electionlaw28.GregoryQuota", spec := "gregoryQuota", unfollowed := true, recurses := true, apart := false, narrowed := true }
def GregoryQuotaUptoSaid : Prop := gregoryQuotaUptoRow.holds Tryz.pinned (OpenSpec.upto gregoryQuotaSpec)

/-- 'electionlaw28.GregorySums', WHERE WHAT IT READS IS OF BULK AT MOST 1048576: true; the input reads as it did. -/
def gregorySumsUptoRow : OpenClaim := { program := "ytmipjomnjkmdbaagreat", sum := "0b816bedd24c6cdd45a1b3640fd695412be7498567d786f54dd8c248d70bccf0", func := "election/electionlaw28.GregorySums", spec := "gregorySums", unfollowed := true, recurses := true, apart := false, narrowed := true }
def GregorySumsUptoSaid : Prop := gregorySumsUptoRow.holds Tryz.pinned (OpenSpec.upto gregorySumsSpec)

/-- 'electionlaw28.GregoryKeeps', WHERE WHAT IT READS IS OF BULK AT MOST 1048576: true; the input reads as it did. -/
def gregoryKeepsUptoRow : OpenClaim := { program := "ytmipjomnjkmdbaagreat", sum := "0b816bedd24c6cdd45a1b3640fd695412be7498567d786f54dd8c248d70bccf0", func := "election/electionlaw28.GregoryKeeps", spec := "gregoryKeeps", unfollowed := true, recurses := true, apart := false, narrowed := true }
def GregoryKeepsUptoSaid : Prop := gregoryKeepsUptoRow.holds Tryz.pinned (OpenSpec.upto gregoryKeepsSpec)

/-- 'electionlaw28.GregoryRenames', WHERE WHAT IT READS IS OF BULK AT MOST 1048576: true; the input reads as it did. -/
def gregoryRenamesUptoRow : OpenClaim := { program := "ytmipjomnjkmdbaagreat", sum := "0b816bedd24c6cdd45a1b3640fd695412be7498567d786f54dd8c248d70bccf0", func := "election/electionlaw28.GregoryRenames", spec := "gregoryRenames", unfollowed := true, recurses := true, apart := false, narrowed := true }
def GregoryRenamesUptoSaid : Prop := gregoryRenamesUptoRow.holds Tryz.pinned (OpenSpec.upto gregoryRenamesSpec)

/-- 'electionlaw28.GregoryCoalition', WHERE WHAT IT READS IS OF BULK AT MOST 1048576: true; the input reads as it did. -/
def gregoryCoalitionUptoRow : OpenClaim := { program := "ytmipjomnjkmdbaagreat", sum := "0b816bedd24c6cdd45a1b3640fd695412be7498567d786f54dd8c248d70bccf0", func := "election/electionlaw28.GregoryCoalition", spec := "gregoryCoalition", unfollowed := true, recurses := true, apart := false, narrowed := true }
def GregoryCoalitionUptoSaid : Prop := gregoryCoalitionUptoRow.holds Tryz.pinned (OpenSpec.upto gregoryCoalitionSpec)

/-- 'electionlaw28.GregoryFirst', WHERE WHAT IT READS IS OF BULK AT MOST 1048576: true; the input reads as it did. -/
def gregoryFirstUptoRow : OpenClaim := { program := "ytmipjomnjkmdbaagreat", sum := "0b816bedd24c6cdd45a1b3640fd695412be7498567d786f54dd8c248d70bccf0", func := "election/electionlaw28.GregoryFirst", spec := "gregoryFirst", unfollowed := true, recurses := true, apart := false, narrowed := true }
def GregoryFirstUptoSaid : Prop := gregoryFirstUptoRow.holds Tryz.pinned (OpenSpec.upto gregoryFirstSpec)

/-- 'electionlaw28.GregorySingle', WHERE WHAT IT READS IS OF BULK AT MOST 1048576: true; the input reads as it did. -/
def gregorySingleUptoRow : OpenClaim := { program := "ytmipjomnjkmdbaagreat", sum := "0b816bedd24c6cdd45a1b3640fd695412be7498567d786f54dd8c248d70bccf0", func := "election/electionlaw28.GregorySingle", spec := "gregorySingle", unfollowed := true, recurses := true, apart := false, narrowed := true }
def GregorySingleUptoSaid : Prop := gregorySingleUptoRow.holds Tryz.pinned (OpenSpec.upto gregorySingleSpec)

/-- 'electionlaw27.MeekCounts', WHERE WHAT IT READS IS OF BULK AT MOST 1048576: true; the input reads as it did. -/
def meekCountsUptoRow : OpenClaim := { program := "ytmipjomnjkmdbaagreat", sum := "0b816bedd24c6cdd45a1b3640fd695412be7498567d786f54dd8c248d70bccf0", func := "election/electionlaw27.MeekCounts", spec := "meekCounts", unfollowed := true, recurses := true, apart := false, narrowed := true }
def MeekCountsUptoSaid : Prop := meekCountsUptoRow.holds Tryz.pinned (OpenSpec.upto meekCountsSpec)

/-- 'electionlaw27.MeekDistributes', WHERE WHAT IT READS IS OF BULK AT MOST 1048576: true; the input reads as it did. -/
def meekDistributesUptoRow : OpenClaim := { program := "ytmipjomnjkmdbaagreat", sum := "0b816bedd24c6cdd45a1b3640fd695412be7498567d786f54dd8c248d70bccf0", func := "election/electionlaw27.MeekDistributes", spec := "meekDistributes", unfollowed := true, recurses := true, apart := false, narrowed := true }
def MeekDistributesUptoSaid : Prop := meekDistributesUptoRow.holds Tryz.pinned (OpenSpec.upto meekDistributesSpec)

/-- 'electionlaw27.MeekSums', WHERE WHAT IT READS IS OF BULK AT MOST 1048576: true; the input reads as it did. -/
def meekSumsUptoRow : OpenClaim := { program := "ytmipjomnjkmdbaagreat", sum := "0b816bedd24c6cdd45a1b3640fd695412be7498567d786f54dd8c248d70bccf0", func := "election/electionlaw27.MeekSums", spec := "meekSums", unfollowed := true, recurses := true, apart := false, narrowed := true }
def MeekSumsUptoSaid : Prop := meekSumsUptoRow.holds Tryz.pinned (OpenSpec.upto meekSumsSpec)

/-- 'electionlaw27.MeekKeeps', WHERE WHAT IT READS IS OF BULK AT MOST 1048576: true; the input reads as it did. -/
def meekKeepsUptoRow : OpenClaim := { program := "ytmipjomnjkmdbaagreat", sum := "0b816bedd24c6cdd45a1b3640fd695412be7498567d786f54dd8c248d70bccf0", func := "election/electionlaw27.MeekKeeps", spec := "meekKeeps", unfollowed := true, recurses := true, apart := false, narrowed := true }
def MeekKeepsUptoSaid : Prop := meekKeepsUptoRow.holds Tryz.pinned (OpenSpec.upto meekKeepsSpec)

/-- 'electionlaw27.MeekRenames', WHERE WHAT IT READS IS OF BULK AT MOST 1048576: true; the input reads as it did. -/
def meekRenamesUptoRow : OpenClaim := { program := "ytmipjomnjkmdbaagreat", sum := "0b816bedd24c6cdd45a1b3640fd695412be7498567d786f54dd8c248d70bccf0", func := "election/electionlaw27.MeekRenames", spec := "meekRenames", unfollowed := true, recurses := true, apart := false, narrowed := true }
def MeekRenamesUptoSaid : Prop := meekRenamesUptoRow.holds Tryz.pinned (OpenSpec.upto meekRenamesSpec)

/-- 'electionlaw27.MeekLast', WHERE WHAT IT READS IS OF BULK AT MOST 1048576: true; the input reads as it did. -/
def meekLastUptoRow : OpenClaim := { program := "ytmipjomnjkmdbaagreat", sum := "0b816bedd24c6cdd45a1b3640fd695412be7498567d786f54dd8c248d70bccf0", func := "election/electionlaw27.MeekLast", spec := "meekLast", unfollowed := true, recurses := true, apart := false, narrowed := true }
def MeekLastUptoSaid : Prop := meekLastUptoRow.holds Tryz.pinned (OpenSpec.upto meekLastSpec)

/-- 'electionlaw27.MeekFirst', WHERE WHAT IT READS IS OF BULK AT MOST 1048576: true; the input reads as it did. -/
def meekFirstUptoRow : OpenClaim := { program := "ytmipjomnjkmdbaagreat", sum := "0b816bedd24c6cdd45a1b3640fd695412be7498567d786f54dd8c248d70bccf0", func := "election/electionlaw27.MeekFirst", spec := "meekFirst", unfollowed := true, recurses := true, apart := false, narrowed := true }
def MeekFirstUptoSaid : Prop := meekFirstUptoRow.holds Tryz.pinned (OpenSpec.upto meekFirstSpec)

/-- 'electionlaw27.MeekSingle', WHERE WHAT IT READS IS OF BULK AT MOST 1048576: true; the input reads as it did. -/
def meekSingleUptoRow : OpenClaim := { program := "ytmipjomnjkmdbaagreat", sum := "0b816bedd24c6cdd45a1b3640fd695412be7498567d786f54dd8c248d70bccf0", func := "election/electionlaw27.MeekSingle", spec := "meekSingle", unfollowed := true, recurses := true, apart := false, narrowed := true }
def MeekSingleUptoSaid : Prop := meekSingleUptoRow.holds Tryz.pinned (OpenSpec.upto meekSingleSpec)

end Rows
end Go.Proofs.YtmipjomnjkmdbaaGreat
