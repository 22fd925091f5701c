/- Plain laws on the functions that the statements of the assorter reach: third part. -/
import Derived.Test.YthlgoakkgmabaaaGreatP2
set_option linter.unusedSimpArgs false
set_option linter.unusedVariables false
open Go Go.Proofs Go.X
namespace Go.Proofs.YthlgoakkgmabaaaGreat
/- BALLOTS -/
def seenAt (l : List Int) : Nat → List Bool
  | 0 => [false, false, false, false, false, false, false]
  | i + 1 => (seenAt l i).set (Int.toNat (l.getD i 0)) true
def badB (l : List Int) (i : Nat) : Bool := decide (l.getD i 0 < 0) || decide (7 ≤ l.getD i 0) || (seenAt l i).getD (Int.toNat (l.getD i 0)) false
def ballotB (l : List Int) : Bool := decide (¬ firstN (badB l) l.length < l.length)
def vBeats (a b : Int) (l : List Int) : Int :=
  let x := if firstAt (fun z => decide (a = z)) l < l.length then (firstAt (fun z => decide (a = z)) l : Int) else -1
  let y := if firstAt (fun z => decide (b = z)) l < l.length then (firstAt (fun z => decide (b = z)) l : Int) else -1
  if x = 0 then 2 else if 0 ≤ y ∧ (x < 0 ∨ y < x) then 0 else 1
def vNext (a b : Int) (m l : List Int) : Int :=
  let r := firstAt (fun c => decide (c ∈ m)) l
  if r < l.length then (if l.getD r 0 = a then 2 else if l.getD r 0 = b then 0 else 1) else 1
def vQuota (a q : Int) (l : List Int) : Int := if l.length = 0 then 1 else if l.getD 0 0 = a then q else 0
def val (a : Int × (Int × (Int × (List Int × Int)))) (l : List Int) : Int :=
  let p := if ballotB l then l else []
  if validB 7 a then (if a.1 = 1 then vBeats a.2.1 a.2.2.1 p else if a.1 = 2 then vNext a.2.1 a.2.2.1 a.2.2.2.1 p else vQuota a.2.1 a.2.2.2.2 p) else 0
def upper (a : Int × (Int × (Int × (List Int × Int)))) : Int := if validB 7 a then (if a.1 = 1 then 2 else if a.1 = 2 then 2 else a.2.2.2.2) else 0
end Go.Proofs.YthlgoakkgmabaaaGreat
