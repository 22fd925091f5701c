/- Plain laws on the functions that the statements of the assorter reach: items, papers, and assertions that are spoilt. -/
import Derived.Test.YthlgoakkgmabaaaGreatP5
set_option linter.unusedSimpArgs false
set_option linter.unusedVariables false
open Go Go.Proofs Go.X
namespace Go.Proofs.YthlgoakkgmabaaaGreat
abbrev Asn := Int × (Int × (Int × (List Int × Int)))
abbrev Itm := (Int × (Int × Int)) × (Bool × List Int)
def item (a : Asn) (x : Itm) : Int := if validB 7 a && x.2.1 then 1 else val a x.2.2
def paper (a : Asn) (p : Bool × List Int) : Int := if p.1 then 0 else val a p.2
theorem upper_pos (a : Asn) : decide (0 < upper a) = validB 7 a := by
  unfold upper
  cases hv : validB 7 a
  · rfl
  · rcases valid_kinds hv with k | k | k
    · simp [k]
    · simp [k]
    · have := valid_quota hv k
      have h : (0 : Int) < a.2.2.2.2 := by omega
      simp [k, h]
theorem mk_len {n k a b m q : Int} (hn' : n ≤ 7) : (mk n k a b m q).2.2.2.1.length ≤ 7 := by
  unfold mk
  split
  · simp
  · split
    · have := (amL_lt (a % n) ((a % n + 1 + b % (n - 1)) % n) (m % 128) n.toNat).1
      show (amL _ _ _ _).length ≤ 7
      omega
    · simp
theorem bal_len (n : Int) (l : List Int) : (bal n l).length ≤ l.length := by
  have h1 := outs_len n l (firstN (fun i => decide (n ≤ ((outs n l i).length : Int))) l.length)
  have h2 := firstN_le (fun i => decide (n ≤ ((outs n l i).length : Int))) l.length
  unfold bal
  omega
end Go.Proofs.YthlgoakkgmabaaaGreat
