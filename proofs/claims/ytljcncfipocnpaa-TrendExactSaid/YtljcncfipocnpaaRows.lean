/-
  No cell of these rows narrows 'for every input' (looked for: loops, veiled, ifaces, maps, wideKeys, modest, calm, conditions, laid).
  DERIVED. THE GIVEN ROWS OF THIS SEAT. 4 by the template 'for every input the law returns true; each argument reads behind the call as it read before'; 0 by the template 'total and deterministic' (their statements: YtljcncfipocnpaaTotals.lean).
  GIVEN WITH THE SEED: the statements are not yours to turn. If you find one false, say at which input.
  Laid BY PROGRAM, IN A SANDBOX (cutbox-rows.mjs): the forced cells as the released guide's own fill.sh prints them over the translation 759536336e32a9c2… (all of the seat's roots in one cut). By AI agents, Wed Nov 11 2026. No macro, syntax, notation, axiom, sorry.
-/
import Derived.Test.YtljcncfipocnpaaChecked
import GoSem.Claim
import GoSem.ClaimJoined
import GoSem.ClaimMapViews
import Derived.JoinedTies
import Derived.KernelRfl
namespace Go.Proofs.Ytljcncfipocnpaa
/- THE CELL 'sum', in the pinned program and in every row, IS THE sha256 OF THE DUMP (.gsa) THAT YtljcncfipocnpaaProg.lean LOADS. Nothing in Lean hashes anything: it is a label: what it is worth is what the hold of that sum in a sandbox is worth. -/
noncomputable def Try.pinned : Pinned := { name := "ytljcncfipocnpaa", sum := "759536336e32a9c2ca63c8192b8f4ec9aa97e82842ed2406a3f82d246582ce27", checked := Try.checked }
namespace Rows
def none {H : Type} : Left H := { results := [], args := [] }

/-- 'tilllaw12.LeaseExact': WHATEVER THE INPUT: true; the input reads as it did. -/
def leaseExactSpec : ChangeSpec := { name := "leaseExact", fn := fun _ => fun
  | [d] => { results := [.lit (.bool true)], args := [d] }
  | _ => none }
def leaseExactRow : OpenClaim := { program := "ytljcncfipocnpaa", sum := "759536336e32a9c2ca63c8192b8f4ec9aa97e82842ed2406a3f82d246582ce27", func := "till/tilllaw12.LeaseExact", spec := "leaseExact", apart := false }
def LeaseExactSaid : Prop := leaseExactRow.holds Try.pinned (OpenSpec.ofChange leaseExactSpec)

/-- ITS FALSE NEIGHBOUR: 'it returns false'. Refute it at one input. -/
def leaseExactWrong : ChangeSpec := { name := "leaseExact", fn := fun _ => fun
  | [d] => { results := [.lit (.bool false)], args := [d] }
  | _ => none }
def LeaseExactWrongFalsely : Prop := leaseExactRow.holds Try.pinned (OpenSpec.ofChange leaseExactWrong)

/-- 'tilllaw18.TrendHull': WHATEVER THE INPUT: true; the input reads as it did. -/
def trendHullSpec : ChangeSpec := { name := "trendHull", fn := fun _ => fun
  | [d] => { results := [.lit (.bool true)], args := [d] }
  | _ => none }
def trendHullRow : OpenClaim := { program := "ytljcncfipocnpaa", sum := "759536336e32a9c2ca63c8192b8f4ec9aa97e82842ed2406a3f82d246582ce27", func := "till/tilllaw18.TrendHull", spec := "trendHull", inPlace := ["math.Float64frombits"], apart := false }
def TrendHullSaid : Prop := trendHullRow.holds Try.pinned (OpenSpec.ofChange trendHullSpec)

/-- ITS FALSE NEIGHBOUR: 'it returns false'. Refute it at one input. -/
def trendHullWrong : ChangeSpec := { name := "trendHull", fn := fun _ => fun
  | [d] => { results := [.lit (.bool false)], args := [d] }
  | _ => none }
def TrendHullWrongFalsely : Prop := trendHullRow.holds Try.pinned (OpenSpec.ofChange trendHullWrong)

/-- 'tilllaw18.TrendExact': WHATEVER THE INPUT: true; the input reads as it did. -/
def trendExactSpec : ChangeSpec := { name := "trendExact", fn := fun _ => fun
  | [d] => { results := [.lit (.bool true)], args := [d] }
  | _ => none }
def trendExactRow : OpenClaim := { program := "ytljcncfipocnpaa", sum := "759536336e32a9c2ca63c8192b8f4ec9aa97e82842ed2406a3f82d246582ce27", func := "till/tilllaw18.TrendExact", spec := "trendExact", inPlace := ["math.Float64frombits", "math.Float64bits", "math.archCeil", "math.archFloor", "math.archTrunc"], recurses := true, apart := false }
def TrendExactSaid : Prop := trendExactRow.holds Try.pinned (OpenSpec.ofChange trendExactSpec)

/-- ITS FALSE NEIGHBOUR: 'it returns false'. Refute it at one input. -/
def trendExactWrong : ChangeSpec := { name := "trendExact", fn := fun _ => fun
  | [d] => { results := [.lit (.bool false)], args := [d] }
  | _ => none }
def TrendExactWrongFalsely : Prop := trendExactRow.holds Try.pinned (OpenSpec.ofChange trendExactWrong)

/-- 'tilllaw18.TrendLevel': WHATEVER THE INPUT: true; the input reads as it did. -/
def trendLevelSpec : ChangeSpec := { name := "trendLevel", fn := fun _ => fun
  | [d] => { results := [.lit (.bool true)], args := [d] }
  | _ => none }
def trendLevelRow : OpenClaim := { program := "ytljcncfipocnpaa", sum := "759536336e32a9c2ca63c8192b8f4ec9aa97e82842ed2406a3f82d246582ce27", func := "till/tilllaw18.TrendLevel", spec := "trendLevel", inPlace := ["math.Float64frombits", "math.archCeil", "math.archFloor", "math.Float64bits", "math.archTrunc"], apart := false }
def TrendLevelSaid : Prop := trendLevelRow.holds Try.pinned (OpenSpec.ofChange trendLevelSpec)

/-- ITS FALSE NEIGHBOUR: 'it returns false'. Refute it at one input. -/
def trendLevelWrong : ChangeSpec := { name := "trendLevel", fn := fun _ => fun
  | [d] => { results := [.lit (.bool false)], args := [d] }
  | _ => none }
def TrendLevelWrongFalsely : Prop := trendLevelRow.holds Try.pinned (OpenSpec.ofChange trendLevelWrong)

/- THE SECOND FORM. 'bulk': how many values and letters a reading holds, each counted each time it is reached (what is shared counts as often as it is met; a slice's spare places count too). A statement '..UptoSaid' is the law's where the arguments, and the package variables that the reading takes, are together of bulk at most 1048576: NARROWER than '..Said'. Prove '..Said' where nothing that the law and all that it calls make is longer than what came in: it says more and counts as full. Else prove '..UptoSaid'. A law counts once. -/
mutual
def uptoBulk {H : Type} : DataW H → Nat
  | .lit (.string bytes) => bytes.length + 1
  | .lit _ => 1
  | .nil => 1
  | .ptr d => uptoBulk d + 1
  | .slice elems spare => uptoBulkAll elems + uptoBulkAll spare + 1
  | .agg parts => uptoBulkAll parts + 1
  | .iface _ d => uptoBulk d + 1
  | .map entries => uptoBulkEntries entries + 1
  | .held _ => 1
def uptoBulkAll {H : Type} : List (DataW H) → Nat
  | [] => 0
  | d :: r => uptoBulk d + uptoBulkAll r
def uptoBulkEntries {H : Type} : List (Lit × DataW H) → Nat
  | [] => 0
  | x :: r => uptoBulkEntry x + uptoBulkEntries r
def uptoBulkEntry {H : Type} : Lit × DataW H → Nat
  | (.string bytes, d) => bytes.length + uptoBulk d + 1
  | (_, d) => uptoBulk d + 1
 end
def uptoSmall : (H : Type) → List (DataW H) → Bool := fun _ ds => decide (uptoBulkAll ds ≤ 1048576)
def OpenSpec.upto (s : _root_.Go.ChangeSpec) : _root_.Go.OpenSpec := { _root_.Go.OpenSpec.ofChange s with cond := some uptoSmall }

/-- 'tilllaw12.LeaseExact', WHERE WHAT IT READS IS OF BULK AT MOST 1048576: true; the input reads as it did. -/
def leaseExactUptoRow : OpenClaim := { program := "ytljcncfipocnpaa", sum := "759536336e32a9c2ca63c8192b8f4ec9aa97e82842ed2406a3f82d246582ce27", func := "till/tilllaw12.LeaseExact", spec := "leaseExact", apart := false, narrowed := true }
def LeaseExactUptoSaid : Prop := leaseExactUptoRow.holds Try.pinned (OpenSpec.upto leaseExactSpec)

/-- 'tilllaw18.TrendHull', WHERE WHAT IT READS IS OF BULK AT MOST 1048576: true; the input reads as it did. -/
def trendHullUptoRow : OpenClaim := { program := "ytljcncfipocnpaa", sum := "759536336e32a9c2ca63c8192b8f4ec9aa97e82842ed2406a3f82d246582ce27", func := "till/tilllaw18.TrendHull", spec := "trendHull", inPlace := ["math.Float64frombits"], apart := false, narrowed := true }
def TrendHullUptoSaid : Prop := trendHullUptoRow.holds Try.pinned (OpenSpec.upto trendHullSpec)

/-- 'tilllaw18.TrendExact', WHERE WHAT IT READS IS OF BULK AT MOST 1048576: true; the input reads as it did. -/
def trendExactUptoRow : OpenClaim := { program := "ytljcncfipocnpaa", sum := "759536336e32a9c2ca63c8192b8f4ec9aa97e82842ed2406a3f82d246582ce27", func := "till/tilllaw18.TrendExact", spec := "trendExact", inPlace := ["math.Float64frombits", "math.Float64bits", "math.archCeil", "math.archFloor", "math.archTrunc"], recurses := true, apart := false, narrowed := true }
def TrendExactUptoSaid : Prop := trendExactUptoRow.holds Try.pinned (OpenSpec.upto trendExactSpec)

/-- 'tilllaw18.TrendLevel', WHERE WHAT IT READS IS OF BULK AT MOST 1048576: true; the input reads as it did. -/
def trendLevelUptoRow : OpenClaim := { program := "ytljcncfipocnpaa", sum := "759536336e32a9c2ca63c8192b8f4ec9aa97e82842ed2406a3f82d246582ce27", func := "till/tilllaw18.TrendLevel", spec := "trendLevel", inPlace := ["math.Float64frombits", "math.archCeil", "math.archFloor", "math.Float64bits", "math.archTrunc"], apart := false, narrowed := true }
def TrendLevelUptoSaid : Prop := trendLevelUptoRow.holds Try.pinned (OpenSpec.upto trendLevelSpec)

end Rows
end Go.Proofs.Ytljcncfipocnpaa
