/- TrendExact's script as data, and its walk over it. -/
import Derived.Test.YtljcncfipocnpaaTrendExactLaw
import Derived.Test.YtljcncfipocnpaaTrendKinds
namespace Go.Proofs.Ytljcncfipocnpaa
open Go.RowKit
theorem forWts : Kd.For Try.prog 53 (.slice 32 kWt) := .slice Try.underlying53 (by kernel_rfl) (by kernel_rfl) forWt (by decide)
theorem forOps : Kd.For Try.prog 54 (.slice 24 kOp) := .slice Try.underlying54 (by kernel_rfl) (by kernel_rfl) forOp (by decide)
abbrev TScript := List Wt × List OpD
def kTScript : Kd TScript := .pair (.slice 32 kWt) (.slice 24 kOp)
theorem forTScript : Kd.For Try.prog 56 kTScript := .struct Try.underlying56 (by kernel_rfl) (.cons rfl forWts (.one rfl forOps))
theorem exact_walk (w : World) (x : TScript) (cs : Array Value) (hk : kTScript.K w x cs.toList) (hf : kTScript.Fit x) :
    Calls Try.prog 5 #[.agg cs] w fun e w' => e = .returned (.bool true) ∧ Below w.heap.size w w' := by
  obtain ⟨xs, ops⟩ := x
  obtain ⟨c1, c2, h, ⟨S, c, rfl, h1⟩, S2, d, rfl, h2⟩ := hk
  obtain rfl : cs = _ := Array.toList_inj.1 (h.trans (by rfl : _ = (#[.slice S xs.length c, .slice S2 ops.length d] : Array Value).toList))
  obtain ⟨⟨_, f1⟩, f2, f3⟩ := hf
  refine exact_law S S2 c d xs ops w h1 h2 (hide fun x hx => ?_) (hide fun x hx => ?_) ?_
  · have g : 0 ≤ x.2.2.2 ∧ x.2.2.2 ≤ 18446744073709551615 := (f1 x hx).2.2.2
    omega
  · have g0 : -9223372036854775808 ≤ x.1 ∧ x.1 ≤ 9223372036854775807 := (f3 x hx).1
    have g2 : -9223372036854775808 ≤ x.2.2 ∧ x.2.2 ≤ 9223372036854775807 := (f3 x hx).2.2
    exact ⟨g0, g2⟩
  · have : ops.length * 24 ≤ 140737488351232 := f2
    omega
end Go.Proofs.Ytljcncfipocnpaa
