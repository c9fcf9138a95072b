/- TrendHull's row as data, and its walk over it. -/
import Derived.Test.YtljcncfipocnpaaTrendHullLaw
import Derived.Test.YtljcncfipocnpaaTrendKinds
namespace Go.Proofs.Ytljcncfipocnpaa
open Go.RowKit

abbrev HullRow := Wt × List Int
def kHullRow : Kd HullRow := .pair kWt (.slice 8 (.int .i64))
theorem forHullRow : Kd.For Try.prog 42 kHullRow := .struct Try.underlying42 (by kernel_rfl) (.cons rfl forWt (.one rfl forI64s))

theorem hull_walk (w : World) (x : HullRow) (cs : Array Value) (hk : kHullRow.K w x cs.toList) (hf : kHullRow.Fit x) :
    Calls Try.prog 4 #[.agg cs] w fun e w' => e = .returned (.bool true) ∧ Below w.heap.size w w' := by
  obtain ⟨⟨A, B, raw, bits⟩, xs⟩ := x
  obtain ⟨c1, c2, h, h1, S, c, rfl, hr⟩ := hk
  obtain rfl := kWt_cells h1
  obtain rfl : cs = _ := Array.toList_inj.1 (h.trans (by rfl : _ = (#[.int .i64 A, .int .i64 B, .bool raw, .int .u64 bits, .slice S xs.length c] : Array Value).toList))
  exact hull_law A B bits raw S c xs w hr (fun x hx => abs_i64 (hf.2.2 x hx))
end Go.Proofs.Ytljcncfipocnpaa
