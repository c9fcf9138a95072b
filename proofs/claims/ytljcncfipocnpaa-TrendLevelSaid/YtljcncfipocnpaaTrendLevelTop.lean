/- TrendLevel's argument as data, and its walk over it. -/
import Derived.Test.YtljcncfipocnpaaTrendLevelLaw
import Derived.Test.YtljcncfipocnpaaTrendKinds
namespace Go.Proofs.Ytljcncfipocnpaa
open Go.RowKit
abbrev Same := Wt × Int × Int × Int
def kSame : Kd Same := .pair kWt (.pair (.int .i64) (.pair (.int .i64) (.int .i64)))
theorem forSame : Kd.For Try.prog 68 kSame := .struct Try.underlying68 (by kernel_rfl) (.cons rfl forWt (.cons rfl forI64 (.cons rfl forI (.one rfl forI64))))
theorem level_walk (w : World) (x : Same) (cs : Array Value) (hk : kSame.K w x cs.toList) (hf : kSame.Fit x) :
    Calls Try.prog 6 #[.agg cs] w fun e w' => e = .returned (.bool true) ∧ Below w.heap.size w w' := by
  obtain ⟨⟨A, B, raw, bits⟩, X, N, H⟩ := x
  obtain ⟨c1, c2, h, h1, c3, c4, rfl, h3, c5, c6, rfl, h5, h6⟩ := hk
  obtain rfl := kWt_cells h1
  obtain rfl : c3 = _ := h3
  obtain rfl : c5 = _ := h5
  obtain rfl : c6 = _ := h6
  obtain rfl : cs = _ := Array.toList_inj.1 (h.trans (by rfl : _ = (#[.int .i64 A, .int .i64 B, .bool raw, .int .u64 bits, .int .i64 X, .int .i64 N, .int .i64 H] : Array Value).toList))
  obtain ⟨-, f1, -, f3⟩ := hf
  have g1 := fit_i64 f1
  have g3 := fit_i64 f3
  exact level_law A B bits X N H raw w g1.1 g1.2 g3.1 g3.2
end Go.Proofs.Ytljcncfipocnpaa
