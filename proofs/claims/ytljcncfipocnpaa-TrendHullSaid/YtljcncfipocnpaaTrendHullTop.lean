/- TrendHull's row as data, and its walk over it. -/
import Derived.Test.YtljcncfipocnpaaTrendHullLaw
namespace Go.Proofs.Ytljcncfipocnpaa
open Go.RowKit

theorem forI64 : Kd.For Try.prog 2 (.int .i64) := .int Try.underlying2 (by kernel_rfl)
theorem forI64s : Kd.For Try.prog 40 (.slice 8 (.int .i64)) := .slice Try.underlying40 (by kernel_rfl) (by kernel_rfl) forI64 (by decide)
theorem forBool : Kd.For Try.prog 4 .bool := .bool Try.underlying4 (by kernel_rfl)
theorem forU64 : Kd.For Try.prog 37 (.int .u64) := .int Try.underlying37 (by kernel_rfl)
theorem forWt : Kd.For Try.prog 39 kWt := .struct Try.underlying39 (by kernel_rfl) (.cons rfl forI64 (.cons rfl forI64 (.cons rfl forBool (.one rfl forU64))))
abbrev HullRow := Wt × List Int
def kHullRow : Kd HullRow := .pair kWt (.slice 8 (.int .i64))
theorem forHullRow : Kd.For Try.prog 42 kHullRow := .struct Try.underlying42 (by kernel_rfl) (.cons rfl forWt (.one rfl forI64s))

theorem kWt_cells {w : World} {x : Wt} {cs : List Value} (h : kWt.K w x cs) : cs = [.int .i64 x.1, .int .i64 x.2.1, .bool x.2.2.1, .int .u64 x.2.2.2] := by
  obtain ⟨c1, c2, rfl, h1, c3, c4, rfl, h3, c5, c6, rfl, h5, h6⟩ := h
  obtain rfl : c1 = _ := h1
  obtain rfl : c3 = _ := h3
  obtain rfl : c5 = _ := h5
  obtain rfl : c6 = _ := h6
  rfl
theorem abs_i64 {n : Int} (h : (Kd.int .i64).Fit n) : n.natAbs ≤ 9223372036854775808 := by
  obtain ⟨h1, h2⟩ : -9223372036854775808 ≤ n ∧ n ≤ 9223372036854775807 := h
  omega
theorem hull_walk (w : World) (x : HullRow) (cs : Array Value) (hk : kHullRow.K w x cs.toList) (hf : kHullRow.Fit x) :
    Calls Try.prog 4 #[.agg cs] w fun e w' => e = .returned (.bool true) ∧ Below w.heap.size w w' := by
  obtain ⟨⟨A, B, raw, bits⟩, xs⟩ := x
  obtain ⟨c1, c2, h, h1, S, c, rfl, hr⟩ := hk
  obtain rfl := kWt_cells h1
  obtain rfl : cs = _ := Array.toList_inj.1 (h.trans (by rfl : _ = (#[.int .i64 A, .int .i64 B, .bool raw, .int .u64 bits, .slice S xs.length c] : Array Value).toList))
  exact hull_law A B bits raw S c xs w hr (fun x hx => abs_i64 (hf.2.2 x hx))
end Go.Proofs.Ytljcncfipocnpaa
