/- The trend laws' kinds of data. -/
import Derived.Test.YtljcncfipocnpaaTrendW
namespace Go.Proofs.Ytljcncfipocnpaa
open Go.RowKit
theorem forI64 : Kd.For Try.prog 2 (.int .i64) := .int Try.underlying2 (by kernel_rfl)
theorem forI : Kd.For Try.prog 3 (.int .i64) := .int Try.underlying3 (by kernel_rfl)
theorem forI64s : Kd.For Try.prog 40 (.slice 8 (.int .i64)) := .slice Try.underlying40 (by kernel_rfl) (by kernel_rfl) forI64 (by decide)
theorem forBool : Kd.For Try.prog 4 .bool := .bool Try.underlying4 (by kernel_rfl)
theorem forU64 : Kd.For Try.prog 37 (.int .u64) := .int Try.underlying37 (by kernel_rfl)
theorem forWt : Kd.For Try.prog 39 kWt := .struct Try.underlying39 (by kernel_rfl) (.cons rfl forI64 (.cons rfl forI64 (.cons rfl forBool (.one rfl forU64))))
theorem kWt_cells {w : World} {x : Wt} {cs : List Value} (h : kWt.K w x cs) : cs = [.int .i64 x.1, .int .i64 x.2.1, .bool x.2.2.1, .int .u64 x.2.2.2] := by
  obtain ⟨c1, c2, rfl, h1, c3, c4, rfl, h3, c5, c6, rfl, h5, h6⟩ := h
  obtain rfl : c1 = _ := h1
  obtain rfl : c3 = _ := h3
  obtain rfl : c5 = _ := h5
  obtain rfl : c6 = _ := h6
  rfl
theorem fit_i64 {n : Int} (h : (Kd.int .i64).Fit n) : -9223372036854775808 ≤ n ∧ n ≤ 9223372036854775807 := h
theorem abs_i64 {n : Int} (h : (Kd.int .i64).Fit n) : n.natAbs ≤ 9223372036854775808 := by
  obtain ⟨h1, h2⟩ := fit_i64 h
  omega
end Go.Proofs.Ytljcncfipocnpaa
