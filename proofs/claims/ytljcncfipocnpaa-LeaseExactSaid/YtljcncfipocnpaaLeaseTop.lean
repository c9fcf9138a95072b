/- LeaseExact's script as data, and its walk over it. -/
import Derived.Test.YtljcncfipocnpaaLeaseLaw
import Derived.Test.YtljcncfipocnpaaKd
namespace Go.Proofs.Ytljcncfipocnpaa
open Go.RowKit

abbrev LeaseScript := (Int × Int) × List Int × List Int
def kLeaseScript : Kd LeaseScript := .pair (.pair (.int .i64) (.int .i64)) (.pair (.slice 8 (.int .i64)) (.slice 8 (.int .i64)))
theorem forInt : Kd.For Try.prog 3 (.int .i64) := .int Try.underlying3 (by kernel_rfl)
theorem forInts : Kd.For Try.prog 23 (.slice 8 (.int .i64)) := .slice Try.underlying23 (by kernel_rfl) (by kernel_rfl) forInt (by decide)
theorem forInt2 : Kd.For Try.prog 22 (.pair (.int .i64) (.int .i64)) := .two Try.underlying22 (by kernel_rfl) forInt
theorem forLeaseScript : Kd.For Try.prog 25 kLeaseScript :=
  .struct Try.underlying25 (by kernel_rfl) (.cons rfl forInt2 (.cons rfl forInts (.one rfl forInts)))

theorem Ints.of_row {w : World} {A : Option Addr} {c : Nat} {xs : List Int} (h : Kd.Row (.int .i64) w A c xs) : Ints w A xs.length xs := by
  obtain ⟨h1, h2, h3⟩ := h
  refine ⟨rfl, by simp only [maxLen] at h2; omega, fun hn => ?_⟩
  obtain ⟨g, o, rfl, ha⟩ := h3 (List.length_pos_iff.1 hn)
  refine ⟨g, o, rfl, fun j hj => ?_⟩
  obtain ⟨cells, k1, k2⟩ := ha j hj
  have k3 : cells = [.int .i64 xs[j]] := k1
  have := k2 0 (by decide)
  subst k3
  simpa [Kd.int, List.getD_eq_getElem?_getD, hj] using this

theorem lease_walk (w : World) (x : LeaseScript) (cs : Array Value) (hk : kLeaseScript.K w x cs.toList) (hf : kLeaseScript.Fit x) :
    Calls Try.prog 3 #[.agg cs] w fun e w' => e = .returned (.bool true) ∧ Below w.heap.size w w' := by
  obtain ⟨⟨t0, t1⟩, xs, ys⟩ := x
  obtain ⟨c1, c2, h, ⟨c3, c4, rfl, h3, h4⟩, c5, c6, rfl, ⟨A1, n1, h5, r1⟩, A2, n2, h6, r2⟩ := hk
  obtain rfl : c3 = _ := h3
  obtain rfl : c4 = _ := h4
  obtain rfl : c5 = _ := h5
  obtain rfl : c6 = _ := h6
  obtain rfl : cs = _ := Array.toList_inj.1 (h.trans (by rfl : _ = (#[.int .i64 t0, .int .i64 t1, .slice A1 xs.length n1, .slice A2 ys.length n2] : Array Value).toList))
  obtain ⟨⟨f1, f2⟩, -, -⟩ := hf
  exact lease_law t0 t1 A1 A2 _ _ n1 n2 xs ys w (.of_row r1) (.of_row r2) f1.2 f2.2
end Go.Proofs.Ytljcncfipocnpaa
