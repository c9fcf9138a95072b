/- States and acts as data; RuleRaw's walk. -/
import Derived.Test.YtmnajpkmglmipaaRuleK
namespace Go.Proofs.Ytmnajpkmglmipaa
open Go.RowKit

abbrev StateT := Int × List PoolD × List PricedD × List NumD × List NumD × List OweD
def kState : Kd StateT := .pair (.int .u64) (.pair (.slice 48 kPool) (.pair (.slice 16 kPriced) (.pair (.slice 8 kNum) (.pair (.slice 8 kNum) (.slice 1 kOwe)))))
def stL (x : StateT) : StL := ⟨x.2.1, x.2.2.1, x.2.2.2.1, x.2.2.2.2.1, x.2.2.2.2.2⟩
theorem st_of {w : World} {x : StateT} {cs : List Value} (h : kState.K w x cs) : ∃ s : StV, cs = [.int .u64 s.q, .slice s.P s.np s.cp, .slice s.R s.nr s.cr, .slice s.L s.nl s.cl, .slice s.G s.ng s.cg, .slice s.O s.no s.co] ∧ StOk w s (stL x) := by
  obtain ⟨c0, d0, rfl, h0, c1, d1, rfl, ⟨P, cp, rfl, hP⟩, c2, d2, rfl, ⟨R, cr, rfl, hR⟩, c3, d3, rfl, ⟨L, cl, rfl, hL⟩, c4, d4, rfl, ⟨G, cg, rfl, hG⟩, O, co, rfl, hO⟩ := h
  obtain rfl : c0 = _ := h0
  exact ⟨⟨x.1, P, x.2.1.length, cp, R, x.2.2.1.length, cr, L, x.2.2.2.1.length, cl, G, x.2.2.2.2.1.length, cg, O, x.2.2.2.2.2.length, co⟩, rfl, rfl, rfl, rfl, rfl, rfl, hP, .of_row rPriced hR, .of_row rNum hL, .of_row rNum hG, .of_row rOwe hO⟩
theorem st_fit {x : StateT} (h : kState.Fit x) : StFit (stL x) := by
  obtain ⟨-, ⟨h1, h2⟩, ⟨h3, -⟩, ⟨h4, -⟩, ⟨h5, -⟩, ⟨h6, -⟩⟩ := h
  exact ⟨h1, fun p hp => (h2 p hp).2.2.1, h3, h4, h5, h6⟩
abbrev ActT := (Int × Int) × Int × Bool × List LineD × List GuardD × List SetD × (Int × List LineD) × RightD × Int × Int × List RightD
def kAct : Kd ActT := .pair (.pair (.int .i64) (.int .u64)) (.pair (.int .i64) (.pair .bool (.pair (.slice 16 kLine) (.pair (.slice 24 kGuard) (.pair (.slice 24 kSet) (.pair (.pair (.int .i64) (.slice 16 kLine)) (.pair kRight (.pair (.int .i64) (.pair (.int .u64) (.slice 24 kRight))))))))))
def actL (x : ActT) : ActL := ⟨x.2.2.2.1, x.2.2.2.2.1, x.2.2.2.2.2.1, x.2.2.2.2.2.2.1.2, x.2.2.2.2.2.2.2.2.2.2⟩
theorem line_wf {x : LineD} (h : kLine.Fit x) : WfL x := ⟨h.1, h.2⟩
theorem act_of {w : World} {x : ActT} {cs : List Value} (h : kAct.K w x cs) (hf : kAct.Fit x) : ∃ a : ActV, cs = [.int .i64 a.t, .int .u64 a.n, .int .i64 a.k, .bool a.sure, .slice a.lA a.ln a.lc, .slice a.gA a.gn a.gc, .slice a.sA a.sn a.sc, .int .i64 a.mq, .slice a.oA a.on a.oc, .int .i64 a.r1, .int .i64 a.r2, .int .i64 a.r3, .int .i64 a.tu, .int .u64 a.gen, .slice a.hA a.hn a.hc] ∧ ActOk w a (actL x) := by
  obtain ⟨c0, d0, rfl, ⟨e0, e1, rfl, h0, h1⟩, c2, d2, rfl, h2, c3, d3, rfl, h3, c4, d4, rfl, ⟨lA, lc, rfl, hl⟩, c5, d5, rfl, ⟨gA, gc, rfl, hg⟩, c6, d6, rfl, ⟨sA, sc, rfl, hs⟩, c7, d7, rfl, ⟨e2, e3, rfl, h7, oA, oc, rfl, ho⟩, c8, d8, rfl, h8, c9, d9, rfl, h9, c10, d10, rfl, h10, hA, hc, rfl, hh⟩ := h
  obtain rfl : e0 = _ := h0
  obtain rfl : e1 = _ := h1
  obtain rfl : c2 = _ := h2
  obtain rfl : c3 = _ := h3
  obtain rfl : e2 = _ := h7
  obtain rfl : c9 = _ := h9
  obtain rfl : c10 = _ := h10
  have e8 := rRight.2 _ _ _ h8
  subst e8
  obtain ⟨-, -, -, ⟨f1, f2⟩, ⟨f3, -⟩, ⟨f4, -⟩, ⟨-, f5, f6⟩, -, -, -, f7, -⟩ := hf
  exact ⟨{ t := x.1.1, n := x.1.2, k := x.2.1, sure := x.2.2.1, lA := lA, ln := x.2.2.2.1.length, lc := lc, gA := gA, gn := x.2.2.2.2.1.length, gc := gc, sA := sA, sn := x.2.2.2.2.2.1.length, sc := sc, mq := x.2.2.2.2.2.2.1.1, oA := oA, on := x.2.2.2.2.2.2.1.2.length, oc := oc, r1 := x.2.2.2.2.2.2.2.1.1, r2 := x.2.2.2.2.2.2.2.1.2.1, r3 := x.2.2.2.2.2.2.2.1.2.2, tu := x.2.2.2.2.2.2.2.2.1, gen := x.2.2.2.2.2.2.2.2.2.1, hA := hA, hn := x.2.2.2.2.2.2.2.2.2.2.length, hc := hc },
    rfl, rfl, rfl, rfl, rfl, rfl, fun y hy => line_wf (f2 y hy), fun y hy => line_wf (f6 y hy), f1, f4, f5, .of_row rLine hl, .of_row rGuard hg, .of_row rSet hs, .of_row rLine ho, .of_row rRight hh⟩
theorem act_fit {x : ActT} (h : kAct.Fit x) : (actL x).gs.length * 24 ≤ 140737488351232 ∧ (actL x).rs.length * 24 ≤ 140737488351232 := by
  obtain ⟨-, -, -, -, ⟨f3, -⟩, -, -, -, -, -, f7, -⟩ := h
  exact ⟨f3, f7⟩
theorem forInt64 : Kd.For Try.prog 2 (.int .i64) := .int Try.underlying2 (by kernel_rfl)
theorem forInt : Kd.For Try.prog 3 (.int .i64) := .int Try.underlying3 (by kernel_rfl)
theorem forU64 : Kd.For Try.prog 26 (.int .u64) := .int Try.underlying26 (by kernel_rfl)
theorem forBool : Kd.For Try.prog 4 .bool := .bool Try.underlying4 (by kernel_rfl)
theorem forTwo : Kd.For Try.prog 99 kHeld := .two Try.underlying99 (by kernel_rfl) forInt64
theorem forHelds : Kd.For Try.prog 100 (.slice 16 kHeld) := .slice Try.underlying100 (by kernel_rfl) (by kernel_rfl) forTwo (by decide)
theorem forPool : Kd.For Try.prog 102 kPool := .struct Try.underlying102 (by kernel_rfl) (.cons rfl forInt64 (.cons rfl forTwo (.one rfl forHelds)))
theorem forPools : Kd.For Try.prog 27 (.slice 48 kPool) := .slice Try.underlying27 (by kernel_rfl) (by kernel_rfl) forPool (by decide)
theorem forPriced : Kd.For Try.prog 94 kPriced := .struct Try.underlying94 (by kernel_rfl) (.cons rfl forInt64 (.one rfl forInt64))
theorem forPriceds : Kd.For Try.prog 28 (.slice 16 kPriced) := .slice Try.underlying28 (by kernel_rfl) (by kernel_rfl) forPriced (by decide)
theorem forNums : Kd.For Try.prog 29 (.slice 8 kNum) := .slice Try.underlying29 (by kernel_rfl) (by kernel_rfl) forU64 (by decide)
theorem forBools : Kd.For Try.prog 30 (.slice 1 kOwe) := .slice Try.underlying30 (by kernel_rfl) (by kernel_rfl) forBool (by decide)
theorem forState : Kd.For Try.prog 32 kState := .struct Try.underlying32 (by kernel_rfl) (.cons rfl forU64 (.cons rfl forPools (.cons rfl forPriceds (.cons rfl forNums (.cons rfl forNums (.one rfl forBools))))))
theorem forLine : Kd.For Try.prog 104 kLine := .struct Try.underlying104 (by kernel_rfl) (.cons rfl forInt (.one rfl forInt64))
theorem forLines : Kd.For Try.prog 36 (.slice 16 kLine) := .slice Try.underlying36 (by kernel_rfl) (by kernel_rfl) forLine (by decide)
theorem forGuard : Kd.For Try.prog 81 kGuard := .struct Try.underlying81 (by kernel_rfl) (.cons rfl forInt (.cons rfl forInt (.one rfl forInt64)))
theorem forGuards : Kd.For Try.prog 37 (.slice 24 kGuard) := .slice Try.underlying37 (by kernel_rfl) (by kernel_rfl) forGuard (by decide)
theorem forSet : Kd.For Try.prog 85 kSet := .struct Try.underlying85 (by kernel_rfl) (.cons rfl forInt (.cons rfl forInt (.one rfl forInt64)))
theorem forSets : Kd.For Try.prog 38 (.slice 24 kSet) := .slice Try.underlying38 (by kernel_rfl) (by kernel_rfl) forSet (by decide)
theorem forRight : Kd.For Try.prog 42 kRight := .struct Try.underlying42 (by kernel_rfl) (.cons rfl forInt (.cons rfl forInt (.one rfl forInt64)))
theorem forRights : Kd.For Try.prog 43 (.slice 24 kRight) := .slice Try.underlying43 (by kernel_rfl) (by kernel_rfl) forRight (by decide)
theorem forHead : Kd.For Try.prog 35 (.pair (.int .i64) (.int .u64)) := .struct Try.underlying35 (by kernel_rfl) (.cons rfl forInt (.one rfl forU64))
theorem forMerge : Kd.For Try.prog 40 (.pair (.int .i64) (.slice 16 kLine)) := .struct Try.underlying40 (by kernel_rfl) (.cons rfl forInt (.one rfl forLines))
theorem forAct : Kd.For Try.prog 45 kAct := .struct Try.underlying45 (by kernel_rfl) (.cons rfl forHead (.cons rfl forInt (.cons rfl forBool (.cons rfl forLines (.cons rfl forGuards (.cons rfl forSets (.cons rfl forMerge (.cons rfl forRight (.cons rfl forInt (.cons rfl forU64 (.one rfl forRights)))))))))))
theorem forStates : Kd.For Try.prog 22 (.slice 128 kState) := .slice Try.underlying22 (by kernel_rfl) (by kernel_rfl) forState (by decide)
theorem forActs : Kd.For Try.prog 23 (.slice 200 kAct) := .slice Try.underlying23 (by kernel_rfl) (by kernel_rfl) forAct (by decide)
abbrev RawT := List StateT × List ActT × Int
def kRaw : Kd RawT := .pair (.slice 128 kState) (.pair (.slice 200 kAct) (.int .i64))
theorem forRaw : Kd.For Try.prog 25 kRaw := .struct Try.underlying25 (by kernel_rfl) (.cons rfl forStates (.cons rfl forActs (.one rfl forInt)))
end Go.Proofs.Ytmnajpkmglmipaa
