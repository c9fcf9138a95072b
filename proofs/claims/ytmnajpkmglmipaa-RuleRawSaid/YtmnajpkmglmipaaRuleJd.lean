/- What rule.Judge tells. -/
import Derived.Test.YtmnajpkmglmipaaRuleI
namespace Go.Proofs.Ytmnajpkmglmipaa
open Go.RowKit Go.Shelf Go.Maps

def doneD (b : Bool) : Int := if b then 5 else 3
theorem done_c2 (b : Bool) (w : World) : Calls Try.prog 36 #[.bool b] w fun e w' => e = .returned (.int .i64 (doneD b)) ∧ w' = w := done_c b w
/-- Does a till owe something? -/
def owesD (d : StL) (t : Int) (gen : Int) : Bool := if t < 0 then false else match d.os[t.toNat]?, d.gs[t.toNat]? with | some o, some g => o && decide (g = gen) | _, _ => false
/-- How many rights are granted. -/
def askN (r fr h : Int) : Int := max 0 (if IntKind.i64.wrap (18014398509481984 - h) < (if fr < r then fr else r) then IntKind.i64.wrap (18014398509481984 - h) else if fr < r then fr else r)
theorem results_tmp4 {fn : Func} {t u v x : Tmp} (h : fn.results = #[.tmp t, .tmp u, .tmp v, .tmp x]) (tmps : Array Value) (P : Program) (w : World) :
    (results fn tmps).run P w = .ok (.tuple #[tmps.getD t undef, tmps.getD u undef, tmps.getD v undef, tmps.getD x undef]) w := by
  simp [results, h]
theorem calls_fr3 {P : Program} {f : FuncId} {args : Array Value} {W0 W' : World} (F : Fr no W0 W') {v : Value} (h : Calls P f args W' fun e w' => e = .returned v ∧ Fr no W' w') : Calls P f args W' fun e w'' => e = .returned v ∧ ∃ q : FrBy W0, w'' = q.w ∧ Fr no W' q.w :=
  h.mono fun _ w' ⟨he, hF⟩ => ⟨he, ⟨w', F.trans hF⟩, rfl, hF⟩
/-- What has come up, said anew. -/
theorem wpAnyH_lit {P : Program} {md : Region.Mode} {ops : Array Oper} {Q : Exit → Act → World → Prop} {S : World → Prop} {fuel : Nat} {listed listed' : Array Bool} {a : Act} {w : World} (h : listed = listed')
    (k : wpAnyH P md ops Q S fuel listed' a w) : wpAnyH P md ops Q S fuel listed a w := by rw [h]; exact k
/-- What becomes of an act. -/
def judgeD (d : StL) (a : ActV) (l : ActL) : Int × (List LineD × List SetD) × Int :=
  if a.k = 1 then ((writeD d a l).1, (writeD d a l).2, 0) else
  if a.k = 2 then (4, ([], []), askN a.r3 (freeD d.ps a.r1 a.r2) (heldD d.ps a.t a.r1 a.r2)) else
  if a.k = 3 then (doneD (decide (a.r3 ≤ heldD d.ps a.t a.r1 a.r2)), ([], []), 0) else
  if a.k = 4 then (doneD (decide (a.r3 ≤ heldD d.ps a.t a.r1 a.r2) && decide (heldD d.ps a.tu a.r1 a.r2 ≤ IntKind.i64.wrap (18014398509481984 - a.r3))), ([], []), 0) else
  (doneD (owesD d a.t a.gen && l.rs.all fun r => decide (r.2.2 ≤ heldD d.ps a.t r.1 r.2.1)), ([], []), 0)
/-- The contract of rule.Judge. -/
def JudgeSaid : Prop := ∀ (s : StV) (d : StL) (a : ActV) (l : ActL) (w : World) (hs : StOk w s d) (ha : ActOk w a l),
    Calls Try.prog 11 #[.agg #[.int .u64 s.q, .slice s.P s.np s.cp, .slice s.R s.nr s.cr, .slice s.L s.nl s.cl, .slice s.G s.ng s.cg, .slice s.O s.no s.co], .agg #[.int .i64 a.t, .int .u64 a.n, .int .i64 a.k, .bool a.sure, .slice a.lA a.ln a.lc, .slice a.gA a.gn a.gc, .slice a.sA a.sn a.sc, .int .i64 a.mq, .slice a.oA a.on a.oc, .int .i64 a.r1, .int .i64 a.r2, .int .i64 a.r3, .int .i64 a.tu, .int .u64 a.gen, .slice a.hA a.hn a.hc]] w fun e w' => ∃ A1 n1 c1 A2 n2 c2, e = .returned (.tuple #[.int .i64 (judgeD d a l).1, .slice A1 n1 c1, .slice A2 n2 c2, .int .i64 (judgeD d a l).2.2]) ∧ WriteR w.heap.size w' A1 n1 c1 A2 n2 c2 (judgeD d a l).2.1 ∧ Fr no w w'
end Go.Proofs.Ytmnajpkmglmipaa
