/- RuleRaw's argument as data; its walk over it. -/
import Derived.Test.YtmnajpkmglmipaaRuleM
import Derived.Test.YtmnajpkmglmipaaRuleJz
namespace Go.Proofs.Ytmnajpkmglmipaa
open Go.RowKit

theorem raw_walk (w : World) (x : RawT) (cs : Array Value) (hk : kRaw.K w x cs.toList) (hf : kRaw.Fit x) :
    Calls Try.prog 3 #[.agg cs] w fun e w' => e = .returned (.bool true) ∧ Below w.heap.size w w' := by
  obtain ⟨xs, ys, t⟩ := x
  obtain ⟨c1, c2, h, ⟨SA, sc, rfl, hs⟩, c3, c4, rfl, ⟨AA, ac, rfl, ha⟩, h4⟩ := hk
  obtain rfl : c4 = _ := h4
  obtain rfl : cs = _ := Array.toList_inj.1 (h.trans (by rfl : _ = (#[.slice SA xs.length sc, .slice AA ys.length ac, .int .i64 t] : Array Value).toList))
  obtain ⟨⟨-, fs⟩, ⟨-, fa⟩, -⟩ := hf
  exact (raw_law Judge_c w SA sc xs AA ac ys t hs ha fs fa).mono fun e w' h => ⟨h.1, h.2.below⟩
end Go.Proofs.Ytmnajpkmglmipaa
