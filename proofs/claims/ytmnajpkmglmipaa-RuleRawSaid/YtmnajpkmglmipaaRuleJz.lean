/- Contract of rule.Judge. -/
import Derived.Test.YtmnajpkmglmipaaRuleJ1
import Derived.Test.YtmnajpkmglmipaaRuleJ2
import Derived.Test.YtmnajpkmglmipaaRuleJ3
import Derived.Test.YtmnajpkmglmipaaRuleJ4
import Derived.Test.YtmnajpkmglmipaaRuleJ5
namespace Go.Proofs.Ytmnajpkmglmipaa
open Go.RowKit

theorem Judge_c : JudgeSaid := by
  intro s d a l w hs ha
  by_cases h1 : a.k = 1
  · exact Judge_1 s d a l w hs ha h1
  by_cases h2 : a.k = 2
  · exact Judge_2 s d a l w hs ha h1 h2
  by_cases h3 : a.k = 3
  · exact Judge_3 s d a l w hs ha h1 h2 h3
  by_cases h4 : a.k = 4
  · exact Judge_4 s d a l w hs ha h1 h2 h3 h4
  exact Judge_5 s d a l w hs ha h1 h2 h3 h4
end Go.Proofs.Ytmnajpkmglmipaa
