/- Plain facts on whole numbers that the walks want. -/
import Derived.WalkKit
namespace Go.Proofs.Ytmnajpkmglmipaa
theorem emod_neg (n m : Int) (hm : 0 < m) (h : n.tmod m < 0) : n.tmod m + m = n % m := by
  have h2 := Int.emod_lt_of_pos n hm
  have h3 := Int.emod_nonneg n (by omega : m ≠ 0)
  have h4 : (m.natAbs : Int) = m := by omega
  have e := Int.tmod_eq_emod (a := n) (b := m)
  by_cases hc : 0 ≤ n ∨ m ∣ n
  · rw [if_pos hc] at e; omega
  · rw [if_neg hc] at e; omega
theorem emod_nonneg (n m : Int) (hm : 0 < m) (h : 0 ≤ n.tmod m) : n.tmod m = n % m := by
  have h2 := Int.emod_lt_of_pos n hm
  have h3 := Int.emod_nonneg n (by omega : m ≠ 0)
  have h4 : (m.natAbs : Int) = m := by omega
  have e := Int.tmod_eq_emod (a := n) (b := m)
  by_cases hc : 0 ≤ n ∨ m ∣ n
  · rw [if_pos hc] at e; omega
  · rw [if_neg hc] at e; omega
theorem ret_i {k : IntKind} {a b : Int} (h : a = b) : Ending.returned (.int k a) = .returned (.int k b) := by rw [h]
end Go.Proofs.Ytmnajpkmglmipaa
