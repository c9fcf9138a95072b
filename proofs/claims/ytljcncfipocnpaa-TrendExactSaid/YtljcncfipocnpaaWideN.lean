/- Plain facts on numbers of 128 bits in two halves. -/
import Derived.Laws.BitsAllLaws
import Derived.Laws.Bits64
import Derived.Laws.BitsLemmas
namespace Go.Proofs.Ytljcncfipocnpaa
namespace WN
open Go

theorem div_mod_mul (a p q : Nat) (hp : 0 < p) : a * p % (p * q) = (a % q) * p ∧ a * p / (p * q) = a / q := by
  constructor
  · rw [Nat.mul_comm a p, Nat.mul_mod_mul_left, Nat.mul_comm]
  · rw [Nat.mul_comm a p, Nat.mul_div_mul_left _ _ hp]
/-- A left shift by less than a half: p * q is a half's size. -/
theorem shl_nat (hi lo p q : Nat) (hp : 0 < p) (hq : 0 < q) (hlo : lo < p * q) :
    (hi * p % (p * q)) % p = 0 ∧ lo / q < p ∧ hi * p % (p * q) + lo / q < p * q ∧
    (hi * p % (p * q) + lo / q) * (p * q) + lo * p % (p * q) = (hi * (p * q) + lo) * p % (p * q * (p * q)) := by
  have e1 := (div_mod_mul hi p q hp).1
  have e2 := (div_mod_mul lo p q hp).1
  have hy : lo / q < p := Nat.div_lt_of_lt_mul (by rw [Nat.mul_comm]; exact hlo)
  have hm : hi % q < q := Nat.mod_lt _ hq
  have hm2 : lo % q < q := Nat.mod_lt _ hq
  rw [e1, e2]
  have b1 : hi % q * p + lo / q < p * q := by
    have : (hi % q + 1) * p ≤ q * p := Nat.mul_le_mul_right _ hm
    rw [Nat.add_mul, Nat.one_mul, Nat.mul_comm q p] at this; omega
  have b2 : lo % q * p < p * q := by rw [Nat.mul_comm p q]; exact Nat.mul_lt_mul_of_pos_right hm2 hp
  refine ⟨Nat.mul_mod_left _ _, hy, b1, ?_⟩
  have hh : hi = q * (hi / q) + hi % q := (Nat.div_add_mod hi q).symm
  have hl : lo = q * (lo / q) + lo % q := (Nat.div_add_mod lo q).symm
  have key : (hi * (p * q) + lo) * p = (hi % q * p + lo / q) * (p * q) + lo % q * p + (p * q * (p * q)) * (hi / q) := by
    conv => lhs; rw [hh, hl]
    generalize hi / q = a
    generalize hi % q = b
    generalize lo / q = c
    generalize lo % q = d
    simp only [Nat.add_mul]
    have f1 : q * a * (p * q) * p = p * q * (p * q) * a := by ac_rfl
    have f2 : b * (p * q) * p = b * p * (p * q) := by ac_rfl
    have f3 : q * c * p = c * (p * q) := by ac_rfl
    rw [f1, f2, f3]; omega
  rw [key, Nat.add_mul_mod_self_left]
  refine (Nat.mod_eq_of_lt ?_).symm
  have h9 : (hi % q * p + lo / q).succ * (p * q) ≤ p * q * (p * q) := Nat.mul_le_mul_right _ b1
  rw [Nat.succ_mul] at h9
  exact Nat.lt_of_lt_of_le (Nat.add_lt_add_left b2 _) h9
/-- .. by a half and more. -/
theorem shl_nat2 (hi lo B r : Nat) : lo * r % B * B + 0 = (hi * B + lo) * (B * r) % (B * B) := by
  have : (hi * B + lo) * (B * r) = lo * r * B + B * B * (hi * r) := by
    rw [Nat.add_mul]
    have f1 : hi * B * (B * r) = B * B * (hi * r) := by ac_rfl
    have f2 : lo * (B * r) = lo * r * B := by ac_rfl
    rw [f1, f2, Nat.add_comm]
  rw [this, Nat.add_mul_mod_self_left, Nat.add_zero, Nat.mul_comm (lo * r) B, Nat.mul_mod_mul_left, Nat.mul_comm]
/-- A right shift by less than a half. -/
theorem shr_nat (hi lo p q : Nat) (hp : 0 < p) (hlo : lo < p * q) :
    (hi * q % (p * q)) % q = 0 ∧ lo / p < q ∧ lo / p + hi * q % (p * q) < p * q ∧ hi / p * (p * q) + (lo / p + hi * q % (p * q)) = (hi * (p * q) + lo) / p := by
  have e1 : hi * q % (p * q) = (hi % p) * q := by rw [Nat.mul_mod_mul_right]
  have hy : lo / p < q := Nat.div_lt_of_lt_mul hlo
  have hm : hi % p < p := Nat.mod_lt _ hp
  rw [e1]
  have b1 : lo / p + hi % p * q < p * q := by
    have : (hi % p + 1) * q ≤ p * q := Nat.mul_le_mul_right _ hm
    rw [Nat.add_mul, Nat.one_mul] at this; omega
  refine ⟨Nat.mul_mod_left _ _, hy, b1, ?_⟩
  have f1 : hi * (p * q) = p * (hi * q) := by ac_rfl
  rw [f1, Nat.mul_add_div hp]
  have hh : hi * q = hi / p * (p * q) + hi % p * q := by
    conv => lhs; rw [← Nat.div_add_mod hi p]
    rw [Nat.add_mul]
    have : p * (hi / p) * q = hi / p * (p * q) := by ac_rfl
    rw [this]
  omega
theorem shr_nat2 (hi lo B r : Nat) (hB : 0 < B) (hlo : lo < B) : hi / r = (hi * B + lo) / (B * r) := by
  rw [← Nat.div_div_eq_div_mul, Nat.mul_comm hi B, Nat.mul_add_div hB, Nat.div_eq_of_lt hlo, Nat.add_zero]

theorem wraps_u64 (n : Int) (h₀ : 0 ≤ n) (h₁ : n < 2 ^ 64) : IntKind.u64.wrap n = n := by rw [IntKind.wrap_u64]; omega
/-- 'x | y' where they share no digit. -/
theorem or_join (i : Nat) (x y : Nat) (hi : i ≤ 64) (hx : x % 2 ^ i = 0) (hx1 : x < 18446744073709551616) (hy : y < 2 ^ i) : bits .or .u64 (x : Int) (y : Int) = ((x + y : Nat) : Int) := by
  have h64 : (2 : Nat) ^ i ≤ 2 ^ 64 := Nat.pow_le_pow_right (by decide) hi
  have e64 : (2 : Nat) ^ 64 = 18446744073709551616 := by decide
  rw [bits_join .u64 64 (by decide) wraps_u64 i x y (Int.natCast_nonneg _) (by exact_mod_cast hx) (by omega) (Int.natCast_nonneg _) (by exact_mod_cast hy) (by omega)]
  omega
theorem or_join' (i : Nat) (x y : Nat) (hi : i ≤ 64) (hx : x % 2 ^ i = 0) (hx1 : x < 18446744073709551616) (hy : y < 2 ^ i) : bits .or .u64 (y : Int) (x : Int) = ((y + x : Nat) : Int) := by
  have hc : bits .or .u64 (y : Int) (x : Int) = bits .or .u64 (x : Int) (y : Int) := by simp only [bits, BitVec.or_comm]
  rw [hc, or_join i x y hi hx hx1 hy, Nat.add_comm]
end WN
end Go.Proofs.Ytljcncfipocnpaa
