/- Plain facts on float64 words: which numbers are words, and that the nearest word of such a one is it. -/
import Derived.Test.YtljcncfipocnpaaFloat
namespace Go.Proofs.Ytljcncfipocnpaa
namespace Fl
open Ieee

theorem log2_eq {n k : Nat} (h1 : 2 ^ k ≤ n) (h2 : n < 2 ^ (k + 1)) : n.log2 = k := by
  have hn : n ≠ 0 := by have := Nat.two_pow_pos k; omega
  have a := (Nat.log2_lt hn).2 h2
  have b := (Nat.le_log2 hn).2 h1
  omega
theorem log2_mul_pow (m k : Nat) (h : m ≠ 0) : (m * 2 ^ k).log2 = m.log2 + k := by
  refine log2_eq ?_ ?_
  · rw [Nat.pow_add]; exact Nat.mul_le_mul_right _ (Nat.log2_self_le h)
  · rw [show m.log2 + k + 1 = (m.log2 + 1) + k by omega, Nat.pow_add]
    exact Nat.mul_lt_mul_of_pos_right Nat.lt_log2_self (Nat.two_pow_pos _)
/-- What is whole stays. -/
theorem cut_exact (way : Toward) (s : Bool) (q d : Nat) : way.cut s (q * 2 ^ d) d = q := by
  by_cases h0 : q = 0
  · subst h0
    unfold Toward.cut
    simp only [Nat.zero_mul, Nat.zero_div, Nat.zero_mod, Nat.zero_add]
    cases way <;> simp
  · unfold Toward.cut
    have e : min d ((q * 2 ^ d).log2 + 2) = d := by rw [log2_mul_pow q d h0]; omega
    rw [e, Nat.one_shiftLeft]
    have e1 : q * 2 ^ d / 2 ^ d = q := Nat.mul_div_cancel _ (Nat.two_pow_pos _)
    have e2 : q * 2 ^ d % 2 ^ d = 0 := Nat.mul_mod_left _ _
    dsimp only
    rw [e1, e2]
    have hp := Nat.two_pow_pos d
    cases way <;> simp
    try omega

/-- A rung's magnitude, once more: below the first binade it is the rung; else a significand and a power. -/
theorem mv_small {r : Nat} (h : r < 4503599627370496) : mv r = r := by unfold mv; rw [if_pos h]
theorem mv_big (q f : Nat) (hf : f < 4503599627370496) : mv ((q + 1) * 4503599627370496 + f) = (4503599627370496 + f) * 2 ^ q := by
  unfold mv
  have e1 : ((q + 1) * 4503599627370496 + f) % 4503599627370496 = f := by omega
  have e2 : ((q + 1) * 4503599627370496 + f) / 4503599627370496 = q + 1 := by omega
  rw [if_neg (by omega), e1, e2, Nat.add_sub_cancel]
theorem rung_cases (r : Nat) : r < 4503599627370496 ∨ ∃ q f, f < 4503599627370496 ∧ r = (q + 1) * 4503599627370496 + f := by
  by_cases h : r < 4503599627370496
  · exact .inl h
  · exact .inr ⟨r / 4503599627370496 - 1, r % 4503599627370496, Nat.mod_lt _ (by decide), by omega⟩

theorem nearest_mv (s : Bool) (mag p r : Nat) (h : mag * 2 ^ p = mv r) (hr : r < inf) : dbl.nearest s mag (dbl.leastPlace + (p : Nat)) = dbl.word s r := by
  have e1 : dbl.leastPlace = -1074 := by decide
  have e2 : dbl.binade = 4503599627370496 := by decide
  have e3 : dbl.infRung = inf := by decide
  have e4 : (dbl.fractionBits : Int) = 52 := by decide
  unfold Format.nearest
  by_cases h0 : mag = 0
  · rw [if_pos h0]
    subst h0
    rw [Nat.zero_mul] at h
    rcases Nat.eq_zero_or_pos r with h1 | h1
    · rw [h1]
    · have := mv_lt h1
      have e : mv 0 = 0 := by decide
      omega
  · rw [if_neg h0]
    simp only [e1, e2, e3, e4]
    have hlog : (mag * 2 ^ p).log2 = mag.log2 + p := log2_mul_pow mag p h0
    rcases rung_cases r with hs | ⟨q, f, hf, rfl⟩
    · rw [mv_small hs] at h
      have hV : (mag * 2 ^ p).log2 ≤ 51 := log2_le (by rw [h]; exact hs)
      have a1 : max (-1074 + (p : Int) + (mag.log2 : Int) - 52) (-1074) = -1074 := by omega
      rw [a1]
      have a2 : (-1074 + (p : Int) - -1074).toNat = p := by omega
      have a3 : (-1074 - (-1074 + (p : Int))).toNat = 0 := by omega
      have a4 : ((-1074 : Int) - -1074).toNat = 0 := by decide
      rw [a2, a3, a4, cut_zero, Nat.shiftLeft_eq, h, Nat.zero_mul, Nat.zero_add, Nat.min_eq_left (Nat.le_of_lt hr)]
    · rw [mv_big q f hf] at h
      have hV : (mag * 2 ^ p).log2 = 52 + q := by
        rw [h, log2_mul_pow _ _ (by omega), log2_eq (n := 4503599627370496 + f) (k := 52) (by omega) (by omega)]
      have a1 : max (-1074 + (p : Int) + (mag.log2 : Int) - 52) (-1074) = -1074 + (q : Int) := by omega
      rw [a1]
      have a4 : (-1074 + (q : Int) - -1074).toNat = q := by omega
      rw [a4]
      have hk : Toward.even.cut s (mag <<< (-1074 + (p : Int) - (-1074 + (q : Int))).toNat) (-1074 + (q : Int) - (-1074 + (p : Int))).toNat = 4503599627370496 + f := by
        by_cases hpq : q ≤ p
        · have a2 : (-1074 + (p : Int) - (-1074 + (q : Int))).toNat = p - q := by omega
          have a3 : (-1074 + (q : Int) - (-1074 + (p : Int))).toNat = 0 := by omega
          rw [a2, a3, cut_zero, Nat.shiftLeft_eq]
          refine Nat.eq_of_mul_eq_mul_right (Nat.two_pow_pos q) ?_
          rw [← h, Nat.mul_assoc, ← Nat.pow_add, Nat.sub_add_cancel hpq]
        · have a2 : (-1074 + (p : Int) - (-1074 + (q : Int))).toNat = 0 := by omega
          have a3 : (-1074 + (q : Int) - (-1074 + (p : Int))).toNat = q - p := by omega
          rw [a2, a3, Nat.shiftLeft_zero]
          have hm : mag = (4503599627370496 + f) * 2 ^ (q - p) := by
            refine Nat.eq_of_mul_eq_mul_right (Nat.two_pow_pos p) ?_
            rw [h, Nat.mul_assoc, ← Nat.pow_add, Nat.sub_add_cancel (by omega)]
          rw [hm, cut_exact]
      have e9 : q * 4503599627370496 + (4503599627370496 + f) = (q + 1) * 4503599627370496 + f := by omega
      rw [hk, e9, Nat.min_eq_left (Nat.le_of_lt hr)]

/-- A whole number of up to 53 bits times a power of two is a rung's magnitude. -/
theorem mv_surj (m k : Nat) (hm : m < 9007199254740992) : ∃ r, mv r = m * 2 ^ k := by
  by_cases h : m * 2 ^ k < 4503599627370496
  · exact ⟨_, mv_small h⟩
  · have h0 : m ≠ 0 := by rintro rfl; simp at h
    have hl : (m * 2 ^ k).log2 = m.log2 + k := log2_mul_pow m k h0
    have hm52 : m.log2 ≤ 52 := log2_le hm
    have hL : 52 ≤ m.log2 + k := by rw [← hl]; exact (Nat.le_log2 (by omega)).2 (by omega)
    -- the significand
    have key : m * 2 ^ k = (m * 2 ^ (52 - m.log2)) * 2 ^ (m.log2 + k - 52) := by
      rw [Nat.mul_assoc, ← Nat.pow_add]; congr 2; omega
    have a1 : 4503599627370496 ≤ m * 2 ^ (52 - m.log2) := by
      have : 2 ^ m.log2 * 2 ^ (52 - m.log2) ≤ m * 2 ^ (52 - m.log2) := Nat.mul_le_mul_right _ (Nat.log2_self_le h0)
      rw [← Nat.pow_add, show m.log2 + (52 - m.log2) = 52 by omega] at this
      exact this
    have a2 : m * 2 ^ (52 - m.log2) < 9007199254740992 := by
      have : m * 2 ^ (52 - m.log2) < 2 ^ (m.log2 + 1) * 2 ^ (52 - m.log2) := Nat.mul_lt_mul_of_pos_right Nat.lt_log2_self (Nat.two_pow_pos _)
      rw [← Nat.pow_add, show m.log2 + 1 + (52 - m.log2) = 53 by omega] at this
      exact this
    refine ⟨(m.log2 + k - 52 + 1) * 4503599627370496 + (m * 2 ^ (52 - m.log2) - 4503599627370496), ?_⟩
    have e9 : 4503599627370496 + (m * 2 ^ (52 - m.log2) - 4503599627370496) = m * 2 ^ (52 - m.log2) := by omega
    rw [mv_big _ _ (by omega), key, e9]
theorem rung_of_mv {r V : Nat} (h : mv r = V) (hV : V < mv inf) : r < inf := by
  rcases Nat.lt_or_ge r inf with h' | h'
  · exact h'
  · have := mv_le h'; omega
/-- Powers of two that are never reckoned. -/
@[irreducible] def p2 (n : Nat) : Nat := 2 ^ n
theorem p2_def (n : Nat) : 2 ^ n = p2 n := by unfold p2; rfl
theorem p2_add (a b : Nat) : p2 (a + b) = p2 a * p2 b := by rw [← p2_def, ← p2_def, ← p2_def, Nat.pow_add]
theorem p2_pos (n : Nat) : 0 < p2 n := by rw [← p2_def]; exact Nat.two_pow_pos n
theorem p2_lt {a b : Nat} (h : a < b) : p2 a < p2 b := by rw [← p2_def, ← p2_def]; exact Nat.pow_lt_pow_right (by decide) h
theorem nearest_p2 (s : Bool) (mag p r : Nat) (h : mag * p2 p = mv r) (hr : r < inf) : dbl.nearest s mag (dbl.leastPlace + (p : Nat)) = dbl.word s r := nearest_mv s mag p r (by rw [p2_def]; exact h) hr
/-- The unit: one, in units of the least place. -/
def U : Nat := p2 1074
theorem U_pos : 0 < U := p2_pos _
/-- The first power of two that is too great. -/
def Top : Nat := p2 1024
theorem mv_p2 (q f : Nat) (hf : f < 4503599627370496) : mv ((q + 1) * 4503599627370496 + f) = (4503599627370496 + f) * p2 q := by rw [mv_big q f hf, p2_def]
theorem mv_inf : mv inf = Top * U := by
  have e : inf = (2046 + 1) * 4503599627370496 + 0 := by decide
  have e1 : (4503599627370496 : Nat) = p2 52 := by rw [← p2_def]
  rw [e, mv_p2 _ _ (by decide), Nat.add_zero, e1]
  unfold Top U
  rw [← p2_add, ← p2_add]
theorem lt_top {n : Nat} (h : n ≤ 18446744073709551616) : n < Top := by
  have h2 : p2 64 = 18446744073709551616 := by rw [← p2_def]
  have h1 : p2 64 < p2 1024 := p2_lt (by decide)
  rw [h2] at h1
  exact Nat.lt_of_le_of_lt h h1

theorem sv_word (s : Bool) (r : Nat) (h : r ≤ inf) : sv (dbl.word s r) = if s then -(mv r : Int) else mv r := by
  unfold sv
  rw [neg_word s r h, rung_word s r h]
/-- The word of a whole number that has one. -/
theorem sv_nearest (s : Bool) (m k : Nat) (hm : m < 9007199254740992) (hk : m * 2 ^ k ≤ 18446744073709551616) :
    sv (dbl.nearest s (m * 2 ^ k) 0) = (if s then -((m * 2 ^ k : Nat) : Int) else ((m * 2 ^ k : Nat) : Int)) * (U : Int) ∧ Fnt (dbl.nearest s (m * 2 ^ k) 0) := by
  obtain ⟨r, hr⟩ := mv_surj m (k + 1074) hm
  have hr' : mv r = m * 2 ^ k * U := by rw [hr, p2_def, p2_add, ← p2_def k, ← Nat.mul_assoc]; rfl
  have hlt := rung_of_mv hr' (by rw [mv_inf]; exact Nat.mul_lt_mul_of_pos_right (lt_top hk) U_pos)
  have e := nearest_p2 s (m * 2 ^ k) 1074 r hr'.symm hlt
  rw [show dbl.leastPlace + ((1074 : Nat) : Int) = 0 by decide] at e
  rw [e]
  refine ⟨?_, by unfold Fnt; rw [rung_word _ _ (Nat.le_of_lt hlt)]; exact hlt⟩
  rw [sv_word s r (Nat.le_of_lt hlt), hr', Int.natCast_mul]
  cases s
  · rfl
  · simp only [if_true, Int.neg_mul]
end Fl
end Go.Proofs.Ytljcncfipocnpaa
