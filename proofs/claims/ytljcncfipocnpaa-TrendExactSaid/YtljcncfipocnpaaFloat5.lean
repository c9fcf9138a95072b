/- Sums and products of float64 words as rungs of whole numbers. -/
import Derived.Test.YtljcncfipocnpaaFloat4
namespace Go.Proofs.Ytljcncfipocnpaa
namespace Fl
open Ieee

theorem rungOf_zero (K : Nat) : rungOf 0 K = 0 := by
  unfold rungOf
  have : max (Nat.log2 0 - 52) K - K = 0 := by
    have : Nat.log2 0 = 0 := by decide
    omega
  rw [this, Nat.zero_mul, Nat.zero_add]
  unfold rne
  have hp := Nat.two_pow_pos (max (Nat.log2 0 - 52) K)
  rw [Nat.zero_div, Nat.zero_mod, if_neg (by omega)]
theorem rungOf_scale (V K k : Nat) : rungOf (V * 2 ^ k) (K + k) = rungOf V K := by
  by_cases h0 : V = 0
  · subst h0; rw [Nat.zero_mul, rungOf_zero, rungOf_zero]
  · unfold rungOf
    rw [log2_mul_pow V k h0]
    have e1 : max (V.log2 + k - 52) (K + k) = max (V.log2 - 52) K + k := by omega
    rw [e1, rne_scale]
    congr 2
    omega
/-- What is a word's own number lies at its own rung. -/
theorem rungOf_mv (r : Nat) : rungOf (mv r) 0 = r := by
  rcases rung_cases r with h | ⟨q, f, hf, rfl⟩
  · rw [mv_small h]
    by_cases h0 : r = 0
    · subst h0; exact rungOf_zero 0
    · have hl : r.log2 ≤ 51 := log2_le (by have : (2 : Nat) ^ (51 + 1) = 4503599627370496 := by decide
                                           omega)
      unfold rungOf
      have e : max (r.log2 - 52) 0 = 0 := by omega
      rw [e, show (0 - 0) * 4503599627370496 = 0 from rfl, Nat.zero_add]
      have := rne_exact r 0
      rw [Nat.pow_zero, Nat.mul_one] at this
      exact this
  · rw [mv_big q f hf]
    have hl : ((4503599627370496 + f) * 2 ^ q).log2 = 52 + q := by
      rw [log2_mul_pow _ _ (by omega)]
      have : (4503599627370496 + f).log2 = 52 := log2_eq (by have : (2 : Nat) ^ 52 = 4503599627370496 := by decide
                                                             omega) (by have : (2 : Nat) ^ (52 + 1) = 9007199254740992 := by decide
                                                                        omega)
      rw [this]
    unfold rungOf
    rw [hl]
    have e : max (52 + q - 52) 0 = q := by omega
    rw [e, rne_exact]
    omega

theorem signed_nat (s : Bool) (m k : Nat) : (signed s m k).natAbs = m * 2 ^ k := by
  unfold signed
  rw [Nat.shiftLeft_eq]
  split <;> omega
theorem base_nat (a b : Nat) : (dbl.leastPlace + (a : Int) - min (dbl.leastPlace + (a : Int)) (dbl.leastPlace + (b : Int))).toNat = a - min a b ∧ (dbl.leastPlace + (b : Int) - min (dbl.leastPlace + (a : Int)) (dbl.leastPlace + (b : Int))).toNat = b - min a b ∧ min (dbl.leastPlace + (a : Int)) (dbl.leastPlace + (b : Int)) = dbl.leastPlace + ((min a b : Nat) : Int) := by
  refine ⟨by omega, by omega, by omega⟩
/-- The word of a sum. -/
def sumWord (neg0 : Bool) (t : Int) : Nat := dbl.word (if t = 0 then neg0 else decide (t < 0)) (rungOf t.natAbs 0)
theorem nearest_total (s t : Bool) (m n a b : Nat) (neg0 : Bool) (X Y : Int) (hX : (if s then -((m * 2 ^ a : Nat) : Int) else ((m * 2 ^ a : Nat) : Int)) = X) (hY : (if t then -((n * 2 ^ b : Nat) : Int) else ((n * 2 ^ b : Nat) : Int)) = Y) (hb : rungOf (X + Y).natAbs 0 ≤ inf) :
    dbl.nearest (if signed s m (a - min a b) + signed t n (b - min a b) = 0 then neg0 else decide (signed s m (a - min a b) + signed t n (b - min a b) < 0)) (signed s m (a - min a b) + signed t n (b - min a b)).natAbs (dbl.leastPlace + ((min a b : Nat) : Int)) = sumWord neg0 (X + Y) := by
  have e1 := signed_mul s m a (min a b) (Nat.min_le_left a b)
  have e2 := signed_mul t n b (min a b) (Nat.min_le_right a b)
  rw [hX] at e1
  rw [hY] at e2
  generalize signed s m (a - min a b) = P at *
  generalize signed t n (b - min a b) = Q at *
  have e3 : (P + Q) * ((2 ^ min a b : Nat) : Int) = X + Y := by rw [Int.add_mul, e1, e2]
  have hp : (0 : Int) < ((2 ^ min a b : Nat) : Int) := by have := Nat.two_pow_pos (min a b); omega
  unfold sumWord
  by_cases h0 : P + Q = 0
  · have hz : X + Y = 0 := by rw [← e3, h0, Int.zero_mul]
    rw [if_pos h0, h0, if_pos hz, hz]
    unfold Format.nearest
    rw [if_pos (by rfl), show (Int.natAbs 0) = 0 from rfl, rungOf_zero]
  · have hz : X + Y ≠ 0 := by
      rw [← e3]
      exact Int.mul_ne_zero h0 (by omega)
    have hn : (P + Q).natAbs * 2 ^ min a b = (X + Y).natAbs := by
      rw [← e3, Int.natAbs_mul, Int.natAbs_natCast]
    have hs : decide (P + Q < 0) = decide (X + Y < 0) := by
      rw [← e3]
      by_cases hlt : P + Q < 0
      · rw [decide_eq_true hlt, decide_eq_true (Int.mul_neg_of_neg_of_pos hlt hp)]
      · rw [decide_eq_false hlt, decide_eq_false]
        have := Int.mul_nonneg (show 0 ≤ P + Q by omega) (Int.le_of_lt hp)
        omega
    rw [if_neg h0, if_neg hz, hs]
    rw [nearest_rung _ _ _ 0 (min a b) (by omega) (by omega) (by rw [hn]; exact hb), hn]
theorem add_word {x y : Nat} (hx : Fnt x) (hy : Fnt y) (hb : rungOf (sv x + sv y).natAbs 0 ≤ inf) : dbl.add x y = some (sumWord (neg x && neg y) (sv x + sv y)) := by
  obtain ⟨m, a, e, k⟩ := read_fin x hx
  obtain ⟨n, b, e', k'⟩ := read_fin y hy
  unfold Format.add
  rw [e, e']
  unfold Datum.sum
  simp only [Option.map_some, Format.write]
  obtain ⟨q1, q2, q3⟩ := base_nat a b
  rw [q1, q2, q3]
  rw [nearest_total (neg x) (neg y) m n a b _ (sv x) (sv y) (by rw [k]; rfl) (by rw [k']; rfl) hb]
theorem sub_word {x y : Nat} (hx : Fnt x) (hy : Fnt y) (hb : rungOf (sv x - sv y).natAbs 0 ≤ inf) : dbl.sub x y = some (sumWord (neg x && !neg y) (sv x - sv y)) := by
  obtain ⟨m, a, e, k⟩ := read_fin x hx
  obtain ⟨n, b, e', k'⟩ := read_fin y hy
  unfold Format.sub
  rw [e, e']
  unfold Datum.opposite Datum.sum
  simp only [Option.map_some, Format.write]
  obtain ⟨q1, q2, q3⟩ := base_nat a b
  rw [q1, q2, q3]
  have hb' : rungOf (sv x + -sv y).natAbs 0 ≤ inf := hb
  rw [nearest_total (neg x) (!neg y) m n a b _ (sv x) (-sv y) (by rw [k]; rfl) (by rw [k']; unfold sv; cases neg y <;> simp) hb']
  rfl
theorem mul_word {x y : Nat} (hx : Fnt x) (hy : Fnt y) (hb : rungOf (mv (rung x) * mv (rung y)) 1074 ≤ inf) : dbl.mul x y = some (dbl.word (neg x ^^ neg y) (rungOf (mv (rung x) * mv (rung y)) 1074)) := by
  obtain ⟨m, a, e, k⟩ := read_fin x hx
  obtain ⟨n, b, e', k'⟩ := read_fin y hy
  have hV : m * n * 2 ^ (a + b) = mv (rung x) * mv (rung y) := by
    rw [← k, ← k', Nat.pow_add]; ac_rfl
  unfold Format.mul
  rw [e, e']
  simp only [Datum.product, Option.map_some, Format.write]
  by_cases h0 : m * n = 0
  · rw [← hV, h0, Nat.zero_mul, rungOf_zero]
    unfold Format.nearest
    rw [if_pos rfl]
  · rw [nearest_rung _ _ _ 1074 (a + b) (by rw [least]; omega) h0 (by rw [hV]; exact hb), hV]
/-- A whole number's. -/
theorem cnv_word' (x : Int) (p : Nat) (hp : (p : Int) = 1074) (hb : rungOf (x.natAbs * p2 p) 0 ≤ inf) : cnv x = dbl.word (decide (x < 0)) (rungOf (x.natAbs * p2 p) 0) := by
  rw [← p2_def] at *
  show dbl.nearest (x < 0) x.natAbs 0 = _
  by_cases h0 : x.natAbs = 0
  · rw [h0, Nat.zero_mul, rungOf_zero]
    unfold Format.nearest
    rw [if_pos rfl]
  · rw [nearest_rung _ _ _ 0 p (by rw [least]; omega) h0 hb]
theorem cnv_word (x : Int) (hb : rungOf (x.natAbs * U) 0 ≤ inf) : cnv x = dbl.word (decide (x < 0)) (rungOf (x.natAbs * U) 0) := cnv_word' x 1074 rfl hb
theorem rungOf_le' (V K J : Nat) (hJ : 53 ≤ J) (h : V ≤ p2 (J + K)) : rungOf V K ≤ (J - 51) * 4503599627370496 := rungOf_le V K J hJ (by rw [p2_def]; exact h)
end Fl
end Go.Proofs.Ytljcncfipocnpaa
