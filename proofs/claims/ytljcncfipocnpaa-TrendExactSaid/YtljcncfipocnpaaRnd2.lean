/- What the document's rounding tells, as a rung; its contract in one. -/
import Derived.Test.YtljcncfipocnpaaRnd
import Derived.Test.YtljcncfipocnpaaFloat5
namespace Go.Proofs.Ytljcncfipocnpaa
open Go.RowKit Fl

theorem log2_shift (W c r : Nat) (h0 : W ≠ 0) (hr : r < 2 ^ c) : (W * 2 ^ c + r).log2 = W.log2 + c := by
  have hp := Nat.two_pow_pos c
  refine log2_eq ?_ ?_
  · have := Nat.mul_le_mul_right (2 ^ c) (Nat.log2_self_le h0)
    rw [← Nat.pow_add] at this; omega
  · have h1 : W + 1 ≤ 2 ^ (W.log2 + 1) := Nat.lt_log2_self
    have h2 := Nat.mul_le_mul_right (2 ^ c) h1
    rw [← Nat.pow_add, Nat.add_mul, Nat.one_mul] at h2
    have : W.log2 + c + 1 = W.log2 + 1 + c := by omega
    rw [this]; omega
theorem up_eq (W s r : Nat) (more : Bool) (hm : more = decide (0 < r)) : (upB W s more).toNat = if 2 ^ (s - 1) < W % 2 ^ s ∨ (2 ^ (s - 1) = W % 2 ^ s ∧ (0 < r ∨ W / 2 ^ s % 2 = 1)) then 1 else 0 := by
  subst hm
  unfold upB
  by_cases h1 : 2 ^ (s - 1) < W % 2 ^ s
  · rw [decide_eq_true h1, if_pos (.inl h1)]; rfl
  · rw [decide_eq_false h1, Bool.false_or]
    by_cases h2 : W % 2 ^ s = 2 ^ (s - 1)
    · rw [h2, beq_self_eq_true, Bool.true_and]
      by_cases h3 : 0 < r
      · rw [decide_eq_true h3, Bool.true_or, if_pos (.inr ⟨rfl, .inl h3⟩)]; rfl
      · rw [decide_eq_false h3, Bool.false_or]
        by_cases h4 : W / 2 ^ s % 2 = 1
        · rw [h4, if_pos (.inr ⟨rfl, .inr rfl⟩)]; rfl
        · rw [beq_false_of_ne h4, if_neg (by omega)]; rfl
    · rw [beq_false_of_ne h2, Bool.false_and, if_neg (by omega)]; rfl
/-- The rounding is the nearest rung. -/
theorem mag_rung (W : Nat) (e : Int) (K c r : Nat) (more : Bool) (h0 : W ≠ 0) (hr : r < 2 ^ c) (he : e = (c : Int) - 1074 - K) (hm : more = decide (0 < r)) (hx : shI W e ≤ 0 → r = 0) :
    mag W e more = rungOf (W * 2 ^ c + r) K := by
  have hs : size W = W.log2 + 1 := by unfold size; rw [if_neg h0]
  unfold mag rungOf
  rw [if_neg h0, log2_shift W c r h0 hr]
  have hT : ((max (W.log2 + c - 52) K : Nat) : Int) = shI W e + c := by unfold shI; rw [hs]; omega
  have e1 : (e + shI W e + 1074).toNat = max (W.log2 + c - 52) K - K := by omega
  rw [e1]
  congr 1
  unfold mant
  by_cases h1 : shI W e ≤ 0
  · rw [if_pos h1, hx h1, Nat.add_zero]
    obtain ⟨n, hn⟩ : ∃ n : Nat, -shI W e = n := ⟨(-shI W e).toNat, by omega⟩
    have hc : c = n + max (W.log2 + c - 52) K := by omega
    have e2 : (-shI W e).toNat = n := by omega
    rw [e2]
    generalize max (W.log2 + c - 52) K = T at *
    have : W * 2 ^ c = W * 2 ^ n * 2 ^ T := by rw [hc, Nat.pow_add, Nat.mul_assoc]
    rw [this, rne_exact]
  · rw [if_neg h1]
    obtain ⟨s, hs'⟩ : ∃ s : Nat, shI W e = s := ⟨(shI W e).toNat, by omega⟩
    have e3 : (shI W e).toNat = s := by omega
    have hT' : max (W.log2 + c - 52) K = c + s := by omega
    rw [e3, hT', rne_floor W c s r (by omega) hr, up_eq W s r more hm]
theorem mag_rung' (W : Nat) (e : Int) (K c r : Nat) (more : Bool) (h0 : W ≠ 0) (hr : r < p2 c) (he : e = (c : Int) - 1074 - K) (hm : more = decide (0 < r)) (hx : shI W e ≤ 0 → r = 0) :
    mag W e more = rungOf (W * p2 c + r) K := by
  rw [← p2_def] at *
  exact mag_rung W e K c r more h0 hr he hm hx
theorem mag_top (W : Nat) (e : Int) (more : Bool) (h0 : W ≠ 0) {B : Nat} (h : mag W e more ≤ B * 4503599627370496) : e + shI W e + 1074 ≤ B := by
  unfold mag at h
  rw [if_neg h0] at h
  have : (e + shI W e + 1074).toNat ≤ B := by omega
  omega
theorem mag_zero (e : Int) (more : Bool) : mag 0 e more = 0 := if_pos rfl
theorem sgn_word (neg : Bool) (r : Nat) : sgn neg + r = dbl.word neg r := by
  unfold sgn Ieee.Format.word
  have e1 : dbl.signWeight = 9223372036854775808 := by decide
  rw [e1]
  cases neg <;> simp
theorem ref_round (neg more : Bool) (hi lo W : Nat) (e : Int) (w : World) (H : Halves hi lo W) (he : -4000 ≤ e ∧ e ≤ 2000) (hk : e + shI W e + 1075 ≤ 2045) :
    Calls Try.prog 38 #[.bool neg, .agg #[.int .u64 hi, .int .u64 lo], .int .i64 e, .bool more] w fun r w' => r = .returned (.int .u64 (dbl.word neg (mag W e more) : Nat)) ∧ Fr no w w' := by
  have hz := size_le W H.lt
  have hm := mant_le W e more
  have hlo : -1074 - e ≤ shI W e := Int.le_max_right _ _
  have hmag : mag W e more ≤ 2044 * 4503599627370496 + 9007199254740992 := by
    unfold mag
    split
    · omega
    · omega
  have ew : ((dbl.word neg (mag W e more) : Nat) : Int) = ((sgn neg : Nat) : Int) + ((mag W e more : Nat) : Int) := by rw [← sgn_word]; omega
  rw [ew]
  by_cases hs : shI W e ≤ 0
  · obtain ⟨n, hn⟩ : ∃ n : Nat, shI W e = -(n : Int) := ⟨(-shI W e).toNat, by omega⟩
    have em : mant W e more = W * 2 ^ n := by
      unfold mant
      rw [if_pos hs, hn]
      congr 2; omega
    have T := tail_of W e (e + (-(n : Int) + 1) + 1075) more hk (by omega)
    rw [hn, em] at T
    have hb : -53 ≤ shI W e := Int.le_trans (by omega) (Int.le_max_left ((size W : Int) - 53) (-1074 - e))
    rw [em] at hm
    exact ref_round_lo neg more hi lo W n _ e _ w H he (hide hn) (by omega) (hide rfl) (hide T) (by omega) (by omega) (by omega)
  · obtain ⟨s, hs'⟩ : ∃ s : Nat, shI W e = (s : Int) := ⟨(shI W e).toNat, by omega⟩
    have es : (shI W e).toNat = s := by omega
    have em : mant W e more = W / 2 ^ s + (upB W s more).toNat := by
      unfold mant
      rw [if_neg hs, es]
    have T := tail_of W e (e + ((s : Int) + 1) + 1075) more hk (by omega)
    have hq := mant_hi W e (by omega)
    rw [es] at hq
    have hbump : ((mant W e more : Nat) : Int) = bump (upB W s more) ((W / 2 ^ s : Nat) : Int) := by
      rw [em]
      cases upB W s more <;> rfl
    rw [hs', hbump] at T
    have hb : shI W e ≤ 4000 := by unfold shI; omega
    exact ref_round_hi neg more _ hi lo W s _ e _ w H he (hide hs') (by omega) (hide rfl) (hide rfl) (hide T) (by omega) ⟨Int.natCast_nonneg _, Int.ofNat_lt.2 hq⟩ (by omega)
end Go.Proofs.Ytljcncfipocnpaa
