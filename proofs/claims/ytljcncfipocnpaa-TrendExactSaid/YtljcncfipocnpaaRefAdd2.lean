/- The document's Add is the sum. -/
import Derived.Test.YtljcncfipocnpaaRefAdd
namespace Go.Proofs.Ytljcncfipocnpaa
open Go.RowKit Fl

theorem p2_60 : p2 60 = 1152921504606846976 := by rw [← p2_def]
theorem rungOf_60 (V : Nat) : rungOf V 0 = rungOf (V * p2 60) 60 := by
  rw [← p2_def]; exact (rungOf_scale V 0 60).symm
/-- The rounding of a sum. -/
theorem add_round {W c r V : Nat} {e : Int} {neg more : Bool} (h0 : W ≠ 0) (hr : r < p2 c) (he : e = (c : Int) - 1134) (hm : more = decide (0 < r)) (hx : 53 < size W ∨ r = 0) (hV : V * p2 60 = W * p2 c + r) (hB : rungOf V 0 ≤ 1900 * 4503599627370496) (hc : c ≤ 2045) :
    ∀ x y (w : World), Halves x y W → Calls Try.prog 38 #[.bool neg, .agg #[.int .u64 x, .int .u64 y], .int .i64 e, .bool more] w fun r w' => r = .returned (.int .u64 (dbl.word neg (rungOf V 0) : Nat)) ∧ Fr no w w' := by
  have hx' : shI W e ≤ 0 → r = 0 := fun h => hx.elim (fun h2 => by
    have : (size W : Int) - 53 ≤ shI W e := Int.le_max_left _ _
    omega) id
  have hmag : mag W e more = rungOf V 0 := by
    rw [rungOf_60, hV]
    exact mag_rung' W e 60 c r more h0 hr (by omega) hm hx'
  have htop := mag_top W e more h0 (by rw [hmag]; exact hB)
  intro x y w H
  rw [← hmag]
  exact ref_round neg more x y W e w H (by omega) (by omega)
theorem size_ge {W k : Nat} (h : 2 ^ k ≤ W) : k < size W := by
  have h0 : W ≠ 0 := by have := Nat.two_pow_pos k; omega
  unfold size
  rw [if_neg h0]
  exact Nat.lt_succ_of_le ((Nat.le_log2 h0).2 h)
theorem sv_pn {a : Nat} (h : a < NB) : sv a = if pn a then -(mv (rung a) : Int) else (mv (rung a) : Int) := by
  unfold sv; rw [pn_eq a h]
theorem word_self {a : Nat} (h : a < NB) : dbl.word (pn a) (rung a) = a := by
  unfold Ieee.Format.word
  have e1 : dbl.signWeight = 9223372036854775808 := by decide
  rw [e1]
  have := rung_of a h
  cases hp : pn a
  · rw [hp] at this; simp only [Bool.false_eq_true, if_false] at this ⊢; omega
  · rw [hp] at this; simp only [if_true] at this ⊢; omega
theorem sumWord_left {a b : Nat} (ha : a < NB) (hb : b < NB) (h0 : mv (rung a) = 0) (h1 : mv (rung b) ≠ 0) : sumWord (neg a && neg b) (sv a + sv b) = b := by
  have e : sv a + sv b = sv b := by rw [sv_pn ha, h0]; split <;> simp
  rw [e]
  unfold sumWord
  have e2 : sv b ≠ 0 := by rw [sv_pn hb]; split <;> omega
  have e3 : (sv b).natAbs = mv (rung b) := sv_abs b
  have e4 : decide (sv b < 0) = pn b := by
    rw [sv_pn hb]
    cases pn b
    · simp only [Bool.false_eq_true, if_false]; exact decide_eq_false (by omega)
    · simp only [if_true]; exact decide_eq_true (by omega)
  rw [if_neg e2, e3, rungOf_mv, e4, word_self hb]
theorem sumWord_right {a b : Nat} (ha : a < NB) (hb : b < NB) (h0 : mv (rung b) = 0) (h1 : mv (rung a) ≠ 0) : sumWord (neg a && neg b) (sv a + sv b) = a := by
  have := sumWord_left hb ha h0 h1
  rw [Bool.and_comm, Int.add_comm]; exact this

/-- The parts of two numbers that are not 0, the first one's power not below. -/
theorem add_parts {A B ma mb c d s : Nat} (hA : A = ma * p2 c) (hB : B = mb * p2 d) (hs : c = d + s) (h1 : ma < 9007199254740992) (h2 : mb < 9007199254740992) (h3 : ma ≠ 0) (h4 : mb ≠ 0) (h5 : c = 0 ∨ 4503599627370496 ≤ ma) :
    ∃ X Y r : Nat, ma * 1152921504606846976 = X ∧ mb * 1152921504606846976 / 2 ^ s = Y ∧ r < p2 c ∧ A * p2 60 = X * p2 c ∧ B * p2 60 = Y * p2 c + r ∧ Y ≤ mb * 1152921504606846976 ∧ 1152921504606846976 ≤ X ∧ X < 2 ^ 113 ∧ Y < 2 ^ 113 ∧
      ((r = 0 ∧ Y * 2 ^ s = mb * 1152921504606846976 ∧ s < 128) ∨ (0 < r ∧ Y * 2 ^ s < mb * 1152921504606846976 ∧ Y < 4503599627370496 ∧ 2 ^ 112 ≤ X)) ∧ (X ≤ Y → r = 0) := by
  have hp := p2_pos d
  have hps := Nat.two_pow_pos s
  have e113 : (2 : Nat) ^ 113 = 9007199254740992 * 1152921504606846976 := by decide
  have e112 : (2 : Nat) ^ 112 = 4503599627370496 * 1152921504606846976 := by decide
  have hdm := Nat.div_add_mod (mb * 1152921504606846976) (2 ^ s)
  have hlt := Nat.mod_lt (mb * 1152921504606846976) hps
  have hle : mb * 1152921504606846976 / 2 ^ s ≤ mb * 1152921504606846976 := Nat.div_le_self _ _
  have hc : p2 c = 2 ^ s * p2 d := by rw [hs, p2_add, ← p2_def s, Nat.mul_comm]
  refine ⟨_, _, mb * 1152921504606846976 % 2 ^ s * p2 d, rfl, rfl, ?_, ?_, ?_, hle, by omega, by omega, by omega, ?_, ?_⟩
  · rw [hc]; exact Nat.mul_lt_mul_of_pos_right hlt hp
  · rw [hA, p2_60]; ac_rfl
  · rw [hB, p2_60, hc]
    have : mb * p2 d * 1152921504606846976 = (mb * 1152921504606846976) * p2 d := by ac_rfl
    rw [this]
    conv => lhs; rw [← hdm]
    rw [Nat.add_mul]
    congr 1
    ac_rfl
  · by_cases hr : mb * 1152921504606846976 % 2 ^ s = 0
    · left
      rw [hr, Nat.add_zero, Nat.mul_comm] at hdm
      refine ⟨by rw [hr, Nat.zero_mul], hdm, ?_⟩
      rcases Nat.lt_or_ge s 128 with h | h
      · exact h
      · exfalso
        have h128 : (2 : Nat) ^ 128 ≤ 2 ^ s := Nat.pow_le_pow_right (by decide) h
        have e128 : (2 : Nat) ^ 128 = 340282366920938463463374607431768211456 := by decide
        have hz : mb * 1152921504606846976 / 2 ^ s = 0 := Nat.div_eq_of_lt (by omega)
        rw [hz, Nat.zero_mul] at hdm; omega
    · right
      have hs60 : 60 < s := by
        rcases Nat.lt_or_ge 60 s with h | h
        · exact h
        · exfalso; apply hr
          have : 1152921504606846976 = 2 ^ s * 2 ^ (60 - s) := by rw [← Nat.pow_add, Nat.add_sub_cancel' h]
          rw [this, ← Nat.mul_assoc, Nat.mul_comm mb, Nat.mul_assoc]; exact Nat.mul_mod_right _ _
      have h61 : (2 : Nat) ^ 61 ≤ 2 ^ s := Nat.pow_le_pow_right (by decide) hs60
      refine ⟨Nat.mul_pos (by omega) hp, by rw [Nat.mul_comm] at hdm; omega, ?_, ?_⟩
      · apply Nat.div_lt_of_lt_mul
        have : 2 ^ 61 * 4503599627370496 ≤ 2 ^ s * 4503599627370496 := Nat.mul_le_mul_right _ h61
        have e61 : (2 : Nat) ^ 61 = 2305843009213693952 := by decide
        omega
      · have : 4503599627370496 ≤ ma := h5.resolve_left (by omega)
        omega
  · intro hXY
    have hs0 : s = 0 := by
      rcases Nat.eq_zero_or_pos s with h | h
      · exact h
      · exfalso
        have h2s : (2 : Nat) ^ 1 ≤ 2 ^ s := Nat.pow_le_pow_right (by decide) h
        have hma : 4503599627370496 ≤ ma := h5.resolve_left (by omega)
        have : mb * 1152921504606846976 / 2 ^ s ≤ mb * 1152921504606846976 / 2 := Nat.div_le_div_left h2s (by decide)
        omega
    subst hs0
    rw [Nat.pow_zero, Nat.mod_one, Nat.zero_mul]
end Go.Proofs.Ytljcncfipocnpaa
