/- Plain facts on float64 words: ceilings, and words as whole numbers. -/
import Derived.Test.YtljcncfipocnpaaFloat2
namespace Go.Proofs.Ytljcncfipocnpaa
namespace Fl
open Ieee

theorem read_fin' (x : Nat) (h : Fnt x) : ∃ m a, dbl.read x = .number (neg x) m (dbl.leastPlace + (a : Nat)) ∧ m * p2 a = mv (rung x) ∧ m < 9007199254740992 := by
  unfold Fnt inf at h
  unfold Format.read
  have e1 : dbl.signWeight = 9223372036854775808 := by decide
  have e2 : dbl.binade = 4503599627370496 := by decide
  have e3 : dbl.infRung = 9218868437227405312 := by decide
  simp only [e1, e2, e3]
  change ∃ m a, (if rung x < 4503599627370496 then _ else _) = _ ∧ _ ∧ _
  by_cases h1 : rung x < 4503599627370496
  · refine ⟨rung x, 0, ?_, by rw [← p2_def]; simp [mv, h1], by omega⟩
    rw [if_pos h1]; simp only [Int.natCast_zero, Int.add_zero]; rfl
  · refine ⟨4503599627370496 + rung x % 4503599627370496, rung x / 4503599627370496 - 1, ?_, by rw [← p2_def]; simp [mv, h1], by omega⟩
    rw [if_neg h1]
    change (if rung x < 9218868437227405312 then _ else _) = _
    rw [if_pos h]; rfl

theorem least : dbl.leastPlace = -1074 := by decide
/-- Cut to a whole number: of what is one, whichever way. -/
theorem cut_whole (way : Toward) (s : Bool) (m k q : Nat) (h : m * p2 k = q * U) : way.cut s (m <<< (dbl.leastPlace + (k : Int)).toNat) (-(dbl.leastPlace + (k : Int))).toNat = q := by
  rw [least]
  unfold U at h
  rcases Nat.le_total 1074 k with hk | hk
  · have a1 : (-1074 + (k : Int)).toNat = k - 1074 := by omega
    have a2 : (-(-1074 + (k : Int))).toNat = 0 := by omega
    rw [a1, a2, Nat.shiftLeft_eq]
    have e : q = m * 2 ^ (k - 1074) := by
      refine Nat.eq_of_mul_eq_mul_right (p2_pos 1074) ?_
      rw [← h, Nat.mul_assoc, p2_def, ← p2_add, Nat.sub_add_cancel hk]
    have := cut_exact way s q 0
    rw [Nat.pow_zero, Nat.mul_one] at this
    rw [← e]; exact this
  · have a1 : (-1074 + (k : Int)).toNat = 0 := by omega
    have a2 : (-(-1074 + (k : Int))).toNat = 1074 - k := by omega
    rw [a1, a2, Nat.shiftLeft_zero]
    have e : m = q * 2 ^ (1074 - k) := by
      refine Nat.eq_of_mul_eq_mul_right (p2_pos k) ?_
      rw [h, Nat.mul_assoc, p2_def, ← p2_add, Nat.sub_add_cancel hk]
    rw [e]; exact cut_exact way s q _
/-- Cut up. -/
theorem cut_up (s : Bool) (m k : Nat) : Toward.up.cut s (m <<< (dbl.leastPlace + (k : Int)).toNat) (-(dbl.leastPlace + (k : Int))).toNat = if s then m * p2 k / U else (m * p2 k + (U - 1)) / U := by
  have hU := U_pos
  rcases Nat.le_total 1074 k with hk | hk
  · have e : m * p2 k = m * p2 (k - 1074) * U := by unfold U; rw [Nat.mul_assoc, ← p2_add, Nat.sub_add_cancel hk]
    rw [cut_whole .up s m k _ e, e]
    cases s
    · simp only [Bool.false_eq_true, if_false]
      rw [Nat.add_comm, Nat.add_mul_div_right _ _ hU, Nat.div_eq_of_lt (by omega), Nat.zero_add]
    · simp only [if_true]; rw [Nat.mul_div_cancel _ hU]
  · obtain ⟨D, hD⟩ : ∃ D, 1074 = k + D := ⟨1074 - k, by omega⟩
    have a1 : (dbl.leastPlace + (k : Int)).toNat = 0 := by rw [least]; omega
    have a2 : (-(dbl.leastPlace + (k : Int))).toNat = D := by rw [least]; omega
    rw [a1, a2, Nat.shiftLeft_zero]
    have eU : U = p2 k * p2 D := by unfold U; rw [hD, p2_add]
    have hpk := p2_pos k
    have hpD := p2_pos D
    have q1 : m * p2 k / U = m / p2 D := by rw [eU, Nat.mul_comm m, Nat.mul_div_mul_left _ _ hpk]
    have q2 : (m * p2 k + (U - 1)) / U = (m + (p2 D - 1)) / p2 D := by
      rw [eU]
      have : m * p2 k + (p2 k * p2 D - 1) = (p2 k - 1) + p2 k * (m + (p2 D - 1)) := by
        rw [Nat.mul_add, Nat.mul_sub, Nat.mul_one, Nat.mul_comm m]
        have : p2 k ≤ p2 k * p2 D := Nat.le_mul_of_pos_right _ hpD
        omega
      rw [this, ← Nat.div_div_eq_div_mul, Nat.add_mul_div_left _ _ hpk, Nat.div_eq_of_lt (show p2 k - 1 < p2 k by omega), Nat.zero_add]
    rw [q1, q2]
    unfold Toward.cut
    dsimp only
    rcases Nat.le_total D (m.log2 + 2) with hl | hl
    · rw [Nat.min_eq_left hl, Nat.one_shiftLeft, p2_def]
      cases s
      · simp only [Bool.not_false, Bool.true_and, Bool.false_eq_true, if_false]
        have hm := Nat.div_add_mod m (p2 D)
        by_cases hr : m % p2 D = 0
        · rw [hr]
          simp only [bne_self_eq_false, Bool.toNat_false, Nat.add_zero]
          rw [hr] at hm
          generalize m / p2 D = t at *
          rw [← hm, Nat.add_zero, Nat.add_comm, Nat.add_mul_div_left _ _ hpD, Nat.div_eq_of_lt (by omega), Nat.zero_add]
        · have hb : (m % p2 D != 0) = true := by simpa using hr
          have hlt := Nat.mod_lt m hpD
          rw [hb]
          simp only [Bool.toNat_true]
          generalize m / p2 D = t at *
          generalize m % p2 D = r at *
          have : m + (p2 D - 1) = (r - 1) + p2 D * (t + 1) := by rw [Nat.mul_add, Nat.mul_one]; omega
          rw [this, Nat.add_mul_div_left _ _ hpD, Nat.div_eq_of_lt (by omega), Nat.zero_add]
      · simp
    · rw [Nat.min_eq_right hl, Nat.one_shiftLeft]
      have hlt : m < 2 ^ (m.log2 + 2) := Nat.lt_trans Nat.lt_log2_self (Nat.pow_lt_pow_right (by decide) (by omega))
      have hltD : m < p2 D := by
        rw [← p2_def]
        exact Nat.lt_of_lt_of_le hlt (Nat.pow_le_pow_right (by decide) hl)
      rw [Nat.div_eq_of_lt hlt, Nat.mod_eq_of_lt hlt, Nat.div_eq_of_lt hltD]
      cases s
      · simp only [Bool.not_false, Bool.true_and, Bool.false_eq_true, if_false]
        by_cases h0 : m = 0
        · subst h0
          simp only [bne_self_eq_false, Bool.toNat_false]
          rw [Nat.zero_add, Nat.div_eq_of_lt (by omega)]
        · have hb : (m != 0) = true := by simpa using h0
          rw [hb]
          have : m + (p2 D - 1) = (m - 1) + p2 D * 1 := by omega
          rw [this, Nat.add_mul_div_left _ _ hpD, Nat.div_eq_of_lt (by omega)]
          rfl
      · simp

/-- The ceiling of a finite word: the whole number it is. -/
def ceilMag (a : Nat) : Nat := if neg a then mv (rung a) / U else (mv (rung a) + (U - 1)) / U
def ceilInt (a : Nat) : Int := if neg a then -(ceilMag a : Int) else ceilMag a
theorem ceil_spec (a : Nat) (h : Fnt a) (hb : ceilMag a ≤ 18446744073709551616) :
    dbl.write ((dbl.read a).integral .up) = dbl.nearest (neg a) (ceilMag a) 0 ∧ sv (dbl.nearest (neg a) (ceilMag a) 0) = ceilInt a * U ∧ Fnt (dbl.nearest (neg a) (ceilMag a) 0) := by
  obtain ⟨m, k, e, hm, hlt⟩ := read_fin' a h
  have hc := cut_up (neg a) m k
  rw [hm] at hc
  change _ = ceilMag a at hc
  refine ⟨by rw [e]; unfold Datum.integral; dsimp only; rw [hc]; rfl, ?_⟩
  have hs : ∃ q j, ceilMag a = q * 2 ^ j ∧ q < 9007199254740992 := by
    rcases Nat.le_total 1074 k with hk | hk
    · have e2 : mv (rung a) = m * p2 (k - 1074) * U := by rw [← hm]; unfold U; rw [Nat.mul_assoc, ← p2_add, Nat.sub_add_cancel hk]
      have := cut_whole .up (neg a) m k _ (hm.trans e2)
      rw [hc] at this
      exact ⟨m, k - 1074, by rw [this, p2_def], hlt⟩
    · refine ⟨ceilMag a, 0, by simp, ?_⟩
      rcases Nat.eq_or_lt_of_le hk with rfl | hk'
      · have := cut_whole .up (neg a) m 1074 m rfl
        rw [hc] at this; omega
      · have hU : p2 k * 2 ≤ U := by
          have : U = p2 k * p2 (1074 - k) := by unfold U; rw [← p2_add]; congr 1; omega
          rw [this]
          refine Nat.mul_le_mul_left _ ?_
          have h1 : p2 1 ≤ p2 (1074 - k) := by
            rcases Nat.eq_or_lt_of_le (show 1 ≤ 1074 - k by omega) with h | h
            · rw [← h]; exact Nat.le_refl _
            · exact Nat.le_of_lt (p2_lt h)
          have h2 : p2 1 = 2 := by rw [← p2_def]
          omega
        have hpk := p2_pos k
        have hU0 := U_pos
        have hmv : mv (rung a) < 9007199254740991 * U + 1 := by
          have : m * (p2 k * 2) ≤ 9007199254740991 * U := Nat.mul_le_mul (by omega) hU
          rw [← Nat.mul_assoc, hm] at this
          omega
        unfold ceilMag
        split
        · refine Nat.div_lt_of_lt_mul ?_
          rw [Nat.mul_comm]; omega
        · refine Nat.div_lt_of_lt_mul ?_
          rw [Nat.mul_comm]; omega
  obtain ⟨q, j, hq, hql⟩ := hs
  rw [hq] at hb
  have := sv_nearest (neg a) q j hql hb
  rw [← hq] at this
  exact this

/-- A finite word that is a whole number, as an integer. -/
theorem toInt_whole (g : Nat) (n : Int) (h : Fnt g) (hn : sv g = n * U) : (dbl.read g).toInt .zero = some n := by
  obtain ⟨m, k, e, hm, _⟩ := read_fin' g h
  have hU := U_pos
  have habs : mv (rung g) = n.natAbs * U := by
    have := sv_abs g
    rw [hn, Int.natAbs_mul] at this
    simpa using this.symm
  have hc := cut_whole .zero (neg g) m k _ (hm.trans habs)
  unfold Datum.toInt
  rw [e]
  unfold Datum.integral
  dsimp only
  rw [hc]
  congr 1
  unfold signed
  rw [Nat.shiftLeft_zero]
  unfold sv at hn
  split at hn
  · rename_i hs
    rw [hs]
    simp only [if_true]
    have : n ≤ 0 := by
      by_cases h1 : 0 < n
      · have : 0 < n * (U : Int) := Int.mul_pos h1 (by omega)
        omega
      · omega
    omega
  · rename_i hs
    rw [Bool.not_eq_true] at hs
    rw [hs]
    simp only [Bool.false_eq_true, if_false]
    have : 0 ≤ n := by
      by_cases h1 : n < 0
      · have : n * (U : Int) < 0 := Int.mul_neg_of_neg_of_pos h1 (by omega)
        omega
      · omega
    omega
end Fl
end Go.Proofs.Ytljcncfipocnpaa
