/- Plain facts on float64 words: the nearest word of a number given as floor and rest. -/
import Derived.Test.YtljcncfipocnpaaFloat3
namespace Go.Proofs.Ytljcncfipocnpaa
namespace Fl
open Ieee

/-- V over 2^T, rounded to the nearest, ties to even. -/
def rne (V T : Nat) : Nat := V / 2 ^ T + if 2 ^ T < 2 * (V % 2 ^ T) ∨ (2 ^ T = 2 * (V % 2 ^ T) ∧ V / 2 ^ T % 2 = 1) then 1 else 0
/-- The rung of V units, K binary digits below the least place. -/
def rungOf (V K : Nat) : Nat := (max (V.log2 - 52) K - K) * 4503599627370496 + rne V (max (V.log2 - 52) K)

theorem even_more (g r l : Nat) : (decide (g < 2 * r) || (g == 2 * r && l % 2 == 1)).toNat = if g < 2 * r ∨ (g = 2 * r ∧ l % 2 = 1) then 1 else 0 := by
  by_cases h1 : g < 2 * r
  · simp [h1]
  · by_cases h2 : g = 2 * r ∧ l % 2 = 1
    · rw [if_pos (.inr h2)]; simp [h2.1, h2.2]
    · rw [if_neg (fun h => h.elim h1 h2)]
      have : ¬ (g = 2 * r ∧ l % 2 = 1) := h2
      simp only [h1, decide_false, Bool.false_or]
      by_cases h3 : g = 2 * r
      · have h4 : ¬ l % 2 = 1 := fun h => this ⟨h3, h⟩
        simp [h3, h4]
      · simp [h3]
theorem rne_exact (q T : Nat) : rne (q * 2 ^ T) T = q := by
  unfold rne
  have hp := Nat.two_pow_pos T
  rw [Nat.mul_mod_left, Nat.mul_div_cancel _ hp, if_neg (by omega), Nat.add_zero]

theorem cut_rne (s : Bool) (mag D : Nat) (h0 : mag ≠ 0) : Toward.even.cut s mag D = rne mag D := by
  unfold Toward.cut rne
  dsimp only
  rcases Nat.le_total D (mag.log2 + 2) with hl | hl
  · rw [Nat.min_eq_left hl, Nat.one_shiftLeft, even_more]
  · rw [Nat.min_eq_right hl, Nat.one_shiftLeft, even_more]
    have hlt : 2 * mag < 2 ^ (mag.log2 + 2) := by
      have : mag < 2 ^ (mag.log2 + 1) := Nat.lt_log2_self
      rw [show mag.log2 + 2 = mag.log2 + 1 + 1 by omega, Nat.pow_succ]; omega
    have hle : 2 ^ (mag.log2 + 2) ≤ 2 ^ D := Nat.pow_le_pow_right (by decide) hl
    have hm : 0 < mag := Nat.pos_of_ne_zero h0
    rw [Nat.div_eq_of_lt (show mag < 2 ^ (mag.log2 + 2) by omega), Nat.mod_eq_of_lt (show mag < 2 ^ (mag.log2 + 2) by omega),
      Nat.div_eq_of_lt (show mag < 2 ^ D by omega), Nat.mod_eq_of_lt (show mag < 2 ^ D by omega), if_neg (by omega), if_neg (by omega)]

theorem rne_scale (mag D p : Nat) : rne (mag * 2 ^ p) (D + p) = rne mag D := by
  unfold rne
  have hp := Nat.two_pow_pos p
  have e1 : mag * 2 ^ p / 2 ^ (D + p) = mag / 2 ^ D := by rw [Nat.pow_add, Nat.mul_div_mul_right _ _ hp]
  have e2 : mag * 2 ^ p % 2 ^ (D + p) = mag % 2 ^ D * 2 ^ p := by rw [Nat.pow_add, Nat.mul_mod_mul_right]
  rw [e1, e2]
  congr 1
  have e3 : (2 ^ (D + p) < 2 * (mag % 2 ^ D * 2 ^ p)) ↔ 2 ^ D < 2 * (mag % 2 ^ D) := by
    rw [Nat.pow_add, ← Nat.mul_assoc]; exact Nat.mul_lt_mul_right hp
  have e4 : (2 ^ (D + p) = 2 * (mag % 2 ^ D * 2 ^ p)) ↔ 2 ^ D = 2 * (mag % 2 ^ D) := by
    rw [Nat.pow_add, ← Nat.mul_assoc]
    exact ⟨fun h => Nat.eq_of_mul_eq_mul_right hp h, fun h => congrArg (· * 2 ^ p) h⟩
  simp only [e3, e4]

theorem nearest_rung (s : Bool) (mag : Nat) (place : Int) (K p : Nat) (hp : place = dbl.leastPlace + (p : Int) - (K : Int)) (h0 : mag ≠ 0) (hi : rungOf (mag * 2 ^ p) K ≤ inf) :
    dbl.nearest s mag place = dbl.word s (rungOf (mag * 2 ^ p) K) := by
  have e1 : dbl.leastPlace = -1074 := by decide
  have e2 : dbl.binade = 4503599627370496 := by decide
  have e3 : dbl.infRung = inf := by decide
  have e4 : (dbl.fractionBits : Int) = 52 := by decide
  unfold rungOf at hi
  unfold Format.nearest rungOf
  rw [if_neg h0]
  simp only [e1, e2, e3, e4]
  rw [hp, e1]
  have hlog : (mag * 2 ^ p).log2 = mag.log2 + p := log2_mul_pow mag p h0
  rw [hlog] at hi ⊢
  generalize hT : max (mag.log2 + p - 52) K = T at hi ⊢
  have a1 : max (-1074 + (p : Int) - (K : Int) + (mag.log2 : Int) - 52) (-1074) = -1074 + ((T - K : Nat) : Int) := by omega
  rw [a1]
  have a2 : (-1074 + ((T - K : Nat) : Int) - -1074).toNat = T - K := by omega
  rw [a2]
  have hk : Toward.even.cut s (mag <<< (-1074 + (p : Int) - (K : Int) - (-1074 + ((T - K : Nat) : Int))).toNat) (-1074 + ((T - K : Nat) : Int) - (-1074 + (p : Int) - (K : Int))).toNat = rne (mag * 2 ^ p) T := by
    rcases Nat.le_total T p with h | h
    · have b1 : (-1074 + (p : Int) - (K : Int) - (-1074 + ((T - K : Nat) : Int))).toNat = p - T := by omega
      have b2 : (-1074 + ((T - K : Nat) : Int) - (-1074 + (p : Int) - (K : Int))).toNat = 0 := by omega
      rw [b1, b2, cut_zero, Nat.shiftLeft_eq]
      have : mag * 2 ^ p = mag * 2 ^ (p - T) * 2 ^ T := by rw [Nat.mul_assoc, ← Nat.pow_add, Nat.sub_add_cancel h]
      rw [this, rne_exact]
    · have b1 : (-1074 + (p : Int) - (K : Int) - (-1074 + ((T - K : Nat) : Int))).toNat = 0 := by omega
      have b2 : (-1074 + ((T - K : Nat) : Int) - (-1074 + (p : Int) - (K : Int))).toNat = T - p := by omega
      rw [b1, b2, Nat.shiftLeft_zero, cut_rne s mag _ h0, ← rne_scale mag (T - p) p, Nat.sub_add_cancel h]
  rw [hk, Nat.min_eq_left hi]

/-- Rounding does not pass a power of two. -/
theorem rungOf_le (V K J : Nat) (hJ : 53 ≤ J) (h : V ≤ 2 ^ (J + K)) : rungOf V K ≤ (J - 51) * 4503599627370496 := by
  unfold rungOf
  rcases Nat.eq_or_lt_of_le h with rfl | h
  · rw [Nat.log2_two_pow]
    have e : max (J + K - 52) K = J + K - 52 := by omega
    rw [e]
    have : (2 : Nat) ^ (J + K) = 2 ^ 52 * 2 ^ (J + K - 52) := by rw [← Nat.pow_add]; congr 1; omega
    rw [this, rne_exact]
    have : (2 : Nat) ^ 52 = 4503599627370496 := by decide
    rw [this]
    have : J + K - 52 - K = J - 52 := by omega
    rw [this]
    have : (J - 51) = (J - 52) + 1 := by omega
    rw [this, Nat.add_mul]; omega
  · have hl : V.log2 < J + K := by
      by_cases h0 : V = 0
      · subst h0; simp; omega
      · exact (Nat.log2_lt h0).2 h
    generalize hT : max (V.log2 - 52) K = T
    have hV : V < 2 ^ (T + 53) := Nat.lt_of_lt_of_le Nat.lt_log2_self (Nat.pow_le_pow_right (by decide) (by omega))
    have hq : V / 2 ^ T < 9007199254740992 := by
      refine Nat.div_lt_of_lt_mul ?_
      have : (9007199254740992 : Nat) = 2 ^ 53 := by decide
      rw [this, ← Nat.pow_add]; exact hV
    have hr : rne V T ≤ 9007199254740992 := by unfold rne; split <;> omega
    have hTK : T - K ≤ J - 53 := by omega
    have := Nat.mul_le_mul_right 4503599627370496 hTK
    have e : (J - 51) * 4503599627370496 = (J - 53) * 4503599627370496 + 9007199254740992 := by
      have : J - 51 = J - 53 + 2 := by omega
      rw [this, Nat.add_mul]
    rw [e]
    exact Nat.add_le_add this hr

/-- Floor and rest: V = W * 2^c + r; the rounding at c + s digits, s > 0, by W and whether something is left. -/
theorem rne_floor (W c s r : Nat) (hs : 0 < s) (hr : r < 2 ^ c) :
    rne (W * 2 ^ c + r) (c + s) = W / 2 ^ s + if 2 ^ (s - 1) < W % 2 ^ s ∨ (2 ^ (s - 1) = W % 2 ^ s ∧ (0 < r ∨ W / 2 ^ s % 2 = 1)) then 1 else 0 := by
  unfold rne
  have hc := Nat.two_pow_pos c
  have hsp := Nat.two_pow_pos s
  have e0 : (W * 2 ^ c + r) / 2 ^ c = W := by rw [Nat.add_comm, Nat.add_mul_div_right _ _ hc, Nat.div_eq_of_lt hr, Nat.zero_add]
  have e1 : (W * 2 ^ c + r) / 2 ^ (c + s) = W / 2 ^ s := by rw [Nat.pow_add, ← Nat.div_div_eq_div_mul, e0]
  have e2 : (W * 2 ^ c + r) % 2 ^ (c + s) = W % 2 ^ s * 2 ^ c + r := by
    have h1 := Nat.div_add_mod (W * 2 ^ c + r) (2 ^ (c + s))
    rw [e1] at h1
    have h2 := Nat.div_add_mod W (2 ^ s)
    have h3 : 2 ^ (c + s) * (W / 2 ^ s) + W % 2 ^ s * 2 ^ c = W * 2 ^ c := by
      conv => rhs; rw [← h2]
      rw [Nat.add_mul, Nat.pow_add, Nat.mul_comm (2 ^ c) (2 ^ s), Nat.mul_right_comm]
    omega
  rw [e1, e2]
  congr 1
  have hh : 2 ^ s = 2 * 2 ^ (s - 1) := by rw [← Nat.pow_succ']; congr 1; omega
  have e3 : 2 ^ (c + s) = 2 * (2 ^ (s - 1) * 2 ^ c) := by rw [Nat.pow_add, hh, ← Nat.mul_assoc, Nat.mul_comm (2 ^ c) 2, Nat.mul_assoc, Nat.mul_comm (2 ^ c)]
  rw [e3]
  generalize W % 2 ^ s = R
  generalize 2 ^ (s - 1) = Hf
  generalize 2 ^ c = C at *
  generalize W / 2 ^ s % 2 = b
  have k1 : (2 * (Hf * C) < 2 * (R * C + r)) ↔ (Hf < R ∨ (Hf = R ∧ 0 < r)) := by
    constructor
    · intro h
      have h' : Hf * C < R * C + r := by omega
      rcases Nat.lt_trichotomy Hf R with a | a | a
      · exact .inl a
      · subst a; exact .inr ⟨rfl, by omega⟩
      · have : (R + 1) * C ≤ Hf * C := Nat.mul_le_mul_right _ a
        rw [Nat.add_mul, Nat.one_mul] at this; omega
    · rintro (a | ⟨rfl, a⟩)
      · have : (Hf + 1) * C ≤ R * C := Nat.mul_le_mul_right _ a
        rw [Nat.add_mul, Nat.one_mul] at this; omega
      · omega
  have k2 : (2 * (Hf * C) = 2 * (R * C + r)) ↔ (Hf = R ∧ r = 0) := by
    constructor
    · intro h
      have h' : Hf * C = R * C + r := by omega
      rcases Nat.lt_trichotomy Hf R with a | a | a
      · have : (Hf + 1) * C ≤ R * C := Nat.mul_le_mul_right _ a
        rw [Nat.add_mul, Nat.one_mul] at this; omega
      · subst a; exact ⟨rfl, by omega⟩
      · have : (R + 1) * C ≤ Hf * C := Nat.mul_le_mul_right _ a
        rw [Nat.add_mul, Nat.one_mul] at this; omega
    · rintro ⟨rfl, rfl⟩; rfl
  simp only [k1, k2]
  have : (((Hf < R ∨ (Hf = R ∧ 0 < r)) ∨ ((Hf = R ∧ r = 0) ∧ b = 1))) ↔ (Hf < R ∨ (Hf = R ∧ (0 < r ∨ b = 1))) := by
    constructor
    · rintro ((a | ⟨a, b⟩) | ⟨⟨a, b⟩, c⟩)
      · exact .inl a
      · exact .inr ⟨a, .inl b⟩
      · exact .inr ⟨a, .inr c⟩
    · rintro (a | ⟨a, b | b⟩)
      · exact .inl (.inl a)
      · exact .inl (.inr ⟨a, b⟩)
      · rcases Nat.eq_zero_or_pos r with h | h
        · exact .inr ⟨⟨a, h⟩, b⟩
        · exact .inl (.inr ⟨a, h⟩)
  by_cases hq : (Hf < R ∨ (Hf = R ∧ (0 < r ∨ b = 1)))
  · rw [if_pos hq, if_pos (this.2 hq)]
  · rw [if_neg hq, if_neg (fun h => hq (this.1 h))]
end Fl
end Go.Proofs.Ytljcncfipocnpaa
