/- Contracts of the document's Ceil, Advice, New. -/
import Derived.Test.YtljcncfipocnpaaRefNote
import Derived.Test.YtljcncfipocnpaaAdvice
namespace Go.Proofs.Ytljcncfipocnpaa
open Go.RowKit Fl

set_option maxRecDepth 100000 in
set_option maxHeartbeats 800000 in
theorem ref_ceil_up (a m n C : Nat) (na : Bool) (w : World) (ha : a < NB) (ga : Hid (pn a = na ∧ pm a = m ∧ pe a = (n : Int))) (hn : n ≤ 971) (q : IntKind.u64.wrap ((m : Int) * 2 ^ min n 64) = (C : Int)) :
    Calls Try.prog 36 #[.int .u64 a] w fun r w' => r = .returned (.tuple #[.bool na, .int .u64 C]) ∧ w = w' := by
  go_enter Try.func36, Try.ntmps36
  go_wp2_with fail
  refine (ref_parts a _ ha).mono ?_
  rw [ga.out.1, ga.out.2.1, ga.out.2.2]
  rintro r W1 ⟨rfl, rfl⟩
  go_wp2_with fail
  go_ret2
  exact ⟨rfl, rfl⟩
set_option maxRecDepth 100000 in
set_option maxHeartbeats 800000 in
theorem ref_ceil_far (a m s C : Nat) (na : Bool) (w : World) (ha : a < NB) (ga : Hid (pn a = na ∧ pm a = m ∧ pe a = -(s : Int))) (hs : 64 ≤ s) (hs2 : s ≤ 1074)
    (hc : Hid ((m = 0 ∧ C = 0) ∨ (((m : Int) == 0) = false ∧ na = true ∧ C = 0) ∨ (((m : Int) == 0) = false ∧ na = false ∧ C = 1))) :
    Calls Try.prog 36 #[.int .u64 a] w fun r w' => r = .returned (.tuple #[.bool na, .int .u64 C]) ∧ w = w' := by
  have hs' : (64 : Int) ≤ s := by omega
  go_enter Try.func36, Try.ntmps36
  go_wp2_with fail
  refine (ref_parts a _ ha).mono ?_
  rw [ga.out.1, ga.out.2.1, ga.out.2.2]
  rintro r W1 ⟨rfl, rfl⟩
  rcases hc.out with ⟨rfl, rfl⟩ | ⟨h1, rfl, rfl⟩ | ⟨h1, rfl, rfl⟩
  · cases na
    all_goals
      go_wp2_with fail
      go_ret2
      exact ⟨rfl, rfl⟩
  · go_wp2_with fail
    go_ret2
    exact ⟨rfl, rfl⟩
  · go_wp2_with fail
    go_ret2
    exact ⟨rfl, rfl⟩
set_option maxRecDepth 100000 in
set_option maxHeartbeats 800000 in
theorem ref_ceil_near (a m s p C : Nat) (na : Bool) (w : World) (ha : a < NB) (ga : Hid (pn a = na ∧ pm a = m ∧ pe a = -(s : Int))) (hs : s < 64) (hs0 : 0 < s)
    (q1 : (m : Int) / 2 ^ s = (p : Int)) (hp : p < 9007199254740992)
    (hc : Hid ((m = 0 ∧ p = 0 ∧ C = 0) ∨ (((m : Int) == 0) = false ∧ (IntKind.u64.wrap ((p : Int) * 2 ^ s) == (m : Int)) = true ∧ C = p) ∨ (((m : Int) == 0) = false ∧ (IntKind.u64.wrap ((p : Int) * 2 ^ s) == (m : Int)) = false ∧ na = true ∧ C = p) ∨ (((m : Int) == 0) = false ∧ (IntKind.u64.wrap ((p : Int) * 2 ^ s) == (m : Int)) = false ∧ na = false ∧ C = p + 1))) :
    Calls Try.prog 36 #[.int .u64 a] w fun r w' => r = .returned (.tuple #[.bool na, .int .u64 C]) ∧ w = w' := by
  have hs' : ¬ (64 : Int) ≤ s := by omega
  have hs2 : ¬ (0 : Int) ≤ -(s : Int) := by omega
  go_enter Try.func36, Try.ntmps36
  go_wp2_with fail
  refine (ref_parts a _ ha).mono ?_
  rw [ga.out.1, ga.out.2.1, ga.out.2.2]
  rintro r W1 ⟨rfl, rfl⟩
  rcases hc.out with ⟨rfl, rfl, rfl⟩ | ⟨h1, h2, rfl⟩ | ⟨h1, h2, rfl, rfl⟩ | ⟨h1, h2, rfl, rfl⟩
  · cases na
    all_goals
      go_wp2_with fail
      go_ret2
      exact ⟨rfl, rfl⟩
  · cases na
    all_goals
      go_wp2_with fail
      go_ret2
      exact ⟨rfl, rfl⟩
  · go_wp2_with fail
    go_ret2
    exact ⟨rfl, rfl⟩
  · go_wp2_with fail
    go_ret2
    exact ⟨rfl, rfl⟩

theorem ceil_div (m P S : Nat) (hP : 0 < P) (hS : 0 < S) : (m * P + (P * S - 1)) / (P * S) = m / S + (if m % S = 0 then 0 else 1) ∧ m * P / (P * S) = m / S := by
  have hPS : 0 < P * S := Nat.mul_pos hP hS
  have hm := Nat.div_add_mod m S
  have hr := Nat.mod_lt m hS
  generalize m / S = q at *
  generalize m % S = r at *
  subst hm
  have e : (S * q + r) * P = P * S * q + r * P := by rw [Nat.add_mul]; congr 1; ac_rfl
  have hrP : r * P + P ≤ P * S := by
    have : (r + 1) * P ≤ S * P := Nat.mul_le_mul_right _ hr
    rw [Nat.add_mul, Nat.one_mul, Nat.mul_comm S] at this; exact this
  rw [e]
  refine ⟨?_, ?_⟩
  · rw [Nat.add_assoc, Nat.mul_add_div hPS]
    congr 1
    by_cases h0 : r = 0
    · rw [if_pos h0, h0, Nat.zero_mul, Nat.zero_add]; exact Nat.div_eq_of_lt (by omega)
    · rw [if_neg h0]
      have h1 : 1 * P ≤ r * P := Nat.mul_le_mul_right _ (by omega)
      have e2 : r * P + (P * S - 1) = (r * P - 1) + P * S := by omega
      rw [e2, Nat.add_div_right _ hPS, Nat.div_eq_of_lt (by omega)]
  · rw [Nat.mul_add_div hPS, Nat.div_eq_of_lt (by omega), Nat.add_zero]
theorem p2_1137 : p2 1137 = 9223372036854775808 * U := by
  have e : p2 1137 = p2 63 * U := p2_add 63 1074
  rw [e, p2_63]
theorem ref_ceil (a : Nat) (w : World) (h : AvgIs a) :
    Calls Try.prog 36 #[.int .u64 a] w fun r w' => r = .returned (.tuple #[.bool (pn a), .int .u64 (ceilMag a : Nat)]) ∧ w = w' := by
  obtain ⟨c, ea, va, la, ca, da⟩ := parts_fin a h.fin
  have hn : neg a = pn a := pn_eq a h.lt
  have hU := U_pos
  have hlim : mv (rung a) ≤ 9223372036854775808 * U := by rw [← p2_1137]; exact h.lim
  rcases Nat.lt_or_ge c 1074 with hc | hc
  · obtain ⟨s, hs⟩ : ∃ s, c + s = 1074 := ⟨1074 - c, by omega⟩
    have eU : U = p2 c * 2 ^ s := by
      have : p2 (c + s) = p2 c * p2 s := p2_add c s
      rw [hs] at this
      rw [p2_def]; exact this
    have hps := Nat.two_pow_pos s
    obtain ⟨d1, d2⟩ := ceil_div (pm a) (p2 c) (2 ^ s) (p2_pos c) hps
    have eC : ceilMag a = pm a / 2 ^ s + (if pn a = true then 0 else if pm a % 2 ^ s = 0 then 0 else 1) := by
      unfold ceilMag
      rw [hn, va, eU, d1, d2]
      cases pn a <;> simp
    rw [eC]
    have ga : pn a = pn a ∧ pm a = pm a ∧ pe a = -(s : Int) := ⟨rfl, rfl, by omega⟩
    rcases Nat.lt_or_ge s 64 with h64 | h64
    · refine ref_ceil_near a (pm a) s (pm a / 2 ^ s) _ (pn a) w h.lt (hide ga) h64 (by omega) ?_ (Nat.lt_of_le_of_lt (Nat.div_le_self _ _) la) (hide ?_)
      · rw [castdiv]
      · have hdm := Nat.div_add_mod (pm a) (2 ^ s)
        have hle := Nat.div_mul_le_self (pm a) (2 ^ s)
        have hw : IntKind.u64.wrap (((pm a / 2 ^ s : Nat) : Int) * 2 ^ s) = ((pm a / 2 ^ s * 2 ^ s : Nat) : Int) := by
          rw [wrapmul, Nat.mod_eq_of_lt (by unfold NB; omega)]
        rw [hw]
        rw [Nat.mul_comm] at hdm
        by_cases h0 : pm a = 0
        · left
          refine ⟨h0, ?_, ?_⟩
          · rw [h0, Nat.zero_div]
          · rw [h0, Nat.zero_div, Nat.zero_mod]; cases pn a <;> simp
        · right
          have hb : (((pm a : Nat) : Int) == 0) = false := beq_false_of_ne (by omega)
          by_cases hr : pm a % 2 ^ s = 0
          · left
            refine ⟨hb, ?_, ?_⟩
            · rw [beq_iff_eq]; omega
            · rw [if_pos hr]; split <;> rfl
          · right
            have hne : (((pm a / 2 ^ s * 2 ^ s : Nat) : Int) == (pm a : Int)) = false := beq_false_of_ne (by omega)
            rw [if_neg hr]
            cases hp : pn a
            · right; exact ⟨hb, hne, rfl, by simp⟩
            · left; exact ⟨hb, hne, rfl, by simp⟩
    · have hbig : pm a < 2 ^ s := Nat.lt_of_lt_of_le (Nat.lt_trans la (by decide : 9007199254740992 < 2 ^ 64)) (Nat.pow_le_pow_right (by decide) h64)
      rw [Nat.div_eq_of_lt hbig, Nat.mod_eq_of_lt hbig, Nat.zero_add]
      refine ref_ceil_far a (pm a) s _ (pn a) w h.lt (hide ga) h64 (by omega) (hide ?_)
      by_cases h0 : pm a = 0
      · left; exact ⟨h0, by rw [if_pos h0]; split <;> rfl⟩
      · right
        have hb : (((pm a : Nat) : Int) == 0) = false := beq_false_of_ne (by omega)
        rw [if_neg h0]
        cases hp : pn a
        · right; exact ⟨hb, rfl, by simp⟩
        · left; exact ⟨hb, rfl, by simp⟩
  · obtain ⟨n, rfl⟩ : ∃ n, c = n + 1074 := ⟨c - 1074, by omega⟩
    have hm52 : 4503599627370496 ≤ pm a := da.resolve_left (by omega)
    have e1 : mv (rung a) = pm a * p2 n * U := by
      rw [va, p2_add, ← Nat.mul_assoc]; rfl
    have hle : pm a * p2 n ≤ 9223372036854775808 := by
      rw [e1] at hlim
      exact Nat.le_of_mul_le_mul_right hlim hU
    have hn11 : n ≤ 11 := by
      rcases Nat.lt_or_ge 11 n with h | h
      · exfalso
        have h1 := p2_le h
        have h12 : p2 12 = 4096 := by rw [← p2_def]
        have := Nat.mul_le_mul hm52 (Nat.le_trans (by rw [← h12]; exact Nat.le_refl _) h1 : 4096 ≤ p2 n)
        omega
      · exact h
    have eC : ceilMag a = pm a * p2 n := by
      unfold ceilMag
      rw [e1]
      split
      · exact Nat.mul_div_cancel _ hU
      · rw [Nat.add_comm, Nat.add_mul_div_right _ _ hU, Nat.div_eq_of_lt (by omega), Nat.zero_add]
    rw [eC]
    refine ref_ceil_up a (pm a) n _ (pn a) w h.lt (hide ⟨rfl, rfl, by omega⟩) (by omega) ?_
    rw [Nat.min_eq_left (by omega), wrapmul, p2_def, Nat.mod_eq_of_lt (by unfold NB; omega)]
end Go.Proofs.Ytljcncfipocnpaa
