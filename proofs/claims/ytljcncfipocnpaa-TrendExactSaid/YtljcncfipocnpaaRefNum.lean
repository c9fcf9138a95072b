/- Contracts of the document's Amount, Of, Neg, Less. -/
import Derived.Test.YtljcncfipocnpaaRnd2
import Derived.RegionTactic
import Derived.Deep.QuietTactic
namespace Go.Proofs.Ytljcncfipocnpaa
open Go.RowKit Fl

set_option maxHeartbeats 400000 in
theorem ref_amount (x : Int) (w : World) (h0 : -9223372036854775808 ≤ x) (h1 : x ≤ 9223372036854775807) :
    Calls Try.prog 37 #[.int .i64 x] w fun e w' => e = .returned (.int .u64 (x.natAbs : Nat)) ∧ w = w' := by
  by_cases h : x < 0
  · obtain ⟨n, hn⟩ : ∃ n : Nat, x = -(n : Int) - 1 := ⟨(-x - 1).toNat, by omega⟩
    subst hn
    have e1 : ((-(n : Int) - 1).natAbs : Nat) = n + 1 := by omega
    rw [e1]
    go_enter Try.func37, Try.ntmps37
    go_wp2
    go_ret
    exact ⟨ret_i (by omega), rfl⟩
  · obtain ⟨n, hn⟩ : ∃ n : Nat, x = (n : Int) := ⟨x.toNat, by omega⟩
    subst hn
    rw [Int.natAbs_natCast]
    go_enter Try.func37, Try.ntmps37
    go_wp2
    go_ret
    exact ⟨rfl, rfl⟩

theorem p2_63 : p2 63 = 9223372036854775808 := by rw [← p2_def]
theorem of_bound {n : Nat} (h : n ≤ 9223372036854775808) : rungOf (n * U) 0 ≤ 1086 * 4503599627370496 := by
  have e : p2 (1137 + 0) = p2 63 * U := p2_add 63 1074
  exact rungOf_le' (n * U) 0 1137 (by decide) (by rw [e, p2_63]; exact Nat.mul_le_mul_right _ h)
theorem ref_of (x : Int) (w : World) (h0 : -9223372036854775808 ≤ x) (h1 : x ≤ 9223372036854775807) :
    Calls Try.prog 30 #[.int .i64 x] w fun e w' => e = .returned (.int .u64 (cnv x : Nat)) ∧ Fr no w w' := by
  have hb := of_bound (show x.natAbs ≤ 9223372036854775808 by omega)
  have hw := cnv_word x (Nat.le_trans hb (by decide))
  have hm : mag x.natAbs 0 false = rungOf (x.natAbs * U) 0 := by
    by_cases hz : x.natAbs = 0
    · rw [hz, mag_zero, Nat.zero_mul, rungOf_zero]
    · exact mag_rung' x.natAbs 0 0 1074 0 false hz (p2_pos _) (by omega) rfl (fun _ => rfl)
  have hk : (0 : Int) + shI x.natAbs 0 + 1075 ≤ 2045 := by
    by_cases hz : x.natAbs = 0
    · rw [hz]; decide
    · have := mag_top x.natAbs 0 false hz (by rw [hm]; exact hb)
      omega
  rw [hw, ← hm]
  clear hw hm hb
  have H : Halves 0 x.natAbs x.natAbs := ⟨by decide, by unfold NB; omega, by omega⟩
  go_enter Try.func30, Try.ntmps30
  go_wp2_with fail
  refine (ref_amount x _ h0 h1).mono ?_
  rintro r W1 ⟨rfl, rfl⟩
  go_wp2_with fail
  refine (ref_round (decide (x < 0)) false 0 x.natAbs x.natAbs 0 _ H (by omega) hk).mono ?_
  rintro r W1 ⟨rfl, F⟩
  go_wp2_with fail
  go_ret
  exact ⟨rfl, F⟩

/-- A word with its sign turned. -/
def flip (a : Nat) : Nat := if a < 9223372036854775808 then a + 9223372036854775808 else a - 9223372036854775808
theorem xor_lo (x i : Nat) (h : x < 2 ^ i) : x ^^^ 2 ^ i = x + 2 ^ i := by
  have e : 2 ^ i + x = 2 ^ i ||| x := by
    have := Nat.two_pow_add_eq_or_of_lt h 1
    rw [Nat.mul_one] at this; exact this
  rw [Nat.add_comm, e]
  apply Nat.eq_of_testBit_eq
  intro j
  rw [Nat.testBit_xor, Nat.testBit_or, Nat.testBit_two_pow]
  by_cases hj : i = j
  · subst hj
    rw [Nat.testBit_lt_two_pow h]; simp
  · rw [decide_eq_false hj]; simp
theorem xor63 (x : Nat) (hx : x < NB) : bits .xor .u64 (x : Int) 9223372036854775808 = ((flip x : Nat) : Int) := by
  have h : (9223372036854775808 : Int) = ((9223372036854775808 : Nat) : Int) := rfl
  have h2 : (9223372036854775808 : Nat) = 2 ^ 63 := by decide
  rw [h, u64_xor_nat x _ hx (by decide)]
  congr 1
  unfold flip
  by_cases hlt : x < 9223372036854775808
  · rw [if_pos hlt, h2]; exact xor_lo x 63 (by rw [← h2]; exact hlt)
  · rw [if_neg hlt]
    obtain ⟨y, hy⟩ : ∃ y, x = y + 9223372036854775808 := ⟨x - 9223372036854775808, by omega⟩
    have hy2 : y < 2 ^ 63 := by unfold NB at hx; omega
    have e := xor_lo y 63 hy2
    rw [← h2] at e
    rw [hy, ← e, Nat.xor_assoc, Nat.xor_self, Nat.xor_zero, e]; omega
set_option maxHeartbeats 400000 in
theorem ref_neg (a : Nat) (w : World) (ha : a < NB) :
    Calls Try.prog 33 #[.int .u64 a] w fun e w' => e = .returned (.int .u64 (flip a : Nat)) ∧ w = w' := by
  have q := xor63 a ha
  go_enter Try.func33, Try.ntmps33
  go_wp2
  go_ret
  exact ⟨rfl, rfl⟩

theorem pn_eq (a : Nat) (h : a < NB) : neg a = pn a := by
  unfold neg pn
  unfold NB at h
  by_cases h1 : 9223372036854775808 ≤ a
  · rw [decide_eq_true h1, beq_iff_eq]; omega
  · rw [decide_eq_false h1, beq_eq_false_iff_ne]; omega
theorem rung_lt (a : Nat) : rung a < 9223372036854775808 := Nat.mod_lt _ (by decide)
theorem rung_of (a : Nat) (h : a < NB) : a = (if pn a then 9223372036854775808 else 0) + rung a := by
  unfold pn rung
  unfold NB at h
  by_cases h1 : 9223372036854775808 ≤ a
  · rw [decide_eq_true h1, if_pos rfl]; omega
  · rw [decide_eq_false h1, if_neg (by decide)]; omega
theorem mv_iff (r s : Nat) : mv r < mv s ↔ r < s := ⟨fun h => by
  rcases Nat.lt_or_ge r s with h' | h'
  · exact h'
  · have := mv_le h'; omega, mv_lt⟩
theorem and63_any (a : Nat) (h : a < NB) : ∃ A : Nat, bits .and .u64 (a : Int) 9223372036854775808 = (A : Int) ∧ ((A : Int) != 0) = pn a := by
  refine ⟨_, and63 a h, ?_⟩
  unfold pn
  by_cases h : 9223372036854775808 ≤ a
  · rw [decide_eq_true h]; simp; omega
  · rw [decide_eq_false h]; simp; omega
theorem less_eq (a b : Nat) (ha : a < NB) (hb : b < NB) : decide (sv a < sv b) = if rung a = 0 ∧ rung b = 0 then false else if pn a != pn b then pn a else if pn a then decide (b < a) else decide (a < b) := by
  have ea := rung_of a ha
  have eb := rung_of b hb
  have la := rung_lt a
  have lb := rung_lt b
  have h1 := mv_iff (rung a) (rung b)
  have h2 := mv_iff (rung b) (rung a)
  have za := mv_iff 0 (rung a)
  have zb := mv_iff 0 (rung b)
  have z : mv 0 = 0 := by decide
  rw [z] at za zb
  unfold sv
  rw [pn_eq a ha, pn_eq b hb]
  generalize mv (rung a) = ma at *
  generalize mv (rung b) = mb at *
  generalize rung a = ra at *
  generalize rung b = rb at *
  by_cases h0 : ra = 0 ∧ rb = 0
  · rw [if_pos h0]
    apply decide_eq_false
    split <;> split <;> omega
  · rw [if_neg h0]
    cases ha' : pn a <;> cases hb' : pn b
    · rw [ha'] at ea; rw [hb'] at eb
      simp only [Bool.false_eq_true, if_false] at ea eb ⊢
      simp only [bne_self_eq_false, Bool.false_eq_true, if_false]
      rw [decide_eq_decide]; omega
    · simp only [Bool.false_eq_true, if_false, if_true]
      simp only [Bool.false_bne, if_true]
      apply decide_eq_false; omega
    · simp only [Bool.false_eq_true, if_false, if_true]
      simp only [Bool.bne_false, if_true]
      apply decide_eq_true; omega
    · rw [ha'] at ea; rw [hb'] at eb
      simp only [if_true] at ea eb ⊢
      simp only [bne_self_eq_false, Bool.false_eq_true, if_false]
      rw [decide_eq_decide]; omega
set_option maxRecDepth 100000 in
set_option maxHeartbeats 800000 in
theorem ref_less (a b : Nat) (w : World) (ha : a < NB) (hb : b < NB) :
    Calls Try.prog 34 #[.int .u64 a, .int .u64 b] w fun e w' => e = .returned (.bool (decide (sv a < sv b))) ∧ w = w' := by
  obtain ⟨A, qa, sa⟩ := and63_any a ha
  obtain ⟨B, qb, sb⟩ := and63_any b hb
  have hd : decide (sv a < sv b) = if rung a = 0 ∧ rung b = 0 then false else if pn a != pn b then pn a else if pn a then decide (b < a) else decide (a < b) := less_eq a b ha hb
  have za : (IntKind.u64.wrap ((a : Int) * 2) == 0) = decide (rung a = 0) := by
    rw [show (a : Int) * 2 = ((a * 2 : Nat) : Int) by omega, wrapn]
    unfold rung NB at *
    by_cases h : a % 9223372036854775808 = 0
    · rw [decide_eq_true h]; simp; omega
    · rw [decide_eq_false h]; simp; omega
  have zb : (IntKind.u64.wrap ((b : Int) * 2) == 0) = decide (rung b = 0) := by
    rw [show (b : Int) * 2 = ((b * 2 : Nat) : Int) by omega, wrapn]
    unfold rung NB at *
    by_cases h : b % 9223372036854775808 = 0
    · rw [decide_eq_true h]; simp; omega
    · rw [decide_eq_false h]; simp; omega
  rw [hd]
  clear hd
  generalize pn a = na at *
  generalize pn b = nb at *
  generalize rung a = ra at *
  generalize rung b = rb at *
  by_cases h1 : ra = 0 <;> by_cases h2 : rb = 0 <;> cases na <;> cases nb
  all_goals
    simp only [h1, h2, decide_true, decide_false] at za zb
    go_enter Try.func34, Try.ntmps34
    go_wp2
    go_ret
    refine ⟨?_, rfl⟩
    simp [*]
end Go.Proofs.Ytljcncfipocnpaa
