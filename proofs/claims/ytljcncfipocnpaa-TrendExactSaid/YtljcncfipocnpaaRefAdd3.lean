/- The document's Add is the sum: the contract. -/
import Derived.Test.YtljcncfipocnpaaRefAdd2
namespace Go.Proofs.Ytljcncfipocnpaa
open Go.RowKit Fl

def mb0 (b : Nat) : Nat := pm b * 1152921504606846976
theorem sum_like {n : Bool} {A B : Nat} {x y : Int} (hx : x = if n then -(A : Int) else (A : Int)) (hy : y = if n then -(B : Int) else (B : Int)) (hA : A ≠ 0) (neg0 : Bool) : sumWord neg0 (x + y) = dbl.word n (rungOf (A + B) 0) ∧ (x + y).natAbs = A + B := by
  subst hx hy
  unfold sumWord
  cases n
  · simp only [Bool.false_eq_true, if_false]
    rw [if_neg (by omega), decide_eq_false (by omega), show ((A : Int) + (B : Int)).natAbs = A + B by omega]
    exact ⟨rfl, rfl⟩
  · simp only [if_true]
    rw [if_neg (by omega), decide_eq_true (by omega), show (-(A : Int) + -(B : Int)).natAbs = A + B by omega]
    exact ⟨rfl, rfl⟩
theorem sum_less {n m : Bool} {A B : Nat} {x y : Int} (hx : x = if n then -(A : Int) else (A : Int)) (hy : y = if m then -(B : Int) else (B : Int)) (hm : m = !n) (hA : A < B) (neg0 : Bool) : sumWord neg0 (x + y) = dbl.word m (rungOf (B - A) 0) ∧ (x + y).natAbs = B - A := by
  subst hx hy hm
  unfold sumWord
  cases n
  · simp only [Bool.false_eq_true, if_false, Bool.not_false, if_true]
    rw [if_neg (by omega), decide_eq_true (by omega), show ((A : Int) + -(B : Int)).natAbs = B - A by omega]
    exact ⟨rfl, rfl⟩
  · simp only [Bool.false_eq_true, if_false, Bool.not_true, if_true]
    rw [if_neg (by omega), decide_eq_false (by omega), show (-(A : Int) + (B : Int)).natAbs = B - A by omega]
    exact ⟨rfl, rfl⟩
theorem sum_more {n m : Bool} {A B : Nat} {x y : Int} (hx : x = if n then -(A : Int) else (A : Int)) (hy : y = if m then -(B : Int) else (B : Int)) (hm : m = !n) (hA : B < A) (neg0 : Bool) : sumWord neg0 (x + y) = dbl.word n (rungOf (A - B) 0) ∧ (x + y).natAbs = A - B := by
  have := sum_less hy hx (by rw [hm, Bool.not_not]) hA neg0
  rw [Int.add_comm]; exact this
theorem sum_zero {n m : Bool} {A B : Nat} {x y : Int} (hx : x = if n then -(A : Int) else (A : Int)) (hy : y = if m then -(B : Int) else (B : Int)) (hm : m = !n) (hA : A = B) : sumWord (n && m) (x + y) = 0 := by
  subst hx hy hm hA
  have e : ((if n then -(A : Int) else (A : Int)) + if (!n) then -(A : Int) else (A : Int)) = 0 := by cases n <;> simp <;> omega
  rw [e]
  unfold sumWord
  rw [if_pos rfl, show (0 : Int).natAbs = 0 from rfl, rungOf_zero]
  cases n <;> rfl
theorem mv_zero_iff {a : Nat} {c : Nat} (h : mv (rung a) = pm a * p2 c) : mv (rung a) = 0 ↔ pm a = 0 := by
  rw [h]
  have := p2_pos c
  constructor
  · intro h; rcases Nat.mul_eq_zero.1 h with h | h <;> omega
  · intro h; rw [h, Nat.zero_mul]

theorem ref_add_ge (a b : Nat) (w : World) (ha : a < NB) (hb : b < NB) (fa : Fnt a) (fb : Fnt b) (hge : ¬ pe a < pe b) (hma : pm a ≠ 0) (hmb : pm b ≠ 0) (hBd : rungOf (sv a + sv b).natAbs 0 ≤ 1900 * 4503599627370496) :
    Calls Try.prog 31 #[.int .u64 a, .int .u64 b] w fun r w' => r = .returned (.int .u64 (sumWord (neg a && neg b) (sv a + sv b) : Nat)) ∧ Fr no w w' := by
  obtain ⟨c, ea, va, la, ca, da⟩ := parts_fin a fa
  obtain ⟨d, eb, vb, lb, cb, db⟩ := parts_fin b fb
  obtain ⟨s, hs⟩ : ∃ s : Nat, c = d + s := ⟨c - d, by omega⟩
  obtain ⟨X, Y, r, hX, hY, hr, eA, eB, hYle, hX60, hX113, hY113, hcase, hXY⟩ := add_parts va vb hs la lb hma hmb da
  have hxa := sv_pn ha
  have hxb := sv_pn hb
  rw [pn_eq a ha, pn_eq b hb]
  have pA := p2_pos c
  have p60 := p2_pos 60
  have NB2 : NB * NB = 340282366920938463463374607431768211456 := by decide
  have e60 : (2 : Nat) ^ 60 = 1152921504606846976 := by decide
  have e113 : (2 : Nat) ^ 113 = 10384593717069655257060992658440192 := by decide
  have e112 : (2 : Nat) ^ 112 = 5192296858534827628530496329220096 := by decide
  have e53 : (2 : Nat) ^ 53 = 9007199254740992 := by decide
  have e111 : (2 : Nat) ^ 111 = 2596148429267413814265248164610048 := by decide
  have hmore : (decide (0 < r) = true ∧ Y * 2 ^ s % (NB * NB) ≠ mb0 b) ∨ (decide (0 < r) = false ∧ Y * 2 ^ s % (NB * NB) = mb0 b ∧ s < 128) := by
    unfold mb0
    rcases hcase with ⟨h1, h2, h3⟩ | ⟨h1, h2, _, _⟩
    · right
      refine ⟨decide_eq_false (by omega), ?_, h3⟩
      rw [h2, Nat.mod_eq_of_lt (by omega)]
    · left
      refine ⟨decide_eq_true h1, ?_⟩
      rw [Nat.mod_eq_of_lt (by omega)]; omega
  have key : ∀ (neg : Bool) (W out : Nat), AddC X Y (pn a) (pn b) (decide (0 < r)) neg W out →
      (∀ x y (w : World), Halves x y W → Calls Try.prog 38 #[.bool neg, .agg #[.int .u64 x, .int .u64 y], .int .i64 (pe a - 60), .bool (decide (0 < r))] w fun r w' => r = .returned (.int .u64 (out : Nat)) ∧ Fr no w w') →
      Calls Try.prog 31 #[.int .u64 a, .int .u64 b] w fun r w' => r = .returned (.int .u64 (out : Nat)) ∧ Fr no w w' := by
    intro neg W out HC HR
    refine ref_add_raw a b X Y (mb0 b) W s (pm a) (pm b) (pe a) (pe b) (pn a) (pn b) _ neg out w ha hb (hide ⟨rfl, rfl, rfl⟩) (hide ⟨rfl, rfl, rfl⟩) (beq_false_of_ne hma) (beq_false_of_ne hmb) (beq_false_of_ne (by omega)) (beq_false_of_ne (by omega)) (by omega) hge (by omega)
      ⟨by decide, by unfold NB; omega, by omega⟩ ⟨by decide, by unfold NB; omega, by omega⟩ (hide ?_) (hide ?_) (hide hY) (hide hmore) (hide HC) (hide ?_) (hide HR)
    · rw [e60, Nat.mod_eq_of_lt (by omega)]; exact hX
    · rw [e60, Nat.mod_eq_of_lt (by omega)]; rfl
    · omega
  have hmA : mv (rung a) ≠ 0 := fun h => hma ((mv_zero_iff va).1 h)
  by_cases hl : pn a = pn b
  · obtain ⟨q1, q2⟩ := sum_like (n := pn a) (B := mv (rung b)) (y := sv b) hxa (by rw [hl]; exact hxb) hmA (pn a && pn b)
    rw [q1]
    rw [q2] at hBd
    refine key (pn a) (X + Y) _ (.like hl rfl rfl) (add_round (by omega) hr (by omega) rfl (.inl (size_ge (by rw [e53]; omega))) ?_ hBd ca)
    rw [Nat.add_mul, eA, eB, Nat.add_mul, Nat.add_assoc]
  · have hl' : pn b = !pn a := by cases hq : pn a <;> cases hq2 : pn b <;> simp_all
    rcases Nat.lt_trichotomy X Y with h | h | h
    · have hr0 := hXY (by omega)
      have hlt : mv (rung a) < mv (rung b) := by
        apply Nat.lt_of_mul_lt_mul_right (a := p2 60)
        rw [eA, eB, hr0, Nat.add_zero]; exact Nat.mul_lt_mul_of_pos_right h pA
      obtain ⟨q1, q2⟩ := sum_less hxa hxb hl' hlt (pn a && pn b)
      rw [q1]
      rw [q2] at hBd
      refine key (pn b) (Y - X) _ (.less hl' h rfl rfl) (add_round (by omega) hr (by omega) rfl (.inr hr0) ?_ hBd ca)
      rw [Nat.sub_mul, eA, eB, Nat.sub_mul]
      have := Nat.mul_le_mul_right (p2 c) (Nat.le_of_lt h)
      omega
    · have hr0 := hXY (by omega)
      have heq : mv (rung a) = mv (rung b) := by
        apply Nat.eq_of_mul_eq_mul_right p60
        rw [eA, eB, hr0, Nat.add_zero, h]
      have q1 := sum_zero hxa hxb hl' heq
      rw [q1]
      refine key false 0 0 (.zero hl' h (decide_eq_false (by omega)) rfl) (fun x y w H => ?_)
      have hsz : size 0 = 0 := rfl
      have hk : pe a - 60 + shI 0 (pe a - 60) + 1075 ≤ 2045 := by
        unfold shI
        rw [hsz]
        omega
      have := ref_round false (decide (0 < r)) x y 0 (pe a - 60) w H (by omega) hk
      rw [mag_zero] at this
      exact this
    · have hlt : mv (rung b) < mv (rung a) := by
        apply Nat.lt_of_mul_lt_mul_right (a := p2 60)
        rw [eA, eB]
        have h2 : (Y + 1) * p2 c ≤ X * p2 c := Nat.mul_le_mul_right _ h
        rw [Nat.add_mul, Nat.one_mul] at h2; omega
      obtain ⟨q1, q2⟩ := sum_more hxa hxb hl' hlt (pn a && pn b)
      rw [q1]
      rw [q2] at hBd
      rcases hcase with ⟨h1, _, _⟩ | ⟨h1, _, h3, h4⟩
      · refine key (pn a) (X - Y) _ (.even hl' h rfl (decide_eq_false (by omega)) rfl) (add_round (by omega) hr (by omega) rfl (.inr h1) ?_ hBd ca)
        rw [Nat.sub_mul, eA, eB, Nat.sub_mul]; omega
      · have hd : decide (0 < r) = decide (0 < p2 c - r) := by rw [decide_eq_true h1, decide_eq_true (by omega)]
        refine key (pn a) (X - Y - 1) _ (.more hl' h rfl (decide_eq_true h1) rfl) (add_round (r := p2 c - r) (by omega) (by omega) (by omega) hd (.inl (Nat.lt_trans (by decide) (size_ge (k := 111) (by rw [e111]; omega)))) ?_ hBd ca)
        have h2 : (Y + 1) * p2 c ≤ X * p2 c := Nat.mul_le_mul_right _ h
        rw [Nat.sub_mul, eA, eB, Nat.sub_sub, Nat.sub_mul]
        rw [Nat.add_mul, Nat.one_mul] at *
        omega

theorem zero_word {a : Nat} (ha : a < NB) (h : mv (rung a) = 0) : a = if pn a then 9223372036854775808 else 0 := by
  have h1 := rung_of a ha
  have h2 := (mv_iff 0 (rung a))
  rw [show mv 0 = 0 by decide, h] at h2
  omega
theorem and_zero {a b : Nat} (ha : a < NB) (hb : b < NB) (h : mv (rung a) = 0) (h' : mv (rung b) = 0) : bits .and .u64 (a : Int) (b : Int) = ((sumWord (neg a && neg b) (sv a + sv b) : Nat) : Int) := by
  have e : sv a + sv b = 0 := by rw [sv_pn ha, sv_pn hb, h, h']; cases pn a <;> cases pn b <;> rfl
  rw [e, u64_and_nat a b ha hb, pn_eq a ha, pn_eq b hb]
  unfold sumWord
  rw [if_pos rfl, show (0 : Int).natAbs = 0 from rfl, rungOf_zero]
  have h1 := zero_word ha h
  have h2 := zero_word hb h'
  congr 1
  cases hp : pn a <;> cases hq : pn b
  all_goals
    rw [hp] at h1
    rw [hq] at h2
    rw [h1, h2]
    rfl
set_option maxRecDepth 100000 in
set_option maxHeartbeats 800000 in
theorem ref_add_zz (a b out : Nat) (w : World) (ha : a < NB) (hb : b < NB) (ga : Hid (pm a = 0)) (gb : Hid (pm b = 0)) (q : bits .and .u64 (a : Int) (b : Int) = (out : Int)) :
    Calls Try.prog 31 #[.int .u64 a, .int .u64 b] w fun r w' => r = .returned (.int .u64 (out : Nat)) ∧ Fr no w w' := by
  go_enter Try.func31, Try.ntmps31
  go_wp2_with fail
  refine (ref_parts a _ ha).mono ?_
  rw [ga.out]
  rintro r W1 ⟨rfl, rfl⟩
  go_wp2_with fail
  refine (ref_parts b _ hb).mono ?_
  rw [gb.out]
  rintro r W1 ⟨rfl, rfl⟩
  go_wp2_with fail
  go_ret
  exact ⟨rfl, Fr.refl _ _⟩
set_option maxRecDepth 100000 in
set_option maxHeartbeats 800000 in
theorem ref_add_zn (a b m : Nat) (w : World) (ha : a < NB) (hb : b < NB) (ga : Hid (pm a = 0)) (gb : Hid (pm b = m)) (_hm : (m == 0) = false) (hm' : ((m : Int) == 0) = false) :
    Calls Try.prog 31 #[.int .u64 a, .int .u64 b] w fun r w' => r = .returned (.int .u64 (b : Nat)) ∧ Fr no w w' := by
  go_enter Try.func31, Try.ntmps31
  go_wp2_with fail
  refine (ref_parts a _ ha).mono ?_
  rw [ga.out]
  rintro r W1 ⟨rfl, rfl⟩
  go_wp2_with fail
  refine (ref_parts b _ hb).mono ?_
  rw [gb.out]
  rintro r W1 ⟨rfl, rfl⟩
  go_wp2_with fail
  go_ret
  exact ⟨rfl, Fr.refl _ _⟩
set_option maxRecDepth 100000 in
set_option maxHeartbeats 800000 in
theorem ref_add_nz (a b m : Nat) (w : World) (ha : a < NB) (hb : b < NB) (ga : Hid (pm a = m)) (gb : Hid (pm b = 0)) (_hm : (m == 0) = false) (hm' : ((m : Int) == 0) = false) :
    Calls Try.prog 31 #[.int .u64 a, .int .u64 b] w fun r w' => r = .returned (.int .u64 (a : Nat)) ∧ Fr no w w' := by
  go_enter Try.func31, Try.ntmps31
  go_wp2_with fail
  refine (ref_parts a _ ha).mono ?_
  rw [ga.out]
  rintro r W1 ⟨rfl, rfl⟩
  go_wp2_with fail
  refine (ref_parts b _ hb).mono ?_
  rw [gb.out]
  rintro r W1 ⟨rfl, rfl⟩
  go_wp2_with fail
  go_ret
  exact ⟨rfl, Fr.refl _ _⟩
set_option maxRecDepth 100000 in
set_option maxHeartbeats 800000 in
theorem ref_add_turn (a b ma mb out : Nat) (ea eb : Int) (w : World) (ha : a < NB) (hb : b < NB) (ga : Hid (pm a = ma ∧ pe a = ea)) (gb : Hid (pm b = mb ∧ pe b = eb)) (_hm : (ma == 0) = false) (hm' : ((ma : Int) == 0) = false) (_hn : (mb == 0) = false) (hn' : ((mb : Int) == 0) = false) (hlt : ea < eb)
    (HR : Hid (∀ w, Calls Try.prog 31 #[.int .u64 b, .int .u64 a] w fun r w' => r = .returned (.int .u64 (out : Nat)) ∧ Fr no w w')) :
    Calls Try.prog 31 #[.int .u64 a, .int .u64 b] w fun r w' => r = .returned (.int .u64 (out : Nat)) ∧ Fr no w w' := by
  go_enter Try.func31, Try.ntmps31
  go_wp2_with fail
  refine (ref_parts a _ ha).mono ?_
  rw [ga.out.1, ga.out.2]
  rintro r W1 ⟨rfl, rfl⟩
  go_wp2_with fail
  refine (ref_parts b _ hb).mono ?_
  rw [gb.out.1, gb.out.2]
  rintro r W1 ⟨rfl, rfl⟩
  go_wp2_with fail
  refine (HR.out _).mono ?_
  rintro r W2 ⟨rfl, F⟩
  go_wp2_with fail
  go_ret
  exact ⟨rfl, F⟩
theorem ref_add (a b : Nat) (w : World) (ha : a < NB) (hb : b < NB) (fa : Fnt a) (fb : Fnt b) (hBd : rungOf (sv a + sv b).natAbs 0 ≤ 1900 * 4503599627370496) :
    Calls Try.prog 31 #[.int .u64 a, .int .u64 b] w fun r w' => r = .returned (.int .u64 (sumWord (neg a && neg b) (sv a + sv b) : Nat)) ∧ Fr no w w' := by
  obtain ⟨c, ea, va, la, ca, da⟩ := parts_fin a fa
  obtain ⟨d, eb, vb, lb, cb, db⟩ := parts_fin b fb
  by_cases hma : pm a = 0
  · by_cases hmb : pm b = 0
    · exact ref_add_zz a b _ w ha hb (hide hma) (hide hmb) (and_zero ha hb ((mv_zero_iff va).2 hma) ((mv_zero_iff vb).2 hmb))
    · rw [sumWord_left ha hb ((mv_zero_iff va).2 hma) (fun h => hmb ((mv_zero_iff vb).1 h))]
      exact ref_add_zn a b (pm b) w ha hb (hide hma) (hide rfl) (beq_false_of_ne hmb) (beq_false_of_ne (by omega))
  · by_cases hmb : pm b = 0
    · rw [sumWord_right ha hb ((mv_zero_iff vb).2 hmb) (fun h => hma ((mv_zero_iff va).1 h))]
      exact ref_add_nz a b (pm a) w ha hb (hide rfl) (hide hmb) (beq_false_of_ne hma) (beq_false_of_ne (by omega))
    · by_cases hlt : pe a < pe b
      · have := fun w => ref_add_ge b a w hb ha fb fa (by omega) hmb hma (by rw [Int.add_comm]; exact hBd)
        rw [Bool.and_comm, Int.add_comm] at this
        exact ref_add_turn a b (pm a) (pm b) _ (pe a) (pe b) w ha hb (hide ⟨rfl, rfl⟩) (hide ⟨rfl, rfl⟩) (beq_false_of_ne hma) (beq_false_of_ne (by omega)) (beq_false_of_ne hmb) (beq_false_of_ne (by omega)) hlt (hide this)
      · exact ref_add_ge a b w ha hb fa fb hlt hma hmb hBd
end Go.Proofs.Ytljcncfipocnpaa
