/- Contracts of the document's numbers of 128 bits. -/
import Derived.Test.YtljcncfipocnpaaProg
import Derived.Test.YtljcncfipocnpaaNum
import Derived.Test.YtljcncfipocnpaaMem
import Derived.Test.YtljcncfipocnpaaWideN
import Derived.WalkKit
import Derived.WalkSpells
import Derived.WalkLawsBesides
namespace Go.Proofs.Ytljcncfipocnpaa
open Go.RowKit

def NB : Nat := 18446744073709551616
/-- hi, lo are the halves of W. -/
structure Halves (hi lo W : Nat) : Prop where
  h : hi < NB
  l : lo < NB
  w : W = hi * NB + lo
def IsWide (W : Nat) (e : Ending) : Prop := ∃ hi lo : Nat, e = .returned (.agg #[.int .u64 hi, .int .u64 lo]) ∧ Halves hi lo W

theorem halves_zero : Halves 0 0 0 := ⟨by decide, by decide, rfl⟩
theorem Halves.lt {hi lo W : Nat} (h : Halves hi lo W) : W < NB * NB := by
  have h1 : hi.succ * NB ≤ NB * NB := Nat.mul_le_mul_right _ h.h
  rw [Nat.succ_mul] at h1
  rw [h.w]; exact Nat.lt_of_lt_of_le (Nat.add_lt_add_left h.l _) h1
theorem Halves.inj {hi lo hi' lo' W : Nat} (h : Halves hi lo W) (h' : Halves hi' lo' W) : hi = hi' ∧ lo = lo' := by
  have a := h.w; have b := h'.w; have c := h.l; have d := h'.l
  unfold NB at *; omega
theorem Halves.of (W : Nat) (h : W < NB * NB) : Halves (W / NB) (W % NB) W :=
  ⟨Nat.div_lt_of_lt_mul h, Nat.mod_lt _ (by decide), by rw [Nat.mul_comm]; exact (Nat.div_add_mod _ _).symm⟩
theorem wrapn (n : Nat) : IntKind.u64.wrap (n : Int) = ((n % NB : Nat) : Int) := (IntKind.wrap_u64 _).trans rfl
theorem wrapmul (n k : Nat) : IntKind.u64.wrap ((n : Int) * 2 ^ k) = ((n * 2 ^ k % NB : Nat) : Int) := by
  rw [← wrapn, Int.natCast_mul, Int.natCast_pow]; rfl
theorem castdiv (n k : Nat) : (n : Int) / 2 ^ k = ((n / 2 ^ k : Nat) : Int) := by
  rw [Int.natCast_ediv, Int.natCast_pow]; rfl
theorem NB_pow : NB = 2 ^ 64 := by decide
theorem NB_split (n : Nat) (h : n ≤ 64) : 2 ^ n * 2 ^ (64 - n) = NB := by rw [← Nat.pow_add, NB_pow, Nat.add_sub_cancel' h]

theorem shl_mid {hi lo W n : Nat} (H : Halves hi lo W) (h2 : n < 64) :
    ∃ x y : Nat, bits BinOp.or IntKind.u64 (IntKind.u64.wrap ((hi : Int) * 2 ^ n)) ((lo : Int) / 2 ^ (64 - n)) = (x : Int) ∧ IntKind.u64.wrap ((lo : Int) * 2 ^ n) = (y : Int) ∧ Halves x y (W * 2 ^ n % (NB * NB)) := by
  rw [wrapmul, wrapmul, castdiv]
  have hs := NB_split n (by omega)
  obtain ⟨a, b, c, d⟩ := WN.shl_nat hi lo (2 ^ n) (2 ^ (64 - n)) (Nat.two_pow_pos _) (Nat.two_pow_pos _) (by rw [hs]; exact H.l)
  rw [hs] at a c d
  refine ⟨_, _, WN.or_join n _ _ (by omega) a (Nat.mod_lt _ (by decide)) b, rfl, c, Nat.mod_lt _ (by decide), ?_⟩
  rw [H.w, ← d]
theorem shl_far {hi lo W n : Nat} (H : Halves hi lo W) (h1 : 64 ≤ n) : ∃ x : Nat, IntKind.u64.wrap ((lo : Int) * 2 ^ (n - 64)) = (x : Int) ∧ Halves x 0 (W * 2 ^ n % (NB * NB)) := by
  rw [wrapmul]
  refine ⟨_, rfl, Nat.mod_lt _ (by decide), by decide, ?_⟩
  have : (2 : Nat) ^ n = NB * 2 ^ (n - 64) := by rw [NB_pow, ← Nat.pow_add, Nat.add_sub_cancel' h1]
  rw [this, H.w, ← WN.shl_nat2]
theorem shl_out (W n : Nat) (h : 128 ≤ n) : Halves 0 0 (W * 2 ^ n % (NB * NB)) := by
  have : (2 : Nat) ^ n = NB * NB * 2 ^ (n - 128) := by rw [NB_pow, ← Nat.pow_add, ← Nat.pow_add, Nat.add_sub_cancel' h]
  have e : W * 2 ^ n % (NB * NB) = 0 := by
    rw [this, Nat.mul_comm W, Nat.mul_assoc]; exact Nat.mul_mod_right _ _
  rw [e]; exact halves_zero
theorem shr_mid {hi lo W n : Nat} (H : Halves hi lo W) (h2 : n < 64) :
    ∃ x y : Nat, (hi : Int) / 2 ^ n = (x : Int) ∧ bits BinOp.or IntKind.u64 ((lo : Int) / 2 ^ n) (IntKind.u64.wrap ((hi : Int) * 2 ^ (64 - n))) = (y : Int) ∧ Halves x y (W / 2 ^ n) := by
  rw [wrapmul, castdiv, castdiv]
  have hs := NB_split n (by omega)
  obtain ⟨a, b, c, d⟩ := WN.shr_nat hi lo (2 ^ n) (2 ^ (64 - n)) (Nat.two_pow_pos _) (by rw [hs]; exact H.l)
  rw [hs] at a c d
  refine ⟨_, _, rfl, WN.or_join' (64 - n) _ _ (by omega) a (Nat.mod_lt _ (by decide)) b, Nat.lt_of_le_of_lt (Nat.div_le_self _ _) H.h, c, ?_⟩
  rw [H.w, ← d]
theorem shr_far {hi lo W n : Nat} (H : Halves hi lo W) (h1 : 64 ≤ n) : ∃ x : Nat, (hi : Int) / 2 ^ (n - 64) = (x : Int) ∧ Halves 0 x (W / 2 ^ n) := by
  rw [castdiv]
  refine ⟨_, rfl, by decide, Nat.lt_of_le_of_lt (Nat.div_le_self _ _) H.h, ?_⟩
  have : (2 : Nat) ^ n = NB * 2 ^ (n - 64) := by rw [NB_pow, ← Nat.pow_add, Nat.add_sub_cancel' h1]
  rw [this, H.w, ← WN.shr_nat2 hi lo NB _ (by decide) H.l]; omega
theorem shr_out {hi lo W n : Nat} (H : Halves hi lo W) (h : 128 ≤ n) : Halves 0 0 (W / 2 ^ n) := by
  have h1 : NB * NB ≤ 2 ^ n := by rw [NB_pow, ← Nat.pow_add]; exact Nat.pow_le_pow_right (by decide) h
  rw [Nat.div_eq_of_lt (Nat.lt_of_lt_of_le H.lt h1)]; exact halves_zero

set_option maxRecDepth 100000 in
set_option maxHeartbeats 400000 in
theorem wide_shl (hi lo n W : Nat) (w : World) (H : Hid (Halves hi lo W)) (hn : n ≤ 4096) :
    Calls Try.prog 40 #[.agg #[.int .u64 hi, .int .u64 lo], .int .i64 n] w fun e w' => IsWide (W * 2 ^ n % (NB * NB)) e ∧ Fr no w w' := by
  have fr : ∀ o1 o2, Fr no w ((w.alloc o1).alloc o2) := fun o1 o2 => ((Fr.refl _ _).alloc _).alloc _
  by_cases h1 : 128 ≤ n
  · have R := hide (shl_out W n h1)
    clear H
    go_enter Try.func40, Try.ntmps40
    go_wp2
    exact bodyPost_ret (v := .agg #[.int .u64 0, .int .u64 0]) (by simp [results, Try.results40, go_sem]) rfl ⟨⟨0, 0, rfl, R.out⟩, fr _ _⟩
  · by_cases h2 : 64 ≤ n
    · obtain ⟨x, e1, R⟩ := shl_far H.out h2
      have R := hide R
      clear H
      go_enter Try.func40, Try.ntmps40
      go_wp2
      exact bodyPost_ret (v := .agg #[.int .u64 x, .int .u64 0]) (by simp [results, Try.results40, go_sem]) rfl ⟨⟨x, 0, rfl, R.out⟩, fr _ _⟩
    · by_cases h3 : n = 0
      · subst h3
        have R : Hid (Halves hi lo (W * 2 ^ 0 % (NB * NB))) := by
          rw [Nat.pow_zero, Nat.mul_one, Nat.mod_eq_of_lt H.out.lt]; exact H
        clear H
        go_enter Try.func40, Try.ntmps40
        go_wp2
        exact bodyPost_ret (v := .agg #[.int .u64 hi, .int .u64 lo]) (by simp [results, Try.results40, go_sem]) rfl ⟨⟨hi, lo, rfl, R.out⟩, fr _ _⟩
      · obtain ⟨x, y, e1, e2, R⟩ := shl_mid H.out (show n < 64 by omega)
        have R := hide R
        have h3' : ((n : Int) == 0) = false := by simp; omega
        have h3'' : (n == 0) = false := by simp; omega
        clear H h3
        go_enter Try.func40, Try.ntmps40
        go_wp2
        exact bodyPost_ret (v := .agg #[.int .u64 x, .int .u64 y]) (by simp [results, Try.results40, go_sem]) rfl ⟨⟨x, y, rfl, R.out⟩, fr _ _⟩

set_option maxRecDepth 100000 in
set_option maxHeartbeats 400000 in
theorem wide_shr (hi lo n W : Nat) (w : World) (H : Hid (Halves hi lo W)) (hn : n ≤ 4096) :
    Calls Try.prog 41 #[.agg #[.int .u64 hi, .int .u64 lo], .int .i64 n] w fun e w' => IsWide (W / 2 ^ n) e ∧ Fr no w w' := by
  have fr : ∀ o1 o2, Fr no w ((w.alloc o1).alloc o2) := fun o1 o2 => ((Fr.refl _ _).alloc _).alloc _
  by_cases h1 : 128 ≤ n
  · have R := hide (shr_out H.out h1)
    clear H
    go_enter Try.func41, Try.ntmps41
    go_wp2
    exact bodyPost_ret (v := .agg #[.int .u64 0, .int .u64 0]) (by simp [results, Try.results41, go_sem]) rfl ⟨⟨0, 0, rfl, R.out⟩, fr _ _⟩
  · by_cases h2 : 64 ≤ n
    · obtain ⟨x, e1, R⟩ := shr_far H.out h2
      have R := hide R
      clear H
      go_enter Try.func41, Try.ntmps41
      go_wp2
      exact bodyPost_ret (v := .agg #[.int .u64 0, .int .u64 x]) (by simp [results, Try.results41, go_sem]) rfl ⟨⟨0, x, rfl, R.out⟩, fr _ _⟩
    · by_cases h3 : n = 0
      · subst h3
        have R : Hid (Halves hi lo (W / 2 ^ 0)) := by
          rw [Nat.pow_zero, Nat.div_one]; exact H
        clear H
        go_enter Try.func41, Try.ntmps41
        go_wp2
        exact bodyPost_ret (v := .agg #[.int .u64 hi, .int .u64 lo]) (by simp [results, Try.results41, go_sem]) rfl ⟨⟨hi, lo, rfl, R.out⟩, fr _ _⟩
      · obtain ⟨x, y, e1, e2, R⟩ := shr_mid H.out (show n < 64 by omega)
        have R := hide R
        have h3' : ((n : Int) == 0) = false := by simp; omega
        have h3'' : (n == 0) = false := by simp; omega
        clear H h3
        go_enter Try.func41, Try.ntmps41
        go_wp2
        exact bodyPost_ret (v := .agg #[.int .u64 x, .int .u64 y]) (by simp [results, Try.results41, go_sem]) rfl ⟨⟨x, y, rfl, R.out⟩, fr _ _⟩

theorem less_iff {a b c d W X : Nat} (H : Halves a b W) (H' : Halves c d X) : W < X ↔ a < c ∨ (a = c ∧ b < d) := by
  have e1 := H.w; have e2 := H'.w; have l1 := H.l; have l2 := H'.l
  unfold NB at *; omega
set_option maxRecDepth 100000 in
set_option maxHeartbeats 400000 in
theorem wide_less (a b c d W X : Nat) (w : World) (H : Hid (Halves a b W)) (H' : Hid (Halves c d X)) :
    Calls Try.prog 43 #[.agg #[.int .u64 a, .int .u64 b], .agg #[.int .u64 c, .int .u64 d]] w fun e w' => e = .returned (.bool (decide (W < X))) ∧ Fr no w w' := by
  have fr : ∀ o1 o2, Fr no w ((w.alloc o1).alloc o2) := fun o1 o2 => ((Fr.refl _ _).alloc _).alloc _
  have R := less_iff H.out H'.out
  rcases Nat.lt_trichotomy a c with h | h | h
  · rw [decide_eq_true (R.2 (.inl h))]
    clear R H H'
    go_enter Try.func43, Try.ntmps43
    go_wp2
    go_ret
    exact ⟨rfl, fr _ _⟩
  · subst h
    have R' : decide (W < X) = decide (b < d) := by
      rw [Bool.eq_iff_iff, decide_eq_true_eq, decide_eq_true_eq, R]; omega
    rw [R']
    clear R R' H H'
    go_enter Try.func43, Try.ntmps43
    go_wp2
    all_goals
      go_ret
      refine ⟨?_, fr _ _⟩
      simp
  · rw [decide_eq_false (fun e => by have := R.1 e; omega)]
    have h1 : ¬ a < c := by omega
    have h2 : (a == c) = false := by simp; omega
    have h2' : ((a : Int) == (c : Int)) = false := by simp; omega
    clear R H H' h
    go_enter Try.func43, Try.ntmps43
    go_wp2
    all_goals
      go_ret
      exact ⟨by simp, fr _ _⟩

theorem add_no {a b c d W X : Nat} (H : Halves a b W) (H' : Halves c d X) (hs : W + X < NB * NB) (h : b + d < NB) :
    ∃ x y : Nat, IntKind.u64.wrap ((a : Int) + c) = (x : Int) ∧ IntKind.u64.wrap ((b : Int) + d) = (y : Int) ∧ decide (y < b) = false ∧ Halves x y (W + X) := by
  have e1 := H.w; have e2 := H'.w
  refine ⟨a + c, b + d, ?_, ?_, decide_eq_false (by omega), ?_, h, ?_⟩
  · rw [← Int.natCast_add, wrapn, Nat.mod_eq_of_lt]
    unfold NB at *; omega
  · rw [← Int.natCast_add, wrapn, Nat.mod_eq_of_lt h]
  · unfold NB at *; omega
  · unfold NB at *; omega
theorem add_yes {a b c d W X : Nat} (H : Halves a b W) (H' : Halves c d X) (hs : W + X < NB * NB) (h : NB ≤ b + d) :
    ∃ x y z : Nat, IntKind.u64.wrap ((a : Int) + c) = (x : Int) ∧ IntKind.u64.wrap ((b : Int) + d) = (y : Int) ∧ decide (y < b) = true ∧ IntKind.u64.wrap ((x : Int) + 1) = (z : Int) ∧ Halves z y (W + X) := by
  have e1 := H.w; have e2 := H'.w; have l1 := H.l; have l2 := H'.l
  refine ⟨a + c, b + d - NB, a + c + 1, ?_, ?_, decide_eq_true (by omega), ?_, ?_, by omega, ?_⟩
  · rw [← Int.natCast_add, wrapn, Nat.mod_eq_of_lt]
    unfold NB at *; omega
  · have e : (b + d) % NB = b + d - NB := by
      rw [Nat.mod_eq_sub_mod h, Nat.mod_eq_of_lt (by omega)]
    rw [← Int.natCast_add, wrapn, e]
  · rw [show ((a + c : Nat) : Int) + 1 = ((a + c + 1 : Nat) : Int) by omega, wrapn, Nat.mod_eq_of_lt]
    unfold NB at *; omega
  · unfold NB at *; omega
  · unfold NB at *; omega
set_option maxRecDepth 100000 in
set_option maxHeartbeats 400000 in
theorem wide_add (a b c d W X : Nat) (w : World) (H : Hid (Halves a b W)) (H' : Hid (Halves c d X)) (hs : Hid (W + X < NB * NB)) :
    Calls Try.prog 42 #[.agg #[.int .u64 a, .int .u64 b], .agg #[.int .u64 c, .int .u64 d]] w fun e w' => IsWide (W + X) e ∧ Fr no w w' := by
  have fr : ∀ o1 o2 o3, Fr no w (((w.alloc o1).alloc o2).alloc o3) := fun o1 o2 o3 => (((Fr.refl _ _).alloc _).alloc _).alloc _
  rcases Nat.lt_or_ge (b + d) NB with h | h
  · obtain ⟨x, y, q1, q2, q3, R⟩ := add_no H.out H'.out hs.out h
    have R := hide R
    clear H H' hs h
    go_enter Try.func42, Try.ntmps42
    go_wp2
    exact bodyPost_ret (v := .agg #[.int .u64 x, .int .u64 y]) (by simp [results, Try.results42, go_sem]) rfl ⟨⟨x, y, rfl, R.out⟩, fr _ _ _⟩
  · obtain ⟨x, y, z, q1, q2, q3, q4, R⟩ := add_yes H.out H'.out hs.out h
    have R := hide R
    clear H H' hs h
    go_enter Try.func42, Try.ntmps42
    go_wp2
    exact bodyPost_ret (v := .agg #[.int .u64 z, .int .u64 y]) (by simp [results, Try.results42, go_sem]) rfl ⟨⟨z, y, rfl, R.out⟩, fr _ _ _⟩

theorem wrap_sub (a c : Nat) (hc : c < NB) : IntKind.u64.wrap ((a : Int) - c) = (((a + NB - c) % NB : Nat) : Int) := by
  rw [IntKind.wrap_u64]; unfold NB at *; omega
theorem sub_no {a b c d W X : Nat} (H : Halves a b W) (H' : Halves c d X) (hs : X ≤ W) (h : d ≤ b) :
    ∃ x y : Nat, IntKind.u64.wrap ((a : Int) - c) = (x : Int) ∧ IntKind.u64.wrap ((b : Int) - d) = (y : Int) ∧ decide (b < d) = false ∧ Halves x y (W - X) := by
  have e1 := H.w; have e2 := H'.w; have l1 := H.l; have l2 := H'.l; have k1 := H.h; have k2 := H'.h
  refine ⟨_, _, wrap_sub a c H'.h, wrap_sub b d H'.l, decide_eq_false (by omega), Nat.mod_lt _ (by decide), Nat.mod_lt _ (by decide), ?_⟩
  unfold NB at *; omega
theorem sub_yes {a b c d W X : Nat} (H : Halves a b W) (H' : Halves c d X) (hs : X ≤ W) (h : b < d) :
    ∃ x y z : Nat, IntKind.u64.wrap ((a : Int) - c) = (x : Int) ∧ IntKind.u64.wrap ((b : Int) - d) = (y : Int) ∧ decide (b < d) = true ∧ IntKind.u64.wrap ((x : Int) - 1) = (z : Int) ∧ Halves z y (W - X) := by
  have e1 := H.w; have e2 := H'.w; have l1 := H.l; have l2 := H'.l; have k1 := H.h; have k2 := H'.h
  refine ⟨_, _, _, wrap_sub a c H'.h, wrap_sub b d H'.l, decide_eq_true h, wrap_sub _ 1 (by decide), Nat.mod_lt _ (by decide), Nat.mod_lt _ (by decide), ?_⟩
  unfold NB at *; omega
set_option maxRecDepth 100000 in
set_option maxHeartbeats 400000 in
theorem wide_sub (a b c d W X : Nat) (w : World) (H : Hid (Halves a b W)) (H' : Hid (Halves c d X)) (hs : Hid (X ≤ W)) :
    Calls Try.prog 44 #[.agg #[.int .u64 a, .int .u64 b], .agg #[.int .u64 c, .int .u64 d]] w fun e w' => IsWide (W - X) e ∧ Fr no w w' := by
  have fr : ∀ o1 o2 o3, Fr no w (((w.alloc o1).alloc o2).alloc o3) := fun o1 o2 o3 => (((Fr.refl _ _).alloc _).alloc _).alloc _
  rcases Nat.lt_or_ge b d with h | h
  · obtain ⟨x, y, z, q1, q2, q3, q4, R⟩ := sub_yes H.out H'.out hs.out h
    have R := hide R
    clear H H' hs h
    go_enter Try.func44, Try.ntmps44
    go_wp2
    exact bodyPost_ret (v := .agg #[.int .u64 z, .int .u64 y]) (by simp [results, Try.results44, go_sem]) rfl ⟨⟨z, y, rfl, R.out⟩, fr _ _ _⟩
  · obtain ⟨x, y, q1, q2, q3, R⟩ := sub_no H.out H'.out hs.out h
    have R := hide R
    clear H H' hs h
    go_enter Try.func44, Try.ntmps44
    go_wp2
    exact bodyPost_ret (v := .agg #[.int .u64 x, .int .u64 y]) (by simp [results, Try.results44, go_sem]) rfl ⟨⟨x, y, rfl, R.out⟩, fr _ _ _⟩
end Go.Proofs.Ytljcncfipocnpaa
