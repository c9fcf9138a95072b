/- Contracts of math.Ceil and of Trend.Advice. -/
import Derived.Test.YtljcncfipocnpaaTrendN
import Derived.Test.YtljcncfipocnpaaFloat3
namespace Go.Proofs.Ytljcncfipocnpaa
open Go.RowKit Fl

theorem toIntegral_number (nm : String) (way : Ieee.Toward) (x : Nat) (s : Bool) (m : Nat) (e : Int) (h : FloatKind.f64.decode x = .number s m e) :
    Extern.MathFloor.toIntegral nm way #[.float .f64 x] = pure (.float .f64 (FloatKind.f64.encode ((Ieee.Datum.number s m e).integral way))) := by
  show Extern.MathFloor.toIntegral.match_1 _ (FloatKind.f64.decode x) _ _ = _
  rw [h]
theorem run_archCeil (a : Nat) (h : Fnt a) (w : World) :
    (callFunc 45 #[.float .f64 a]).run Try.prog w = .ok (.value (.float .f64 (dbl.write ((dbl.read a).integral .up)))) w := by
  rw [run_callFunc_extern (fn := Try.f45) (e := Extern.MathFloor.toIntegral "math.archCeil" .up) Try.func45 (by kernel_rfl) (by kernel_rfl) (by kernel_rfl) (by kernel_rfl)]
  obtain ⟨m, k, e, _⟩ := read_fin a h
  rw [toIntegral_number _ _ a _ _ _ e, e]
  rfl

set_option maxHeartbeats 400000 in
theorem ceil_any (a : Nat) (h : Fnt a) (w : World) :
    Calls Try.prog 35 #[.float .f64 a] w fun e w' => e = .returned (.float .f64 (dbl.write ((dbl.read a).integral .up))) ∧ w' = w := by
  have q := fun W => run_archCeil a h W
  go_enter Try.func35, Try.ntmps35
  go_wp2
  go_ret
  exact ⟨rfl, rfl⟩

theorem u64_sub (c x : Int) (h0 : 0 ≤ c - x) (h1 : c - x < 18446744073709551616) : IntKind.u64.wrap (IntKind.u64.wrap c - IntKind.u64.wrap x) = c - x := by
  simp only [IntKind.wrap_u64]; omega
/-- How many more would reach c. -/
def adv (c x : Int) : Int := if c ≤ x then 0 else min (c - x) 1099511627776

theorem sv_top : sv 4890909195324358656 = 9223372036854775808 * (U : Int) := by
  have e : rung 4890909195324358656 = (1085 + 1) * 4503599627370496 + 0 := by decide
  have e1 : neg 4890909195324358656 = false := by decide
  have e2 : (4503599627370496 : Nat) = p2 52 := by rw [← p2_def]
  have e3 : (9223372036854775808 : Nat) = p2 63 := by rw [← p2_def]
  unfold sv
  rw [e1, e, mv_p2 _ _ (by decide), Nat.add_zero, e2]
  simp only [Bool.false_eq_true, if_false]
  have : p2 52 * p2 1085 = 9223372036854775808 * U := by
    rw [e3]; unfold U; rw [← p2_add, ← p2_add]
  rw [this, Int.natCast_mul]; rfl

set_option maxHeartbeats 400000 in
theorem advice_zero (g k a : Nat) (x : Int) (w : World) (h : TrendAt w g k a 0) :
    Calls Try.prog 24 #[.pointer (some ⟨g, 0, none⟩), .int .i64 x] w fun e w' => e = .returned (.int .i64 0) ∧ w' = w := by
  have h2 := h.c2
  go_enter Try.func24, Try.ntmps24
  go_wp2
  go_ret
  exact ⟨rfl, rfl⟩

theorem gw_facts (a : Nat) (ha : Fnt a) (hc : ceilMag a ≤ 9223372036854775808) :
    ∃ gw, dbl.write ((dbl.read a).integral .up) = gw ∧ Num gw ∧ (FloatKind.f64.format.order gw 4890909195324358656 == some Ordering.gt || FloatKind.f64.format.order gw 4890909195324358656 == some Ordering.eq) = decide (9223372036854775808 ≤ ceilInt a) ∧
      (-9223372036854775808 ≤ ceilInt a → ceilInt a ≤ 9223372036854775807 → floatToIntVal .f64 gw .i64 = some (ceilInt a)) := by
  obtain ⟨e1, e2, e3⟩ := ceil_spec a ha (by omega)
  refine ⟨_, rfl, ?_⟩
  rw [e1]
  generalize dbl.nearest (neg a) (ceilMag a) 0 = gw at *
  have n2 : Num 4890909195324358656 := by unfold Num; decide
  refine ⟨e3.num, ?_, ?_⟩
  · rw [ge_b e3.num n2, sv_top, e2]
    have hU : (0 : Int) < U := by have := U_pos; omega
    rw [Bool.eq_iff_iff, decide_eq_true_eq, decide_eq_true_eq]
    exact Int.mul_le_mul_right hU
  · intro h1 h2
    unfold floatToIntVal
    rw [show FloatKind.f64.decode gw = dbl.read gw from rfl, toInt_whole gw _ e3 e2]
    simp only
    rw [if_pos ⟨h1, h2⟩]

set_option maxHeartbeats 1000000 in
theorem advice_any (g k a : Nat) (n x : Int) (w : World) (h : TrendAt w g k a n) (h0 : 0 < n) (ha : Fnt a) (hc : ceilMag a ≤ 9223372036854775808) (hcl : -9223372036854775808 ≤ ceilInt a) (hcu : ceilInt a ≤ 9223372036854775808)
    (hx0 : -9223372036854775808 ≤ x) (hx1 : x ≤ 9223372036854775807) :
    Calls Try.prog 24 #[.pointer (some ⟨g, 0, none⟩), .int .i64 x] w fun e w' => e = .returned (.int .i64 (adv (ceilInt a) x)) ∧ w' = w := by
  obtain ⟨gw, eg, ng, hge, hto⟩ := gw_facts a ha hc
  have h1 := h.c1
  have h2 := h.c2
  have n0 : (n == 0) = false := by simp; omega
  have hceil : ∀ W, Calls Try.prog 35 #[.float .f64 a] W fun e w' => e = .returned (.float .f64 gw) ∧ w' = W := fun W => by rw [← eg]; exact ceil_any a ha W
  have HC := hide hceil
  clear hceil eg
  generalize ceilInt a = c at *
  have hadv : ∃ r, adv c x = r := ⟨_, rfl⟩
  obtain ⟨r, hr⟩ := hadv
  rw [hr]
  unfold adv at hr
  by_cases t1 : (9223372036854775808 : Int) ≤ c
  · rw [decide_eq_true t1] at hge
    have hc1 : c = 9223372036854775808 := by omega
    have hres : (x < 0 → r = 1099511627776) ∧ (0 ≤ x → 1099511627776 ≤ 9223372036854775807 - x → r = 1099511627776) ∧ (0 ≤ x → ¬ 1099511627776 ≤ 9223372036854775807 - x → r = 9223372036854775807 - x + 1) := by
      rw [if_neg (by omega)] at hr
      omega
    clear hr hto hc hc1 t1 hcl hcu h0
    obtain ⟨r1, r2, r3⟩ := hres
    by_cases u1 : x < 0
    · have HR := hide (r1 u1)
      clear r1 r2 r3
      go_enter Try.func24, Try.ntmps24
      go_wp2_with (go_at_call 35; refine (HC.out _).mono ?_; rintro e w' ⟨rfl, rfl⟩)
      go_ret
      exact ⟨ret_i HR.out.symm, rfl⟩
    · have u1' : 0 ≤ x := by omega
      by_cases u2 : 1099511627776 ≤ 9223372036854775807 - x
      · have HR := hide (r2 u1' u2)
        clear r1 r2 r3
        go_enter Try.func24, Try.ntmps24
        go_wp2_with (go_at_call 35; refine (HC.out _).mono ?_; rintro e w' ⟨rfl, rfl⟩)
        go_ret
        exact ⟨ret_i HR.out.symm, rfl⟩
      · have HR := hide (r3 u1' u2)
        clear r1 r2 r3
        go_enter Try.func24, Try.ntmps24
        go_wp2_with (go_at_call 35; refine (HC.out _).mono ?_; rintro e w' ⟨rfl, rfl⟩)
        go_ret
        exact ⟨ret_i HR.out.symm, rfl⟩
  · rw [decide_eq_false t1] at hge
    have hcv := hto hcl (by omega)
    have q := fun W => run_convert_float_int (P := Try.prog) W 47 2 .f64 .i64 gw c (by kernel_rfl) Try.underlying2 hcv
    have hcu' : c ≤ 9223372036854775807 := by omega
    clear hto hc hcv t1 hcu h0
    by_cases u1 : c ≤ x
    · rw [if_pos u1] at hr
      have HR := hide hr
      clear hr
      go_enter Try.func24, Try.ntmps24
      go_wp2_with (go_at_call 35; refine (HC.out _).mono ?_; rintro e w' ⟨rfl, rfl⟩)
      go_ret
      exact ⟨ret_i HR.out, rfl⟩
    · rw [if_neg u1] at hr
      have u1' : x < c := by omega
      have HR := hide hr
      clear hr
      go_enter Try.func24, Try.ntmps24
      go_wp2_with (go_at_call 35; refine (HC.out _).mono ?_; rintro e w' ⟨rfl, rfl⟩)
      all_goals
        have hh := u64_sub c x (by omega) (by omega)
        go_ret
        refine ⟨ret_i ?_, rfl⟩
        rw [← HR.out]
      · have h : 1099511627776 < IntKind.u64.wrap (IntKind.u64.wrap c - IntKind.u64.wrap x) := by assumption
        rw [hh] at h
        unfold wrap64; omega
      · have h : IntKind.u64.wrap (IntKind.u64.wrap c - IntKind.u64.wrap x) ≤ 1099511627776 := by assumption
        rw [hh] at h ⊢
        unfold wrap64; omega
end Go.Proofs.Ytljcncfipocnpaa
