/- Contracts of the document's Advice and New. -/
import Derived.Test.YtljcncfipocnpaaRefCeil
namespace Go.Proofs.Ytljcncfipocnpaa
open Go.RowKit Fl

set_option maxHeartbeats 400000 in
theorem ref_advice_zero (g k a : Nat) (x : Int) (w : World) (h : RefAt w g k a 0) :
    Calls Try.prog 25 #[.pointer (some ⟨g, 0, none⟩), .int .i64 x] w fun e w' => e = .returned (.int .i64 0) ∧ w' = w := by
  have c2 := Blk.cell h 2
  go_enter Try.func25, Try.ntmps25
  go_wp2
  go_ret
  exact ⟨rfl, rfl⟩
inductive AdvC (na : Bool) (c h x out : Int) : Prop
  | n1 (h0 : na = true) (h1 : 0 ≤ x) (ho : out = 0) : AdvC na c h x out
  | n2 (h0 : na = true) (h1 : x < 0) (h2 : h ≤ c) (ho : out = 0) : AdvC na c h x out
  | n3 (h0 : na = true) (h1 : x < 0) (h2 : c < h) (h3 : 1099511627776 < h - c) (ho : out = 1099511627776) : AdvC na c h x out
  | n4 (h0 : na = true) (h1 : x < 0) (h2 : c < h) (h3 : h - c ≤ 1099511627776) (ho : out = h - c) : AdvC na c h x out
  | p1 (h0 : na = false) (h1 : 0 ≤ x) (h2 : c ≤ h) (ho : out = 0) : AdvC na c h x out
  | p2 (h0 : na = false) (h1 : 0 ≤ x) (h2 : h < c) (h3 : 1099511627776 < c - h) (ho : out = 1099511627776) : AdvC na c h x out
  | p3 (h0 : na = false) (h1 : 0 ≤ x) (h2 : h < c) (h3 : c - h ≤ 1099511627776) (ho : out = c - h) : AdvC na c h x out
  | p4 (h0 : na = false) (h1 : x < 0) (h2 : IntKind.u64.wrap (c + h) = 0) (h3 : 0 < c) (ho : out = 1099511627776) : AdvC na c h x out
  | p5 (h0 : na = false) (h1 : x < 0) (h2 : c + h ≤ 18446744073709551615) (h3 : 1099511627776 < c + h) (ho : out = 1099511627776) : AdvC na c h x out
  | p6 (h0 : na = false) (h1 : x < 0) (h2 : c + h ≤ 18446744073709551615) (h3 : c + h ≤ 1099511627776) (ho : out = c + h) : AdvC na c h x out
theorem advC {na : Bool} {c h x : Int} (hc0 : 0 ≤ c) (hc1 : c ≤ 9223372036854775808) (hx0 : -9223372036854775808 ≤ x) (hx1 : x ≤ 9223372036854775807) (hh : h = x.natAbs) :
    AdvC na c h x (adv (if na then -c else c) x) := by
  subst hh
  unfold adv
  cases na
  · simp only [Bool.false_eq_true, if_false]
    by_cases h1 : 0 ≤ x
    · by_cases h2 : c ≤ x
      · rw [if_pos h2]; exact .p1 rfl h1 (by omega) rfl
      · rw [if_neg h2]
        by_cases h3 : 1099511627776 < c - x
        · exact .p2 rfl h1 (by omega) (by omega) (by omega)
        · exact .p3 rfl h1 (by omega) (by omega) (by omega)
    · rw [if_neg (by omega)]
      by_cases h2 : c + (x.natAbs : Int) ≤ 18446744073709551615
      · by_cases h3 : 1099511627776 < c + (x.natAbs : Int)
        · exact .p5 rfl (by omega) h2 h3 (by omega)
        · exact .p6 rfl (by omega) h2 (by omega) (by omega)
      · exact .p4 rfl (by omega) (by rw [show c + (x.natAbs : Int) = 18446744073709551616 by omega]; decide) (by omega) (by omega)
  · simp only [if_true]
    by_cases h1 : 0 ≤ x
    · rw [if_pos (by omega)]; exact .n1 rfl h1 rfl
    · by_cases h2 : -c ≤ x
      · rw [if_pos h2]; exact .n2 rfl (by omega) (by omega) rfl
      · rw [if_neg h2]
        by_cases h3 : 1099511627776 < (x.natAbs : Int) - c
        · exact .n3 rfl (by omega) (by omega) h3 (by omega)
        · exact .n4 rfl (by omega) (by omega) (by omega) (by omega)
set_option maxRecDepth 100000 in
set_option maxHeartbeats 2000000 in
theorem ref_advice_raw (g k a : Nat) (n x c h out : Int) (na : Bool) (w : World) (B : RefAt w g k a n) (n0 : (n == 0) = false)
    (L1 : Hid (∀ w, Calls Try.prog 36 #[.int .u64 a] w fun r w' => r = .returned (.tuple #[.bool na, .int .u64 c]) ∧ w = w'))
    (L2 : Hid (∀ w, Calls Try.prog 37 #[.int .i64 x] w fun r w' => r = .returned (.int .u64 h) ∧ w = w'))
    (hc0 : 0 ≤ c) (hc1 : c ≤ 9223372036854775808) (hx0 : -9223372036854775808 ≤ x) (hx1 : x ≤ 9223372036854775807) (hh0 : 0 ≤ h) (hh1 : h ≤ 9223372036854775808) (C : Hid (AdvC na c h x out)) :
    Calls Try.prog 25 #[.pointer (some ⟨g, 0, none⟩), .int .i64 x] w fun e w' => e = .returned (.int .i64 out) ∧ w = w' := by
  have c1 := Blk.cell B 1
  have c2 := Blk.cell B 2
  go_enter Try.func25, Try.ntmps25
  go_wp2_with fail
  refine (L1.out _).mono ?_
  rintro r W1 ⟨rfl, rfl⟩
  go_wp2_with fail
  refine (L2.out _).mono ?_
  rintro r W1 ⟨rfl, rfl⟩
  rcases C.out with ⟨rfl, h1, rfl⟩ | ⟨rfl, h1, h2, rfl⟩ | ⟨rfl, h1, h2, h3, rfl⟩ | ⟨rfl, h1, h2, h3, rfl⟩ | ⟨rfl, h1, h2, rfl⟩ | ⟨rfl, h1, h2, h3, rfl⟩ | ⟨rfl, h1, h2, h3, rfl⟩ | ⟨rfl, h1, h2, h3, rfl⟩ | ⟨rfl, h1, h2, h3, rfl⟩ | ⟨rfl, h1, h2, h3, rfl⟩
  all_goals
    go_wp2_with fail
    go_ret
    exact ⟨rfl, rfl⟩
theorem ceil_bound {a : Nat} (h : AvgIs a) : ceilMag a ≤ 9223372036854775808 := by
  have hlim : mv (rung a) ≤ 9223372036854775808 * U := by rw [← p2_1137]; exact h.lim
  have hU := U_pos
  unfold ceilMag
  split
  · exact Nat.div_le_of_le_mul (by rw [Nat.mul_comm]; exact hlim)
  · apply Nat.le_of_lt_succ
    apply Nat.div_lt_of_lt_mul
    rw [Nat.mul_succ, Nat.mul_comm U]; omega
theorem ref_advice (g k a : Nat) (n x : Int) (w : World) (B : RefAt w g k a n) (h0 : 0 < n) (h : AvgIs a) (hx0 : -9223372036854775808 ≤ x) (hx1 : x ≤ 9223372036854775807) :
    Calls Try.prog 25 #[.pointer (some ⟨g, 0, none⟩), .int .i64 x] w fun e w' => e = .returned (.int .i64 (adv (ceilInt a) x)) ∧ w = w' := by
  have hc := ceil_bound h
  have e : ceilInt a = if pn a then -((ceilMag a : Nat) : Int) else ((ceilMag a : Nat) : Int) := by unfold ceilInt; rw [pn_eq a h.lt]
  rw [e]
  exact ref_advice_raw g k a n x _ _ _ (pn a) w B (beq_false_of_ne (by omega)) (hide fun w => ref_ceil a w h) (hide fun w => ref_amount x w hx0 hx1) (by omega) (by omega) hx0 hx1 (by omega) (by omega) (hide (advC (by omega) (by omega) hx0 hx1 rfl))

/-- A word is a weight just if it lies between 0 and 1, as whole numbers. -/
theorem keep_iff {k : Nat} (hk : k < NB) : KeepOk k = decide (0 < k ∧ k ≤ One) := by
  have hOne : One = 4607182418800017408 := rfl
  rcases Nat.lt_or_ge inf (rung k) with h | h
  · rw [KeepOk_nan h, decide_eq_false]
    rintro ⟨h1, h2⟩
    unfold rung inf at h
    omega
  · have hn : Num k := h
    have z : Num 0 := by unfold Num; decide
    have o : Num One := by unfold Num; decide
    have z0 : sv 0 = 0 := by decide
    have o1 : sv One = (mv (rung One) : Int) := by
      unfold sv
      rw [show neg One = false by decide]; simp
    have oR : rung One = One := by decide
    unfold KeepOk
    rw [show (dbl.order k 0 == some Ordering.gt) = _ from gt_b hn z, show (dbl.order k One == some Ordering.lt || dbl.order k One == some Ordering.eq) = _ from le_b hn o]
    rw [Bool.eq_iff_iff, Bool.and_eq_true, decide_eq_true_eq, decide_eq_true_eq, decide_eq_true_eq, z0, o1, oR]
    have hr := rung_of k hk
    have m1 := mv_iff 0 (rung k)
    have m2 := mv_iff One (rung k)
    rw [show mv 0 = 0 by decide] at m1
    rw [sv_pn hk]
    have hl := rung_lt k
    generalize mv (rung k) = M at *
    generalize mv One = T at *
    cases hp : pn k
    · rw [hp] at hr
      simp only [Bool.false_eq_true, if_false] at hr ⊢
      omega
    · rw [hp] at hr
      simp only [if_true] at hr ⊢
      omega
theorem keep_is {k : Nat} (hk : k < NB) (h : KeepOk k = true) : KeepIs k := by
  refine ⟨h, hk, ?_⟩
  rw [keep_iff hk] at h
  have h := of_decide_eq_true h
  have e : rung k = k := by unfold rung; have : One = 4607182418800017408 := rfl; omega
  rw [e, ← one_sv, show rung One = One by decide]
  exact mv_le h.2
set_option maxHeartbeats 400000 in
theorem ref_new_ok (k : Nat) (w : World) (h0 : 0 < k) (h1 : k ≤ One) :
    Calls Try.prog 28 #[.int .u64 k] w fun e w' => e = .returned (.tuple #[.pointer (some ⟨w.heap.size, 0, none⟩), .int .i64 0]) ∧ RefAt w' w.heap.size k 0 0 ∧ Fr no w w' := by
  unfold One at h1
  go_enter Try.func28, Try.ntmps28
  go_wp2
  go_ret2
  exact ⟨rfl, Blk.new _ _ _, (Fr.refl _ _).alloc _⟩
set_option maxHeartbeats 400000 in
theorem ref_new_no (k : Nat) (w : World) (h : ¬ (0 < k ∧ k ≤ One)) :
    Calls Try.prog 28 #[.int .u64 k] w fun e w' => e = .returned (.tuple #[.pointer none, .int .i64 180]) ∧ w = w' := by
  unfold One at h
  rcases Nat.eq_zero_or_pos k with h0 | h0
  · subst h0
    clear h
    go_enter Try.func28, Try.ntmps28
    go_wp2
    go_ret2
    exact ⟨rfl, rfl⟩
  · have h1 : ¬ k ≤ 4607182418800017408 := fun e => h ⟨h0, e⟩
    clear h
    go_enter Try.func28, Try.ntmps28
    go_wp2
    go_ret2
    exact ⟨rfl, rfl⟩
end Go.Proofs.Ytljcncfipocnpaa
