/- Contract of the document's rounding. -/
import Derived.Test.YtljcncfipocnpaaRound
import Derived.Test.YtljcncfipocnpaaParts
import Derived.Deep.RegionHeld3
import Derived.RegionTactic
namespace Go.Proofs.Ytljcncfipocnpaa
open Go.RowKit Fl

/-- How far the number is shifted; the rounded number; the word without its sign. -/
def shI (W : Nat) (e : Int) : Int := max ((size W : Int) - 53) (-1074 - e)
def upB (W s : Nat) (more : Bool) : Bool := decide (2 ^ (s - 1) < W % 2 ^ s) || (W % 2 ^ s == 2 ^ (s - 1) && (more || W / 2 ^ s % 2 == 1))
def mant (W : Nat) (e : Int) (more : Bool) : Nat := if shI W e ≤ 0 then W * 2 ^ (-shI W e).toNat else W / 2 ^ (shI W e).toNat + (upB W (shI W e).toNat more).toNat
def mag (W : Nat) (e : Int) (more : Bool) : Nat := if W = 0 then 0 else (e + shI W e + 1074).toNat * 4503599627370496 + mant W e more
def sgn (neg : Bool) : Nat := if neg then 9223372036854775808 else 0

theorem size_bounds (W : Nat) (h : W ≠ 0) : 2 ^ (size W - 1) ≤ W ∧ W < 2 ^ size W := by
  unfold size
  rw [if_neg h]
  exact ⟨by rw [Nat.add_sub_cancel]; exact Nat.log2_self_le h, Nat.lt_log2_self⟩
theorem mant_lo (W : Nat) (e : Int) (h : shI W e ≤ 0) : W * 2 ^ (-shI W e).toNat < 9007199254740992 := by
  have h1 : (size W : Int) - 53 ≤ shI W e := Int.le_max_left _ _
  by_cases h0 : W = 0
  · subst h0; simp
  · have h2 := (size_bounds W h0).2
    have h3 : W * 2 ^ (-shI W e).toNat < 2 ^ size W * 2 ^ (-shI W e).toNat := Nat.mul_lt_mul_of_pos_right h2 (Nat.two_pow_pos _)
    rw [← Nat.pow_add] at h3
    have h4 : (2 : Nat) ^ (size W + (-shI W e).toNat) ≤ 2 ^ 53 := Nat.pow_le_pow_right (by decide) (by omega)
    have : (2 : Nat) ^ 53 = 9007199254740992 := by decide
    omega
theorem mant_hi (W : Nat) (e : Int) (h : 0 < shI W e) : W / 2 ^ (shI W e).toNat < 9007199254740992 := by
  have h1 : (size W : Int) - 53 ≤ shI W e := Int.le_max_left _ _
  by_cases h0 : W = 0
  · subst h0; simp
  · have h2 := (size_bounds W h0).2
    have : (2 : Nat) ^ 53 = 9007199254740992 := by decide
    rw [← this]
    apply Nat.div_lt_of_lt_mul
    rw [← Nat.pow_add]
    exact Nat.lt_of_lt_of_le h2 (Nat.pow_le_pow_right (by decide) (by omega))
theorem mant_le (W : Nat) (e : Int) (more : Bool) : mant W e more ≤ 9007199254740992 := by
  unfold mant
  split
  · exact Nat.le_of_lt (mant_lo W e ‹_›)
  · have := mant_hi W e (by omega)
    have := Bool.toNat_le (upB W (shI W e).toNat more)
    omega
theorem mant_zero (e : Int) (more : Bool) : mant 0 e more = 0 := by
  unfold mant
  split
  · exact Nat.zero_mul _
  · have h : ((0 : Nat) == 2 ^ ((shI 0 e).toNat - 1)) = false := by
      have := Nat.two_pow_pos ((shI 0 e).toNat - 1)
      simp only [beq_eq_false_iff_ne]; omega
    unfold upB
    rw [Nat.zero_mod, Nat.zero_div, h]; simp
/-- A rounded number below the hidden digit: at the least place. -/
theorem mant_small (W : Nat) (e : Int) (more : Bool) (h0 : W ≠ 0) (h : mant W e more < 4503599627370496) : e + shI W e + 1074 = 0 := by
  by_cases hc : shI W e = (size W : Int) - 53
  · exfalso
    have hb := (size_bounds W h0).1
    have hs : 1 ≤ size W := by unfold size; rw [if_neg h0]; omega
    have e52 : (2 : Nat) ^ 52 = 4503599627370496 := by decide
    unfold mant at h
    split at h
    · have h3 : 2 ^ (size W - 1) * 2 ^ (-shI W e).toNat ≤ W * 2 ^ (-shI W e).toNat := Nat.mul_le_mul_right _ hb
      rw [← Nat.pow_add] at h3
      have : size W - 1 + (-shI W e).toNat = 52 := by omega
      rw [this] at h3
      omega
    · have h3 : 2 ^ 52 ≤ W / 2 ^ (shI W e).toNat := by
        rw [Nat.le_div_iff_mul_le (Nat.two_pow_pos _), ← Nat.pow_add]
        have : 52 + (shI W e).toNat = size W - 1 := by omega
        rw [this]; exact hb
      omega
  · have : shI W e = -1074 - e := by unfold shI at *; omega
    omega
/-- The three ends: what is told. -/
inductive Tail (m k k1 out : Int) : Prop
  | small (h : m = out) (h' : out < 4503599627370496) : Tail m k k1 out
  | mid (h : 4503599627370496 ≤ m) (h' : m < 9007199254740992) (h2 : bits .or .u64 (k * 4503599627370496) (m - 4503599627370496) = out) : Tail m k k1 out
  | large (h : m = 9007199254740992) (h2 : bits .or .u64 (k1 * 4503599627370496) 0 = out) : Tail m k k1 out
theorem tail_of (W : Nat) (e k1 : Int) (more : Bool) (hk : e + shI W e + 1075 ≤ 2045) (hk1 : e + shI W e + 1075 + 1 = k1) : Tail (mant W e more) (e + shI W e + 1075) k1 (mag W e more) := by
  have hs : -1074 - e ≤ shI W e := Int.le_max_right _ _
  have hm := mant_le W e more
  by_cases h0 : W = 0
  · subst h0
    rw [mant_zero]
    exact .small rfl (by rw [show mag 0 e more = 0 from rfl]; decide)
  · rcases Nat.lt_or_ge (mant W e more) 4503599627370496 with h | h
    · have q : mag W e more = mant W e more := by
        unfold mag
        rw [if_neg h0, mant_small W e more h0 h]
        simp
      rw [q]
      exact .small rfl (by omega)
    · have hm2 : mag W e more = (e + shI W e + 1074).toNat * 4503599627370496 + mant W e more := if_neg h0
      rcases Nat.lt_or_ge (mant W e more) 9007199254740992 with h' | h'
      · refine .mid (by omega) (by omega) ?_
        obtain ⟨k, hk'⟩ : ∃ k : Nat, e + shI W e + 1075 = k := ⟨(e + shI W e + 1075).toNat, by omega⟩
        rw [hk', show (k : Int) * 4503599627370496 = ((k * 4503599627370496 : Nat) : Int) by omega, show ((mant W e more : Nat) : Int) - 4503599627370496 = ((mant W e more - 4503599627370496 : Nat) : Int) by omega,
          WN.or_join 52 _ _ (by decide) (Nat.mul_mod_left _ _) (by omega) (by omega)]
        omega
      · have he : mant W e more = 9007199254740992 := by omega
        refine .large (by omega) ?_
        obtain ⟨k, hk'⟩ : ∃ k : Nat, k1 = k := ⟨k1.toNat, by omega⟩
        rw [hk', show (k : Int) * 4503599627370496 = ((k * 4503599627370496 : Nat) : Int) by omega, show (0 : Int) = ((0 : Nat) : Int) from rfl,
          WN.or_join 52 _ _ (by decide) (Nat.mul_mod_left _ _) (by omega) (by decide)]
        omega

theorem wide_low (x y : Int) (w : World) : (Instr.field 90 (.agg #[.int .u64 x, .int .u64 y]) 1).run Try.prog w = .ok (.int .u64 y) w := by kernel_rfl
theorem wide_high (x y : Int) (w : World) : (Instr.field 90 (.agg #[.int .u64 x, .int .u64 y]) 0).run Try.prog w = .ok (.int .u64 x) w := by kernel_rfl
attribute [local go_sem] wide_low wide_high
set_option maxRecDepth 100000 in
set_option maxHeartbeats 1000000 in
theorem ref_round_lo (neg more : Bool) (hi lo W n : Nat) (m e out : Int) (w : World) (H : Hid (Halves hi lo W)) (he : -4000 ≤ e ∧ e ≤ 2000)
    (hS : Hid (shI W e = -(n : Int))) (hn : n ≤ 4000) (hm : Hid (((W * 2 ^ n : Nat) : Int) = m)) (T : Hid (Tail m (e + -(n : Int) + 1075) (e + (-(n : Int) + 1) + 1075) out)) (hM : 0 ≤ out ∧ out < 9223372036854775808) (hm2 : 0 ≤ m ∧ m ≤ 9007199254740992) (hk : 0 ≤ e + -(n : Int) + 1075 ∧ e + -(n : Int) + 1075 ≤ 2045) :
    Calls Try.prog 38 #[.bool neg, .agg #[.int .u64 hi, .int .u64 lo], .int .i64 e, .bool more] w fun r w' => r = .returned (.int .u64 (sgn neg + out)) ∧ Fr no w w' := by
  have hz := size_le W H.out.lt
  have hS' := hS.out
  have q9 : bits .or .u64 out 9223372036854775808 = 9223372036854775808 + out := by
    obtain ⟨o, rfl⟩ : ∃ o : Nat, out = o := ⟨out.toNat, by omega⟩
    rw [show (9223372036854775808 : Int) = ((9223372036854775808 : Nat) : Int) from rfl, WN.or_join' 63 _ _ (by decide) (by decide) (by decide) (by omega)]
    omega
  go_enter Try.func38, Try.ntmps38
  go_wp2_with fail
  refine (wide_size hi lo W _ H).mono ?_
  rintro r W1 ⟨rfl, F1⟩
  have b := (Blk.new w 90 #[.int .u64 hi, .int .u64 lo]).kept0 F1
  have c0 : W1.cell? ⟨w.heap.size, 0, none⟩ = some (.int .u64 hi) := b.cell 0
  have c1 : W1.cell? ⟨w.heap.size, 1, none⟩ = some (.int .u64 lo) := b.cell 1
  have F2 := ((Fr.refl no w).alloc _).trans F1
  clear b F1
  unfold shI at hS'
  have hcase : (e + ((size W : Int) - 53) < -1074 ∧ -1074 - e = -(n : Int)) ∨ (¬ e + ((size W : Int) - 53) < -1074 ∧ (size W : Int) - 53 = -(n : Int)) := by omega
  clear hS'
  rcases hcase with ⟨h1, h2⟩ | ⟨h1, h2⟩
  all_goals
    go_wp2_with fail
    refine (wide_shl hi lo n W _ H (by omega)).mono ?_
    rintro r W2 ⟨⟨x, y, rfl, R⟩, F3⟩
    have hy : (y : Int) = m := by
      have e1 : W * 2 ^ n % (NB * NB) = W * 2 ^ n := Nat.mod_eq_of_lt (by have := hm.out; unfold NB; omega)
      rw [e1] at R
      have := R.w; have := R.l; have := hm.out; unfold NB at *; omega
    clear R
    rw [hy]
    have F4 := F2.trans F3
    clear F2 F3 c0 c1 hz h1 h2 hy y
    rcases T.out with ⟨t1, t2⟩ | ⟨t1, t2, t3⟩ | ⟨t1, t3⟩
    all_goals
      cases neg
      all_goals
        go_wp2_with fail
        go_ret
        refine ⟨?_, F4⟩
        simp [sgn, *]

theorem set2 {W2 X W : World} (f : Fr no W2 W) (k : Fr no W2 X) (v0 v1 : Value) : Fr no W2 ((W.setCell ⟨X.heap.size, 0, none⟩ v0).setCell ⟨X.heap.size, 1, none⟩ v1) :=
  (f.set _ _ (fun h => absurd h (Nat.not_lt.2 k.size))).set _ _ (fun h => absurd h (Nat.not_lt.2 k.size))
theorem rest_eq (W s : Nat) (h : W < NB * NB) : W - W / 2 ^ s * 2 ^ s % (NB * NB) = W % 2 ^ s := by
  rw [Nat.mod_eq_of_lt (Nat.lt_of_le_of_lt (Nat.div_mul_le_self _ _) h)]
  have := Nat.div_add_mod W (2 ^ s)
  rw [Nat.mul_comm] at this; omega
theorem upB_far {W s : Nat} {more : Bool} (h : W < NB * NB) (hs : 128 < s) : upB W s more = false := by
  have h1 : W < 2 ^ (s - 1) := Nat.lt_of_lt_of_le h (by rw [NB_pow, ← Nat.pow_add]; exact Nat.pow_le_pow_right (by decide) (by omega))
  have h2 : (2 : Nat) ^ (s - 1) ≤ 2 ^ s := Nat.pow_le_pow_right (by decide) (by omega)
  unfold upB
  rw [Nat.mod_eq_of_lt (by omega), decide_eq_false (by omega), beq_false_of_ne (by omega)]
  rfl
inductive UpC (W s s1 : Nat) (q : Int) (more up : Bool) : Prop
  | less (h : 2 ^ s1 < W % 2 ^ s) (hu : up = true) : UpC W s s1 q more up
  | more (h : ¬ 2 ^ s1 < W % 2 ^ s) (h2 : W % 2 ^ s = 2 ^ s1) (h3 : more = true) (hu : up = true) : UpC W s s1 q more up
  | odd (h : ¬ 2 ^ s1 < W % 2 ^ s) (h2 : W % 2 ^ s = 2 ^ s1) (h3 : more = false) (h4 : q % 2 = 1) (hu : up = true) : UpC W s s1 q more up
  | even (h : ¬ 2 ^ s1 < W % 2 ^ s) (h2 : W % 2 ^ s = 2 ^ s1) (h3 : more = false) (h4 : q % 2 = 0) (hu : up = false) : UpC W s s1 q more up
  | ne (h : ¬ 2 ^ s1 < W % 2 ^ s) (h2 : W % 2 ^ s ≠ 2 ^ s1) (hu : up = false) : UpC W s s1 q more up
theorem up_cases {W s s1 : Nat} {q : Int} {more up : Bool} (hq : ((W / 2 ^ s : Nat) : Int) = q) (hs : s - 1 = s1) (h : upB W s more = up) : UpC W s s1 q more up := by
  unfold upB at h
  rw [hs] at h
  by_cases h1 : 2 ^ s1 < W % 2 ^ s
  · rw [decide_eq_true h1, Bool.true_or] at h
    exact .less h1 h.symm
  · rw [decide_eq_false h1, Bool.false_or] at h
    by_cases h2 : W % 2 ^ s = 2 ^ s1
    · rw [h2, beq_self_eq_true, Bool.true_and] at h
      cases more
      · rw [Bool.false_or] at h
        by_cases h4 : W / 2 ^ s % 2 = 1
        · rw [h4] at h
          exact .odd h1 h2 rfl (by omega) h.symm
        · rw [beq_false_of_ne h4] at h
          exact .even h1 h2 rfl (by omega) h.symm
      · exact .more h1 h2 rfl h.symm
    · rw [beq_false_of_ne h2, Bool.false_and] at h
      exact .ne h1 h2 h.symm
def bump (up : Bool) (q : Int) : Int := match up with
  | true => q + 1
  | false => q
set_option maxRecDepth 100000 in
set_option maxHeartbeats 8000000 in
theorem ref_round_hi (neg more up : Bool) (hi lo W s : Nat) (q e out : Int) (w : World) (H : Hid (Halves hi lo W)) (he : -4000 ≤ e ∧ e ≤ 2000)
    (hS : Hid (shI W e = (s : Int))) (hs : 0 < s ∧ s ≤ 4000) (hm : Hid (((W / 2 ^ s : Nat) : Int) = q)) (hup : Hid (upB W s more = up)) (T : Hid (Tail (bump up q) (e + (s : Int) + 1075) (e + ((s : Int) + 1) + 1075) out)) (hM : 0 ≤ out ∧ out < 9223372036854775808) (hq : 0 ≤ q ∧ q < 9007199254740992) (hk : 0 ≤ e + (s : Int) + 1075 ∧ e + (s : Int) + 1075 ≤ 2045) :
    Calls Try.prog 38 #[.bool neg, .agg #[.int .u64 hi, .int .u64 lo], .int .i64 e, .bool more] w fun r w' => r = .returned (.int .u64 (sgn neg + out)) ∧ Fr no w w' := by
  have hz := size_le W H.out.lt
  have hS' := hS.out
  have q9 : bits .or .u64 out 9223372036854775808 = 9223372036854775808 + out := by
    obtain ⟨o, rfl⟩ : ∃ o : Nat, out = o := ⟨out.toNat, by omega⟩
    rw [show (9223372036854775808 : Int) = ((9223372036854775808 : Nat) : Int) from rfl, WN.or_join' 63 _ _ (by decide) (by decide) (by decide) (by omega)]
    omega
  go_enter Try.func38, Try.ntmps38
  go_wp2_with fail
  refine (wide_size hi lo W _ H).mono ?_
  rintro r W1 ⟨rfl, F1⟩
  have b1 := (Blk.new w 90 #[.int .u64 hi, .int .u64 lo]).kept0 F1
  have F2 := ((Fr.refl no w).alloc _).trans F1
  clear F1
  unfold shI at hS'
  have hcase : (e + ((size W : Int) - 53) < -1074 ∧ -1074 - e = (s : Int)) ∨ (¬ e + ((size W : Int) - 53) < -1074 ∧ (size W : Int) - 53 = (s : Int)) := by omega
  clear hS'
  go_upto_if 20 with fail
  go_cut [9] (fun l wx => l = .int .i64 s ∧ Blk wx w.heap.size 90 #[.int .u64 hi, .int .u64 lo] ∧ Fr no w wx)
  case first =>
    rcases hcase with ⟨h1, h2⟩ | ⟨h1, h2⟩
    all_goals
      go_wp2_with fail
      go_meet
      exact ⟨by simp [*], b1, F2⟩
  case rest =>
    obtain ⟨rfl, b, F3⟩ := hcut
    have c0 : wc.cell? ⟨w.heap.size, 0, none⟩ = some (.int .u64 hi) := b.cell 0
    have c1 : wc.cell? ⟨w.heap.size, 1, none⟩ = some (.int .u64 lo) := b.cell 1
    clear hcase b1 F2 hz
    go_wp2_with fail
    refine (wide_shr hi lo s W _ H (by omega)).mono ?_
    rintro r W2 ⟨⟨x, y, rfl, R⟩, F4⟩
    have hy : (y : Int) = q := by
      have e1 := hm.out
      have := R.w; have := R.l; unfold NB at *; omega
    clear R
    rw [hy]
    clear hy y
    have F5 := F3.trans F4
    have b4 := b.kept0 F4
    have HK := hide (fun (W' : World) (f : Fr no W2 W') => (⟨(b4.kept0 f).cell 0, (b4.kept0 f).cell 1, f⟩ : W'.cell? ⟨w.heap.size, 0, none⟩ = some (.int .u64 hi) ∧ W'.cell? ⟨w.heap.size, 1, none⟩ = some (.int .u64 lo) ∧ Fr no W2 W'))
    have hlt := b4.lt
    have hS0 : Fr no W2 W2 := Fr.refl _ _
    clear F3 F4 c0 c1 b b4
    have HR := hide (rest_eq W s H.out.lt)
    have HL : Hid (W / 2 ^ s * 2 ^ s % (NB * NB) ≤ W) := Nat.le_trans (Nat.mod_le _ _) (Nat.div_mul_le_self _ _)
    go_upto_region 8 with fail
    go_cut [11] (fun l wx => ∃ g rx ry : Nat, l = .pointer (some ⟨g, 0, none⟩) ∧ Blk wx g 90 #[.int .u64 rx, .int .u64 ry] ∧ Halves rx ry (W % 2 ^ s) ∧ Fr no W2 wx ∧ w.heap.size < g)
    case first =>
      go_region_held3 (fun w' => w'.cell? ⟨w.heap.size, 0, none⟩ = some (.int .u64 hi) ∧ w'.cell? ⟨w.heap.size, 1, none⟩ = some (.int .u64 lo) ∧ Fr no W2 w')
        (first | exact HK.out _ (Fr.refl _ _).drew | exact HK.out _ (Fr.alloc (And.right (And.right ‹_›)) _) | exact HK.out _ (Fr.alloc ‹_› _) | exact HK.out _ ‹_› | exact HK.out _ (set2 ‹_› (And.right (And.right ‹_›)) _ _) | exact HK.out _ (set2 ‹_› ‹_› _ _) | exact HK.out _ (set2 ‹_› (Fr.refl _ _).drew _ _))
        (first
          | (go_at_call 41; refine (wide_shr hi lo s W _ H (by omega)).mono ?_; rintro e w' ⟨⟨x2, y2, rfl, R2⟩, F5⟩; have F6 := Fr.trans (And.right (And.right ‹_›)) F5; (first | have B := Blk.kept0 (Blk.drew (Blk.new W2 90 _)) F5 | have B := Blk.kept0 (Blk.new _ 90 _) F5 | have B := Blk.kept0 B F5 | skip); (try (have cB0 := B.cell 0; have cB1 := B.cell 1; have fB0 := B.free 0; have fB1 := B.free 1)))
          | (go_at_call 40; refine (wide_shl x2 y2 s (W / 2 ^ s) _ (hide R2) (by omega)).mono ?_; rintro e w' ⟨⟨x3, y3, rfl, R3⟩, F7⟩; have F8 := Fr.trans (And.right (And.right ‹_›)) F7; (first | have B := Blk.kept0 (Blk.drew (Blk.new W2 90 _)) F7 | have B := Blk.kept0 (Blk.new _ 90 _) F7 | have B := Blk.kept0 B F7 | skip); (try (have cB0 := B.cell 0; have cB1 := B.cell 1; have fB0 := B.free 0; have fB1 := B.free 1)))
          | (go_at_call 44; refine (wide_sub hi lo x3 y3 W (W / 2 ^ s * 2 ^ s % (NB * NB)) _ H (hide R3) HL).mono ?_; rintro e w' ⟨⟨x4, y4, rfl, R4⟩, F9⟩; have F10 := Fr.trans (And.right (And.right ‹_›)) F9; (first | have B := Blk.kept0 (Blk.drew (Blk.new W2 90 _)) F9 | have B := Blk.kept0 (Blk.new _ 90 _) F9 | have B := Blk.kept0 B F9 | skip); (try (have cB0 := B.cell 0; have cB1 := B.cell 1; have fB0 := B.free 0; have fB1 := B.free 1))))
      all_goals
        go_wp2_with fail
        go_meet
        rw [HR.out] at R4
        first
          | exact ⟨_, _, _, rfl, Blk.new _ _ _, R4, Fr.alloc F10 _, Nat.lt_of_lt_of_le hlt F10.size⟩
          | exact ⟨_, _, _, rfl, (B.set 0 _).set 1 _, R4, set2 F10 (And.right (And.right ‹_›)) _ _, Nat.lt_of_lt_of_le hlt (Fr.size (And.right (And.right ‹_›)))⟩
          | exact ⟨_, _, _, rfl, (B.set 0 _).set 1 _, R4, set2 F10 ‹_› _ _, Nat.lt_of_lt_of_le hlt (Fr.size ‹Fr no W2 _›)⟩
          | exact ⟨_, _, _, rfl, (B.set 0 _).set 1 _, R4, set2 F10 (Fr.refl _ _).drew _ _, hlt⟩
    case rest =>
      obtain ⟨g, rx, ry, rfl, Bg, R, F3, hg⟩ := hcut
      have F6 := F5.trans F3
      obtain ⟨c0, c1, _⟩ := HK.out _ F3
      have b0 := Bg.cell 0
      have b1 := Bg.cell 1
      have f0 := Bg.free 0
      have f1 := Bg.free 1
      clear HK hS0 F3 F5 HR HL hlt
      obtain ⟨s1, hs1⟩ : ∃ s1 : Nat, (s : Int) - 1 = s1 := ⟨s - 1, by omega⟩
      have HONE : Hid (Halves 0 1 1) := ⟨by decide, by decide, by decide⟩
      go_upto_if 42 with fail
      go_cut [] (fun wx => Blk wx g 90 #[.int .u64 rx, .int .u64 ry] ∧ Fr no w wx)
      case first =>
        by_cases h128 : 128 ≤ s
        · have hrr : rx = hi ∧ ry = lo := R.inj (by
            rw [Nat.mod_eq_of_lt (Nat.lt_of_lt_of_le H.out.lt _)]
            · exact H.out
            · rw [NB_pow, ← Nat.pow_add]; exact Nat.pow_le_pow_right (by decide) h128)
          obtain ⟨rfl, rfl⟩ := hrr
          go_wp2_with fail
          go_meet
          exact ⟨(Bg.set 0 _).set 1 _, (F6.set ⟨g, 0, none⟩ (.int .u64 rx) (fun h => absurd h (by simp only []; omega))).set ⟨g, 1, none⟩ (.int .u64 ry) (fun h => absurd h (by simp only []; omega))⟩
        · go_wp2_with fail
          go_meet
          exact ⟨Bg, F6⟩
      case rest =>
        clear Bg F6 b0 b1 f0 f1 c0 c1
        obtain ⟨Bx, Fx⟩ := hcut
        go_wp2_with fail
        refine (wide_shl 0 1 s1 1 _ HONE (by omega)).mono ?_
        rintro r W4 ⟨⟨hx, hy, rfl, Rh⟩, F7⟩
        have Bz := Bx.kept0 F7
        have Fz := Fx.trans F7
        have z0 := Bz.cell 0
        have z1 := Bz.cell 1
        have zl := Bz.lt
        clear Bx Fx F7
        go_upto_region 12 with fail
        go_cut [67] (fun l wx => l = .bool up ∧ Fr no w wx)
        case first =>
          rcases Nat.lt_or_ge 128 s with h129 | h129
          · have hU : up = false := by rw [← hup.out]; exact upB_far H.out.lt h129
            have k129 : ¬ (s : Int) ≤ 128 := by omega
            clear hup
            subst hU
            clear h129 Rh HONE T
            go_wp2_with fail
            go_meet
            exact ⟨rfl, Fz.alloc _⟩
          · have Rh' : Halves hx hy (2 ^ s1) := by
              have e : 1 * 2 ^ s1 % (NB * NB) = 2 ^ s1 := by
                rw [Nat.one_mul, Nat.mod_eq_of_lt]
                rw [NB_pow, ← Nat.pow_add]; exact Nat.pow_lt_pow_right (by decide) (by omega)
              rw [e] at Rh; exact Rh
            have hss : s - 1 = s1 := by omega
            have hc := up_cases hm.out hss hup.out
            clear Rh HONE hss hup T
            have k129 : (s : Int) ≤ 128 := by omega
            rcases hc with ⟨v1, rfl⟩ | ⟨v1, v2, rfl, rfl⟩ | ⟨v1, v2, rfl, v4, rfl⟩ | ⟨v1, v2, rfl, v4, rfl⟩ | ⟨v1, v2, rfl⟩
            · have l0 := hide (decide_eq_true v1)
              clear v1
              go_wp2_with fail
              refine (wide_less _ _ _ _ _ _ _ (hide Rh') (hide R)).mono ?_
              rintro r W5 ⟨rfl, F8⟩
              rw [l0.out]
              have F9 := (Fz.alloc _).trans F8
              have B5 := (Bz.alloc _).kept0 F8
              have H5 := (Blk.new W4 90 _).kept0 F8
              have g0 := B5.cell 0
              have g1 := B5.cell 1
              have h0 := H5.cell 0
              have h1 := H5.cell 1
              clear z0 z1 zl B5 H5 F8 Bz
              go_wp2_with fail
              go_meet
              exact ⟨rfl, F9⟩
            · obtain ⟨rfl, rfl⟩ := R.inj (v2 ▸ Rh')
              have l0 := hide (decide_eq_false v1)
              clear v1 v2
              go_wp2_with fail
              refine (wide_less _ _ _ _ _ _ _ (hide Rh') (hide R)).mono ?_
              rintro r W5 ⟨rfl, F8⟩
              rw [l0.out]
              have F9 := (Fz.alloc _).trans F8
              have B5 := (Bz.alloc _).kept0 F8
              have H5 := (Blk.new W4 90 _).kept0 F8
              have g0 := B5.cell 0
              have g1 := B5.cell 1
              have h0 := H5.cell 0
              have h1 := H5.cell 1
              clear z0 z1 zl B5 H5 F8 Bz
              go_wp2_with fail
              go_meet
              exact ⟨rfl, F9⟩
            · obtain ⟨rfl, rfl⟩ := R.inj (v2 ▸ Rh')
              have l0 := hide (decide_eq_false v1)
              clear v1 v2
              go_wp2_with fail
              refine (wide_less _ _ _ _ _ _ _ (hide Rh') (hide R)).mono ?_
              rintro r W5 ⟨rfl, F8⟩
              rw [l0.out]
              have F9 := (Fz.alloc _).trans F8
              have B5 := (Bz.alloc _).kept0 F8
              have H5 := (Blk.new W4 90 _).kept0 F8
              have g0 := B5.cell 0
              have g1 := B5.cell 1
              have h0 := H5.cell 0
              have h1 := H5.cell 1
              clear z0 z1 zl B5 H5 F8 Bz
              go_wp2_with fail
              go_meet
              exact ⟨rfl, F9⟩
            · obtain ⟨rfl, rfl⟩ := R.inj (v2 ▸ Rh')
              have l0 := hide (decide_eq_false v1)
              clear v1 v2
              go_wp2_with fail
              refine (wide_less _ _ _ _ _ _ _ (hide Rh') (hide R)).mono ?_
              rintro r W5 ⟨rfl, F8⟩
              rw [l0.out]
              have F9 := (Fz.alloc _).trans F8
              have B5 := (Bz.alloc _).kept0 F8
              have H5 := (Blk.new W4 90 _).kept0 F8
              have g0 := B5.cell 0
              have g1 := B5.cell 1
              have h0 := H5.cell 0
              have h1 := H5.cell 1
              clear z0 z1 zl B5 H5 F8 Bz
              go_wp2_with fail
              go_meet
              exact ⟨rfl, F9⟩
            · have l0 := hide (decide_eq_false v1)
              have hne : ¬ (rx = hx ∧ ry = hy) := fun hh => v2 (by
                have a := R.w; have b := Rh'.w
                rw [a, b, hh.1, hh.2])
              by_cases hn : rx = hx
              · have hn2 : ¬ ry = hy := fun h => hne ⟨hn, h⟩
                subst hn
                have n1 : ((ry : Int) == (hy : Int)) = false := by simp only [beq_eq_false_iff_ne]; omega
                have n2 : (ry == hy) = false := by simp only [beq_eq_false_iff_ne]; omega
                clear v1 v2 hne hn2
                go_wp2_with fail
                refine (wide_less _ _ _ _ _ _ _ (hide Rh') (hide R)).mono ?_
                rintro r W5 ⟨rfl, F8⟩
                rw [l0.out]
                have F9 := (Fz.alloc _).trans F8
                have B5 := (Bz.alloc _).kept0 F8
                have H5 := (Blk.new W4 90 _).kept0 F8
                have g0 := B5.cell 0
                have g1 := B5.cell 1
                have h0 := H5.cell 0
                have h1 := H5.cell 1
                clear z0 z1 zl B5 H5 F8 Bz
                go_wp2_with fail
                go_meet
                exact ⟨rfl, F9⟩
              · have n1 : ((rx : Int) == (hx : Int)) = false := by simp only [beq_eq_false_iff_ne]; omega
                have n2 : (rx == hx) = false := by simp only [beq_eq_false_iff_ne]; omega
                clear v1 v2 hne hn
                go_wp2_with fail
                refine (wide_less _ _ _ _ _ _ _ (hide Rh') (hide R)).mono ?_
                rintro r W5 ⟨rfl, F8⟩
                rw [l0.out]
                have F9 := (Fz.alloc _).trans F8
                have B5 := (Bz.alloc _).kept0 F8
                have H5 := (Blk.new W4 90 _).kept0 F8
                have g0 := B5.cell 0
                have g1 := B5.cell 1
                have h0 := H5.cell 0
                have h1 := H5.cell 1
                clear z0 z1 zl B5 H5 F8 Bz
                go_wp2_with fail
                go_meet
                exact ⟨rfl, F9⟩
        case rest =>
          obtain ⟨rfl, F9⟩ := hcut
          cases up
          · have t9 : Tail q _ _ _ := T.out
            rcases t9 with ⟨t1, t2⟩ | ⟨t1, t2, t3⟩ | ⟨t1, t3⟩
            · subst t1
              cases neg
              all_goals
                go_wp2_with fail
                go_ret
                refine ⟨?_, F9⟩
                simp [sgn, *]
            · cases neg
              all_goals
                go_wp2_with fail
                go_ret
                refine ⟨?_, F9⟩
                simp [sgn, *]
            · exfalso; omega
          · have t9 : Tail (q + 1) _ _ _ := T.out
            rcases t9 with ⟨t1, t2⟩ | ⟨t1, t2, t3⟩ | ⟨t1, t3⟩
            · subst t1
              cases neg
              all_goals
                go_wp2_with fail
                go_ret
                refine ⟨?_, F9⟩
                simp [sgn, *]
            · cases neg
              all_goals
                go_wp2_with fail
                go_ret
                refine ⟨?_, F9⟩
                simp [sgn, *]
            · obtain rfl : q = 9007199254740991 := by omega
              clear t1
              cases neg
              all_goals
                go_wp2_with fail
                go_ret
                refine ⟨?_, F9⟩
                simp [sgn, *]
end Go.Proofs.Ytljcncfipocnpaa
