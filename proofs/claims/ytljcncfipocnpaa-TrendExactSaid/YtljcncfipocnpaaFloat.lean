/- Plain facts on float64 words: their order, and that sums, differences and products of finite ones are numbers. -/
import Derived.Laws.FloatArith
namespace Go.Proofs.Ytljcncfipocnpaa
namespace Fl
open Ieee

abbrev dbl : Format := Ieee.double
def rung (x : Nat) : Nat := x % 9223372036854775808
def neg (x : Nat) : Bool := x / 9223372036854775808 % 2 == 1
/-- A rung's magnitude, in units of the least place. -/
def mv (r : Nat) : Nat := if r < 4503599627370496 then r else (4503599627370496 + r % 4503599627370496) * 2 ^ (r / 4503599627370496 - 1)
def sv (x : Nat) : Int := if neg x then -(mv (rung x) : Int) else mv (rung x)
def inf : Nat := 9218868437227405312
/-- No NaN. -/
def Num (x : Nat) : Prop := rung x ≤ inf
/-- Finite. -/
def Fnt (x : Nat) : Prop := rung x < inf
theorem Fnt.num {x : Nat} (h : Fnt x) : Num x := Nat.le_of_lt h

theorem mv_step (r : Nat) : mv r < mv (r + 1) := by
  unfold mv
  by_cases h1 : r + 1 < 4503599627370496
  · rw [if_pos (by omega), if_pos h1]; omega
  · rw [if_neg h1]
    by_cases h2 : r < 4503599627370496
    · obtain rfl : r = 4503599627370495 := by omega
      decide
    · rw [if_neg h2]
      by_cases h3 : r % 4503599627370496 = 4503599627370495
      · have e1 : (r + 1) % 4503599627370496 = 0 := by omega
        have e2 : (r + 1) / 4503599627370496 - 1 = r / 4503599627370496 - 1 + 1 := by omega
        rw [e1, e2, h3, Nat.pow_succ]
        have : 0 < 2 ^ (r / 4503599627370496 - 1) := Nat.two_pow_pos _
        generalize 2 ^ (r / 4503599627370496 - 1) = p at *
        omega
      · have e1 : (r + 1) % 4503599627370496 = r % 4503599627370496 + 1 := by omega
        have e2 : (r + 1) / 4503599627370496 = r / 4503599627370496 := by omega
        rw [e1, e2]
        exact Nat.mul_lt_mul_of_pos_right (by omega) (Nat.two_pow_pos _)
theorem mv_lt {r s : Nat} (h : r < s) : mv r < mv s := by
  induction s with
  | zero => omega
  | succ s ih =>
    rcases Nat.lt_or_eq_of_le (Nat.le_of_lt_succ h) with h' | rfl
    · exact Nat.lt_trans (ih h') (mv_step s)
    · exact mv_step r
theorem mv_le {r s : Nat} (h : r ≤ s) : mv r ≤ mv s := by
  rcases Nat.lt_or_eq_of_le h with h | rfl
  · exact Nat.le_of_lt (mv_lt h)
  · exact Nat.le_refl _

/-- What a finite word stands for. -/
theorem read_fin (x : Nat) (h : Fnt x) : ∃ m a, dbl.read x = .number (neg x) m (dbl.leastPlace + (a : Nat)) ∧ m * 2 ^ a = mv (rung x) := by
  unfold Fnt inf at h
  unfold Format.read
  have e1 : dbl.signWeight = 9223372036854775808 := by decide
  have e2 : dbl.binade = 4503599627370496 := by decide
  have e3 : dbl.infRung = 9218868437227405312 := by decide
  simp only [e1, e2, e3]
  change ∃ m a, (if rung x < 4503599627370496 then _ else _) = _ ∧ _
  by_cases h1 : rung x < 4503599627370496
  · refine ⟨rung x, 0, ?_, by simp [mv, h1]⟩
    rw [if_pos h1]; simp only [Int.natCast_zero, Int.add_zero]; rfl
  · refine ⟨4503599627370496 + rung x % 4503599627370496, rung x / 4503599627370496 - 1, ?_, by simp [mv, h1]⟩
    rw [if_neg h1]
    change (if rung x < 9218868437227405312 then _ else _) = _
    rw [if_pos h]; rfl
theorem read_neg (x : Nat) : (FloatKind.f64.decode x).neg = neg x := by
  show (dbl.read x).neg = neg x
  unfold Format.read neg
  simp only [show dbl.signWeight = 9223372036854775808 from by decide]
  split
  · rfl
  · split
    · rfl
    · split <;> rfl
theorem read_inf (x : Nat) (h : rung x = inf) : dbl.read x = .infinity (neg x) := by
  unfold inf at h
  unfold Format.read
  have e1 : dbl.signWeight = 9223372036854775808 := by decide
  have e2 : dbl.binade = 4503599627370496 := by decide
  have e3 : dbl.infRung = 9218868437227405312 := by decide
  simp only [e1, e2, e3]
  change (if rung x < 4503599627370496 then _ else if rung x < 9218868437227405312 then _ else if rung x = 9218868437227405312 then Datum.infinity (neg x) else _) = _
  rw [if_neg (by omega), if_neg (by omega), if_pos h]

theorem signed_mul (s : Bool) (m a k : Nat) (h : k ≤ a) : signed s m (a - k) * (2 ^ k : Nat) = if s then -((m * 2 ^ a : Nat) : Int) else ((m * 2 ^ a : Nat) : Int) := by
  have e : m <<< (a - k) * 2 ^ k = m * 2 ^ a := by rw [Nat.shiftLeft_eq, Nat.mul_assoc, ← Nat.pow_add, Nat.sub_add_cancel h]
  unfold signed
  cases s
  · simp only [Bool.false_eq_true, if_false]; rw [← e, Int.natCast_mul]
  · simp only [if_true]; rw [← e, Int.natCast_mul, Int.neg_mul]
theorem compare_mul (a b : Int) (k : Nat) (h : 0 < k) : compare (a * k) (b * k) = compare a b := by
  have hk : (0 : Int) < k := by omega
  simp only [compare, compareOfLessAndEq]
  have h1 : a * k < b * k ↔ a < b := Int.mul_lt_mul_right hk
  have h2 : a * k = b * k ↔ a = b := ⟨fun e => Int.eq_of_mul_eq_mul_right (by omega) e, fun e => by rw [e]⟩
  simp only [h1, h2]

theorem cmp_lt {a b : Int} (h : a < b) : compare a b = .lt := by simp only [compare, compareOfLessAndEq]; rw [if_pos h]
theorem cmp_gt {a b : Int} (h : b < a) : compare a b = .gt := by simp only [compare, compareOfLessAndEq]; rw [if_neg (by omega), if_neg (by omega)]
theorem cmp_eq (a : Int) : compare a a = .eq := by simp only [compare, compareOfLessAndEq]; rw [if_neg (by omega)]; simp
theorem order_num (x y : Nat) (hx : Num x) (hy : Num y) : dbl.order x y = some (compare (sv x) (sv y)) := by
  unfold Format.order
  unfold Num at hx hy
  by_cases h1 : rung x = inf
  · rw [read_inf x h1]
    by_cases h2 : rung y = inf
    · rw [read_inf y h2]
      simp only [Datum.order, sv, h1, h2]
      have h0 : 0 < mv inf := Nat.lt_of_le_of_lt (Nat.zero_le _) (mv_lt (show 0 < inf by decide))
      generalize mv inf = M at *
      cases neg x <;> cases neg y <;> simp only [Bool.false_eq_true, if_true, if_false]
      · rw [cmp_eq]; rfl
      · rw [cmp_gt (by omega)]; rfl
      · rw [cmp_lt (by omega)]; rfl
      · rw [cmp_eq]; rfl
    · have hy' : Fnt y := by unfold Fnt; omega
      obtain ⟨n, b, e, k⟩ := read_fin y hy'
      rw [e]
      simp only [Datum.order, sv, h1]
      have := mv_lt hy'
      generalize mv inf = M at *
      cases neg x <;> cases neg y <;> simp only [Bool.false_eq_true, if_true, if_false]
      · rw [cmp_gt (by omega)]
      · rw [cmp_gt (by omega)]
      · rw [cmp_lt (by omega)]
      · rw [cmp_lt (by omega)]
  · have hx' : Fnt x := by unfold Fnt; omega
    obtain ⟨m, a, e, k⟩ := read_fin x hx'
    rw [e]
    by_cases h2 : rung y = inf
    · rw [read_inf y h2]
      simp only [Datum.order, sv, h2]
      have := mv_lt hx'
      generalize mv inf = M at *
      cases neg x <;> cases neg y <;> simp only [Bool.false_eq_true, if_true, if_false]
      · rw [cmp_lt (by omega)]
      · rw [cmp_gt (by omega)]
      · rw [cmp_lt (by omega)]
      · rw [cmp_gt (by omega)]
    · have hy' : Fnt y := by unfold Fnt; omega
      obtain ⟨n, b, e', k'⟩ := read_fin y hy'
      rw [e']
      simp only [Datum.order]
      have ea : (dbl.leastPlace + (a : Int) - min (dbl.leastPlace + (a : Int)) (dbl.leastPlace + (b : Int))).toNat = a - min a b := by omega
      have eb : (dbl.leastPlace + (b : Int) - min (dbl.leastPlace + (a : Int)) (dbl.leastPlace + (b : Int))).toNat = b - min a b := by omega
      rw [ea, eb, ← compare_mul _ _ (2 ^ min a b) (Nat.two_pow_pos _), signed_mul _ _ _ _ (Nat.min_le_left a b), signed_mul _ _ _ _ (Nat.min_le_right a b), k, k']
      rfl

/-! ### Results are numbers -/
theorem rung_word (s : Bool) (r : Nat) (h : r ≤ inf) : rung (dbl.word s r) = r := by
  unfold inf at h
  unfold Format.word rung
  have e1 : dbl.signWeight = 9223372036854775808 := by decide
  rw [e1]
  split <;> omega
theorem neg_word (s : Bool) (r : Nat) (h : r ≤ inf) : neg (dbl.word s r) = s := by
  unfold inf at h
  unfold Format.word neg
  have e1 : dbl.signWeight = 9223372036854775808 := by decide
  rw [e1]
  cases s
  · simp only [Bool.false_eq_true, if_false, beq_eq_false_iff_ne]; omega
  · simp only [if_true, beq_iff_eq]; omega
theorem num_write (d : Datum) (h : d.isNaN = false) : Num (dbl.write d) := by
  have e3 : dbl.infRung = inf := by decide
  unfold Num
  cases d with
  | number s m e =>
    show rung (dbl.nearest s m e) ≤ inf
    unfold Format.nearest
    split
    · rw [rung_word s 0 (by decide)]; decide
    · rw [rung_word _ _ (by rw [e3]; exact Nat.min_le_right _ _), e3]; exact Nat.min_le_right _ _
  | infinity s => show rung (dbl.word s dbl.infRung) ≤ inf; rw [e3, rung_word _ _ (Nat.le_refl _)]; exact Nat.le_refl _
  | nan s t => simp [Datum.isNaN] at h
theorem read_num (x : Nat) (h : Num x) : (∃ m e, dbl.read x = .number (neg x) m e) ∨ dbl.read x = .infinity (neg x) := by
  rcases Nat.lt_or_eq_of_le h with h | h
  · obtain ⟨m, a, e, _⟩ := read_fin x h
    exact .inl ⟨m, _, e⟩
  · exact .inr (read_inf x h)
theorem sub_fin {x y : Nat} (hx : Fnt x) (hy : Fnt y) : ∃ r, dbl.sub x y = some r ∧ Num r := by
  obtain ⟨m, a, e, _⟩ := read_fin x hx
  obtain ⟨n, b, e', _⟩ := read_fin y hy
  exact ⟨_, by unfold Format.sub; rw [e, e']; rfl, num_write _ rfl⟩
theorem add_fin {x y : Nat} (hx : Fnt x) (hy : Num y) : ∃ r, dbl.add x y = some r ∧ Num r := by
  obtain ⟨m, a, e, _⟩ := read_fin x hx
  rcases read_num y hy with ⟨n, b, e'⟩ | e'
  · exact ⟨_, by unfold Format.add; rw [e, e']; rfl, num_write _ rfl⟩
  · exact ⟨_, by unfold Format.add; rw [e, e']; rfl, num_write _ rfl⟩
theorem mul_fin {x y : Nat} (hx : Num x) (hy : Fnt y) (h0 : sv y ≠ 0) : ∃ r, dbl.mul x y = some r ∧ Num r := by
  obtain ⟨n, b, e', k⟩ := read_fin y hy
  have hn : n ≠ 0 := by
    rintro rfl
    rw [Nat.zero_mul] at k
    apply h0
    unfold sv
    rw [← k]
    split <;> rfl
  rcases read_num x hx with ⟨m, a, e⟩ | e
  · exact ⟨_, by unfold Format.mul; rw [e, e']; rfl, num_write _ rfl⟩
  · exact ⟨dbl.write (.infinity (neg x ^^ neg y)), by unfold Format.mul; rw [e, e']; simp only [Datum.product, if_neg hn, Option.map_some], num_write _ rfl⟩

/-! ### The float64 of a whole number -/
def cnv (x : Int) : Nat := FloatKind.f64.nearest x
theorem cut_zero (n : Nat) (s : Bool) : Toward.even.cut s n 0 = n := by
  unfold Toward.cut
  simp [Nat.mod_one]
theorem log2_le {n k : Nat} (h : n < 2 ^ (k + 1)) : n.log2 ≤ k := by
  by_cases h0 : n = 0
  · subst h0; simp
  · have := (Nat.log2_lt h0).2 h; omega
theorem cut_le (n : Nat) (s : Bool) (d k : Nat) (hd : d ≤ n.log2 + 2) (h : n < 2 ^ (d + k)) : Toward.even.cut s n d ≤ 2 ^ k := by
  unfold Toward.cut
  rw [Nat.min_eq_left hd, Nat.one_shiftLeft]
  have h1 : n / 2 ^ d < 2 ^ k := Nat.div_lt_of_lt_mul (by rw [← Nat.pow_add]; exact h)
  have key : ∀ b : Bool, n / 2 ^ d + b.toNat ≤ 2 ^ k := fun b => by have := Bool.toNat_le b; omega
  exact key _
theorem cnv_rung (x : Int) (h : x.natAbs ≤ 9223372036854775808) : rung (cnv x) ≤ 1085 * 4503599627370496 + 9007199254740992 := by
  show rung (dbl.nearest (x < 0) x.natAbs 0) ≤ _
  generalize x.natAbs = n at h
  generalize hs : decide (x < 0) = s
  unfold Format.nearest
  split
  · rw [rung_word s 0 (by decide)]; decide
  · have e1 : dbl.leastPlace = -1074 := by decide
    have e2 : dbl.binade = 4503599627370496 := by decide
    have e3 : dbl.infRung = inf := by decide
    have e4 : (dbl.fractionBits : Int) = 52 := by decide
    have hl : n.log2 ≤ 63 := log2_le (by omega)
    rename_i hn
    have hlt : n < 2 ^ (n.log2 + 1) := Nat.lt_log2_self
    simp only [e1, e2, e3, e4]
    rw [rung_word _ _ (Nat.min_le_right _ _)]
    refine Nat.le_trans (Nat.min_le_left _ _) ?_
    have e5 : max (0 + (n.log2 : Int) - 52) (-1074) = (n.log2 : Int) - 52 := by omega
    rw [e5]
    have hk : Toward.even.cut s (n <<< (0 - ((n.log2 : Int) - 52)).toNat) (((n.log2 : Int) - 52) - 0).toNat ≤ 9007199254740992 := by
      by_cases h52 : n.log2 ≤ 52
      · have a1 : (((n.log2 : Int) - 52) - 0).toNat = 0 := by omega
        have a2 : (0 - ((n.log2 : Int) - 52)).toNat = 52 - n.log2 := by omega
        rw [a1, cut_zero, a2, Nat.shiftLeft_eq]
        have : n * 2 ^ (52 - n.log2) ≤ 2 ^ (n.log2 + 1) * 2 ^ (52 - n.log2) := Nat.mul_le_mul_right _ (Nat.le_of_lt hlt)
        rw [← Nat.pow_add, show n.log2 + 1 + (52 - n.log2) = 53 by omega] at this
        exact this
      · have a2 : (0 - ((n.log2 : Int) - 52)).toNat = 0 := by omega
        have a1 : (((n.log2 : Int) - 52) - 0).toNat = n.log2 - 52 := by omega
        rw [a1, a2, Nat.shiftLeft_zero]
        exact cut_le n s _ 53 (by omega) (by rw [show n.log2 - 52 + 53 = n.log2 + 1 by omega]; exact hlt)
    have h3 : ((n.log2 : Int) - 52 - -1074).toNat ≤ 1085 := by omega
    exact Nat.add_le_add (Nat.mul_le_mul_right _ h3) hk
theorem fin_cnv (x : Int) (h : x.natAbs ≤ 9223372036854775808) : Fnt (cnv x) := Nat.lt_of_le_of_lt (cnv_rung x h) (by decide)

/-! ### min, max, and the next average -/
def fmin (x y : Nat) : Nat := match dbl.order x y with | some .lt => x | some .gt => y | some .eq => if neg x then x else y | none => 0
def fmax (x y : Nat) : Nat := match dbl.order x y with | some .lt => y | some .gt => x | some .eq => if neg x then y else x | none => 0
theorem cmp_cases (a b : Int) : (a < b ∧ compare a b = .lt) ∨ (a = b ∧ compare a b = .eq) ∨ (b < a ∧ compare a b = .gt) := by
  rcases Int.lt_trichotomy a b with h | h | h
  · exact .inl ⟨h, cmp_lt h⟩
  · exact .inr (.inl ⟨h, by rw [h]; exact cmp_eq _⟩)
  · exact .inr (.inr ⟨h, cmp_gt h⟩)
theorem fmin_sv {x y : Nat} (hx : Num x) (hy : Num y) : (fmin x y = x ∨ fmin x y = y) ∧ sv (fmin x y) = min (sv x) (sv y) := by
  unfold fmin
  rw [order_num x y hx hy]
  rcases cmp_cases (sv x) (sv y) with ⟨h, e⟩ | ⟨h, e⟩ | ⟨h, e⟩ <;> rw [e] <;> simp only
  · exact ⟨.inl (by first | rfl | trivial), by omega⟩
  · split
    · exact ⟨.inl (by first | rfl | trivial), by omega⟩
    · exact ⟨.inr (by first | rfl | trivial), by omega⟩
  · exact ⟨.inr (by first | rfl | trivial), by omega⟩
theorem fmax_sv {x y : Nat} (hx : Num x) (hy : Num y) : (fmax x y = x ∨ fmax x y = y) ∧ sv (fmax x y) = max (sv x) (sv y) := by
  unfold fmax
  rw [order_num x y hx hy]
  rcases cmp_cases (sv x) (sv y) with ⟨h, e⟩ | ⟨h, e⟩ | ⟨h, e⟩ <;> rw [e] <;> simp only
  · exact ⟨.inr (by first | rfl | trivial), by omega⟩
  · split
    · exact ⟨.inr (by first | rfl | trivial), by omega⟩
    · exact ⟨.inl (by first | rfl | trivial), by omega⟩
  · exact ⟨.inl (by first | rfl | trivial), by omega⟩
theorem fmin_num {x y : Nat} (hx : Num x) (hy : Num y) : Num (fmin x y) := by
  rcases (fmin_sv hx hy).1 with e | e <;> rw [e] <;> assumption
theorem fmax_num {x y : Nat} (hx : Num x) (hy : Num y) : Num (fmax x y) := by
  rcases (fmax_sv hx hy).1 with e | e <;> rw [e] <;> assumption
def upd (next a y : Nat) : Nat := fmin (fmax next (fmin a y)) (fmax a y)
theorem sv_abs (x : Nat) : (sv x).natAbs = mv (rung x) := by unfold sv; split <;> omega
theorem fin_of_sv {x : Nat} (h : Num x) (h1 : (sv x).natAbs < mv inf) : Fnt x := by
  rw [sv_abs] at h1
  rcases Nat.lt_or_eq_of_le h with h | h
  · exact h
  · rw [h] at h1; omega
theorem fin_sv {x : Nat} (h : Fnt x) : (sv x).natAbs < mv inf := by rw [sv_abs]; exact mv_lt h
/-- The next average lies between the last one and the number that is noted, and is finite. -/
theorem upd_spec {next a y : Nat} (hn : Num next) (ha : Fnt a) (hy : Fnt y) :
    Fnt (upd next a y) ∧ min (sv a) (sv y) ≤ sv (upd next a y) ∧ sv (upd next a y) ≤ max (sv a) (sv y) := by
  have h1 := fmin_num ha.num hy.num
  have h2 := fmax_num ha.num hy.num
  have h3 := fmax_num hn h1
  have e : sv (upd next a y) = min (max (sv next) (min (sv a) (sv y))) (max (sv a) (sv y)) := by
    unfold upd
    rw [(fmin_sv h3 h2).2, (fmax_sv hn h1).2, (fmin_sv ha.num hy.num).2, (fmax_sv ha.num hy.num).2]
  have f1 := fin_sv ha
  have f2 := fin_sv hy
  exact ⟨fin_of_sv (fmin_num h3 h2) (by omega), by omega, by omega⟩
end Fl
end Go.Proofs.Ytljcncfipocnpaa
