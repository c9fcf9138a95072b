/- Contracts of the law's Weight.value and hull. -/
import Derived.Test.YtljcncfipocnpaaTrend
import Derived.Test.YtljcncfipocnpaaKd
namespace Go.Proofs.Ytljcncfipocnpaa
open Go.RowKit Fl

/-- A weight: A, B, Raw, Bits. -/
abbrev Wt := Int × Int × Bool × Int
def kWt : Kd Wt := .pair (.int .i64) (.pair (.int .i64) (.pair .bool (.int .u64)))
def Wt.cells (x : Wt) : Array Value := #[.int .i64 x.1, .int .i64 x.2.1, .bool x.2.2.1, .int .u64 x.2.2.2]
/-- May b be the weight's value? (A quotient that is no number has any bits of one that is none.) -/
def Val (x : Wt) (b : Nat) : Prop := if x.2.2.1 then b = x.2.2.2.toNat else match dbl.div (cnv x.1) (cnv x.2.1) with | some r => b = r | none => inf < rung b
theorem KeepOk_nan {b : Nat} (h : inf < rung b) : KeepOk b = false := by
  have e : ∀ y, dbl.order b y = none := by
    intro y
    unfold Ieee.Format.order
    have : ∃ s t, dbl.read b = .nan s t := by
      unfold inf at h
      unfold Ieee.Format.read
      simp only [show dbl.signWeight = 9223372036854775808 from by decide, show dbl.binade = 4503599627370496 from by decide, show dbl.infRung = 9218868437227405312 from by decide]
      change ∃ s t, (if rung b < 4503599627370496 then _ else if rung b < 9218868437227405312 then _ else if rung b = 9218868437227405312 then _ else _) = _
      rw [if_neg (by omega), if_neg (by omega), if_neg (by omega)]
      exact ⟨_, _, rfl⟩
    obtain ⟨s, t, e⟩ := this
    rw [e]; rfl
  unfold KeepOk
  rw [e, e]; rfl
/-- Two values of one weight: alike, if one of them may be a weight. -/
theorem Val.alike {x : Wt} {b c : Nat} (hb : Val x b) (hc : Val x c) : KeepOk b = KeepOk c ∧ (KeepOk b = true → b = c) := by
  unfold Val at hb hc
  by_cases hr : x.2.2.1 = true
  · rw [if_pos hr] at hb hc
    rw [hb, hc]; exact ⟨rfl, fun _ => rfl⟩
  · rw [if_neg hr] at hb hc
    cases e : dbl.div (cnv x.1) (cnv x.2.1) with
    | some r =>
      rw [e] at hb hc
      simp only at hb hc
      rw [hb, hc]; exact ⟨rfl, fun _ => rfl⟩
    | none =>
      rw [e] at hb hc
      simp only at hb hc
      rw [KeepOk_nan hb, KeepOk_nan hc]
      exact ⟨rfl, fun h => by cases h⟩

def nanAt (x y : Nat) (w : World) : Nat := (Question.nanBits .f64 x y).cut (w.tape w.drawn (.nanBits .f64 x y))
theorem nanAt_nan (x y : Nat) (w : World) : inf < rung (nanAt x y w) := by
  unfold nanAt rung inf Question.cut
  generalize w.tape w.drawn (.nanBits .f64 x y) = t
  simp only
  rw [show (2 : Nat) ^ 63 = 9223372036854775808 from by decide, show (2 : Nat) ^ 52 = 4503599627370496 from by decide]
  have h1 : t / 2 % (4503599627370496 - 1) < 4503599627370495 := Nat.mod_lt _ (by decide)
  generalize t / 2 % (4503599627370496 - 1) = a at *
  have h2 : t % 2 < 2 := Nat.mod_lt _ (by decide)
  generalize t % 2 = b at *
  omega
theorem run_frombits {n : Int} (w : World) : (callFunc 27 #[.int .u64 n]).run Try.prog w = .ok (.value (.float .f64 n.toNat)) w := by
  rw [run_callFunc_extern (fn := Try.f27) (e := Extern.MathFloatBits.float64frombits) Try.func27 (by kernel_rfl) (by kernel_rfl) (by kernel_rfl) (by kernel_rfl)]
  rfl
theorem run_quo_nan {P : Program} (T : TypeId) (x y : Nat) (w : World) (h : dbl.div x y = none) :
    (binOp .quo T (.float .f64 x) (.float .f64 y)).run P w = .ok (.float .f64 (nanAt x y w)) w.drew := by
  have h' : FloatKind.f64.format.div x y = none := h
  simp [binOp, Op.floatArith, h', nanAt, Question.forced]

set_option maxHeartbeats 400000 in
theorem weight_value (x : Wt) (w : World) :
    Calls Try.prog 16 #[.agg x.cells] w fun e w' => (∃ b, e = .returned (.float .f64 b) ∧ Val x b) ∧ Fr no w w' := by
  obtain ⟨A, B, raw, bits⟩ := x
  unfold Wt.cells
  simp only
  cases raw with
  | true =>
    have q := fun W => run_frombits (n := bits) W
    go_enter Try.func16, Try.ntmps16
    go_wp2
    go_ret
    exact ⟨⟨_, rfl, by simp [Val]⟩, (Fr.refl _ _).alloc _⟩
  | false =>
    cases h : dbl.div (cnv A) (cnv B) with
    | some r =>
      have q := fun T W => run_float_arith (P := Try.prog) W .quo T .f64 (cnv A) (cnv B) r h
      have ca : floatOfInt .f64 A = cnv A := rfl
      have cb : floatOfInt .f64 B = cnv B := rfl
      have hv : Val (A, B, false, bits) r := by unfold Val; simp [h]
      go_enter Try.func16, Try.ntmps16
      go_wp2
      go_ret
      exact ⟨⟨r, rfl, hv⟩, (Fr.refl _ _).alloc _⟩
    | none =>
      have q := fun T W => run_quo_nan (P := Try.prog) T (cnv A) (cnv B) W h
      have ca : floatOfInt .f64 A = cnv A := rfl
      have cb : floatOfInt .f64 B = cnv B := rfl
      have hv : ∀ W, Val (A, B, false, bits) (nanAt (cnv A) (cnv B) W) := fun W => by unfold Val; simp [h, nanAt_nan]
      go_enter Try.func16, Try.ntmps16
      go_wp2
      go_ret
      exact ⟨⟨_, rfl, hv _⟩, ((Fr.refl _ _).alloc _).drew⟩

theorem lt_b {x y : Nat} (hx : Num x) (hy : Num y) : (FloatKind.f64.format.order x y == some Ordering.lt) = decide (sv x < sv y) := by
  rw [show FloatKind.f64.format.order x y = _ from order_num x y hx hy]
  rcases cmp_cases (sv x) (sv y) with ⟨h, e⟩ | ⟨h, e⟩ | ⟨h, e⟩ <;> rw [e]
  · rw [decide_eq_true h]; rfl
  · rw [decide_eq_false (by omega)]; rfl
  · rw [decide_eq_false (by omega)]; rfl
theorem gt_b {x y : Nat} (hx : Num x) (hy : Num y) : (FloatKind.f64.format.order x y == some Ordering.gt) = decide (sv y < sv x) := by
  rw [show FloatKind.f64.format.order x y = _ from order_num x y hx hy]
  rcases cmp_cases (sv x) (sv y) with ⟨h, e⟩ | ⟨h, e⟩ | ⟨h, e⟩ <;> rw [e]
  · rw [decide_eq_false (by omega)]; rfl
  · rw [decide_eq_false (by omega)]; rfl
  · rw [decide_eq_true h]; rfl
theorem eq_b {x y : Nat} (hx : Num x) (hy : Num y) : (FloatKind.f64.format.order x y == some Ordering.eq) = decide (sv x = sv y) := by
  rw [show FloatKind.f64.format.order x y = _ from order_num x y hx hy]
  rcases cmp_cases (sv x) (sv y) with ⟨h, e⟩ | ⟨h, e⟩ | ⟨h, e⟩ <;> rw [e]
  · rw [decide_eq_false (by omega)]; rfl
  · rw [decide_eq_true h]; rfl
  · rw [decide_eq_false (by omega)]; rfl
theorem le_b {x y : Nat} (hx : Num x) (hy : Num y) : (FloatKind.f64.format.order x y == some Ordering.lt || FloatKind.f64.format.order x y == some Ordering.eq) = decide (sv x ≤ sv y) := by
  rw [lt_b hx hy, eq_b hx hy, Bool.eq_iff_iff]; simp only [Bool.or_eq_true, decide_eq_true_eq]; omega
theorem ge_b {x y : Nat} (hx : Num x) (hy : Num y) : (FloatKind.f64.format.order x y == some Ordering.gt || FloatKind.f64.format.order x y == some Ordering.eq) = decide (sv y ≤ sv x) := by
  rw [gt_b hx hy, eq_b hx hy, Bool.eq_iff_iff]; simp only [Bool.or_eq_true, decide_eq_true_eq]; omega

/-- An int64 list at A reads as xs. -/
def I64s (w : World) (A : Option Addr) (xs : List Int) : Prop := xs ≠ [] → ∃ b o, A = some ⟨b, o, none⟩ ∧ ∀ j (h : j < xs.length), w.cell? ⟨b, o + j, none⟩ = some (.int .i64 xs[j])

set_option maxHeartbeats 1000000 in
/-- The average is told to be in the hull if one note's float is not above it, and one is not below it. -/
theorem trend_hull (xs : List Int) (b o c a : Nat) (w : World) (hc : ∀ j (h : j < xs.length), w.cell? ⟨b, o + j, none⟩ = some (.int .i64 xs[j])) (hx : ∀ x ∈ xs, x.natAbs ≤ 9223372036854775808) (hn : xs.length ≤ 9223372036854775807)
    (ha : Num a) (hlo : ∃ x ∈ xs, sv (cnv x) ≤ sv a) (hhi : ∃ x ∈ xs, sv a ≤ sv (cnv x)) :
    Calls Try.prog 21 #[.slice (some ⟨b, o, none⟩) xs.length c, .float .f64 a] w fun e w' => e = .returned (.bool true) ∧ w' = w := by
  have h0 : 0 < xs.length := by obtain ⟨x, hx, _⟩ := hlo; exact List.length_pos_of_mem hx
  have c0 := hc 0 h0
  simp only [Nat.add_zero] at c0
  go_enter Try.func21, Try.ntmps21
  go_wp2
  have nx : ∀ j (h : j < xs.length), Num (cnv xs[j]) := fun j h => (fin_cnv _ (hx _ (List.getElem_mem h))).num
  go_loop [5, 6, 7, 8] (fun l h i _ => ∃ (k L H : Nat), k ≤ xs.length ∧ l = .float .f64 L ∧ h = .float .f64 H ∧ i = .int .i64 k ∧ Num L ∧ Num H ∧ (∀ j (h : j < xs.length), j < k → sv L ≤ sv (cnv xs[j])) ∧ (∀ j (h : j < xs.length), j < k → sv (cnv xs[j]) ≤ sv H)) (fun _ _ i _ => xs.length - (intOf i).toNat)
  case atStart => exact ⟨0, cnv xs[0], cnv xs[0], Nat.zero_le _, rfl, rfl, rfl, nx 0 h0, nx 0 h0, fun j _ h => by omega, fun j _ h => by omega⟩
  case round =>
    obtain ⟨k, L, H, hk, rfl, rfl, rfl, nL, nH, hL, hH⟩ := hrel
    by_cases hlt : k < xs.length
    · have ck := hc k hlt
      have nk := nx k hlt
      have fin : ∀ L' H' : Nat, Num L' → Num H' → sv L' ≤ sv L → sv L' ≤ sv (cnv xs[k]) → sv H ≤ sv H' → sv (cnv xs[k]) ≤ sv H' →
          (∀ j (h : j < xs.length), j < k + 1 → sv L' ≤ sv (cnv xs[j])) ∧ (∀ j (h : j < xs.length), j < k + 1 → sv (cnv xs[j]) ≤ sv H') := by
        intro L' H' _ _ a1 a2 a3 a4
        refine ⟨fun j h hj => ?_, fun j h hj => ?_⟩
        · rcases Nat.lt_or_eq_of_le (Nat.le_of_lt_succ hj) with h' | rfl
          · have := hL j h h'; omega
          · exact a2
        · rcases Nat.lt_or_eq_of_le (Nat.le_of_lt_succ hj) with h' | rfl
          · have := hH j h h'; omega
          · exact a4
      have HL := hide hL
      have HH := hide hH
      have HC := hide hc
      have HF := hide fin
      have HX := hide nx
      clear hL hH hc c0 hx hlo hhi nx fin
      have cv : floatOfInt .f64 xs[k] = cnv xs[k] := rfl
      have b1 := lt_b nk nL
      have b2 := gt_b nk nH
      by_cases t1 : sv (cnv xs[k]) < sv L
      all_goals by_cases t2 : sv H < sv (cnv xs[k])
      all_goals
        have t1' := t1
        have t2' := t2
        simp only [t1, t2, decide_true, decide_false] at b1 b2
        clear t1 t2
        go_wp2
        go_round
        case rel =>
          first
            | refine ⟨k + 1, cnv xs[k], cnv xs[k], ?_, rfl, rfl, by go_num, nk, nk, HF.out _ _ nk nk ?_ ?_ ?_ ?_⟩
            | refine ⟨k + 1, cnv xs[k], H, ?_, rfl, rfl, by go_num, nk, nH, HF.out _ _ nk nH ?_ ?_ ?_ ?_⟩
            | refine ⟨k + 1, L, cnv xs[k], ?_, rfl, rfl, by go_num, nL, nk, HF.out _ _ nL nk ?_ ?_ ?_ ?_⟩
            | refine ⟨k + 1, L, H, ?_, rfl, rfl, by go_num, nL, nH, HF.out _ _ nL nH ?_ ?_ ?_ ?_⟩
          all_goals omega
        case measure => simp [intOf]; omega
    · obtain rfl : k = xs.length := by omega
      have z1 : sv L ≤ sv a := by
        obtain ⟨x, hm, hle⟩ := hlo
        obtain ⟨j, hj, rfl⟩ := List.getElem_of_mem hm
        have := hL j hj hj; omega
      have z2 : sv a ≤ sv H := by
        obtain ⟨x, hm, hle⟩ := hhi
        obtain ⟨j, hj, rfl⟩ := List.getElem_of_mem hm
        have := hH j hj hj; omega
      have b1 := le_b nL ha
      have b2 := le_b ha nH
      simp only [z1, z2, decide_true] at b1 b2
      clear hL hH hc c0 hx hlo hhi nx
      go_wp2
      go_ret
      exact ⟨rfl, rfl⟩
end Go.Proofs.Ytljcncfipocnpaa
