/- The walk of TrendLevel. -/
import Derived.Test.YtljcncfipocnpaaAdvice
import Derived.Deep.DeepCutAuto
import Derived.Deep.LoopGhost
namespace Go.Proofs.Ytljcncfipocnpaa
open Go.RowKit Fl

theorem i64_and65535 (n : Int) : Go.bits .and .i64 n 65535 = n % 65536 := by
  have h1 : (BitVec.ofInt 64 65535).toNat = 2 ^ 16 - 1 := by decide
  have key : (BitVec.ofInt 64 n &&& BitVec.ofInt 64 65535).toNat = (n % ((2 ^ 64 : Nat) : Int)).toNat % 2 ^ 16 := by
    rw [BitVec.toNat_and, BitVec.toNat_ofInt, h1, Nat.and_two_pow_sub_one_eq_mod]
  show IntKind.i64.wrap ((BitVec.ofInt 64 n &&& BitVec.ofInt 64 65535).toNat : Nat) = n % 65536
  rw [key, IntKind.wrap_i64]
  omega
/-- One note more of the same. -/
theorem level_step {kp avg m : Nat} {x : Int} (hk : KeepOk kp = true) (hI : 0 < m → Fnt avg ∧ sv avg = sv (cnv x)) (hx : x.natAbs ≤ 9223372036854775808) :
    Fnt (noted kp avg m x) ∧ sv (noted kp avg m x) = sv (cnv x) := by
  rcases Nat.eq_zero_or_pos m with h0 | h0
  · have e : noted kp avg (m : Int) x = cnv x := by unfold noted; rw [if_pos (by omega)]
    rw [e]; exact ⟨fin_cnv _ hx, rfl⟩
  · obtain ⟨i1, i2⟩ := hI h0
    obtain ⟨j1, j2, j3⟩ := noted_spec (n := m) hk (by omega) i1 hx
    exact ⟨j1, by omega⟩
theorem sv_cnv {x : Int} (h0 : -9007199254740992 < x) (h1 : x < 9007199254740992) : sv (cnv x) = x * (U : Int) := by
  have := (sv_nearest (decide (x < 0)) x.natAbs 0 (by omega) (by simp; omega)).1
  rw [Nat.pow_zero, Nat.mul_one] at this
  show sv (dbl.nearest (decide (x < 0)) x.natAbs 0) = _
  rw [this]
  congr 1
  by_cases h : x < 0
  · simp only [h, decide_true, if_true]; omega
  · simp only [h, decide_false, Bool.false_eq_true, if_false]; omega
theorem ceil_of_whole {a : Nat} {x : Int} (e : sv a = x * (U : Int)) : ceilInt a = x ∧ ceilMag a = x.natAbs := by
  have hU := U_pos
  have hm : mv (rung a) = x.natAbs * U := by rw [← sv_abs, e, Int.natAbs_mul]; rfl
  have hc : ceilMag a = x.natAbs := by
    unfold ceilMag
    rw [hm, Nat.mul_div_cancel _ hU]
    have : (x.natAbs * U + (U - 1)) / U = x.natAbs := by
      rw [Nat.add_comm, Nat.add_mul_div_right _ _ hU, Nat.div_eq_of_lt (by omega), Nat.zero_add]
    rw [this]; split <;> rfl
  refine ⟨?_, hc⟩
  unfold ceilInt
  rw [hc]
  unfold sv at e
  split
  · rename_i hs
    rw [hs] at e
    simp only [if_true] at e
    have : x ≤ 0 := by
      by_cases h1 : 0 < x
      · have : 0 < x * (U : Int) := Int.mul_pos h1 (by omega)
        omega
      · omega
    omega
  · rename_i hs
    rw [Bool.not_eq_true] at hs
    rw [hs] at e
    simp only [Bool.false_eq_true, if_false] at e
    have : 0 ≤ x := by
      by_cases h1 : x < 0
      · have : x * (U : Int) < 0 := Int.mul_neg_of_neg_of_pos h1 (by omega)
        omega
      · omega
    omega
theorem level_ceil {avg : Nat} {x : Int} (_fa : Fnt avg) (h0 : -4503599627370496 ≤ x) (h1 : x ≤ 4503599627370496) (e : sv avg = sv (cnv x)) : ceilInt avg = x ∧ ceilMag avg ≤ 4503599627370496 := by
  rw [sv_cnv (by omega) (by omega)] at e
  obtain ⟨a, b⟩ := ceil_of_whole e
  exact ⟨a, by omega⟩

set_option maxRecDepth 100000 in
set_option maxHeartbeats 2000000 in
theorem level_law (A B bits X N H : Int) (raw : Bool) (w : World) (hX0 : -9223372036854775808 ≤ X) (hX1 : X ≤ 9223372036854775807) (hH0 : -9223372036854775808 ≤ H) (hH1 : H ≤ 9223372036854775807) :
    Calls Try.prog 6 #[.agg #[.int .i64 A, .int .i64 B, .bool raw, .int .u64 bits, .int .i64 X, .int .i64 N, .int .i64 H]] w fun e w' => e = .returned (.bool true) ∧ Below w.heap.size w w' := by
  have cells : ∀ W, Fr no (w.alloc (.cells #[.int .i64 A, .int .i64 B, .bool raw, .int .u64 bits, .int .i64 X, .int .i64 N, .int .i64 H] 68)) W →
      W.cell? ⟨w.heap.size, 0, none⟩ = some (.int .i64 A) ∧ W.cell? ⟨w.heap.size, 1, none⟩ = some (.int .i64 B) ∧ W.cell? ⟨w.heap.size, 2, none⟩ = some (.bool raw) ∧ W.cell? ⟨w.heap.size, 3, none⟩ = some (.int .u64 bits) ∧
      W.cell? ⟨w.heap.size, 4, none⟩ = some (.int .i64 X) ∧ W.cell? ⟨w.heap.size, 5, none⟩ = some (.int .i64 N) ∧ W.cell? ⟨w.heap.size, 6, none⟩ = some (.int .i64 H) := by
    intro W f
    have b := (Blk.new w 68 #[.int .i64 A, .int .i64 B, .bool raw, .int .u64 bits, .int .i64 X, .int .i64 N, .int .i64 H]).kept0 f
    exact ⟨b.cell 0, b.cell 1, b.cell 2, b.cell 3, b.cell 4, b.cell 5, b.cell 6⟩
  have HC := hide cells
  clear cells
  go_enter Try.func6, Try.ntmps6
  have ini := HC.out _ (Fr.refl no _)
  obtain ⟨c0, c1, c2, c3, c4, c5, c6⟩ := ini
  go_wp2_with fail
  refine (weight_value (A, B, raw, bits) _).mono ?_
  rintro e W1 ⟨⟨b1, rfl, v1⟩, F1⟩
  clear v1
  go_wp2_with fail
  by_cases hk : KeepOk b1 = true
  · refine (trend_new_ok b1 _ hk).mono ?_
    rintro e W ⟨rfl, t1, F2⟩
    have F := F1.trans F2
    have l1 : w.heap.size < W1.heap.size := by have := F1.size; simp at this; omega
    generalize W1.heap.size = g1 at *
    generalize b1 = kp at *
    clear F1 F2 c0 c1 c2 c3 c4 c5 c6
    have hF := HC.out _ F
    obtain ⟨c0, c1, c2, c3, c4, c5, c6⟩ := hF
    go_wp2_with (first
      | (go_at_call 17; refine (trend_num _ _).mono ?_; rintro e W' ⟨rfl, rfl⟩)
      | (go_at_call 24; refine (advice_zero _ _ _ _ _ t1).mono ?_; rintro e W' ⟨rfl, rfl⟩))
    clear c0 c1 c2 c3 c4 c5 c6
    have hq : (1 : Int) ≤ wrap64 (1 + (Go.bits BinOp.and IntKind.i64 N 65535).tmod 300) ∧ wrap64 (1 + (Go.bits BinOp.and IntKind.i64 N 65535).tmod 300) ≤ 300 := by
      rw [i64_and65535]
      have h1 : 0 ≤ N % 65536 := Int.emod_nonneg _ (by decide)
      have h2 : (N % 65536).tmod 300 = (N % 65536) % 300 := Int.tmod_eq_emod_of_nonneg h1
      rw [h2]
      have h3 : 0 ≤ (N % 65536) % 300 := Int.emod_nonneg _ (by decide)
      have h4 : (N % 65536) % 300 < 300 := Int.emod_lt_of_pos _ (by decide)
      unfold wrap64; omega
    generalize wrap64 (1 + (Go.bits BinOp.and IntKind.i64 N 65535).tmod 300) = n at *
    have hx0 : -4503599627370496 ≤ X / 2048 := by omega
    have hx1 : X / 2048 ≤ 4503599627370496 := by omega
    have hh0 : -4503599627370496 ≤ H / 2048 := by omega
    have hh1 : H / 2048 ≤ 4503599627370496 := by omega
    generalize X / 2048 = x at *
    generalize H / 2048 = v at *
    obtain ⟨hq1, hq2⟩ := hq
    have hxa : x.natAbs ≤ 9223372036854775808 := by omega
    go_loopw [8] (fun i wr => ∃ (m avg : Nat), i = .int .i64 m ∧ (m : Int) ≤ n ∧ TrendAt wr g1 kp avg m ∧ (0 < m → Fnt avg ∧ sv avg = sv (cnv x)) ∧ Fr no (w.alloc (.cells #[.int .i64 A, .int .i64 B, .bool raw, .int .u64 bits, .int .i64 X, .int .i64 N, .int .i64 H] 68)) wr) (fun i _ => n.toNat - (intOf i).toNat)
    case atStart => exact ⟨0, 0, rfl, by omega, t1, fun h => by omega, F⟩
    case round =>
      clear t1 F
      obtain ⟨m, avg, rfl, hm, t1, hI, F⟩ := hrel
      have hfin : (m : Int) = 0 ∨ Fnt avg := by
        rcases Nat.eq_zero_or_pos m with h | h
        · exact .inl (by omega)
        · exact .inr (hI h).1
      by_cases hlt : (m : Int) < n
      · have HI := hide (level_step hk hI hxa)
        have cv : floatOfInt .f64 x = cnv x := rfl
        have ny : Num (cnv x) := (fin_cnv _ hxa).num
        clear hI
        go_wp2_with fail
        refine (trend_note_any g1 kp avg m x _ t1 hk (by omega) (by omega) hfin hxa).mono ?_
        rintro e W2 ⟨rfl, t2, F2⟩
        have F3 := F.thru F2 (fun i hi h => by subst h; simp at hi; omega)
        obtain ⟨fa, ea⟩ := HI.out
        have eqb := eq_b fa.num ny
        rw [decide_eq_true ea] at eqb
        have EA := hide ea
        clear ea HI t1 F F2
        generalize noted kp avg m x = a at *
        have eqb' : FloatKind.f64.format.order a (cnv x) = some .eq := by simpa using eqb
        clear eqb
        go_wp2_with (first
          | (go_at_call 19; refine (trend_average _ _ _ _ _ t2).mono ?_; rintro e W' ⟨rfl, rfl⟩)
          | (go_at_call 18; refine (trend_count _ _ _ _ _ t2).mono ?_; rintro e W' ⟨rfl, rfl⟩))
        go_roundw
        case rel => exact ⟨m + 1, a, by go_num, by omega, (by omega : ((m + 1 : Nat) : Int) = (m : Int) + 1) ▸ t2, fun _ => ⟨fa, EA.out⟩, F3⟩
        case measure => simp [intOf]; omega
      · obtain ⟨fa, ea⟩ := hI (by omega)
        have hce := level_ceil fa hx0 hx1 ea
        have hmag : ceilMag avg ≤ 9223372036854775808 := by have := hce.2; omega
        have HE := hide hce.1
        have m0 : 0 < (m : Int) := by omega
        have adva : ∀ W, TrendAt W g1 kp avg m → Calls Try.prog 24 #[.pointer (some ⟨g1, 0, none⟩), .int .i64 v] W fun e w' => e = .returned (.int .i64 (adv x v)) ∧ w' = W := by
          intro W hT
          have := advice_any g1 kp avg m v W hT m0 fa hmag (by rw [HE.out]; omega) (by rw [HE.out]; omega) (by omega) (by omega)
          rw [HE.out] at this
          exact this
        have HA := hide adva
        clear adva hce hI ea hmag
        have hadv : (x ≤ v ∧ adv x v = 0) ∨ (v < x ∧ x - v < 1099511627776 ∧ adv x v = x - v) ∨ (v < x ∧ 1099511627776 ≤ x - v ∧ adv x v = 1099511627776) := by
          unfold adv
          by_cases h1 : x ≤ v
          · exact .inl ⟨h1, if_pos h1⟩
          · by_cases h2 : x - v < 1099511627776
            · exact .inr (.inl ⟨by omega, h2, by rw [if_neg h1]; omega⟩)
            · exact .inr (.inr ⟨by omega, by omega, by rw [if_neg h1]; omega⟩)
        have FIN := hide (((Fr.refl no w).alloc _).trans F).below
        rcases hadv with ⟨u1, u2⟩ | ⟨u1, u0, u2⟩ | ⟨u1, u0, u2⟩
        · rw [u2] at HA
          clear u2
          go_wp2_with (go_at_call 24; refine (HA.out _ t1).mono ?_; rintro e W' ⟨rfl, rfl⟩)
          go_ret
          exact ⟨rfl, FIN.out⟩
        · rw [u2] at HA
          have z1 : (x - v == 0) = false := by simp; omega
          have z2 : (v + (x - v) == x) = true := by simp; omega
          have z3 : 0 < x - v := by omega
          clear u2
          generalize x - v = r at *
          go_wp2_with (go_at_call 24; refine (HA.out _ t1).mono ?_; rintro e W' ⟨rfl, rfl⟩)
          go_ret
          exact ⟨rfl, FIN.out⟩
        · rw [u2] at HA
          have z2 : v + 1099511627776 ≤ x := by omega
          clear u2
          go_wp2_with (go_at_call 24; refine (HA.out _ t1).mono ?_; rintro e W' ⟨rfl, rfl⟩)
          go_ret
          exact ⟨rfl, FIN.out⟩
  · refine (trend_new_no b1 _ (by simpa using hk)).mono ?_
    rintro e W2 ⟨rfl, e2⟩
    subst e2
    clear hk c0 c1 c2 c3 c4 c5 c6
    go_wp2_with (go_at_call 17; refine (trend_num _ _).mono ?_; rintro e W' ⟨rfl, rfl⟩)
    refine (trend_new_ok 4607182418800017408 _ (by decide +kernel)).mono ?_
    rintro e W ⟨rfl, t1, F2⟩
    have F := F1.trans F2
    have l1 : w.heap.size < W2.heap.size := by have := F1.size; simp at this; omega
    have hk : KeepOk 4607182418800017408 = true := by decide +kernel
    generalize W2.heap.size = g1 at *
    generalize 4607182418800017408 = kp at *
    clear F1 F2
    have hF := HC.out _ F
    obtain ⟨c0, c1, c2, c3, c4, c5, c6⟩ := hF
    go_wp2_with (first
      | (go_at_call 17; refine (trend_num _ _).mono ?_; rintro e W' ⟨rfl, rfl⟩)
      | (go_at_call 24; refine (advice_zero _ _ _ _ _ t1).mono ?_; rintro e W' ⟨rfl, rfl⟩))
    clear c0 c1 c2 c3 c4 c5 c6
    have hq : (1 : Int) ≤ wrap64 (1 + (Go.bits BinOp.and IntKind.i64 N 65535).tmod 300) ∧ wrap64 (1 + (Go.bits BinOp.and IntKind.i64 N 65535).tmod 300) ≤ 300 := by
      rw [i64_and65535]
      have h1 : 0 ≤ N % 65536 := Int.emod_nonneg _ (by decide)
      have h2 : (N % 65536).tmod 300 = (N % 65536) % 300 := Int.tmod_eq_emod_of_nonneg h1
      rw [h2]
      have h3 : 0 ≤ (N % 65536) % 300 := Int.emod_nonneg _ (by decide)
      have h4 : (N % 65536) % 300 < 300 := Int.emod_lt_of_pos _ (by decide)
      unfold wrap64; omega
    generalize wrap64 (1 + (Go.bits BinOp.and IntKind.i64 N 65535).tmod 300) = n at *
    have hx0 : -4503599627370496 ≤ X / 2048 := by omega
    have hx1 : X / 2048 ≤ 4503599627370496 := by omega
    have hh0 : -4503599627370496 ≤ H / 2048 := by omega
    have hh1 : H / 2048 ≤ 4503599627370496 := by omega
    generalize X / 2048 = x at *
    generalize H / 2048 = v at *
    obtain ⟨hq1, hq2⟩ := hq
    have hxa : x.natAbs ≤ 9223372036854775808 := by omega
    go_loopw [8] (fun i wr => ∃ (m avg : Nat), i = .int .i64 m ∧ (m : Int) ≤ n ∧ TrendAt wr g1 kp avg m ∧ (0 < m → Fnt avg ∧ sv avg = sv (cnv x)) ∧ Fr no (w.alloc (.cells #[.int .i64 A, .int .i64 B, .bool raw, .int .u64 bits, .int .i64 X, .int .i64 N, .int .i64 H] 68)) wr) (fun i _ => n.toNat - (intOf i).toNat)
    case atStart => exact ⟨0, 0, rfl, by omega, t1, fun h => by omega, F⟩
    case round =>
      clear t1 F
      obtain ⟨m, avg, rfl, hm, t1, hI, F⟩ := hrel
      have hfin : (m : Int) = 0 ∨ Fnt avg := by
        rcases Nat.eq_zero_or_pos m with h | h
        · exact .inl (by omega)
        · exact .inr (hI h).1
      by_cases hlt : (m : Int) < n
      · have HI := hide (level_step hk hI hxa)
        have cv : floatOfInt .f64 x = cnv x := rfl
        have ny : Num (cnv x) := (fin_cnv _ hxa).num
        clear hI
        go_wp2_with fail
        refine (trend_note_any g1 kp avg m x _ t1 hk (by omega) (by omega) hfin hxa).mono ?_
        rintro e W2 ⟨rfl, t2, F2⟩
        have F3 := F.thru F2 (fun i hi h => by subst h; simp at hi; omega)
        obtain ⟨fa, ea⟩ := HI.out
        have eqb := eq_b fa.num ny
        rw [decide_eq_true ea] at eqb
        have EA := hide ea
        clear ea HI t1 F F2
        generalize noted kp avg m x = a at *
        have eqb' : FloatKind.f64.format.order a (cnv x) = some .eq := by simpa using eqb
        clear eqb
        go_wp2_with (first
          | (go_at_call 19; refine (trend_average _ _ _ _ _ t2).mono ?_; rintro e W' ⟨rfl, rfl⟩)
          | (go_at_call 18; refine (trend_count _ _ _ _ _ t2).mono ?_; rintro e W' ⟨rfl, rfl⟩))
        go_roundw
        case rel => exact ⟨m + 1, a, by go_num, by omega, (by omega : ((m + 1 : Nat) : Int) = (m : Int) + 1) ▸ t2, fun _ => ⟨fa, EA.out⟩, F3⟩
        case measure => simp [intOf]; omega
      · obtain ⟨fa, ea⟩ := hI (by omega)
        have hce := level_ceil fa hx0 hx1 ea
        have hmag : ceilMag avg ≤ 9223372036854775808 := by have := hce.2; omega
        have HE := hide hce.1
        have m0 : 0 < (m : Int) := by omega
        have adva : ∀ W, TrendAt W g1 kp avg m → Calls Try.prog 24 #[.pointer (some ⟨g1, 0, none⟩), .int .i64 v] W fun e w' => e = .returned (.int .i64 (adv x v)) ∧ w' = W := by
          intro W hT
          have := advice_any g1 kp avg m v W hT m0 fa hmag (by rw [HE.out]; omega) (by rw [HE.out]; omega) (by omega) (by omega)
          rw [HE.out] at this
          exact this
        have HA := hide adva
        clear adva hce hI ea hmag
        have hadv : (x ≤ v ∧ adv x v = 0) ∨ (v < x ∧ x - v < 1099511627776 ∧ adv x v = x - v) ∨ (v < x ∧ 1099511627776 ≤ x - v ∧ adv x v = 1099511627776) := by
          unfold adv
          by_cases h1 : x ≤ v
          · exact .inl ⟨h1, if_pos h1⟩
          · by_cases h2 : x - v < 1099511627776
            · exact .inr (.inl ⟨by omega, h2, by rw [if_neg h1]; omega⟩)
            · exact .inr (.inr ⟨by omega, by omega, by rw [if_neg h1]; omega⟩)
        have FIN := hide (((Fr.refl no w).alloc _).trans F).below
        rcases hadv with ⟨u1, u2⟩ | ⟨u1, u0, u2⟩ | ⟨u1, u0, u2⟩
        · rw [u2] at HA
          clear u2
          go_wp2_with (go_at_call 24; refine (HA.out _ t1).mono ?_; rintro e W' ⟨rfl, rfl⟩)
          go_ret
          exact ⟨rfl, FIN.out⟩
        · rw [u2] at HA
          have z1 : (x - v == 0) = false := by simp; omega
          have z2 : (v + (x - v) == x) = true := by simp; omega
          have z3 : 0 < x - v := by omega
          clear u2
          generalize x - v = r at *
          go_wp2_with (go_at_call 24; refine (HA.out _ t1).mono ?_; rintro e W' ⟨rfl, rfl⟩)
          go_ret
          exact ⟨rfl, FIN.out⟩
        · rw [u2] at HA
          have z2 : v + 1099511627776 ≤ x := by omega
          clear u2
          go_wp2_with (go_at_call 24; refine (HA.out _ t1).mono ?_; rintro e W' ⟨rfl, rfl⟩)
          go_ret
          exact ⟨rfl, FIN.out⟩
end Go.Proofs.Ytljcncfipocnpaa
