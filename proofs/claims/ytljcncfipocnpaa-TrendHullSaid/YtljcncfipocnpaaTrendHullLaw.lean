/- The walk of TrendHull. -/
import Derived.Test.YtljcncfipocnpaaTrendN
import Derived.Deep.DeepCutAuto
import Derived.Deep.LoopGhost
import Derived.Deep.RegionWith
namespace Go.Proofs.Ytljcncfipocnpaa
open Go.RowKit Fl

structure HullInv (xs : List Int) (kp g1 g2 m avg : Nat) (W : World) : Prop where
  t : TrendAt W g1 kp avg m
  u : TrendAt W g2 kp avg m
  a : 0 < m → Fnt avg ∧ (∃ x ∈ xs.take m, sv (cnv x) ≤ sv avg) ∧ (∃ x ∈ xs.take m, sv avg ≤ sv (cnv x))

/-- What one note more does: the next average is finite, in the hull, and not away from the note. -/
theorem hull_step {xs : List Int} {kp m avg : Nat} (hk : KeepOk kp = true) (hlt : m < xs.length)
    (hI : 0 < m → Fnt avg ∧ (∃ x ∈ xs.take m, sv (cnv x) ≤ sv avg) ∧ (∃ x ∈ xs.take m, sv avg ≤ sv (cnv x))) (hx : (xs[m]).natAbs ≤ 9223372036854775808) :
    (Fnt (noted kp avg m xs[m]) ∧ (∃ x ∈ xs.take (m + 1), sv (cnv x) ≤ sv (noted kp avg m xs[m])) ∧ (∃ x ∈ xs.take (m + 1), sv (noted kp avg m xs[m]) ≤ sv (cnv x))) ∧
    (0 < m → Fnt avg ∧ (sv avg ≤ sv (cnv xs[m]) → sv avg ≤ sv (noted kp avg m xs[m])) ∧ (sv (cnv xs[m]) ≤ sv avg → sv (noted kp avg m xs[m]) ≤ sv avg)) := by
  have hl : xs[m] ∈ xs.take (m + 1) := List.mem_take_iff_getElem.2 ⟨m, by omega, rfl⟩
  have ht : ∀ x ∈ xs.take m, x ∈ xs.take (m + 1) := fun x h => by
    rw [List.take_succ_eq_append_getElem hlt]; exact List.mem_append_left _ h
  rcases Nat.eq_zero_or_pos m with h0 | h0
  · have e : noted kp avg (m : Int) xs[m] = cnv xs[m] := by
      unfold noted; rw [if_pos (by omega)]
    rw [e]
    exact ⟨⟨fin_cnv _ hx, ⟨_, hl, Int.le_refl _⟩, ⟨_, hl, Int.le_refl _⟩⟩, fun h => by omega⟩
  · obtain ⟨i1, ⟨x, i2, i3⟩, ⟨y, i4, i5⟩⟩ := hI h0
    obtain ⟨j1, j2, j3⟩ := noted_spec (n := m) hk (by omega) i1 hx
    refine ⟨⟨j1, ?_, ?_⟩, fun _ => ⟨i1, fun h => by omega, fun h => by omega⟩⟩
    · by_cases h : sv avg ≤ sv (cnv xs[m])
      · exact ⟨x, ht x i2, by omega⟩
      · exact ⟨_, hl, by omega⟩
    · by_cases h : sv avg ≤ sv (cnv xs[m])
      · exact ⟨_, hl, by omega⟩
      · exact ⟨y, ht y i4, by omega⟩

set_option maxRecDepth 100000 in
set_option maxHeartbeats 2000000 in
theorem hull_law (A B bits : Int) (raw : Bool) (S : Option Addr) (c : Nat) (xs : List Int) (w : World)
    (hS : Kd.Row (.int .i64) w S c xs) (hx : ∀ x ∈ xs, x.natAbs ≤ 9223372036854775808) :
    Calls Try.prog 4 #[.agg #[.int .i64 A, .int .i64 B, .bool raw, .int .u64 bits, .slice S xs.length c]] w fun e w' => e = .returned (.bool true) ∧ Below w.heap.size w w' := by
  have cells : ∀ W, Fr no (w.alloc (.cells #[.int .i64 A, .int .i64 B, .bool raw, .int .u64 bits, .slice S xs.length c] 42)) W →
      W.cell? ⟨w.heap.size, 0, none⟩ = some (.int .i64 A) ∧ W.cell? ⟨w.heap.size, 1, none⟩ = some (.int .i64 B) ∧ W.cell? ⟨w.heap.size, 2, none⟩ = some (.bool raw) ∧ W.cell? ⟨w.heap.size, 3, none⟩ = some (.int .u64 bits) ∧ W.cell? ⟨w.heap.size, 4, none⟩ = some (.slice S xs.length c) := by
    intro W f
    have b := (Blk.new w 42 #[.int .i64 A, .int .i64 B, .bool raw, .int .u64 bits, .slice S xs.length c]).kept0 f
    exact ⟨b.cell 0, b.cell 1, b.cell 2, b.cell 3, b.cell 4⟩
  have HC := hide cells
  clear cells
  go_enter Try.func4, Try.ntmps4
  have ini := HC.out _ (Fr.refl no _)
  obtain ⟨c0, c1, c2, c3, c4⟩ := ini
  go_wp2_with fail
  refine (weight_value (A, B, raw, bits) _).mono ?_
  rintro e W1 ⟨⟨b1, rfl, v1⟩, F1⟩
  go_wp2_with fail
  by_cases hk : KeepOk b1 = true
  · refine (trend_new_ok b1 _ hk).mono ?_
    rintro e W2 ⟨rfl, t1, F2⟩
    have F12 := F1.trans F2
    have hF := HC.out _ F12
    clear c0 c1 c2 c3 c4
    obtain ⟨c0, c1, c2, c3, c4⟩ := hF
    go_wp2_with fail
    refine (weight_value (A, B, raw, bits) _).mono ?_
    rintro e W3 ⟨⟨b2, rfl, v2⟩, F3⟩
    go_wp2_with fail
    have hb := (v1.alike v2).2 hk
    subst hb
    refine (trend_new_ok b1 _ hk).mono ?_
    rintro e W4 ⟨rfl, t2, F4⟩
    have l1 : w.heap.size < W1.heap.size := by have := F1.size; simp at this; omega
    have l2 : W1.heap.size < W3.heap.size := by have := t1.lt; have := F3.size; omega
    have F := (F12.trans F3).trans F4
    have t1' := Blk.kept0 (Blk.kept0 t1 F3) F4
    generalize W1.heap.size = g1 at *
    generalize W3.heap.size = g2 at *
    clear v1 v2 t1
    have t1 := t1'
    clear t1' F12 F1 F2 F3 F4 c0 c1 c2 c3 c4
    go_wp2_with (go_at_call 17; refine (trend_num _ _).mono ?_; rintro e W' ⟨rfl, rfl⟩)
    have hkk := hk
    clear hk
    generalize b1 = kp at *
    generalize W4 = W at *
    have q0 : FloatKind.f64.format.order 0 0 = some .eq := by decide +kernel
    have ini := HC.out _ F
    obtain ⟨c0, c1, c2, c3, c4⟩ := ini
    go_wp2_with (first
      | (go_at_call 18; refine (trend_count _ _ _ _ _ t1).mono ?_; rintro e W' ⟨rfl, rfl⟩)
      | (go_at_call 19; refine (trend_average _ _ _ _ _ t1).mono ?_; rintro e W' ⟨rfl, rfl⟩))
    clear c0 c1 c2 c3 c4 q0
    go_loopw [7, 8, 9, 10] (fun i _ _ _ wr => ∃ (m avg : Nat), i = .int .i64 m ∧ m ≤ xs.length ∧ HullInv xs kp g1 g2 m avg wr ∧ Fr no (w.alloc (.cells #[.int .i64 A, .int .i64 B, .bool raw, .int .u64 bits, .slice S xs.length c] 42)) wr) (fun i _ _ _ _ => xs.length - (intOf i).toNat)
    case atStart => exact ⟨0, 0, rfl, Nat.zero_le _, ⟨t1, t2, fun h => by omega⟩, F⟩
    case round =>
      clear t1 t2 F
      obtain ⟨m, avg, rfl, hm, ⟨t1, t2, hI⟩, F⟩ := hrel
      obtain ⟨c0, c1, c2, c3, c4⟩ := HC.out _ F
      clear c0 c1 c2 c3
      have hln : xs.length ≤ 9223372036854775807 := by have := hS.1; have := hS.2.1; simp only [maxLen] at this; omega
      by_cases hlt : m < xs.length
      · obtain ⟨b, o, rfl, hat⟩ := hS.2.2 (List.length_pos_iff.1 (by omega))
        have hcs : ∀ W', Fr no w W' → ∀ j (hj : j < xs.length), W'.cell? ⟨b, o + j, none⟩ = some (.int .i64 xs[j]) := fun W' f j hj => (hat.loc (fun k hk => f.block k hk (fun e => e))).one_int j hj
        have HCS := hide hcs
        have F0 : Fr no w wr := ((Fr.refl no w).alloc _).trans F
        have ck := hcs wr F0 m hlt
        clear hcs
        have HS := hide hS
        have HX := hide hx
        clear hS hx
        have hxm : (xs[m]).natAbs ≤ 9223372036854775808 := HX.out _ (List.getElem_mem hlt)
        have hfin : (m : Int) = 0 ∨ Fnt avg := by
          rcases Nat.eq_zero_or_pos m with h | h
          · exact .inl (by omega)
          · exact .inr (hI h).1
        have HI := hide (hull_step hkk hlt hI hxm)
        clear hI
        go_wp2_with (first
          | (go_at_call 19; refine (trend_average _ _ _ _ _ t1).mono ?_; rintro e W' ⟨rfl, rfl⟩))
        refine (trend_note_any g1 kp avg m xs[m] _ t1 hkk (by omega) (by omega) hfin hxm).mono ?_
        rintro e W1 ⟨rfl, t1n, f1⟩
        have t2k := Blk.kept t2 f1 (by omega)
        have F1 := F.thru f1 (fun i hi h => by subst h; simp at hi; omega)
        clear F0 t1 t2
        have F0 : Fr no w W1 := ((Fr.refl no w).alloc _).trans F1
        have ck1 := HCS.out W1 F0 m hlt
        obtain ⟨c0, c1, c2, c3, c41⟩ := HC.out _ F1
        clear c0 c1 c2 c3
        go_wp2_with fail
        refine (trend_note_any g2 kp avg m xs[m] _ t2k hkk (by omega) (by omega) hfin hxm).mono ?_
        rintro e W2 ⟨rfl, t2n, f2⟩
        have t1 := Blk.kept t1n f2 (by omega)
        have F2 := F1.thru f2 (fun i hi h => by subst h; simp at hi; omega)
        clear F0 t1n t2k ck1 c41
        have F0 : Fr no w W2 := ((Fr.refl no w).alloc _).trans F2
        have ck2 := HCS.out W2 F0 m hlt
        obtain ⟨c0, c1, c2, c3, c42⟩ := HC.out _ F2
        clear c0 c1 c2 c3
        generalize noted kp avg m xs[m] = a at *
        obtain ⟨⟨fa, i1, i2⟩, i3⟩ := HI.out
        have I1 := hide i1
        have I2 := hide i2
        clear i1 i2 HI
        have q1 := order_self fa.num
        have hcap : xs.length ≤ c := HS.out.1
        go_wp2_with (first
          | (go_at_call_of 19 g1; refine (trend_average _ _ _ _ _ t1).mono ?_; rintro e W' ⟨rfl, rfl⟩)
          | (go_at_call_of 19 g2; refine (trend_average _ _ _ _ _ t2n).mono ?_; rintro e W' ⟨rfl, rfl⟩)
          | (go_at_call 18; refine (trend_count _ _ _ _ _ t1).mono ?_; rintro e W' ⟨rfl, rfl⟩))
        refine (trend_hull_n (xs.take (m + 1)) (m + 1) b o c a _ (by simp; omega) (fun j hj => ?_) (fun x hx => HX.out x (List.mem_of_mem_take hx)) (by omega) fa.num I1.out I2.out).mono ?_
        · have hj' : j < m + 1 := by simp at hj; omega
          rw [List.getElem_take]
          exact HCS.out _ F0 j (by omega)
        rintro e W5 ⟨rfl, e5⟩
        subst e5
        have cv : floatOfInt .f64 xs[m] = cnv xs[m] := rfl
        have ny : Num (cnv xs[m]) := (fin_cnv _ hxm).num
        rcases Nat.eq_zero_or_pos m with h0 | h0
        · have hg : decide (0 < (m : Int)) = false := by simp; omega
          have hg2 : decide (0 < m) = false := by simp; omega
          clear h0 i3
          go_wp2
          go_roundw
          case rel => exact ⟨m + 1, a, by go_num, by omega, ⟨(by omega : ((m + 1 : Nat) : Int) = (m : Int) + 1) ▸ t1, (by omega : ((m + 1 : Nat) : Int) = (m : Int) + 1) ▸ t2n, fun _ => ⟨fa, I1.out, I2.out⟩⟩, F2⟩
          case measure => simp [intOf]; omega
        · obtain ⟨fv, i4, i5⟩ := i3 h0
          have h0' : 0 < (m : Int) := by omega
          have z1 := le_b fv.num ny
          have z2 := lt_b fa.num fv.num
          have z3 := ge_b fv.num ny
          have z4 := gt_b fa.num fv.num
          clear i3
          rcases Int.lt_trichotomy (sv avg) (sv (cnv xs[m])) with t | t | t
          · rw [decide_eq_false (show ¬ sv a < sv avg by have := i4 (by omega); omega)] at z2
            rw [decide_eq_false (show ¬ sv (cnv xs[m]) ≤ sv avg by omega)] at z3
            rw [decide_eq_true (show sv avg ≤ sv (cnv xs[m]) by omega)] at z1
            clear z4 t i4 i5
            go_wp2
            go_roundw
            case rel => exact ⟨m + 1, a, by go_num, by omega, ⟨(by omega : ((m + 1 : Nat) : Int) = (m : Int) + 1) ▸ t1, (by omega : ((m + 1 : Nat) : Int) = (m : Int) + 1) ▸ t2n, fun _ => ⟨fa, I1.out, I2.out⟩⟩, F2⟩
            case measure => simp [intOf]; omega
          · rw [decide_eq_false (show ¬ sv a < sv avg by have := i4 (by omega); omega)] at z2
            rw [decide_eq_true (show sv (cnv xs[m]) ≤ sv avg by omega)] at z3
            rw [decide_eq_true (show sv avg ≤ sv (cnv xs[m]) by omega)] at z1
            rw [decide_eq_false (show ¬ sv avg < sv a by have := i5 (by omega); omega)] at z4
            clear t i4 i5
            go_wp2
            go_roundw
            case rel => exact ⟨m + 1, a, by go_num, by omega, ⟨(by omega : ((m + 1 : Nat) : Int) = (m : Int) + 1) ▸ t1, (by omega : ((m + 1 : Nat) : Int) = (m : Int) + 1) ▸ t2n, fun _ => ⟨fa, I1.out, I2.out⟩⟩, F2⟩
            case measure => simp [intOf]; omega
          · rw [decide_eq_false (show ¬ sv avg ≤ sv (cnv xs[m]) by omega)] at z1
            rw [decide_eq_true (show sv (cnv xs[m]) ≤ sv avg by omega)] at z3
            rw [decide_eq_false (show ¬ sv avg < sv a by have := i5 (by omega); omega)] at z4
            clear z2 t i4 i5
            go_wp2
            go_roundw
            case rel => exact ⟨m + 1, a, by go_num, by omega, ⟨(by omega : ((m + 1 : Nat) : Int) = (m : Int) + 1) ▸ t1, (by omega : ((m + 1 : Nat) : Int) = (m : Int) + 1) ▸ t2n, fun _ => ⟨fa, I1.out, I2.out⟩⟩, F2⟩
            case measure => simp [intOf]; omega
      · go_wp2
        go_ret
        exact ⟨rfl, (((Fr.refl no w).alloc _).trans F).below⟩
  · have hk' : KeepOk b1 = false := by simpa using hk
    refine (trend_new_no b1 _ hk').mono ?_
    rintro e W2 ⟨rfl, e2⟩
    subst e2
    have hF := HC.out _ F1
    clear c0 c1 c2 c3 c4
    obtain ⟨c0, c1, c2, c3, c4⟩ := hF
    go_wp2_with fail
    refine (weight_value (A, B, raw, bits) _).mono ?_
    rintro e W3 ⟨⟨b2, rfl, v2⟩, F3⟩
    go_wp2_with fail
    have hk2 : KeepOk b2 = false := by rw [← (v1.alike v2).1]; exact hk'
    refine (trend_new_no b2 _ hk2).mono ?_
    rintro e W4 ⟨rfl, e4⟩
    subst e4
    go_wp2_with (go_at_call 17; refine (trend_num _ _).mono ?_; rintro e W' ⟨rfl, rfl⟩)
    refine (trend_new_ok 4598175219545276416 _ (by decide +kernel)).mono ?_
    rintro e W5 ⟨rfl, t1, F5⟩
    go_wp2_with fail
    refine (trend_new_ok 4598175219545276416 _ (by decide +kernel)).mono ?_
    rintro e W6 ⟨rfl, t2, F6⟩
    have F := ((F1.trans F3).trans F5).trans F6
    have l1 : w.heap.size < W4.heap.size := by have := (F1.trans F3).size; simp at this; omega
    have l2 : W4.heap.size < W5.heap.size := t1.lt
    have t1' := Blk.kept0 t1 F6
    have hkk : KeepOk 4598175219545276416 = true := by decide +kernel
    generalize W4.heap.size = g1 at *
    generalize W5.heap.size = g2 at *
    generalize 4598175219545276416 = kp at *
    clear t1
    have t1 := t1'
    clear t1' F1 F3 F5 F6 c0 c1 c2 c3 c4 v1 v2
    go_wp2_with (go_at_call 17; refine (trend_num _ _).mono ?_; rintro e W' ⟨rfl, rfl⟩)
    clear hk hk' hk2
    generalize W6 = W at *
    have q0 : FloatKind.f64.format.order 0 0 = some .eq := by decide +kernel
    have ini := HC.out _ F
    obtain ⟨c0, c1, c2, c3, c4⟩ := ini
    go_wp2_with (first
      | (go_at_call 18; refine (trend_count _ _ _ _ _ t1).mono ?_; rintro e W' ⟨rfl, rfl⟩)
      | (go_at_call 19; refine (trend_average _ _ _ _ _ t1).mono ?_; rintro e W' ⟨rfl, rfl⟩))
    clear c0 c1 c2 c3 c4 q0
    go_loopw [7, 8, 9, 10] (fun i _ _ _ wr => ∃ (m avg : Nat), i = .int .i64 m ∧ m ≤ xs.length ∧ HullInv xs kp g1 g2 m avg wr ∧ Fr no (w.alloc (.cells #[.int .i64 A, .int .i64 B, .bool raw, .int .u64 bits, .slice S xs.length c] 42)) wr) (fun i _ _ _ _ => xs.length - (intOf i).toNat)
    case atStart => exact ⟨0, 0, rfl, Nat.zero_le _, ⟨t1, t2, fun h => by omega⟩, F⟩
    case round =>
      clear t1 t2 F
      obtain ⟨m, avg, rfl, hm, ⟨t1, t2, hI⟩, F⟩ := hrel
      obtain ⟨c0, c1, c2, c3, c4⟩ := HC.out _ F
      clear c0 c1 c2 c3
      have hln : xs.length ≤ 9223372036854775807 := by have := hS.1; have := hS.2.1; simp only [maxLen] at this; omega
      by_cases hlt : m < xs.length
      · obtain ⟨b, o, rfl, hat⟩ := hS.2.2 (List.length_pos_iff.1 (by omega))
        have hcs : ∀ W', Fr no w W' → ∀ j (hj : j < xs.length), W'.cell? ⟨b, o + j, none⟩ = some (.int .i64 xs[j]) := fun W' f j hj => (hat.loc (fun k hk => f.block k hk (fun e => e))).one_int j hj
        have HCS := hide hcs
        have F0 : Fr no w wr := ((Fr.refl no w).alloc _).trans F
        have ck := hcs wr F0 m hlt
        clear hcs
        have HS := hide hS
        have HX := hide hx
        clear hS hx
        have hxm : (xs[m]).natAbs ≤ 9223372036854775808 := HX.out _ (List.getElem_mem hlt)
        have hfin : (m : Int) = 0 ∨ Fnt avg := by
          rcases Nat.eq_zero_or_pos m with h | h
          · exact .inl (by omega)
          · exact .inr (hI h).1
        have HI := hide (hull_step hkk hlt hI hxm)
        clear hI
        go_wp2_with (first
          | (go_at_call 19; refine (trend_average _ _ _ _ _ t1).mono ?_; rintro e W' ⟨rfl, rfl⟩))
        refine (trend_note_any g1 kp avg m xs[m] _ t1 hkk (by omega) (by omega) hfin hxm).mono ?_
        rintro e W1 ⟨rfl, t1n, f1⟩
        have t2k := Blk.kept t2 f1 (by omega)
        have F1 := F.thru f1 (fun i hi h => by subst h; simp at hi; omega)
        clear F0 t1 t2
        have F0 : Fr no w W1 := ((Fr.refl no w).alloc _).trans F1
        have ck1 := HCS.out W1 F0 m hlt
        obtain ⟨c0, c1, c2, c3, c41⟩ := HC.out _ F1
        clear c0 c1 c2 c3
        go_wp2_with fail
        refine (trend_note_any g2 kp avg m xs[m] _ t2k hkk (by omega) (by omega) hfin hxm).mono ?_
        rintro e W2 ⟨rfl, t2n, f2⟩
        have t1 := Blk.kept t1n f2 (by omega)
        have F2 := F1.thru f2 (fun i hi h => by subst h; simp at hi; omega)
        clear F0 t1n t2k ck1 c41
        have F0 : Fr no w W2 := ((Fr.refl no w).alloc _).trans F2
        have ck2 := HCS.out W2 F0 m hlt
        obtain ⟨c0, c1, c2, c3, c42⟩ := HC.out _ F2
        clear c0 c1 c2 c3
        generalize noted kp avg m xs[m] = a at *
        obtain ⟨⟨fa, i1, i2⟩, i3⟩ := HI.out
        have I1 := hide i1
        have I2 := hide i2
        clear i1 i2 HI
        have q1 := order_self fa.num
        have hcap : xs.length ≤ c := HS.out.1
        go_wp2_with (first
          | (go_at_call_of 19 g1; refine (trend_average _ _ _ _ _ t1).mono ?_; rintro e W' ⟨rfl, rfl⟩)
          | (go_at_call_of 19 g2; refine (trend_average _ _ _ _ _ t2n).mono ?_; rintro e W' ⟨rfl, rfl⟩)
          | (go_at_call 18; refine (trend_count _ _ _ _ _ t1).mono ?_; rintro e W' ⟨rfl, rfl⟩))
        refine (trend_hull_n (xs.take (m + 1)) (m + 1) b o c a _ (by simp; omega) (fun j hj => ?_) (fun x hx => HX.out x (List.mem_of_mem_take hx)) (by omega) fa.num I1.out I2.out).mono ?_
        · have hj' : j < m + 1 := by simp at hj; omega
          rw [List.getElem_take]
          exact HCS.out _ F0 j (by omega)
        rintro e W5 ⟨rfl, e5⟩
        subst e5
        have cv : floatOfInt .f64 xs[m] = cnv xs[m] := rfl
        have ny : Num (cnv xs[m]) := (fin_cnv _ hxm).num
        rcases Nat.eq_zero_or_pos m with h0 | h0
        · have hg : decide (0 < (m : Int)) = false := by simp; omega
          have hg2 : decide (0 < m) = false := by simp; omega
          clear h0 i3
          go_wp2
          go_roundw
          case rel => exact ⟨m + 1, a, by go_num, by omega, ⟨(by omega : ((m + 1 : Nat) : Int) = (m : Int) + 1) ▸ t1, (by omega : ((m + 1 : Nat) : Int) = (m : Int) + 1) ▸ t2n, fun _ => ⟨fa, I1.out, I2.out⟩⟩, F2⟩
          case measure => simp [intOf]; omega
        · obtain ⟨fv, i4, i5⟩ := i3 h0
          have h0' : 0 < (m : Int) := by omega
          have z1 := le_b fv.num ny
          have z2 := lt_b fa.num fv.num
          have z3 := ge_b fv.num ny
          have z4 := gt_b fa.num fv.num
          clear i3
          rcases Int.lt_trichotomy (sv avg) (sv (cnv xs[m])) with t | t | t
          · rw [decide_eq_false (show ¬ sv a < sv avg by have := i4 (by omega); omega)] at z2
            rw [decide_eq_false (show ¬ sv (cnv xs[m]) ≤ sv avg by omega)] at z3
            rw [decide_eq_true (show sv avg ≤ sv (cnv xs[m]) by omega)] at z1
            clear z4 t i4 i5
            go_wp2
            go_roundw
            case rel => exact ⟨m + 1, a, by go_num, by omega, ⟨(by omega : ((m + 1 : Nat) : Int) = (m : Int) + 1) ▸ t1, (by omega : ((m + 1 : Nat) : Int) = (m : Int) + 1) ▸ t2n, fun _ => ⟨fa, I1.out, I2.out⟩⟩, F2⟩
            case measure => simp [intOf]; omega
          · rw [decide_eq_false (show ¬ sv a < sv avg by have := i4 (by omega); omega)] at z2
            rw [decide_eq_true (show sv (cnv xs[m]) ≤ sv avg by omega)] at z3
            rw [decide_eq_true (show sv avg ≤ sv (cnv xs[m]) by omega)] at z1
            rw [decide_eq_false (show ¬ sv avg < sv a by have := i5 (by omega); omega)] at z4
            clear t i4 i5
            go_wp2
            go_roundw
            case rel => exact ⟨m + 1, a, by go_num, by omega, ⟨(by omega : ((m + 1 : Nat) : Int) = (m : Int) + 1) ▸ t1, (by omega : ((m + 1 : Nat) : Int) = (m : Int) + 1) ▸ t2n, fun _ => ⟨fa, I1.out, I2.out⟩⟩, F2⟩
            case measure => simp [intOf]; omega
          · rw [decide_eq_false (show ¬ sv avg ≤ sv (cnv xs[m]) by omega)] at z1
            rw [decide_eq_true (show sv (cnv xs[m]) ≤ sv avg by omega)] at z3
            rw [decide_eq_false (show ¬ sv avg < sv a by have := i5 (by omega); omega)] at z4
            clear z2 t i4 i5
            go_wp2
            go_roundw
            case rel => exact ⟨m + 1, a, by go_num, by omega, ⟨(by omega : ((m + 1 : Nat) : Int) = (m : Int) + 1) ▸ t1, (by omega : ((m + 1 : Nat) : Int) = (m : Int) + 1) ▸ t2n, fun _ => ⟨fa, I1.out, I2.out⟩⟩, F2⟩
            case measure => simp [intOf]; omega
      · go_wp2
        go_ret
        exact ⟨rfl, (((Fr.refl no w).alloc _).trans F).below⟩
end Go.Proofs.Ytljcncfipocnpaa
