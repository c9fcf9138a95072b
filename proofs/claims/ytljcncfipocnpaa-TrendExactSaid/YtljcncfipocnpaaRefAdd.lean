/- Contract of the document's Add. -/
import Derived.Test.YtljcncfipocnpaaRefMul
namespace Go.Proofs.Ytljcncfipocnpaa
open Go.RowKit Fl

/-- The cases of a sum of two that are not 0, the first one's power not below the second's. -/
inductive AddC (X Y : Nat) (na nb more neg : Bool) (W out : Nat) : Prop
  | like (h : na = nb) (h1 : neg = na) (h2 : W = X + Y) : AddC X Y na nb more neg W out
  | less (h : nb = !na) (h1 : X < Y) (h2 : neg = nb) (h3 : W = Y - X) : AddC X Y na nb more neg W out
  | even (h : nb = !na) (h1 : Y < X) (h2 : neg = na) (h3 : more = false) (h4 : W = X - Y) : AddC X Y na nb more neg W out
  | more (h : nb = !na) (h1 : Y < X) (h2 : neg = na) (h3 : more = true) (h4 : W = X - Y - 1) : AddC X Y na nb more neg W out
  | zero (h : nb = !na) (h1 : X = Y) (h2 : more = false) (h3 : out = 0) : AddC X Y na nb more neg W out

theorem wide_equal (x y z u : Int) (w : World) : (Op.equalIn 10000 90 (.agg #[.int .u64 x, .int .u64 y]) (.agg #[.int .u64 z, .int .u64 u])).run Try.prog w = .ok (x == z && y == u) w := by
  cases h : (x == z) <;> cases h2 : (y == u) <;> go_simp
theorem halves_ne {a b c d W X : Nat} (H : Halves a b W) (H' : Halves c d X) (h : W ≠ X) : ((a : Int) == (c : Int) && (b : Int) == (d : Int)) = false := by
  have : ¬ (a = c ∧ b = d) := fun hh => h (by rw [H.w, H'.w, hh.1, hh.2])
  rw [Bool.and_eq_false_iff]; simp only [beq_eq_false_iff_ne]; omega
theorem wide_ne {a b c d W X : Nat} (H : Halves a b W) (H' : Halves c d X) (h : W ≠ X) (w : World) : (Op.equalIn 10000 90 (.agg #[.int .u64 a, .int .u64 b]) (.agg #[.int .u64 c, .int .u64 d])).run Try.prog w = .ok false w := by
  rw [wide_equal, halves_ne H H' h]
set_option maxRecDepth 100000 in
set_option maxHeartbeats 4000000 in
theorem ref_add_raw (a b X Y Y0 W s : Nat) (ma mb : Nat) (ea eb : Int) (na nb more neg : Bool) (out : Nat) (w : World) (ha : a < NB) (hb : b < NB)
    (ga : Hid (pn a = na ∧ pm a = ma ∧ pe a = ea)) (gb : Hid (pn b = nb ∧ pm b = mb ∧ pe b = eb))
    (_hma : (ma == 0) = false) (_hmb : (mb == 0) = false) (hma' : ((ma : Int) == 0) = false) (hmb' : ((mb : Int) == 0) = false) (he : -1074 ≤ ea ∧ ea ≤ 971 ∧ -1074 ≤ eb ∧ eb ≤ 971) (_hge : ¬ ea < eb) (hs : ea - eb = s)
    (HA : Hid (Halves 0 ma ma)) (HB : Hid (Halves 0 mb mb)) (hX : Hid (ma * 2 ^ 60 % (NB * NB) = X)) (hY0 : Hid (mb * 2 ^ 60 % (NB * NB) = Y0)) (hY : Hid (Y0 / 2 ^ s = Y))
    (hmore : Hid ((more = true ∧ Y * 2 ^ s % (NB * NB) ≠ Y0) ∨ (more = false ∧ Y * 2 ^ s % (NB * NB) = Y0 ∧ s < 128)))
    (HC : Hid (AddC X Y na nb more neg W out)) (hlt : Hid (X + Y < NB * NB))
    (HR : Hid (∀ x y (w : World), Halves x y W → Calls Try.prog 38 #[.bool neg, .agg #[.int .u64 x, .int .u64 y], .int .i64 (ea - 60), .bool more] w fun r w' => r = .returned (.int .u64 (out : Nat)) ∧ Fr no w w')) :
    Calls Try.prog 31 #[.int .u64 a, .int .u64 b] w fun r w' => r = .returned (.int .u64 (out : Nat)) ∧ Fr no w w' := by
  go_enter Try.func31, Try.ntmps31
  go_wp2_with fail
  refine (ref_parts a _ ha).mono ?_
  rw [ga.out.1, ga.out.2.1, ga.out.2.2]
  rintro r W1 ⟨rfl, rfl⟩
  go_wp2_with fail
  refine (ref_parts b _ hb).mono ?_
  rw [gb.out.1, gb.out.2.1, gb.out.2.2]
  rintro r W1 ⟨rfl, rfl⟩
  go_wp2_with fail
  refine (wide_shl 0 ma 60 ma _ HA (by decide)).mono ?_
  rintro r W2 ⟨⟨xx, xy, rfl, Rx⟩, F1⟩
  rw [hX.out] at Rx
  have HW1 := hide (Fr.refl no W1)
  go_wp2_with fail
  refine (wide_shl 0 mb 60 mb _ HB (by decide)).mono ?_
  rintro r W3 ⟨⟨yx, yy, rfl, Ry⟩, F2⟩
  rw [hY0.out] at Ry
  have Bx := (Blk.new W2 90 #[.int .u64 xx, .int .u64 xy]).kept0 F2
  have F3 := (F1.alloc (.cells #[.int .u64 xx, .int .u64 xy] 90)).trans F2
  clear F1 F2
  have Bx4 := Bx.alloc (.cells #[.int .u64 yx, .int .u64 yy] 90)
  have By4 := Blk.new W3 90 #[.int .u64 yx, .int .u64 yy]
  have F4 := F3.alloc (.cells #[.int .u64 yx, .int .u64 yy] 90)
  have hy0 : W1.heap.size ≤ W3.heap.size := F3.size
  have hxy : W2.heap.size < W3.heap.size := Bx.lt
  clear Bx F3
  go_upto_region 14 with fail
  obtain ⟨W4, hW4⟩ : ∃ W4, W3.alloc (.cells #[.int .u64 yx, .int .u64 yy] 90) = W4 := ⟨_, rfl⟩
  rw [hW4] at Bx4 By4 F4 ⊢
  clear hW4
  generalize W3.heap.size = gy at *
  generalize W2.heap.size = gx at *
  go_cut [14] (fun l wx => l = .bool more ∧ Blk wx gx 90 #[.int .u64 xx, .int .u64 xy] ∧ Blk wx gy 90 #[.int .u64 yx, .int .u64 yy] ∧ Fr no W1 wx)
  case first =>
    have HK := hide (fun (W' : World) (f : Fr no W4 W') => (⟨(By4.kept0 f).cell 0, (By4.kept0 f).cell 1, f⟩ : W'.cell? ⟨gy, 0, none⟩ = some (.int .u64 yx) ∧ W'.cell? ⟨gy, 1, none⟩ = some (.int .u64 yy) ∧ Fr no W4 W'))
    have HZ := hide (fun (W' : World) (f : Fr no W4 W') => (⟨Bx4.kept0 f, By4.kept0 f, F4.trans f⟩ : Blk W' gx 90 #[.int .u64 xx, .int .u64 xy] ∧ Blk W' gy 90 #[.int .u64 yx, .int .u64 yy] ∧ Fr no W1 W'))
    clear Bx4 By4 F4
    rcases hmore.out with ⟨rfl, hne⟩ | ⟨rfl, heq, hs128⟩
    · have hne := hide hne
      obtain ⟨y0, y1, _⟩ := HK.out _ (Fr.refl no W4)
      have F0 : Fr no W4 W4.drew := (Fr.refl no W4).drew
      first
        | (go_region_with (first
            | (go_at_call 41; refine (wide_shr yx yy s Y0 _ (hide Ry) (by omega)).mono ?_; rintro r w' ⟨⟨x2, y2, rfl, R2⟩, F5⟩; obtain ⟨z0, z1, F6⟩ := HK.out _ (F0.trans F5))
            | (go_at_call 40; refine (wide_shl x2 y2 s (Y0 / 2 ^ s) _ (hide R2) (by omega)).mono ?_; rintro r w' ⟨⟨x3, y3, rfl, R3⟩, F7⟩; obtain ⟨v0, v1, F8⟩ := HK.out _ (F6.trans F7); rw [hY.out] at R3; have n1 := wide_ne R3 Ry hne.out)))
        | fail
      all_goals
        go_wp2_with fail
        go_meet
        exact ⟨rfl, HZ.out _ F8⟩
    · have s128 : ¬ 128 ≤ (s : Int) := by omega
      have heq := hide heq
      go_region_held3 (fun W' => W'.cell? ⟨gy, 0, none⟩ = some (.int .u64 yx) ∧ W'.cell? ⟨gy, 1, none⟩ = some (.int .u64 yy) ∧ Fr no W4 W')
        (first | exact HK.out _ (Fr.refl _ _).drew | exact HK.out _ ‹_›)
        (first
          | (go_at_call 41; refine (wide_shr yx yy s Y0 _ (hide Ry) (by omega)).mono ?_; rintro r w' ⟨⟨x2, y2, rfl, R2⟩, F5⟩; have F6 := Fr.trans (And.right (And.right ‹_›)) F5)
          | (go_at_call 40; refine (wide_shl x2 y2 s (Y0 / 2 ^ s) _ (hide R2) (by omega)).mono ?_; rintro r w' ⟨⟨x3, y3, rfl, R3⟩, F7⟩; have F8 := Fr.trans (And.right (And.right ‹_›)) F7; rw [hY.out, heq.out] at R3; obtain ⟨rfl, rfl⟩ := R3.inj Ry))
      all_goals
        go_wp2_with fail
        go_meet
        exact ⟨congrArg _ (decide_eq_false (by omega)), HZ.out _ F8⟩
  case rest =>
    obtain ⟨rfl, Bx, By, F⟩ := hcut
    clear Bx4 By4 F4 W4 W2 W3
    have y0 := By.cell 0
    have y1 := By.cell 1
    go_wp2_with fail
    refine (wide_shr yx yy s Y0 _ (hide Ry) (by omega)).mono ?_
    rintro r W5 ⟨⟨sx, sy, rfl, Rs⟩, F5⟩
    rw [hY.out] at Rs
    have By5 := By.kept0 F5
    have Bx5 := Bx.kept0 F5
    have z0 := By5.cell 0
    have z1 := By5.cell 1
    have fz0 := By5.free 0
    have fz1 := By5.free 1
    have F6 := F.trans F5
    clear Bx By F F5 y0 y1
    go_upto_region 16 with fail
    have By6 : Blk ((W5.setCell ⟨gy, 0, none⟩ (.int .u64 sx)).setCell ⟨gy, 1, none⟩ (.int .u64 sy)) gy 90 #[.int .u64 sx, .int .u64 sy] := (By5.set 0 _).set 1 _
    have Bx6 := (Bx5.setOther (show gx ≠ gy by omega) 0 (.int .u64 sx)).setOther (show gx ≠ gy by omega) 1 (.int .u64 sy)
    have F7 := (F6.set ⟨gy, 0, none⟩ (.int .u64 sx) (fun h => absurd h (by simp only []; omega))).set ⟨gy, 1, none⟩ (.int .u64 sy) (fun h => absurd h (by simp only []; omega))
    obtain ⟨W6, hW6⟩ : ∃ W6, (W5.setCell ⟨gy, 0, none⟩ (.int .u64 sx)).setCell ⟨gy, 1, none⟩ (.int .u64 sy) = W6 := ⟨_, rfl⟩
    rw [hW6] at Bx6 By6 F7 ⊢
    clear hW6 z0 z1 fz0 fz1 Bx5 By5 F6 W5
    have x0 := Bx6.cell 0
    have x1 := Bx6.cell 1
    have y0 := By6.cell 0
    have y1 := By6.cell 1
    have xl := Bx6.lt
    have yl := By6.lt
    have hsum : IntKind.i64.wrap (ea - 60) = ea - 60 := by rw [IntKind.wrap_i64]; omega
    rcases HC.out with ⟨c1, c2, c3⟩ | ⟨c1, c2, c3, c4⟩ | ⟨c1, c2, c3, c4, c5⟩ | ⟨c1, c2, c3, c4, c5⟩ | ⟨c1, c2, c3, c4⟩
    · subst c1 c2 c3
      clear HC
      go_wp2_with fail
      refine (wide_add xx xy sx sy X Y _ (hide Rx) (hide Rs) hlt).mono ?_
      rintro r W7 ⟨⟨rx, ry, rfl, R⟩, F8⟩
      go_wp2_with fail
      refine (HR.out rx ry _ R).mono ?_
      rintro r W8 ⟨rfl, F9⟩
      go_wp2_with fail
      go_ret
      exact ⟨rfl, (F7.trans F8).trans F9⟩
    · subst c1 c3 c4
      have n1 := wide_ne Rx Rs (show X ≠ Y by omega)
      have l0 := hide (decide_eq_true c2)
      have hle := hide (Nat.le_of_lt c2)
      clear HC
      cases na
      all_goals
        go_wp2_with fail
        refine (wide_less xx xy sx sy X Y _ (hide Rx) (hide Rs)).mono ?_
        rintro r W7 ⟨rfl, F8⟩
        rw [l0.out]
        have Bx7 := Bx6.kept0 F8
        have By7 := By6.kept0 F8
        have a0 := Bx7.cell 0
        have a1 := Bx7.cell 1
        have b0 := By7.cell 0
        have b1 := By7.cell 1
        have F9 := F7.trans F8
        go_wp2_with fail
        refine (wide_sub sx sy xx xy Y X _ (hide Rs) (hide Rx) hle).mono ?_
        rintro r W8 ⟨⟨rx, ry, rfl, R⟩, F10⟩
        go_wp2_with fail
        refine (HR.out rx ry _ R).mono ?_
        rintro r W9 ⟨rfl, F11⟩
        go_wp2_with fail
        go_ret
        exact ⟨rfl, (F9.trans F10).trans F11⟩
    · subst c1 c3 c4 c5
      have n1 := wide_ne Rx Rs (show X ≠ Y by omega)
      have l0 := hide (decide_eq_false (show ¬ X < Y by omega))
      have hle := hide (Nat.le_of_lt c2)
      clear HC
      cases neg
      all_goals
        go_wp2_with fail
        refine (wide_less xx xy sx sy X Y _ (hide Rx) (hide Rs)).mono ?_
        rintro r W7 ⟨rfl, F8⟩
        rw [l0.out]
        have Bx7 := Bx6.kept0 F8
        have By7 := By6.kept0 F8
        have a0 := Bx7.cell 0
        have a1 := Bx7.cell 1
        have b0 := By7.cell 0
        have b1 := By7.cell 1
        have F9 := F7.trans F8
        go_wp2_with fail
        refine (wide_sub xx xy sx sy X Y _ (hide Rx) (hide Rs) hle).mono ?_
        rintro r W8 ⟨⟨rx, ry, rfl, R⟩, F10⟩
        go_wp2_with fail
        refine (HR.out rx ry _ R).mono ?_
        rintro r W9 ⟨rfl, F11⟩
        go_wp2_with fail
        go_ret
        exact ⟨rfl, ((F9.trans F10).alloc _).trans F11⟩
    · subst c1 c3 c4 c5
      have n1 := wide_ne Rx Rs (show X ≠ Y by omega)
      have l0 := hide (decide_eq_false (show ¬ X < Y by omega))
      have hle := hide (Nat.le_of_lt c2)
      have hle1 := hide (show 1 ≤ X - Y by omega)
      have HONE : Halves 0 1 1 := ⟨by decide, by decide, by decide⟩
      clear HC
      cases neg
      all_goals
        go_wp2_with fail
        refine (wide_less xx xy sx sy X Y _ (hide Rx) (hide Rs)).mono ?_
        rintro r W7 ⟨rfl, F8⟩
        rw [l0.out]
        have Bx7 := Bx6.kept0 F8
        have By7 := By6.kept0 F8
        have a0 := Bx7.cell 0
        have a1 := Bx7.cell 1
        have b0 := By7.cell 0
        have b1 := By7.cell 1
        have F9 := F7.trans F8
        go_wp2_with fail
        refine (wide_sub xx xy sx sy X Y _ (hide Rx) (hide Rs) hle).mono ?_
        rintro r W8 ⟨⟨rx, ry, rfl, R⟩, F10⟩
        go_wp2_with fail
        refine (wide_sub rx ry 0 1 (X - Y) 1 _ (hide R) (hide HONE) hle1).mono ?_
        rintro r W9 ⟨⟨tx, ty, rfl, R2⟩, F12⟩
        have Bd := (Blk.new W8 90 #[.int .u64 rx, .int .u64 ry]).kept0 F12
        have F13 := ((F9.trans F10).alloc (.cells #[.int .u64 rx, .int .u64 ry] 90)).trans F12
        have hdl : W1.heap.size ≤ W8.heap.size := (F9.trans F10).size
        have d0 := Bd.cell 0
        have d1 := Bd.cell 1
        have fd0 := Bd.free 0
        have fd1 := Bd.free 1
        go_wp2_with fail
        refine (HR.out tx ty _ R2).mono ?_
        rintro r W10 ⟨rfl, F14⟩
        have F15 := ((F13.set ⟨W8.heap.size, 0, none⟩ (.int .u64 tx) (fun h => absurd h (by simp only []; omega))).set ⟨W8.heap.size, 1, none⟩ (.int .u64 ty) (fun h => absurd h (by simp only []; omega))).trans F14
        go_wp2_with fail
        go_ret
        exact ⟨rfl, F15⟩
    · subst c1 c2 c3 c4
      clear HC
      obtain ⟨rfl, rfl⟩ := Rs.inj Rx
      cases na
      all_goals
        go_wp2_with fail
        go_ret
        exact ⟨rfl, F7⟩
end Go.Proofs.Ytljcncfipocnpaa
