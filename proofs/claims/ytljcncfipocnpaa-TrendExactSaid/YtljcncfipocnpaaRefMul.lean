/- Contract of the document's Mul. -/
import Derived.Test.YtljcncfipocnpaaRefNum
import Derived.Deep.RegionHeld3
import Derived.Deep.DeepCutAuto
import Derived.Deep.RegionWith
namespace Go.Proofs.Ytljcncfipocnpaa
open Go.RowKit Fl

/-- What a finite word's parts are. -/
theorem parts_fin (a : Nat) (hf : Fnt a) : ∃ c : Nat, pe a = (c : Int) - 1074 ∧ mv (rung a) = pm a * p2 c ∧ pm a < 9007199254740992 ∧ c ≤ 2045 ∧ (c = 0 ∨ 4503599627370496 ≤ pm a) := by
  have hE : pE a = rung a / 4503599627370496 := by unfold pE rung; omega
  have hm : rung a % 4503599627370496 = a % 4503599627370496 := by unfold rung; omega
  unfold Fnt inf at hf
  have hf' : a % 4503599627370496 < 4503599627370496 := Nat.mod_lt _ (by decide)
  by_cases h0 : pE a = 0
  · refine ⟨0, by unfold pe; rw [if_pos h0]; rfl, ?_, by unfold pm; rw [if_pos h0]; omega, by omega, .inl rfl⟩
    unfold pm
    rw [if_pos h0, show p2 0 = 1 from by rw [← p2_def], Nat.mul_one, mv_small (by omega)]
    omega
  · refine ⟨pE a - 1, by unfold pe; rw [if_neg h0]; omega, ?_, by unfold pm; rw [if_neg h0]; omega, by omega, .inr (by unfold pm; rw [if_neg h0]; omega)⟩
    unfold pm
    rw [if_neg h0]
    have e : rung a = (pE a - 1 + 1) * 4503599627370496 + a % 4503599627370496 := by omega
    rw [e, mv_p2 _ _ hf', Nat.add_comm 4503599627370496]

set_option maxRecDepth 100000 in
set_option maxHeartbeats 2000000 in
theorem ref_mul_raw (a b a0 a1 b0 b1 L M1 M2 Hh W : Nat) (ma mb : Nat) (ea eb : Int) (na nb : Bool) (out : Nat) (w : World) (ha : a < NB) (hb : b < NB)
    (ga : Hid (pn a = na ∧ pm a = ma ∧ pe a = ea)) (gb : Hid (pn b = nb ∧ pm b = mb ∧ pe b = eb))
    (q1 : bits .and .u64 (ma : Int) 4294967295 = a0) (q2 : bits .and .u64 (mb : Int) 4294967295 = b0) (q3 : (ma : Int) / 4294967296 = a1) (q4 : (mb : Int) / 4294967296 = b1)
    (w1 : IntKind.u64.wrap ((a0 : Int) * b0) = L) (w2 : IntKind.u64.wrap ((a0 : Int) * b1) = M1) (w3 : IntKind.u64.wrap ((a1 : Int) * b0) = M2) (w4 : IntKind.u64.wrap ((a1 : Int) * b1) = Hh)
    (HL : Hid (Halves 0 L L)) (HM1 : Hid (Halves 0 M1 M1)) (HM2 : Hid (Halves 0 M2 M2)) (HH : Hid (Halves 0 Hh Hh)) (HS0 : Hid (M1 + M2 < NB * NB))
    (HS1 : Hid (Hh * 2 ^ 64 % (NB * NB) + (M1 + M2) * 2 ^ 32 % (NB * NB) < NB * NB)) (HS2 : Hid (Hh * 2 ^ 64 % (NB * NB) + (M1 + M2) * 2 ^ 32 % (NB * NB) + L < NB * NB))
    (HW : Hid (∀ x y, Halves x y (Hh * 2 ^ 64 % (NB * NB) + (M1 + M2) * 2 ^ 32 % (NB * NB) + L) → Halves x y W)) (he : -1074 ≤ ea ∧ ea ≤ 971 ∧ -1074 ≤ eb ∧ eb ≤ 971)
    (HR : Hid (∀ x y (w : World), Halves x y W → Calls Try.prog 38 #[(.bool !(na == nb)), .agg #[.int .u64 x, .int .u64 y], .int .i64 (ea + eb), .bool false] w fun r w' => r = .returned (.int .u64 (out : Nat)) ∧ Fr no w w')) :
    Calls Try.prog 32 #[.int .u64 a, .int .u64 b] w fun r w' => r = .returned (.int .u64 (out : Nat)) ∧ Fr no w w' := by
  go_enter Try.func32, Try.ntmps32
  go_wp2_with fail
  refine (ref_parts a _ ha).mono ?_
  rw [ga.out.1, ga.out.2.1, ga.out.2.2]
  rintro r W1 ⟨rfl, rfl⟩
  go_wp2_with fail
  refine (ref_parts b _ hb).mono ?_
  rw [gb.out.1, gb.out.2.1, gb.out.2.2]
  rintro r W1 ⟨rfl, rfl⟩
  go_wp2_with fail
  refine (wide_add 0 M1 0 M2 M1 M2 _ HM1 HM2 HS0).mono ?_
  rintro r W2 ⟨⟨mx, my, rfl, Rm⟩, F1⟩
  have BL := (Blk.new W1 90 #[.int .u64 0, .int .u64 L]).kept0 F1
  have F2 := ((Fr.refl no W1).alloc (.cells #[.int .u64 0, .int .u64 L] 90)).trans F1
  clear F1
  have BL3 := (BL.alloc (.cells #[.int .u64 mx, .int .u64 my] 90)).alloc (.cells #[.int .u64 0, .int .u64 Hh] 90)
  have BM3 := (Blk.new W2 90 #[.int .u64 mx, .int .u64 my]).alloc (.cells #[.int .u64 0, .int .u64 Hh] 90)
  have BH3 : Blk ((W2.alloc (.cells #[.int .u64 mx, .int .u64 my] 90)).alloc (.cells #[.int .u64 0, .int .u64 Hh] 90)) (W2.heap.size + 1) 90 #[.int .u64 0, .int .u64 Hh] := by simp [Blk.alloc_iff]
  have F3 := (F2.alloc (.cells #[.int .u64 mx, .int .u64 my] 90)).alloc (.cells #[.int .u64 0, .int .u64 Hh] 90)
  go_upto_region 6 with fail
  clear BL F2
  obtain ⟨W3, hW3⟩ : ∃ W3, (W2.alloc (.cells #[.int .u64 mx, .int .u64 my] 90)).alloc (.cells #[.int .u64 0, .int .u64 Hh] 90) = W3 := ⟨_, rfl⟩
  rw [hW3] at BL3 BM3 BH3 F3 ⊢
  clear hW3
  generalize W2.heap.size + 1 = gH at *
  generalize W2.heap.size = gM at *
  generalize hgL : W1.heap.size = gL at *
  have HK := hide (fun (W' : World) (f : Fr no W3 W') => (⟨(BL3.kept0 f).cell 0, (BL3.kept0 f).cell 1, (BM3.kept0 f).cell 0, (BM3.kept0 f).cell 1, (BH3.kept0 f).cell 0, (BH3.kept0 f).cell 1, f⟩ :
    W'.cell? ⟨gL, 0, none⟩ = some (.int .u64 0) ∧ W'.cell? ⟨gL, 1, none⟩ = some (.int .u64 L) ∧ W'.cell? ⟨gM, 0, none⟩ = some (.int .u64 mx) ∧ W'.cell? ⟨gM, 1, none⟩ = some (.int .u64 my) ∧ W'.cell? ⟨gH, 0, none⟩ = some (.int .u64 0) ∧ W'.cell? ⟨gH, 1, none⟩ = some (.int .u64 Hh) ∧ Fr no W3 W'))
  have HZ : ∀ W', Fr no W3 W' → Fr no W1 W' := fun W' f => F3.trans f
  have HZ := hide HZ
  clear BL3 BM3 BH3 F3 W2 hgL
  have hsum : IntKind.i64.wrap (ea + eb) = ea + eb := by rw [IntKind.wrap_i64]; omega
  go_region_held3 (fun W' => W'.cell? ⟨gL, 0, none⟩ = some (.int .u64 0) ∧ W'.cell? ⟨gL, 1, none⟩ = some (.int .u64 L) ∧ W'.cell? ⟨gM, 0, none⟩ = some (.int .u64 mx) ∧ W'.cell? ⟨gM, 1, none⟩ = some (.int .u64 my) ∧ W'.cell? ⟨gH, 0, none⟩ = some (.int .u64 0) ∧ W'.cell? ⟨gH, 1, none⟩ = some (.int .u64 Hh) ∧ Fr no W3 W')
    (first | exact HK.out _ (Fr.refl _ _).drew | exact HK.out _ ‹_›)
    (first
      | (go_at_call_of 40 (Value.int IntKind.i64 64); refine (wide_shl 0 Hh 64 Hh _ HH (by decide)).mono ?_; rintro r w' ⟨⟨x1, y1, rfl, R1⟩, F5⟩; have F6 := Fr.trans (And.right (And.right (And.right (And.right (And.right (And.right ‹_›)))))) F5)
      | (go_at_call_of 40 (Value.int IntKind.i64 32); refine (wide_shl mx my 32 (M1 + M2) _ (hide Rm) (by decide)).mono ?_; rintro r w' ⟨⟨x2, y2, rfl, R2⟩, F5⟩; have F6 := Fr.trans (And.right (And.right (And.right (And.right (And.right (And.right ‹_›)))))) F5)
      | (go_at_call 42; refine (wide_add x3 y3 0 L _ L _ (hide R3) HL HS2).mono ?_; rintro r w' ⟨⟨x4, y4, rfl, R4⟩, F5⟩; have F6 := Fr.trans (And.right (And.right (And.right (And.right (And.right (And.right ‹_›)))))) F5)
      | (go_at_call 42; refine (wide_add x1 y1 x2 y2 _ _ _ (hide R1) (hide R2) HS1).mono ?_; rintro r w' ⟨⟨x3, y3, rfl, R3⟩, F5⟩; have F6 := Fr.trans (And.right (And.right (And.right (And.right (And.right (And.right ‹_›)))))) F5)
      | (go_at_call 38; refine (HR.out x4 y4 _ (HW.out _ _ R4)).mono ?_; rintro r w' ⟨rfl, F5⟩; have F6 := Fr.trans (And.right (And.right (And.right (And.right (And.right (And.right ‹_›)))))) F5))
  all_goals
    go_wp2_with fail
    go_ret
    exact ⟨rfl, HZ.out _ F6⟩

theorem mul_parts (ma mb : Nat) (h1 : ma < 9007199254740992) (h2 : mb < 9007199254740992) :
    (ma % 4294967296) * (mb % 4294967296) < NB ∧ (ma % 4294967296) * (mb / 4294967296) < 9007199254740992 ∧ (ma / 4294967296) * (mb % 4294967296) < 9007199254740992 ∧ (ma / 4294967296) * (mb / 4294967296) < 4398046511104 ∧
    (ma / 4294967296) * (mb / 4294967296) * 18446744073709551616 + ((ma % 4294967296) * (mb / 4294967296) + (ma / 4294967296) * (mb % 4294967296)) * 4294967296 + (ma % 4294967296) * (mb % 4294967296) = ma * mb := by
  have a0 : ma % 4294967296 < 4294967296 := Nat.mod_lt _ (by decide)
  have b0 : mb % 4294967296 < 4294967296 := Nat.mod_lt _ (by decide)
  have a1 : ma / 4294967296 < 2097152 := by omega
  have b1 : mb / 4294967296 < 2097152 := by omega
  have ea : ma = ma / 4294967296 * 4294967296 + ma % 4294967296 := by omega
  have eb : mb = mb / 4294967296 * 4294967296 + mb % 4294967296 := by omega
  refine ⟨Nat.mul_lt_mul'' a0 b0, Nat.mul_lt_mul'' a0 b1, Nat.mul_lt_mul'' a1 b0, Nat.mul_lt_mul'' a1 b1, ?_⟩
  conv => rhs; rw [ea, eb]
  generalize ma / 4294967296 = p at *
  generalize ma % 4294967296 = q at *
  generalize mb / 4294967296 = r at *
  generalize mb % 4294967296 = s at *
  have e1 : (p * 4294967296 + q) * (r * 4294967296 + s) = p * r * (4294967296 * 4294967296) + (q * r + p * s) * 4294967296 + q * s := by
    simp only [Nat.add_mul, Nat.mul_add]
    have x1 : p * 4294967296 * (r * 4294967296) = p * r * (4294967296 * 4294967296) := by ac_rfl
    have x2 : q * (r * 4294967296) = q * r * 4294967296 := by ac_rfl
    have x3 : p * 4294967296 * s = p * s * 4294967296 := by ac_rfl
    rw [x1, x2, x3]; omega
  rw [e1]
theorem ref_mul (a b : Nat) (w : World) (ha : a < NB) (hb : b < NB) (fa : Fnt a) (fb : Fnt b) (hB : rungOf (mv (rung a) * mv (rung b)) 1074 ≤ 1900 * 4503599627370496) :
    Calls Try.prog 32 #[.int .u64 a, .int .u64 b] w fun r w' => r = .returned (.int .u64 (dbl.word (neg a ^^ neg b) (rungOf (mv (rung a) * mv (rung b)) 1074) : Nat)) ∧ Fr no w w' := by
  obtain ⟨c, ea, va, la, ca, da⟩ := parts_fin a fa
  obtain ⟨d, eb, vb, lb, cb, db⟩ := parts_fin b fb
  obtain ⟨p1, p2', p3, p4, p5⟩ := mul_parts (pm a) (pm b) la lb
  have hV : mv (rung a) * mv (rung b) = pm a * pm b * p2 (c + d) := by rw [va, vb, p2_add]; ac_rfl
  have hmag : mag (pm a * pm b) (pe a + pe b) false = rungOf (mv (rung a) * mv (rung b)) 1074 := by
    rw [hV]
    by_cases h0 : pm a * pm b = 0
    · rw [h0, mag_zero, Nat.zero_mul, rungOf_zero]
    · exact mag_rung' (pm a * pm b) (pe a + pe b) 1074 (c + d) 0 false h0 (p2_pos _) (by omega) rfl (fun _ => rfl)
  have hk : pe a + pe b + shI (pm a * pm b) (pe a + pe b) + 1075 ≤ 2045 := by
    by_cases h0 : pm a * pm b = 0
    · rw [h0]
      have hz : pm a = 0 ∨ pm b = 0 := Nat.mul_eq_zero.1 h0
      have : size 0 = 0 := rfl
      unfold shI
      rw [this]
      omega
    · have := mag_top (pm a * pm b) (pe a + pe b) false h0 (by rw [hmag]; exact hB)
      omega
  have NB2 : NB * NB = 340282366920938463463374607431768211456 := by decide
  have e1 : (pm a / 4294967296) * (pm b / 4294967296) * 2 ^ 64 % (NB * NB) = (pm a / 4294967296) * (pm b / 4294967296) * 18446744073709551616 := by
    rw [NB2, Nat.mod_eq_of_lt] <;> omega
  have e2 : ((pm a % 4294967296) * (pm b / 4294967296) + (pm a / 4294967296) * (pm b % 4294967296)) * 2 ^ 32 % (NB * NB) = ((pm a % 4294967296) * (pm b / 4294967296) + (pm a / 4294967296) * (pm b % 4294967296)) * 4294967296 := by
    rw [NB2, Nat.mod_eq_of_lt] <;> omega
  have hx : (neg a ^^ neg b) = !(pn a == pn b) := by
    rw [pn_eq a ha, pn_eq b hb]; cases pn a <;> cases pn b <;> rfl
  rw [hx, ← hmag]
  have hw : ∀ x y z : Nat, z = x * y → z < NB → IntKind.u64.wrap ((x : Int) * y) = (z : Int) := by
    intro x y z h1 h2
    rw [← Int.natCast_mul, wrapn, ← h1, Nat.mod_eq_of_lt h2]
  refine ref_mul_raw a b (pm a % 4294967296) (pm a / 4294967296) (pm b % 4294967296) (pm b / 4294967296) _ _ _ _ (pm a * pm b) (pm a) (pm b) (pe a) (pe b) (pn a) (pn b) _ w ha hb (hide ⟨rfl, rfl, rfl⟩) (hide ⟨rfl, rfl, rfl⟩)
    (and32 _ (by unfold NB; omega)) (and32 _ (by unfold NB; omega)) (by omega) (by omega)
    (hw _ _ _ rfl p1) (hw _ _ _ rfl (by unfold NB; omega)) (hw _ _ _ rfl (by unfold NB; omega)) (hw _ _ _ rfl (by unfold NB; omega))
    ⟨by decide, p1, by omega⟩ ⟨by decide, by unfold NB; omega, by omega⟩ ⟨by decide, by unfold NB; omega, by omega⟩ ⟨by decide, by unfold NB; omega, by omega⟩ (hide (by rw [NB2]; omega)) ?_ ?_ ?_ (by omega) ?_
  · refine hide ?_
    rw [e1, e2, NB2]; unfold NB at p1; omega
  · refine hide ?_
    rw [e1, e2, NB2]; unfold NB at p1; omega
  · refine hide (fun x y h => ?_)
    rw [e1, e2, p5] at h; exact h
  · exact hide (fun x y w h => ref_round _ false x y (pm a * pm b) (pe a + pe b) w h (by omega) hk)
end Go.Proofs.Ytljcncfipocnpaa
