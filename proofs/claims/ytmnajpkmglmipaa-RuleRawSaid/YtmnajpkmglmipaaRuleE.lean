/- Contracts of package rule: guards, open settings; slices.Clone at lines. -/
import Derived.Test.YtmnajpkmglmipaaRuleD
namespace Go.Proofs.Ytmnajpkmglmipaa
open Go.RowKit

theorem done_c (b : Bool) (w : World) : Calls Try.prog 36 #[.bool b] w fun e w' => e = .returned (.int .i64 (if b then 5 else 3)) ∧ w' = w := by
  cases b
  · go_enter Try.func36, Try.ntmps36
    go_wp2_with fail
    go_ret
    exact ⟨rfl, rfl⟩
  · go_enter Try.func36, Try.ntmps36
    go_wp2_with fail
    go_ret
    exact ⟨rfl, rfl⟩
set_option maxRecDepth 100000 in
set_option maxHeartbeats 1000000 in
theorem Guarded_c (s : StV) (ps : List PoolD) (vs : List PricedD) (hn : s.np = ps.length) (hv : s.nr = vs.length) (A : Option Addr) (c : Nat) (gs : List GuardD) (w : World) (h : kPool.Row w s.P s.cp ps) (h' : Sl fPriced w s.R s.cr vs) (hg : Sl fGuard w A c gs) :
    Calls Try.prog 9 #[.agg #[.int .u64 s.q, .slice s.P s.np s.cp, .slice s.R s.nr s.cr, .slice s.L s.nl s.cl, .slice s.G s.ng s.cg, .slice s.O s.no s.co], .slice A gs.length c] w fun e w' => e = .returned (.bool (gs.all (guardD ps vs))) ∧ Fr no w w' := by
  have hle := hg.le
  have htop := hg.top
  simp only [maxLen] at htop
  have HQ : Hid (∀ W, Fr no w W → kPool.Row W s.P s.cp ps ∧ Sl fPriced W s.R s.cr vs ∧ Sl fGuard W A c gs) := hide (fun W F => ⟨h.keep F, h'.below F.below, hg.below F.below⟩)
  have HB0 := hide (Blk.new w 32 #[.int .u64 s.q, .slice s.P s.np s.cp, .slice s.R s.nr s.cr, .slice s.L s.nl s.cl, .slice s.G s.ng s.cg, .slice s.O s.no s.co])
  have HN := hide hn
  have HNV := hide hv
  clear h h' hg hn hv
  go_enter Try.func9, Try.ntmps9
  go_wp2_with fail
  go_loopw [9] (fun i wr => ∃ m : Nat, i = .int .i64 m ∧ m ≤ gs.length ∧ Fr no w wr ∧ Blk wr w.heap.size 32 #[.int .u64 s.q, .slice s.P s.np s.cp, .slice s.R s.nr s.cr, .slice s.L s.nl s.cl, .slice s.G s.ng s.cg, .slice s.O s.no s.co] ∧ ((gs.take m).all (guardD ps vs)) = true) (fun i _ => gs.length - (intOf i).toNat)
  case atStart => exact ⟨0, rfl, Nat.zero_le _, (Fr.refl no w).alloc _, HB0.out, rfl⟩
  case round =>
    obtain ⟨m, rfl, hm, F, hB, hall⟩ := hrel
    by_cases hlt : m < gs.length
    · obtain ⟨g, o, rfl, hc⟩ := (HQ.out wr F).2.2.cells (List.length_pos_iff.1 (by omega))
      obtain ⟨r1, r2, r3, hrm⟩ : ∃ r1 r2 r3, gs[m] = (r1, r2, r3) := ⟨_, _, _, rfl⟩
      have a0 : wr.cell? ⟨g, o + m * 3, none⟩ = some (.int .i64 r1) := by
        have := hc m hlt 0 (by decide)
        rw [hrm] at this; exact this
      have a1 : wr.cell? ⟨g, o + m * 3 + 1, none⟩ = some (.int .i64 r2) := by
        have := hc m hlt 1 (by decide)
        rw [hrm] at this; exact this
      have a2 : wr.cell? ⟨g, o + m * 3 + 2, none⟩ = some (.int .i64 r3) := by
        have := hc m hlt 2 (by decide)
        rw [hrm] at this; exact this
      have b0 := fun ob => (hB.alloc ob).cell 0
      have b1 := fun ob => (hB.alloc ob).cell 1
      have b2 := fun ob => (hB.alloc ob).cell 2
      have b3 := fun ob => (hB.alloc ob).cell 3
      have b4 := fun ob => (hB.alloc ob).cell 4
      have b5 := fun ob => (hB.alloc ob).cell 5
      simp at b0 b1 b2 b3 b4 b5
      have HB := hide hB
      have HA := hide hall
      have HT := hide (show gs.take (m + 1) = gs.take m ++ [(r1, r2, r3)] by rw [← hrm]; exact (List.take_append_getElem hlt).symm)
      have HM := hide (show (r1, r2, r3) ∈ gs by rw [← hrm]; exact List.getElem_mem hlt)
      have hi0 : (0 : Int) ≤ m := by omega
      have hi1 : (m : Int) < gs.length := by omega
      obtain ⟨v, hv⟩ : ∃ v, v = guardD ps vs (r1, r2, r3) := ⟨_, rfl⟩
      have HV := hide hv
      have HC : Hid (∀ W, Fr no w W → Calls Try.prog 31 #[.agg #[.int .u64 s.q, .slice s.P s.np s.cp, .slice s.R s.nr s.cr, .slice s.L s.nl s.cl, .slice s.G s.ng s.cg, .slice s.O s.no s.co], .agg #[.int .i64 r1, .int .i64 r2, .int .i64 r3]] W fun e w' => e = .returned (.bool v) ∧ Fr no W w') := hide (fun W F' => by
        rw [HV.out]; exact holds_c s ps vs HN.out HNV.out r1 r2 r3 W (HQ.out W F').1 (HQ.out W F').2.1)
      have HF := hide F
      clear hc hrm hall hv hB
      cases v
      · go_wp2_with (go_at_call 31; refine (HC.out _ (HF.out.alloc _)).mono ?_; rintro e w1 ⟨rfl, F5⟩)
        have F7 := hide ((HF.out.alloc _).trans F5)
        have B7 := hide ((HB.out.alloc _).kept0 F5)
        go_ret
        refine ⟨?_, F7.out⟩
        rw [show (gs.all (guardD ps vs)) = false from ?_]
        · rfl
        · rw [List.all_eq_false]
          exact ⟨_, HM.out, by rw [← HV.out]; simp⟩
      · have REL : Hid (((gs.take (m + 1)).all (guardD ps vs)) = true) := hide (by
          rw [HT.out, List.all_append, HA.out]
          simp only [List.all_cons, List.all_nil, Bool.and_true, Bool.true_and, ← HV.out])
        go_wp2_with (go_at_call 31; refine (HC.out _ (HF.out.alloc _)).mono ?_; rintro e w1 ⟨rfl, F5⟩)
        have F7 := hide ((HF.out.alloc _).trans F5)
        have B7 := hide ((HB.out.alloc _).kept0 F5)
        exact ⟨⟨m + 1, by simp, hlt, F7.out, B7.out, REL.out⟩, by simp [intOf]; omega⟩
    · obtain rfl : m = gs.length := by omega
      rw [List.take_of_length_le (Nat.le_refl _)] at hall
      have HA := hide hall
      clear hall
      go_wp2_with fail
      go_ret
      exact ⟨by rw [HA.out]; rfl, F⟩
/-- May a price be set no more? -/
def shutD (vs : List PricedD) (x : SetD) : Bool := decide (1099511627776 ≤ versionD vs x.1)
theorem open1_c (s : StV) (vs : List PricedD) (hv : s.nr = vs.length) (Bs : Nat) (p q n : Int) (w : World) (hB : Blk w Bs 32 #[.int .u64 s.q, .slice s.P s.np s.cp, .slice s.R s.nr s.cr, .slice s.L s.nl s.cl, .slice s.G s.ng s.cg, .slice s.O s.no s.co]) (h' : Sl fPriced w s.R s.cr vs) :
    Calls Try.prog 33 #[.agg #[.int .i64 p, .int .i64 q, .int .i64 n], .pointer (some ⟨Bs, 0, none⟩)] w fun e w' => e = .returned (.bool (shutD vs (p, q, n))) ∧ Fr no w w' := by
  have b0 := fun ob => (hB.alloc ob).cell 0
  have b1 := fun ob => (hB.alloc ob).cell 1
  have b2 := fun ob => (hB.alloc ob).cell 2
  have b3 := fun ob => (hB.alloc ob).cell 3
  have b4 := fun ob => (hB.alloc ob).cell 4
  have b5 := fun ob => (hB.alloc ob).cell 5
  simp at b0 b1 b2 b3 b4 b5
  obtain ⟨v, hv'⟩ : ∃ v, v = versionD vs p := ⟨_, rfl⟩
  rw [show shutD vs (p, q, n) = decide (1099511627776 ≤ v) by rw [hv']; rfl]
  have HC : Hid (∀ W, Fr no w W → Calls Try.prog 34 #[.agg #[.int .u64 s.q, .slice s.P s.np s.cp, .slice s.R s.nr s.cr, .slice s.L s.nl s.cl, .slice s.G s.ng s.cg, .slice s.O s.no s.co], .int .i64 p] W fun e w' => e = .returned (.int .i64 v) ∧ Fr no W w') := hide (fun W F' => by
    rw [hv']; exact version_c s vs hv p W (h'.below F'.below))
  clear hv' h' hv hB
  go_enter Try.func33, Try.ntmps33
  go_wp2_with (go_at_call 34; refine (HC.out _ ((Fr.refl no w).alloc _)).mono ?_; rintro e w1 ⟨rfl, F5⟩)
  have F7 := hide (((Fr.refl no w).alloc _).trans F5)
  clear F5
  go_wp2_with fail
  go_ret
  exact ⟨by first | rfl | simp, F7.out⟩
set_option maxRecDepth 100000 in
set_option maxHeartbeats 1000000 in
theorem index_c (s : StV) (vs : List PricedD) (hv : s.nr = vs.length) (Bs : Nat) (A : Option Addr) (c : Nat) (xs : List SetD) (w : World) (hB : Blk w Bs 32 #[.int .u64 s.q, .slice s.P s.np s.cp, .slice s.R s.nr s.cr, .slice s.L s.nl s.cl, .slice s.G s.ng s.cg, .slice s.O s.no s.co]) (h' : Sl fPriced w s.R s.cr vs) (hs : Sl fSet w A c xs) :
    Calls Try.prog 53 #[.slice A xs.length c, .func (.func 33) #[] #[.pointer (some ⟨Bs, 0, none⟩)]] w fun e w' => (∃ j : Int, e = .returned (.int .i64 j) ∧ decide (0 ≤ j) = xs.any (shutD vs)) ∧ Fr no w w' := by
  have hle := hs.le
  have htop := hs.top
  simp only [maxLen] at htop
  have HQ : Hid (∀ W, Fr no w W → Blk W Bs 32 #[.int .u64 s.q, .slice s.P s.np s.cp, .slice s.R s.nr s.cr, .slice s.L s.nl s.cl, .slice s.G s.ng s.cg, .slice s.O s.no s.co] ∧ Sl fPriced W s.R s.cr vs ∧ Sl fSet W A c xs) := hide (fun W F => ⟨hB.kept0 F, h'.below F.below, hs.below F.below⟩)
  have HNV := hide hv
  clear h' hB hs hv
  go_enter Try.func53, Try.ntmps53
  go_wp2_with fail
  go_loopw [8] (fun i wr => ∃ m : Nat, i = .int .i64 m ∧ m ≤ xs.length ∧ Fr no w wr ∧ ((xs.take m).any (shutD vs)) = false) (fun i _ => xs.length - (intOf i).toNat)
  case atStart => exact ⟨0, rfl, Nat.zero_le _, Fr.refl _ _, rfl⟩
  case round =>
    obtain ⟨m, rfl, hm, F, hall⟩ := hrel
    by_cases hlt : m < xs.length
    · obtain ⟨g, o, rfl, hc⟩ := (HQ.out wr F).2.2.cells (List.length_pos_iff.1 (by omega))
      obtain ⟨r1, r2, r3, hrm⟩ : ∃ r1 r2 r3, xs[m] = (r1, r2, r3) := ⟨_, _, _, rfl⟩
      have a0 : wr.cell? ⟨g, o + m * 3, none⟩ = some (.int .i64 r1) := by
        have := hc m hlt 0 (by decide)
        rw [hrm] at this; exact this
      have a1 : wr.cell? ⟨g, o + m * 3 + 1, none⟩ = some (.int .i64 r2) := by
        have := hc m hlt 1 (by decide)
        rw [hrm] at this; exact this
      have a2 : wr.cell? ⟨g, o + m * 3 + 2, none⟩ = some (.int .i64 r3) := by
        have := hc m hlt 2 (by decide)
        rw [hrm] at this; exact this
      have HA := hide hall
      have HT := hide (show xs.take (m + 1) = xs.take m ++ [(r1, r2, r3)] by rw [← hrm]; exact (List.take_append_getElem hlt).symm)
      have HM := hide (show (r1, r2, r3) ∈ xs by rw [← hrm]; exact List.getElem_mem hlt)
      have hi0 : (0 : Int) ≤ m := by omega
      have hi1 : (m : Int) < xs.length := by omega
      obtain ⟨v, hv⟩ : ∃ v, v = shutD vs (r1, r2, r3) := ⟨_, rfl⟩
      have HV := hide hv
      have HC : Hid (Calls Try.prog 33 #[.agg #[.int .i64 r1, .int .i64 r2, .int .i64 r3], .pointer (some ⟨Bs, 0, none⟩)] wr fun e w' => e = .returned (.bool v) ∧ Fr no wr w') := hide (by
        rw [HV.out]; exact open1_c s vs HNV.out Bs r1 r2 r3 wr (HQ.out wr F).1 (HQ.out wr F).2.1)
      have HF := hide F
      clear hc hrm hall hv
      cases v
      · have REL : Hid (((xs.take (m + 1)).any (shutD vs)) = false) := hide (by
          rw [HT.out, List.any_append, HA.out]
          simp only [List.any_cons, List.any_nil, Bool.or_false, Bool.false_or, ← HV.out])
        go_wp2_with (go_at_call 33; refine HC.out.mono ?_; rintro e w1 ⟨rfl, F5⟩)
        have F7 := hide (HF.out.trans F5)
        exact ⟨⟨m + 1, by simp, hlt, F7.out, REL.out⟩, by simp [intOf]; omega⟩
      · go_wp2_with (go_at_call 33; refine HC.out.mono ?_; rintro e w1 ⟨rfl, F5⟩)
        have F7 := hide (HF.out.trans F5)
        go_ret
        refine ⟨⟨m, rfl, ?_⟩, F7.out⟩
        rw [show (xs.any (shutD vs)) = true from List.any_eq_true.2 ⟨_, HM.out, HV.out.symm⟩]
        simp
    · obtain rfl : m = xs.length := by omega
      rw [List.take_of_length_le (Nat.le_refl _)] at hall
      have HA := hide hall
      clear hall
      go_wp2_with fail
      go_ret
      exact ⟨⟨-1, rfl, by rw [HA.out]; rfl⟩, F⟩
theorem contains_c (s : StV) (vs : List PricedD) (hv : s.nr = vs.length) (Bs : Nat) (A : Option Addr) (c : Nat) (xs : List SetD) (w : World) (hB : Blk w Bs 32 #[.int .u64 s.q, .slice s.P s.np s.cp, .slice s.R s.nr s.cr, .slice s.L s.nl s.cl, .slice s.G s.ng s.cg, .slice s.O s.no s.co]) (h' : Sl fPriced w s.R s.cr vs) (hs : Sl fSet w A c xs) :
    Calls Try.prog 32 #[.slice A xs.length c, .func (.func 33) #[] #[.pointer (some ⟨Bs, 0, none⟩)]] w fun e w' => e = .returned (.bool (xs.any (shutD vs))) ∧ Fr no w w' := by
  have HC := hide (index_c s vs hv Bs A c xs w hB h' hs)
  clear hB h' hs hv
  go_enter Try.func32, Try.ntmps32
  go_wp2_with (go_at_call 53; refine HC.out.mono ?_; rintro e w1 ⟨⟨j, rfl, hj⟩, F5⟩)
  have HJ := hide hj
  clear hj
  go_wp2_with fail
  go_ret
  exact ⟨by rw [← HJ.out]; rfl, F5⟩
/-- May all these prices be set once more? -/
def openD (vs : List PricedD) (xs : List SetD) : Bool := !(xs.any (shutD vs))
theorem Open_c (s : StV) (vs : List PricedD) (hv : s.nr = vs.length) (A : Option Addr) (c : Nat) (xs : List SetD) (w : World) (h' : Sl fPriced w s.R s.cr vs) (hs : Sl fSet w A c xs) :
    Calls Try.prog 10 #[.agg #[.int .u64 s.q, .slice s.P s.np s.cp, .slice s.R s.nr s.cr, .slice s.L s.nl s.cl, .slice s.G s.ng s.cg, .slice s.O s.no s.co], .slice A xs.length c] w fun e w' => e = .returned (.bool (openD vs xs)) ∧ Fr no w w' := by
  have HC := hide (contains_c s vs hv w.heap.size A c xs (w.alloc (.cells #[.int .u64 s.q, .slice s.P s.np s.cp, .slice s.R s.nr s.cr, .slice s.L s.nl s.cl, .slice s.G s.ng s.cg, .slice s.O s.no s.co] 32)) (Blk.new w _ _) (h'.below ((Fr.refl no w).alloc _).below) (hs.below ((Fr.refl no w).alloc _).below))
  unfold openD
  clear h' hs hv
  go_enter Try.func10, Try.ntmps10
  go_wp2_with (go_at_call 32; refine HC.out.mono ?_; rintro e w1 ⟨rfl, F5⟩)
  have F7 := hide (((Fr.refl no w).alloc _).trans F5)
  clear F5
  go_wp2_with fail
  go_ret
  exact ⟨rfl, F7.out⟩
end Go.Proofs.Ytmnajpkmglmipaa
