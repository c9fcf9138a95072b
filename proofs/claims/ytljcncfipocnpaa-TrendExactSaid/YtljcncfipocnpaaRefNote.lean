/- Contract of the document's Note. -/
import Derived.Test.YtljcncfipocnpaaNoteLaw
import Derived.Deep.RegionWith
import Derived.Deep.RegionHeld3
import Derived.Deep.DeepCutAuto
namespace Go.Proofs.Ytljcncfipocnpaa
open Go.RowKit Fl

def RefAt (W : World) (g k a : Nat) (n : Int) : Prop := Blk W g 80 #[.int .u64 k, .int .u64 a, .int .i64 n]
def sel (c : Bool) (x y : Nat) : Nat := match c with
  | true => x
  | false => y

set_option maxHeartbeats 800000 in
theorem ref_note1 (g k a : Nat) (x : Int) (w : World) (h : RefAt w g k a 0) (h0 : -9223372036854775808 ≤ x) (h1 : x ≤ 9223372036854775807) :
    Calls Try.prog 23 #[.pointer (some ⟨g, 0, none⟩), .int .i64 x] w fun e w' => e = .returned (.tuple #[]) ∧ RefAt w' g k (cnv x) 1 ∧ Fr (fun k => k = g) w w' := by
  generalize hy : cnv x = y at *
  have hof := fun w => ref_of x w h0 h1
  rw [hy] at hof
  have hof := hide hof
  clear hy
  go_enter Try.func23, Try.ntmps23
  go_wp2_with fail
  refine (hof.out _).mono ?_
  rintro e W1 ⟨rfl, F⟩
  have B : Blk W1 g _ _ := Blk.kept0 h F
  have c1 := B.cell 1
  have c2 := B.cell 2
  have f1 := B.free 1
  have f2 := B.free 2
  go_wp2_with fail
  exact bodyPost_ret (results_none rfl _ _ _) rfl ⟨rfl, (B.set 2 _).set 1 _, ((F.mono (fun _ _ e => e.elim)).trans (Fr.setCell _ _ _ _)).trans (Fr.setCell _ _ _ _)⟩

set_option maxRecDepth 100000 in
set_option maxHeartbeats 2000000 in
theorem ref_note_raw (g k a y d s r : Nat) (c1 c2 c3 : Bool) (n x : Int) (w : World) (h : RefAt w g k a n) (hn0 : 0 < n) (hn : n ≤ 9223372036854775806)
    (hof : Hid (∀ w, Calls Try.prog 30 #[.int .i64 x] w fun e w' => e = .returned (.int .u64 (y : Nat)) ∧ Fr no w w'))
    (hneg : Hid (∀ w, Calls Try.prog 33 #[.int .u64 a] w fun e w' => e = .returned (.int .u64 (flip a : Nat)) ∧ w = w'))
    (hadd : Hid (∀ w, Calls Try.prog 31 #[.int .u64 y, .int .u64 (flip a : Nat)] w fun e w' => e = .returned (.int .u64 (d : Nat)) ∧ Fr no w w'))
    (hmul : Hid (∀ w, Calls Try.prog 32 #[.int .u64 d, .int .u64 k] w fun e w' => e = .returned (.int .u64 (s : Nat)) ∧ Fr no w w'))
    (hadd2 : Hid (∀ w, Calls Try.prog 31 #[.int .u64 a, .int .u64 s] w fun e w' => e = .returned (.int .u64 (r : Nat)) ∧ Fr no w w'))
    (L1 : Hid (∀ w, Calls Try.prog 34 #[.int .u64 y, .int .u64 a] w fun e w' => e = .returned (.bool c1) ∧ w = w'))
    (L2 : Hid (∀ w, Calls Try.prog 34 #[.int .u64 r, .int .u64 (sel c1 y a)] w fun e w' => e = .returned (.bool c2) ∧ w = w'))
    (L3 : Hid (∀ w, Calls Try.prog 34 #[.int .u64 (sel c1 a y), .int .u64 (sel c2 (sel c1 y a) r)] w fun e w' => e = .returned (.bool c3) ∧ w = w')) :
    Calls Try.prog 23 #[.pointer (some ⟨g, 0, none⟩), .int .i64 x] w fun e w' => e = .returned (.tuple #[]) ∧ RefAt w' g k (sel c3 (sel c1 a y) (sel c2 (sel c1 y a) r)) (n + 1) ∧ Fr (fun k => k = g) w w' := by
  have e1 : (n + 1 == 1) = false := by simp; omega
  go_enter Try.func23, Try.ntmps23
  go_wp2_with fail
  refine (hof.out _).mono ?_
  rintro e W1 ⟨rfl, F⟩
  have B : Blk W1 g _ _ := Blk.kept0 h F
  have q1 := B.cell 1
  have q2 := B.cell 2
  have f2 := B.free 2
  go_upto_region 5 with fail
  have B2 : Blk (W1.setCell ⟨g, 2, none⟩ (.int .i64 (n + 1))) g 80 #[.int .u64 k, .int .u64 a, .int .i64 (n + 1)] := B.set 2 _
  have F2 := (F.mono (S' := fun k => k = g) (fun _ _ e => e.elim)).trans (Fr.setCell W1 g 2 (.int .i64 (n + 1)))
  clear F B q1 q2 f2
  obtain ⟨W2, hW2⟩ : ∃ W2, W1.setCell ⟨g, 2, none⟩ (.int .i64 (n + 1)) = W2 := ⟨_, rfl⟩
  rw [hW2] at B2 F2 ⊢
  clear hW2
  go_cut [6] (fun l wx => l = .int .u64 r ∧ RefAt wx g k a (n + 1) ∧ Fr (fun k => k = g) w wx)
  case first =>
    have HK := hide (fun (W' : World) (f : Fr no W2 W') => (⟨(B2.kept0 f).cell 0, f⟩ : W'.cell? ⟨g, 0, none⟩ = some (.int .u64 k) ∧ Fr no W2 W'))
    have HZ := hide (fun (W' : World) (f : Fr no W2 W') => (⟨B2.kept0 f, F2.trans0 f⟩ : RefAt W' g k a (n + 1) ∧ Fr (fun k => k = g) w W'))
    clear B2 F2
    go_region_held3 (fun W' => W'.cell? ⟨g, 0, none⟩ = some (.int .u64 k) ∧ Fr no W2 W')
      (first | exact HK.out _ (Fr.refl _ _).drew | exact HK.out _ ‹_› | exact HK.out _ (And.right ‹_›))
      (first
        | (go_at_call 33; refine (hneg.out _).mono ?_; rintro e w' ⟨rfl, rfl⟩)
        | (go_at_call_of 31 (Value.int IntKind.u64 ((flip a : Nat) : Int)); refine (hadd.out _).mono ?_; rintro e w' ⟨rfl, F5⟩; have F6 := Fr.trans (And.right ‹_›) F5)
        | (go_at_call 32; refine (hmul.out _).mono ?_; rintro e w' ⟨rfl, F5⟩; have F6 := Fr.trans (And.right ‹_›) F5)
        | (go_at_call_of 31 (Value.int IntKind.u64 (s : Int)); refine (hadd2.out _).mono ?_; rintro e w' ⟨rfl, F5⟩; have F6 := Fr.trans (And.right ‹_›) F5))
    all_goals
      go_wp2_with fail
      go_meet
      exact ⟨rfl, HZ.out _ F6⟩
  case rest =>
    obtain ⟨rfl, B, F⟩ := hcut
    clear B2 F2 h hof hneg hadd hmul hadd2
    have f1 := Blk.free B 1
    have q1 := Blk.cell B 1
    cases c1 <;> cases c2 <;> cases c3
    all_goals
      go_wp2_with fail
      refine (L1.out _).mono ?_
      rintro e W3 ⟨rfl, rfl⟩
      go_wp2_with fail
      refine (L2.out _).mono ?_
      rintro e W3 ⟨rfl, rfl⟩
      go_wp2_with fail
      refine (L3.out _).mono ?_
      rintro e W3 ⟨rfl, rfl⟩
      go_wp2_with fail
      go_end0
      exact ⟨rfl, Blk.set B 1 _, F.trans (Fr.setCell _ _ _ _)⟩

theorem sel_if (p : Prop) [Decidable p] (x y : Nat) : sel (decide p) x y = if p then x else y := by
  by_cases h : p
  · rw [decide_eq_true h, if_pos h]; rfl
  · rw [decide_eq_false h, if_neg h]; rfl
/-- What a weight is, and an average. -/
structure KeepIs (k : Nat) : Prop where
  ok : KeepOk k = true
  lt : k < NB
  le : mv (rung k) ≤ U
structure AvgIs (a : Nat) : Prop where
  lt : a < NB
  nz : NZ a
  lim : Lim 1137 a
  fin : Fnt a
theorem cnv_is {x : Int} (h0 : -9223372036854775808 ≤ x) (h1 : x ≤ 9223372036854775807) : AvgIs (cnv x) := by
  have hb := of_bound (show x.natAbs ≤ 9223372036854775808 by omega)
  have hw := cnv_word x (Nat.le_trans hb (by decide))
  have hlt : rungOf (x.natAbs * U) 0 < 9223372036854775808 := Nat.lt_of_le_of_lt hb (by decide)
  refine ⟨?_, ?_, ?_, fin_cnv x (by omega)⟩
  · rw [hw]; exact word_lt _ hlt
  · rw [hw]
    refine nz_word hlt (fun h => rungOf_ne ?_)
    have hx := of_decide_eq_true h
    have := U_pos
    exact Nat.ne_of_gt (Nat.mul_pos (by omega) this)
  · unfold Lim
    rw [hw, rung_word' _ hlt]
    exact mv_top 1137 (by decide) hb
/-- The document's note does what the program's does. -/
theorem ref_note (g k a : Nat) (n x : Int) (w : World) (h : RefAt w g k a n) (hk : KeepIs k) (h0 : 0 ≤ n) (hn : n ≤ 9223372036854775806) (ha : n = 0 ∨ AvgIs a) (hx0 : -9223372036854775808 ≤ x) (hx1 : x ≤ 9223372036854775807) :
    AvgIs (noted k a n x) ∧ Calls Try.prog 23 #[.pointer (some ⟨g, 0, none⟩), .int .i64 x] w fun e w' => e = .returned (.tuple #[]) ∧ RefAt w' g k (noted k a n x) (n + 1) ∧ Fr (fun k => k = g) w w' := by
  have hy := cnv_is hx0 hx1
  rcases Int.lt_or_eq_of_le h0 with h1 | h1
  · have ha' : AvgIs a := ha.resolve_left (by omega)
    obtain ⟨d, s, r, S⟩ := steps_of (y := cnv x) ha'.lt ha'.nz ha'.lim hy.lim hk.le
    have fk := (keep_fin hk.ok).1
    obtain ⟨m1, m2, m3⟩ := S.model ha'.lt ha'.fin fk hy.fin
    have hnoted : noted k a n x = upd r a (cnv x) := by
      unfold noted
      rw [if_neg (by omega), m1]
      simp only
      rw [m2]
      simp only
      rw [m3]
    have hcl := clamp_upd S.rf.num ha'.fin.num hy.fin.num S.rn ha'.lt hy.lt S.rz ha'.nz hy.nz
    have hmem := clamp_mem S.rf.num ha'.fin.num hy.fin.num S.rn ha'.lt hy.lt S.rz ha'.nz hy.nz
    have hspec := upd_spec S.rf.num ha'.fin hy.fin
    refine ⟨?_, ?_⟩
    · rw [hnoted]
      refine ⟨hmem.1, hmem.2, ?_, hspec.1⟩
      unfold Lim
      have b1 := lim_sv ha'.lim
      have b2 := lim_sv hy.lim
      rw [← sv_abs]
      omega
    · have hout : noted k a n x = sel (decide (sv (sel (decide (sv (cnv x) < sv a)) a (cnv x)) < sv (sel (decide (sv r < sv (sel (decide (sv (cnv x) < sv a)) (cnv x) a))) (sel (decide (sv (cnv x) < sv a)) (cnv x) a) r))) (sel (decide (sv (cnv x) < sv a)) a (cnv x)) (sel (decide (sv r < sv (sel (decide (sv (cnv x) < sv a)) (cnv x) a))) (sel (decide (sv (cnv x) < sv a)) (cnv x) a) r) := by
        rw [hnoted, hcl]
        unfold clampW
        simp only [sel_if]
      rw [hout]
      have hsel : ∀ (c : Bool) (p q : Nat), p < NB → q < NB → sel c p q < NB := fun c p q hp hq => by cases c <;> assumption
      refine ref_note_raw g k a (cnv x) d s r _ _ _ n x w h h1 hn (hide fun w => ref_of x w hx0 hx1) (hide fun w => ref_neg a w ha'.lt) (hide fun w => ?_) (hide fun w => ?_) (hide fun w => ?_) (hide fun w => ref_less _ _ w hy.lt ha'.lt) (hide fun w => ref_less _ _ w S.rn (hsel _ _ _ hy.lt ha'.lt)) (hide fun w => ref_less _ _ w (hsel _ _ _ ha'.lt hy.lt) (hsel _ _ _ (hsel _ _ _ hy.lt ha'.lt) S.rn))
      · obtain ⟨f1, f2, f3, f4⟩ := flip_facts ha'.lt
        have ff : Fnt (flip a) := by unfold Fnt; rw [f2]; exact ha'.fin
        have := ref_add (cnv x) (flip a) w hy.lt f1 hy.fin ff S.d_bd
        rw [← S.d_eq] at this
        exact this
      · have := ref_mul d k w S.dn hk.lt S.df fk S.s_bd
        rw [← S.s_eq] at this
        exact this
      · have := ref_add a s w ha'.lt S.sn ha'.fin S.sf S.r_bd
        rw [← S.r_eq] at this
        exact this
  · subst h1
    refine ⟨hy, ?_⟩
    exact ref_note1 g k a x w h hx0 hx1
end Go.Proofs.Ytljcncfipocnpaa
