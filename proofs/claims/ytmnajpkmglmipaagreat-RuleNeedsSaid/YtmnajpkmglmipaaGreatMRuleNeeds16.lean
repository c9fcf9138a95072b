/- Cfg EqX -/
import Derived.Test.YtmnajpkmglmipaaGreatMRuleNeeds11
import Derived.BigQuiet
/- Configurations: their values by parts. Which lines, guards, settings, rights may be. -/
namespace Go.Proofs.YtmnajpkmglmipaaGreat
open Go.RowKit

structure CfgV where
  t : Int
  C : Option Addr
  nc : Nat
  cc : Nat
  P : Option Addr
  np : Nat
  cp : Nat
  le : Int
  wa : Int
  be : Int
  wi : Int
  ca : Int
  fl : Int
abbrev CounterD := ByteArray × Int × Int × Int
def fCounter : Flat CounterD where
  sz := 4
  enc := fun x => [.string x.1, .int .i64 x.2.1, .int .i64 x.2.2.1, .int .i64 x.2.2.2]
  len := fun _ => rfl
  pos := by decide
  one := fun x u hu => by simp at hu; rcases hu with rfl | rfl | rfl | rfl <;> rfl
abbrev PriceD := ByteArray × Int
def fPrice : Flat PriceD where
  sz := 2
  enc := fun x => [.string x.1, .int .i64 x.2]
  len := fun _ => rfl
  pos := by decide
  one := fun x u hu => by simp at hu; rcases hu with rfl | rfl <;> rfl
structure CfgD where
  t : Nat
  cs : List CounterD
  ps : List PriceD
structure CfgOk (w : World) (c : CfgV) (D : CfgD) : Prop where
  t : c.t = D.t
  nc : c.nc = D.cs.length
  np : c.np = D.ps.length
  cs : Sl fCounter w c.C c.cc D.cs
  ps : Sl fPrice w c.P c.cp D.ps
theorem CfgOk.keep {w w' : World} {c : CfgV} {D : CfgD} (h : CfgOk w c D) (F : Fr no w w') : CfgOk w' c D :=
  ⟨h.t, h.nc, h.np, h.cs.below F.below, h.ps.below F.below⟩
structure CfgFit (D : CfgD) : Prop where
  t1 : 1 ≤ D.t
  t8 : D.t ≤ 8
  c1 : 1 ≤ D.cs.length
  c64 : D.cs.length ≤ 64
  p64 : D.ps.length ≤ 64
  cs : ∀ x ∈ D.cs, -9007199254740992 ≤ x.2.1 ∧ x.2.1 ≤ x.2.2.2 ∧ x.2.2.2 ≤ x.2.2.1 ∧ x.2.2.1 ≤ 9007199254740992
  ps : ∀ x ∈ D.ps, 0 ≤ x.2 ∧ x.2 ≤ 1099511627776
theorem wrap_small {a : Int} (h : -9223372036854775808 ≤ a) (h' : a ≤ 9223372036854775807) : IntKind.i64.wrap a = a := by
  simp [IntKind.wrap, IntKind.bits, IntKind.signed]; omega
/-- One more element of a row all of whose elements are good. -/
theorem all_snoc {α : Type} {P : α → Prop} {xs : List α} {m : Nat} {x : α} (h : ∀ y ∈ xs.take m, P y) (e : xs.take (m + 1) = xs.take m ++ [x]) (hx : P x) : ∀ y ∈ xs.take (m + 1), P y := by
  intro y hy
  rw [e] at hy
  rcases List.mem_append.1 hy with hy | hy
  · exact h y hy
  · rw [List.mem_singleton.1 hy]; exact hx
theorem ret_b {a b : Bool} (h : a = b) : Ending.returned (.bool a) = .returned (.bool b) := by rw [h]
def winB (n lo hi : Int) : Bool := decide (lo ≤ n ∧ n ≤ hi)
theorem within_c (n lo hi : Int) (b : Bool) (hb : b = decide (lo ≤ n ∧ n ≤ hi)) (w : World) : Calls Tryz.prog 67 #[.int .i64 n, .int .i64 lo, .int .i64 hi] w fun e w' => e = .returned (.bool b) ∧ w' = w := by
  by_cases h1 : lo ≤ n
  · by_cases h2 : n ≤ hi
    · obtain rfl : b = true := by rw [hb]; exact decide_eq_true ⟨h1, h2⟩
      clear hb
      go_enter Tryz.func67, Tryz.ntmps67
      go_wp2_with fail
      go_ret
      exact ⟨rfl, rfl⟩
    · obtain rfl : b = false := by rw [hb]; exact decide_eq_false (fun h => h2 h.2)
      clear hb
      go_enter Tryz.func67, Tryz.ntmps67
      go_wp2_with fail
      go_ret
      exact ⟨rfl, rfl⟩
  · obtain rfl : b = false := by rw [hb]; exact decide_eq_false (fun h => h1 h.1)
    clear hb
    go_enter Tryz.func67, Tryz.ntmps67
    go_wp2_with fail
    go_ret
    exact ⟨rfl, rfl⟩
def LineG (n : Nat) (x : LineD) : Prop := (0 ≤ x.1 ∧ x.1 ≤ (n : Int) - 1) ∧ x.2 ≠ 0 ∧ -1099511627776 ≤ x.2 ∧ x.2 ≤ 1099511627776
instance (n : Nat) (x : LineD) : Decidable (LineG n x) := by unfold LineG; infer_instance
def LinesG (n : Nat) (xs : List LineD) : Prop := xs.length ≤ 8 ∧ ∀ x ∈ xs, LineG n x
instance (n : Nat) (xs : List LineD) : Decidable (LinesG n xs) := by unfold LinesG; infer_instance
set_option maxRecDepth 100000 in
set_option maxHeartbeats 4000000 in
theorem ck_lines (c : CfgV) (hc : c.nc ≤ 64) (A : Option Addr) (k : Nat) (xs : List LineD) (w : World) (h : Sl fLine w A k xs) :
    Calls Tryz.prog 134 #[.agg #[.int .i64 c.t, .slice c.C c.nc c.cc, .slice c.P c.np c.cp, .int .i64 c.le, .int .i64 c.wa, .int .i64 c.be, .int .i64 c.wi, .int .i64 c.ca, .int .i64 c.fl], .slice A xs.length k] w fun e w' => e = .returned (.bool (decide (LinesG c.nc xs))) ∧ Fr no w w' := by
  have lt := h.le_top
  have H := hide h
  obtain ⟨b, hb⟩ : ∃ b, b = decide (LinesG c.nc xs) := ⟨_, rfl⟩
  rw [← hb]
  have HB := hide hb
  clear h hb
  by_cases h8 : 8 < xs.length
  · go_enter Tryz.func134, Tryz.ntmps134
    go_wp2_with fail
    go_ret
    exact ⟨ret_b (b := b) (by rw [HB.out, decide_eq_false (show ¬ LinesG c.nc xs from fun h => by have := h.1; omega)]), (Fr.refl no w).alloc _⟩
  · go_enter Tryz.func134, Tryz.ntmps134
    go_wp2_with fail
    obtain ⟨W0, hW0⟩ : ∃ W0, (w.alloc (.cells #[.int .i64 c.t, .slice c.C c.nc c.cc, .slice c.P c.np c.cp, .int .i64 c.le, .int .i64 c.wa, .int .i64 c.be, .int .i64 c.wi, .int .i64 c.ca, .int .i64 c.fl] 69)) = W0 := ⟨_, rfl⟩
    have F0 : Fr no w W0 := by rw [← hW0]; exact ((Fr.refl no w).alloc _)
    have B0 : Blk W0 (w.heap.size) 69 #[.int .i64 c.t, .slice c.C c.nc c.cc, .slice c.P c.np c.cp, .int .i64 c.le, .int .i64 c.wa, .int .i64 c.be, .int .i64 c.wi, .int .i64 c.ca, .int .i64 c.fl] := by rw [← hW0]; exact (Blk.new w _ _)
    have q0_1 : ∀ p : FrBy W0, p.w.cell? ⟨w.heap.size, 1, none⟩ = some (.slice c.C c.nc c.cc) := fun p => (B0.kept0 p.fr).cell 1
    have HF0 := hide F0
    obtain ⟨p, hp⟩ : ∃ p : FrBy W0, p.w = W0 := ⟨⟨W0, Fr.refl _ _⟩, rfl⟩
    rw [hW0, ← hp]
    clear hW0 hp F0 B0
    go_loopw [5] (fun i wr => ∃ m : Nat, i = .int .i64 m ∧ m ≤ xs.length ∧ (∀ x ∈ xs.take m, LineG c.nc x) ∧ ∃ p : FrBy W0, wr = p.w) (fun i _ => xs.length - (intOf i).toNat)
    case atStart => exact ⟨0, rfl, Nat.zero_le _, by simp, p, rfl⟩
    case round =>
      clear p
      obtain ⟨m, rfl, hm, hall, p, rfl⟩ := hrel
      have HL := hide hall
      clear hall
      by_cases hlt : m < xs.length
      · obtain ⟨ag, ao, rfl, ac⟩ := (H.out).cells (List.length_pos_iff.1 (by omega))
        obtain ⟨ax1, ax2, hax⟩ : ∃ ax1 ax2, xs[m] = (ax1, ax2) := ⟨_, _, rfl⟩
        have a0 : ∀ p : FrBy W0, p.w.cell? ⟨ag, ao + m * 2, none⟩ = some (.int .i64 ax1) := fun p => fr_cell (HF0.out.trans p.fr) (by have := ac m hlt 0 (by decide); rw [hax] at this; first | exact this | simpa using this)
        have a1 : ∀ p : FrBy W0, p.w.cell? ⟨ag, ao + m * 2 + 1, none⟩ = some (.int .i64 ax2) := fun p => fr_cell (HF0.out.trans p.fr) (by have := ac m hlt 1 (by decide); rw [hax] at this; first | exact this | simpa using this)
        have am0 : (0 : Int) ≤ m := by omega
        have am1 : (m : Int) < xs.length := by omega
        have aM := hide (show (ax1, ax2) ∈ xs by rw [← hax]; exact List.getElem_mem hlt)
        have aT := hide (show xs.take (m + 1) = xs.take m ++ [(ax1, ax2)] by rw [← hax]; exact (List.take_append_getElem hlt).symm)
        have aE := hide hax
        clear ac hax
        obtain ⟨bw, hbw⟩ : ∃ bw, bw = decide (0 ≤ ax1 ∧ ax1 ≤ (c.nc : Int) - 1) := ⟨_, rfl⟩
        have HW := hide hbw
        have hs : IntKind.i64.wrap ((c.nc : Int) - 1) = (c.nc : Int) - 1 := wrap_small (by omega) (by omega)
        have CW : Hid (∀ p : FrBy W0, Calls Tryz.prog 67 #[.int .i64 ax1, .int .i64 0, .int .i64 ((c.nc : Int) - 1)] p.w fun e w' => e = .returned (.bool bw) ∧ ∃ q : FrBy W0, w' = q.w) := hide (fun p => (within_c _ _ _ bw HW.out _).mono fun e w' ⟨h1, h2⟩ => ⟨h1, p, h2⟩)
        clear hbw
        go_wp2_with fail
        refine wp_region_fr W0 (by kernel_rfl) (by kernel_rfl) p.fr ?_
        repeat (any_goals (first | go_big_quiet_step (exact CW.out _) | quiet_step (exact CW.out _) | (refine wpQuiet_step (fun K hK => ?_); go_simp; split <;> (refine hK _ ?_; clear hK K))))
        all_goals (refine wpQuiet_nil ?_; intro wz hw'; obtain ⟨p, rfl⟩ := hw')
        all_goals go_wp2_with fail
        all_goals first
          | (go_ret; exact ⟨ret_b (b := b) (by rw [HB.out]; exact (decide_eq_false (show ¬ LinesG c.nc xs from fun h => by have h2 := HW.out; have h3 := h.2 _ aM.out; simp only [LineG] at h3; simp_all; try omega)).symm), HF0.out.trans p.fr⟩)
          | exact ⟨⟨m + 1, by simp, hlt, all_snoc HL.out aT.out (by have h2 := HW.out; simp only [LineG]; simp_all), p, rfl⟩, by simp [intOf]; omega⟩
      · obtain rfl : m = xs.length := by omega
        go_wp2_with fail
        go_ret
        exact ⟨ret_b (b := b) (by rw [HB.out, decide_eq_true (show LinesG c.nc xs from ⟨by omega, by have := HL.out; rwa [List.take_length] at this⟩)]), HF0.out.trans p.fr⟩
end Go.Proofs.YtmnajpkmglmipaaGreat

/- tillref0's Eq.. of flat lists: are they the same? -/
namespace Go.Proofs.YtmnajpkmglmipaaGreat
open Go.RowKit

theorem take_same {α : Type} {xs ys : List α} {m : Nat} {x y : α} (h : xs.take m = ys.take m) (e : xs.take (m + 1) = xs.take m ++ [x]) (e' : ys.take (m + 1) = ys.take m ++ [y]) (hx : x = y) : xs.take (m + 1) = ys.take (m + 1) := by rw [e, e', h, hx]
theorem take_not {α : Type} {xs ys : List α} {m : Nat} {x y : α} (e : xs.take (m + 1) = xs.take m ++ [x]) (e' : ys.take (m + 1) = ys.take m ++ [y]) (hx : x ≠ y) : xs ≠ ys := by
  rintro rfl
  rw [e] at e'
  have := List.append_cancel_left e'
  exact hx (by simpa using this)
theorem equal_line (x0 x1 y0 y1 : Int) (w : World) : (Op.equalIn 10000 57 (.agg #[.int .i64 x0, .int .i64 x1]) (.agg #[.int .i64 y0, .int .i64 y1])).run Tryz.prog w = .ok (x0 == y0 && x1 == y1) w := by
  rw [show (10000 : Nat) = 9999 + 1 from rfl]
  cases h0 : (x0 == y0) <;> cases h1 : (x1 == y1) <;> go_simp
theorem equal_line_b (x0 x1 y0 y1 : Int) (b : Bool) (h : b = decide ((x0, x1) = (y0, y1))) (w : World) : (Op.equalIn 10000 57 (.agg #[.int .i64 x0, .int .i64 x1]) (.agg #[.int .i64 y0, .int .i64 y1])).run Tryz.prog w = .ok b w := by
  rw [equal_line, h]; congr 1; rw [Bool.eq_iff_iff]; simp [and_assoc]
set_option maxRecDepth 100000 in
set_option maxHeartbeats 4000000 in
theorem eqx_lines (A B : Option Addr) (c e : Nat) (xs ys : List LineD) (w : World) (h : Sl fLine w A c xs) (h' : Sl fLine w B e ys) :
    Calls Tryz.prog 34 #[.slice A xs.length c, .slice B ys.length e] w fun e w' => e = .returned (.bool (decide (xs = ys))) ∧ Fr no w w' := by
  have lt := h.le_top
  have lt' := h'.le_top
  have H := hide h
  have H' := hide h'
  obtain ⟨b, hb⟩ : ∃ b, b = decide (xs = ys) := ⟨_, rfl⟩
  rw [← hb]
  have HB := hide hb
  clear h hb h'
  by_cases hl : xs.length = ys.length
  · have HL := hide hl
    rw [← hl]
    rw [← hl] at lt'
    clear hl
    go_enter Tryz.func34, Tryz.ntmps34
    go_wp2_with fail
    obtain ⟨W0, hW0⟩ : ∃ W0, w = W0 := ⟨_, rfl⟩
    have HF0 : Hid (Fr no w W0) := hide (by rw [← hW0]; exact Fr.refl _ _)
    obtain ⟨p, hp⟩ : ∃ p : FrBy W0, p.w = W0 := ⟨⟨W0, Fr.refl _ _⟩, rfl⟩
    rw [hW0, ← hp]
    clear hp
    go_loopw [5] (fun i wr => ∃ m : Nat, i = .int .i64 m ∧ m ≤ xs.length ∧ xs.take m = ys.take m ∧ ∃ p : FrBy W0, wr = p.w) (fun i _ => xs.length - (intOf i).toNat)
    case atStart => exact ⟨0, rfl, Nat.zero_le _, rfl, p, rfl⟩
    case round =>
      clear p
      obtain ⟨m, rfl, hm, hall, p, rfl⟩ := hrel
      have HA := hide hall
      clear hall
      by_cases hlt : m < xs.length
      · have hlt2 : m < ys.length := by have := HL.out; omega
        obtain ⟨ag, ao, rfl, ac⟩ := (H.out).cells (List.length_pos_iff.1 (by omega))
        obtain ⟨ax1, ax2, hax⟩ : ∃ ax1 ax2, xs[m] = (ax1, ax2) := ⟨_, _, rfl⟩
        have a0 : ∀ p : FrBy W0, p.w.cell? ⟨ag, ao + m * 2, none⟩ = some (.int .i64 ax1) := fun p => fr_cell (HF0.out.trans p.fr) (by have := ac m hlt 0 (by decide); rw [hax] at this; first | exact this | simpa using this)
        have a1 : ∀ p : FrBy W0, p.w.cell? ⟨ag, ao + m * 2 + 1, none⟩ = some (.int .i64 ax2) := fun p => fr_cell (HF0.out.trans p.fr) (by have := ac m hlt 1 (by decide); rw [hax] at this; first | exact this | simpa using this)
        have am0 : (0 : Int) ≤ m := by omega
        have am1 : (m : Int) < xs.length := by omega
        have aM := hide (show (ax1, ax2) ∈ xs by rw [← hax]; exact List.getElem_mem hlt)
        have aT := hide (show xs.take (m + 1) = xs.take m ++ [(ax1, ax2)] by rw [← hax]; exact (List.take_append_getElem hlt).symm)
        have aE := hide hax
        clear ac hax
        obtain ⟨zg, zo, rfl, zc⟩ := (H'.out).cells (List.length_pos_iff.1 (by omega))
        obtain ⟨zx1, zx2, hzx⟩ : ∃ zx1 zx2, ys[m] = (zx1, zx2) := ⟨_, _, rfl⟩
        have z0 : ∀ p : FrBy W0, p.w.cell? ⟨zg, zo + m * 2, none⟩ = some (.int .i64 zx1) := fun p => fr_cell (HF0.out.trans p.fr) (by have := zc m hlt2 0 (by decide); rw [hzx] at this; first | exact this | simpa using this)
        have z1 : ∀ p : FrBy W0, p.w.cell? ⟨zg, zo + m * 2 + 1, none⟩ = some (.int .i64 zx2) := fun p => fr_cell (HF0.out.trans p.fr) (by have := zc m hlt2 1 (by decide); rw [hzx] at this; first | exact this | simpa using this)
        have zm0 : (0 : Int) ≤ m := by omega
        have zm1 : (m : Int) < ys.length := by omega
        have zM := hide (show (zx1, zx2) ∈ ys by rw [← hzx]; exact List.getElem_mem hlt2)
        have zT := hide (show ys.take (m + 1) = ys.take m ++ [(zx1, zx2)] by rw [← hzx]; exact (List.take_append_getElem hlt2).symm)
        have zE := hide hzx
        clear zc hzx
        obtain ⟨bq, hq⟩ : ∃ bq, bq = decide ((ax1, ax2) = (zx1, zx2)) := ⟨_, rfl⟩
        have HQ := hide hq
        have q1 := equal_line_b ax1 ax2 zx1 zx2 bq hq
        clear hq
        cases bq
        all_goals
         go_wp2_with fail
         refine wp_region_fr W0 (by kernel_rfl) (by kernel_rfl) p.fr ?_
         (repeat (first | go_big_quiet_step (fail) | quiet_step (fail)))
         refine wpQuiet_nil ?_
         intro wz hw'
         obtain ⟨p, rfl⟩ := hw'
         go_wp2_with fail
         first
          | (go_ret; exact ⟨ret_b (b := b) (by rw [HB.out]; exact (decide_eq_false (take_not aT.out zT.out (of_decide_eq_false HQ.out.symm))).symm), HF0.out.trans p.fr⟩)
          | exact ⟨⟨m + 1, by simp, hlt, take_same HA.out aT.out zT.out (of_decide_eq_true HQ.out.symm), p, rfl⟩, by simp [intOf]; omega⟩
      · obtain rfl : m = xs.length := by omega
        go_wp2_with fail
        go_ret
        exact ⟨ret_b (b := b) (by rw [HB.out]; exact (decide_eq_true (by have := HA.out; rwa [List.take_length, HL.out, List.take_length] at this)).symm), HF0.out.trans p.fr⟩
  · have hl1 : ¬ ((xs.length : Int) = (ys.length : Int)) := by omega
    have hl2 : (xs.length == ys.length) = false := by simpa using hl
    have hl3 : ((xs.length : Int) == (ys.length : Int)) = false := by simpa using hl1
    go_enter Tryz.func34, Tryz.ntmps34
    go_wp2_with fail
    go_ret
    exact ⟨ret_b (b := b) (by rw [HB.out]; exact (decide_eq_false (fun e => hl (by rw [e]))).symm), Fr.refl no w⟩
theorem equal_guard (x0 x1 x2 y0 y1 y2 : Int) (w : World) : (Op.equalIn 10000 105 (.agg #[.int .i64 x0, .int .i64 x1, .int .i64 x2]) (.agg #[.int .i64 y0, .int .i64 y1, .int .i64 y2])).run Tryz.prog w = .ok (x0 == y0 && x1 == y1 && x2 == y2) w := by
  rw [show (10000 : Nat) = 9999 + 1 from rfl]
  cases h0 : (x0 == y0) <;> cases h1 : (x1 == y1) <;> cases h2 : (x2 == y2) <;> go_simp
theorem equal_guard_b (x0 x1 x2 y0 y1 y2 : Int) (b : Bool) (h : b = decide ((x0, x1, x2) = (y0, y1, y2))) (w : World) : (Op.equalIn 10000 105 (.agg #[.int .i64 x0, .int .i64 x1, .int .i64 x2]) (.agg #[.int .i64 y0, .int .i64 y1, .int .i64 y2])).run Tryz.prog w = .ok b w := by
  rw [equal_guard, h]; congr 1; rw [Bool.eq_iff_iff]; simp [and_assoc]
set_option maxRecDepth 100000 in
set_option maxHeartbeats 4000000 in
theorem eqx_guards (A B : Option Addr) (c e : Nat) (xs ys : List GuardD) (w : World) (h : Sl fGuard w A c xs) (h' : Sl fGuard w B e ys) :
    Calls Tryz.prog 133 #[.slice A xs.length c, .slice B ys.length e] w fun e w' => e = .returned (.bool (decide (xs = ys))) ∧ Fr no w w' := by
  have lt := h.le_top
  have lt' := h'.le_top
  have H := hide h
  have H' := hide h'
  obtain ⟨b, hb⟩ : ∃ b, b = decide (xs = ys) := ⟨_, rfl⟩
  rw [← hb]
  have HB := hide hb
  clear h hb h'
  by_cases hl : xs.length = ys.length
  · have HL := hide hl
    rw [← hl]
    rw [← hl] at lt'
    clear hl
    go_enter Tryz.func133, Tryz.ntmps133
    go_wp2_with fail
    obtain ⟨W0, hW0⟩ : ∃ W0, w = W0 := ⟨_, rfl⟩
    have HF0 : Hid (Fr no w W0) := hide (by rw [← hW0]; exact Fr.refl _ _)
    obtain ⟨p, hp⟩ : ∃ p : FrBy W0, p.w = W0 := ⟨⟨W0, Fr.refl _ _⟩, rfl⟩
    rw [hW0, ← hp]
    clear hp
    go_loopw [5] (fun i wr => ∃ m : Nat, i = .int .i64 m ∧ m ≤ xs.length ∧ xs.take m = ys.take m ∧ ∃ p : FrBy W0, wr = p.w) (fun i _ => xs.length - (intOf i).toNat)
    case atStart => exact ⟨0, rfl, Nat.zero_le _, rfl, p, rfl⟩
    case round =>
      clear p
      obtain ⟨m, rfl, hm, hall, p, rfl⟩ := hrel
      have HA := hide hall
      clear hall
      by_cases hlt : m < xs.length
      · have hlt2 : m < ys.length := by have := HL.out; omega
        obtain ⟨ag, ao, rfl, ac⟩ := (H.out).cells (List.length_pos_iff.1 (by omega))
        obtain ⟨ax1, ax2, ax3, hax⟩ : ∃ ax1 ax2 ax3, xs[m] = (ax1, ax2, ax3) := ⟨_, _, _, rfl⟩
        have a0 : ∀ p : FrBy W0, p.w.cell? ⟨ag, ao + m * 3, none⟩ = some (.int .i64 ax1) := fun p => fr_cell (HF0.out.trans p.fr) (by have := ac m hlt 0 (by decide); rw [hax] at this; first | exact this | simpa using this)
        have a1 : ∀ p : FrBy W0, p.w.cell? ⟨ag, ao + m * 3 + 1, none⟩ = some (.int .i64 ax2) := fun p => fr_cell (HF0.out.trans p.fr) (by have := ac m hlt 1 (by decide); rw [hax] at this; first | exact this | simpa using this)
        have a2 : ∀ p : FrBy W0, p.w.cell? ⟨ag, ao + m * 3 + 2, none⟩ = some (.int .i64 ax3) := fun p => fr_cell (HF0.out.trans p.fr) (by have := ac m hlt 2 (by decide); rw [hax] at this; first | exact this | simpa using this)
        have am0 : (0 : Int) ≤ m := by omega
        have am1 : (m : Int) < xs.length := by omega
        have aM := hide (show (ax1, ax2, ax3) ∈ xs by rw [← hax]; exact List.getElem_mem hlt)
        have aT := hide (show xs.take (m + 1) = xs.take m ++ [(ax1, ax2, ax3)] by rw [← hax]; exact (List.take_append_getElem hlt).symm)
        have aE := hide hax
        clear ac hax
        obtain ⟨zg, zo, rfl, zc⟩ := (H'.out).cells (List.length_pos_iff.1 (by omega))
        obtain ⟨zx1, zx2, zx3, hzx⟩ : ∃ zx1 zx2 zx3, ys[m] = (zx1, zx2, zx3) := ⟨_, _, _, rfl⟩
        have z0 : ∀ p : FrBy W0, p.w.cell? ⟨zg, zo + m * 3, none⟩ = some (.int .i64 zx1) := fun p => fr_cell (HF0.out.trans p.fr) (by have := zc m hlt2 0 (by decide); rw [hzx] at this; first | exact this | simpa using this)
        have z1 : ∀ p : FrBy W0, p.w.cell? ⟨zg, zo + m * 3 + 1, none⟩ = some (.int .i64 zx2) := fun p => fr_cell (HF0.out.trans p.fr) (by have := zc m hlt2 1 (by decide); rw [hzx] at this; first | exact this | simpa using this)
        have z2 : ∀ p : FrBy W0, p.w.cell? ⟨zg, zo + m * 3 + 2, none⟩ = some (.int .i64 zx3) := fun p => fr_cell (HF0.out.trans p.fr) (by have := zc m hlt2 2 (by decide); rw [hzx] at this; first | exact this | simpa using this)
        have zm0 : (0 : Int) ≤ m := by omega
        have zm1 : (m : Int) < ys.length := by omega
        have zM := hide (show (zx1, zx2, zx3) ∈ ys by rw [← hzx]; exact List.getElem_mem hlt2)
        have zT := hide (show ys.take (m + 1) = ys.take m ++ [(zx1, zx2, zx3)] by rw [← hzx]; exact (List.take_append_getElem hlt2).symm)
        have zE := hide hzx
        clear zc hzx
        obtain ⟨bq, hq⟩ : ∃ bq, bq = decide ((ax1, ax2, ax3) = (zx1, zx2, zx3)) := ⟨_, rfl⟩
        have HQ := hide hq
        have q1 := equal_guard_b ax1 ax2 ax3 zx1 zx2 zx3 bq hq
        clear hq
        cases bq
        all_goals
         go_wp2_with fail
         refine wp_region_fr W0 (by kernel_rfl) (by kernel_rfl) p.fr ?_
         (repeat (first | go_big_quiet_step (fail) | quiet_step (fail)))
         refine wpQuiet_nil ?_
         intro wz hw'
         obtain ⟨p, rfl⟩ := hw'
         go_wp2_with fail
         first
          | (go_ret; exact ⟨ret_b (b := b) (by rw [HB.out]; exact (decide_eq_false (take_not aT.out zT.out (of_decide_eq_false HQ.out.symm))).symm), HF0.out.trans p.fr⟩)
          | exact ⟨⟨m + 1, by simp, hlt, take_same HA.out aT.out zT.out (of_decide_eq_true HQ.out.symm), p, rfl⟩, by simp [intOf]; omega⟩
      · obtain rfl : m = xs.length := by omega
        go_wp2_with fail
        go_ret
        exact ⟨ret_b (b := b) (by rw [HB.out]; exact (decide_eq_true (by have := HA.out; rwa [List.take_length, HL.out, List.take_length] at this)).symm), HF0.out.trans p.fr⟩
  · have hl1 : ¬ ((xs.length : Int) = (ys.length : Int)) := by omega
    have hl2 : (xs.length == ys.length) = false := by simpa using hl
    have hl3 : ((xs.length : Int) == (ys.length : Int)) = false := by simpa using hl1
    go_enter Tryz.func133, Tryz.ntmps133
    go_wp2_with fail
    go_ret
    exact ⟨ret_b (b := b) (by rw [HB.out]; exact (decide_eq_false (fun e => hl (by rw [e]))).symm), Fr.refl no w⟩
theorem equal_set (x0 x1 x2 y0 y1 y2 : Int) (w : World) : (Op.equalIn 10000 108 (.agg #[.int .i64 x0, .int .i64 x1, .int .i64 x2]) (.agg #[.int .i64 y0, .int .i64 y1, .int .i64 y2])).run Tryz.prog w = .ok (x0 == y0 && x1 == y1 && x2 == y2) w := by
  rw [show (10000 : Nat) = 9999 + 1 from rfl]
  cases h0 : (x0 == y0) <;> cases h1 : (x1 == y1) <;> cases h2 : (x2 == y2) <;> go_simp
theorem equal_set_b (x0 x1 x2 y0 y1 y2 : Int) (b : Bool) (h : b = decide ((x0, x1, x2) = (y0, y1, y2))) (w : World) : (Op.equalIn 10000 108 (.agg #[.int .i64 x0, .int .i64 x1, .int .i64 x2]) (.agg #[.int .i64 y0, .int .i64 y1, .int .i64 y2])).run Tryz.prog w = .ok b w := by
  rw [equal_set, h]; congr 1; rw [Bool.eq_iff_iff]; simp [and_assoc]
set_option maxRecDepth 100000 in
set_option maxHeartbeats 4000000 in
theorem eqx_sets (A B : Option Addr) (c e : Nat) (xs ys : List SetD) (w : World) (h : Sl fSet w A c xs) (h' : Sl fSet w B e ys) :
    Calls Tryz.prog 35 #[.slice A xs.length c, .slice B ys.length e] w fun e w' => e = .returned (.bool (decide (xs = ys))) ∧ Fr no w w' := by
  have lt := h.le_top
  have lt' := h'.le_top
  have H := hide h
  have H' := hide h'
  obtain ⟨b, hb⟩ : ∃ b, b = decide (xs = ys) := ⟨_, rfl⟩
  rw [← hb]
  have HB := hide hb
  clear h hb h'
  by_cases hl : xs.length = ys.length
  · have HL := hide hl
    rw [← hl]
    rw [← hl] at lt'
    clear hl
    go_enter Tryz.func35, Tryz.ntmps35
    go_wp2_with fail
    obtain ⟨W0, hW0⟩ : ∃ W0, w = W0 := ⟨_, rfl⟩
    have HF0 : Hid (Fr no w W0) := hide (by rw [← hW0]; exact Fr.refl _ _)
    obtain ⟨p, hp⟩ : ∃ p : FrBy W0, p.w = W0 := ⟨⟨W0, Fr.refl _ _⟩, rfl⟩
    rw [hW0, ← hp]
    clear hp
    go_loopw [5] (fun i wr => ∃ m : Nat, i = .int .i64 m ∧ m ≤ xs.length ∧ xs.take m = ys.take m ∧ ∃ p : FrBy W0, wr = p.w) (fun i _ => xs.length - (intOf i).toNat)
    case atStart => exact ⟨0, rfl, Nat.zero_le _, rfl, p, rfl⟩
    case round =>
      clear p
      obtain ⟨m, rfl, hm, hall, p, rfl⟩ := hrel
      have HA := hide hall
      clear hall
      by_cases hlt : m < xs.length
      · have hlt2 : m < ys.length := by have := HL.out; omega
        obtain ⟨ag, ao, rfl, ac⟩ := (H.out).cells (List.length_pos_iff.1 (by omega))
        obtain ⟨ax1, ax2, ax3, hax⟩ : ∃ ax1 ax2 ax3, xs[m] = (ax1, ax2, ax3) := ⟨_, _, _, rfl⟩
        have a0 : ∀ p : FrBy W0, p.w.cell? ⟨ag, ao + m * 3, none⟩ = some (.int .i64 ax1) := fun p => fr_cell (HF0.out.trans p.fr) (by have := ac m hlt 0 (by decide); rw [hax] at this; first | exact this | simpa using this)
        have a1 : ∀ p : FrBy W0, p.w.cell? ⟨ag, ao + m * 3 + 1, none⟩ = some (.int .i64 ax2) := fun p => fr_cell (HF0.out.trans p.fr) (by have := ac m hlt 1 (by decide); rw [hax] at this; first | exact this | simpa using this)
        have a2 : ∀ p : FrBy W0, p.w.cell? ⟨ag, ao + m * 3 + 2, none⟩ = some (.int .i64 ax3) := fun p => fr_cell (HF0.out.trans p.fr) (by have := ac m hlt 2 (by decide); rw [hax] at this; first | exact this | simpa using this)
        have am0 : (0 : Int) ≤ m := by omega
        have am1 : (m : Int) < xs.length := by omega
        have aM := hide (show (ax1, ax2, ax3) ∈ xs by rw [← hax]; exact List.getElem_mem hlt)
        have aT := hide (show xs.take (m + 1) = xs.take m ++ [(ax1, ax2, ax3)] by rw [← hax]; exact (List.take_append_getElem hlt).symm)
        have aE := hide hax
        clear ac hax
        obtain ⟨zg, zo, rfl, zc⟩ := (H'.out).cells (List.length_pos_iff.1 (by omega))
        obtain ⟨zx1, zx2, zx3, hzx⟩ : ∃ zx1 zx2 zx3, ys[m] = (zx1, zx2, zx3) := ⟨_, _, _, rfl⟩
        have z0 : ∀ p : FrBy W0, p.w.cell? ⟨zg, zo + m * 3, none⟩ = some (.int .i64 zx1) := fun p => fr_cell (HF0.out.trans p.fr) (by have := zc m hlt2 0 (by decide); rw [hzx] at this; first | exact this | simpa using this)
        have z1 : ∀ p : FrBy W0, p.w.cell? ⟨zg, zo + m * 3 + 1, none⟩ = some (.int .i64 zx2) := fun p => fr_cell (HF0.out.trans p.fr) (by have := zc m hlt2 1 (by decide); rw [hzx] at this; first | exact this | simpa using this)
        have z2 : ∀ p : FrBy W0, p.w.cell? ⟨zg, zo + m * 3 + 2, none⟩ = some (.int .i64 zx3) := fun p => fr_cell (HF0.out.trans p.fr) (by have := zc m hlt2 2 (by decide); rw [hzx] at this; first | exact this | simpa using this)
        have zm0 : (0 : Int) ≤ m := by omega
        have zm1 : (m : Int) < ys.length := by omega
        have zM := hide (show (zx1, zx2, zx3) ∈ ys by rw [← hzx]; exact List.getElem_mem hlt2)
        have zT := hide (show ys.take (m + 1) = ys.take m ++ [(zx1, zx2, zx3)] by rw [← hzx]; exact (List.take_append_getElem hlt2).symm)
        have zE := hide hzx
        clear zc hzx
        obtain ⟨bq, hq⟩ : ∃ bq, bq = decide ((ax1, ax2, ax3) = (zx1, zx2, zx3)) := ⟨_, rfl⟩
        have HQ := hide hq
        have q1 := equal_set_b ax1 ax2 ax3 zx1 zx2 zx3 bq hq
        clear hq
        cases bq
        all_goals
         go_wp2_with fail
         refine wp_region_fr W0 (by kernel_rfl) (by kernel_rfl) p.fr ?_
         (repeat (first | go_big_quiet_step (fail) | quiet_step (fail)))
         refine wpQuiet_nil ?_
         intro wz hw'
         obtain ⟨p, rfl⟩ := hw'
         go_wp2_with fail
         first
          | (go_ret; exact ⟨ret_b (b := b) (by rw [HB.out]; exact (decide_eq_false (take_not aT.out zT.out (of_decide_eq_false HQ.out.symm))).symm), HF0.out.trans p.fr⟩)
          | exact ⟨⟨m + 1, by simp, hlt, take_same HA.out aT.out zT.out (of_decide_eq_true HQ.out.symm), p, rfl⟩, by simp [intOf]; omega⟩
      · obtain rfl : m = xs.length := by omega
        go_wp2_with fail
        go_ret
        exact ⟨ret_b (b := b) (by rw [HB.out]; exact (decide_eq_true (by have := HA.out; rwa [List.take_length, HL.out, List.take_length] at this)).symm), HF0.out.trans p.fr⟩
  · have hl1 : ¬ ((xs.length : Int) = (ys.length : Int)) := by omega
    have hl2 : (xs.length == ys.length) = false := by simpa using hl
    have hl3 : ((xs.length : Int) == (ys.length : Int)) = false := by simpa using hl1
    go_enter Tryz.func35, Tryz.ntmps35
    go_wp2_with fail
    go_ret
    exact ⟨ret_b (b := b) (by rw [HB.out]; exact (decide_eq_false (fun e => hl (by rw [e]))).symm), Fr.refl no w⟩
theorem equal_right (x0 x1 x2 y0 y1 y2 : Int) (w : World) : (Op.equalIn 10000 86 (.agg #[.int .i64 x0, .int .i64 x1, .int .i64 x2]) (.agg #[.int .i64 y0, .int .i64 y1, .int .i64 y2])).run Tryz.prog w = .ok (x0 == y0 && x1 == y1 && x2 == y2) w := by
  rw [show (10000 : Nat) = 9999 + 1 from rfl]
  cases h0 : (x0 == y0) <;> cases h1 : (x1 == y1) <;> cases h2 : (x2 == y2) <;> go_simp
theorem equal_right_b (x0 x1 x2 y0 y1 y2 : Int) (b : Bool) (h : b = decide ((x0, x1, x2) = (y0, y1, y2))) (w : World) : (Op.equalIn 10000 86 (.agg #[.int .i64 x0, .int .i64 x1, .int .i64 x2]) (.agg #[.int .i64 y0, .int .i64 y1, .int .i64 y2])).run Tryz.prog w = .ok b w := by
  rw [equal_right, h]; congr 1; rw [Bool.eq_iff_iff]; simp [and_assoc]
set_option maxRecDepth 100000 in
set_option maxHeartbeats 4000000 in
theorem eqx_rights (A B : Option Addr) (c e : Nat) (xs ys : List RightD) (w : World) (h : Sl fRight w A c xs) (h' : Sl fRight w B e ys) :
    Calls Tryz.prog 14 #[.slice A xs.length c, .slice B ys.length e] w fun e w' => e = .returned (.bool (decide (xs = ys))) ∧ Fr no w w' := by
  have lt := h.le_top
  have lt' := h'.le_top
  have H := hide h
  have H' := hide h'
  obtain ⟨b, hb⟩ : ∃ b, b = decide (xs = ys) := ⟨_, rfl⟩
  rw [← hb]
  have HB := hide hb
  clear h hb h'
  by_cases hl : xs.length = ys.length
  · have HL := hide hl
    rw [← hl]
    rw [← hl] at lt'
    clear hl
    go_enter Tryz.func14, Tryz.ntmps14
    go_wp2_with fail
    obtain ⟨W0, hW0⟩ : ∃ W0, w = W0 := ⟨_, rfl⟩
    have HF0 : Hid (Fr no w W0) := hide (by rw [← hW0]; exact Fr.refl _ _)
    obtain ⟨p, hp⟩ : ∃ p : FrBy W0, p.w = W0 := ⟨⟨W0, Fr.refl _ _⟩, rfl⟩
    rw [hW0, ← hp]
    clear hp
    go_loopw [5] (fun i wr => ∃ m : Nat, i = .int .i64 m ∧ m ≤ xs.length ∧ xs.take m = ys.take m ∧ ∃ p : FrBy W0, wr = p.w) (fun i _ => xs.length - (intOf i).toNat)
    case atStart => exact ⟨0, rfl, Nat.zero_le _, rfl, p, rfl⟩
    case round =>
      clear p
      obtain ⟨m, rfl, hm, hall, p, rfl⟩ := hrel
      have HA := hide hall
      clear hall
      by_cases hlt : m < xs.length
      · have hlt2 : m < ys.length := by have := HL.out; omega
        obtain ⟨ag, ao, rfl, ac⟩ := (H.out).cells (List.length_pos_iff.1 (by omega))
        obtain ⟨ax1, ax2, ax3, hax⟩ : ∃ ax1 ax2 ax3, xs[m] = (ax1, ax2, ax3) := ⟨_, _, _, rfl⟩
        have a0 : ∀ p : FrBy W0, p.w.cell? ⟨ag, ao + m * 3, none⟩ = some (.int .i64 ax1) := fun p => fr_cell (HF0.out.trans p.fr) (by have := ac m hlt 0 (by decide); rw [hax] at this; first | exact this | simpa using this)
        have a1 : ∀ p : FrBy W0, p.w.cell? ⟨ag, ao + m * 3 + 1, none⟩ = some (.int .i64 ax2) := fun p => fr_cell (HF0.out.trans p.fr) (by have := ac m hlt 1 (by decide); rw [hax] at this; first | exact this | simpa using this)
        have a2 : ∀ p : FrBy W0, p.w.cell? ⟨ag, ao + m * 3 + 2, none⟩ = some (.int .i64 ax3) := fun p => fr_cell (HF0.out.trans p.fr) (by have := ac m hlt 2 (by decide); rw [hax] at this; first | exact this | simpa using this)
        have am0 : (0 : Int) ≤ m := by omega
        have am1 : (m : Int) < xs.length := by omega
        have aM := hide (show (ax1, ax2, ax3) ∈ xs by rw [← hax]; exact List.getElem_mem hlt)
        have aT := hide (show xs.take (m + 1) = xs.take m ++ [(ax1, ax2, ax3)] by rw [← hax]; exact (List.take_append_getElem hlt).symm)
        have aE := hide hax
        clear ac hax
        obtain ⟨zg, zo, rfl, zc⟩ := (H'.out).cells (List.length_pos_iff.1 (by omega))
        obtain ⟨zx1, zx2, zx3, hzx⟩ : ∃ zx1 zx2 zx3, ys[m] = (zx1, zx2, zx3) := ⟨_, _, _, rfl⟩
        have z0 : ∀ p : FrBy W0, p.w.cell? ⟨zg, zo + m * 3, none⟩ = some (.int .i64 zx1) := fun p => fr_cell (HF0.out.trans p.fr) (by have := zc m hlt2 0 (by decide); rw [hzx] at this; first | exact this | simpa using this)
        have z1 : ∀ p : FrBy W0, p.w.cell? ⟨zg, zo + m * 3 + 1, none⟩ = some (.int .i64 zx2) := fun p => fr_cell (HF0.out.trans p.fr) (by have := zc m hlt2 1 (by decide); rw [hzx] at this; first | exact this | simpa using this)
        have z2 : ∀ p : FrBy W0, p.w.cell? ⟨zg, zo + m * 3 + 2, none⟩ = some (.int .i64 zx3) := fun p => fr_cell (HF0.out.trans p.fr) (by have := zc m hlt2 2 (by decide); rw [hzx] at this; first | exact this | simpa using this)
        have zm0 : (0 : Int) ≤ m := by omega
        have zm1 : (m : Int) < ys.length := by omega
        have zM := hide (show (zx1, zx2, zx3) ∈ ys by rw [← hzx]; exact List.getElem_mem hlt2)
        have zT := hide (show ys.take (m + 1) = ys.take m ++ [(zx1, zx2, zx3)] by rw [← hzx]; exact (List.take_append_getElem hlt2).symm)
        have zE := hide hzx
        clear zc hzx
        obtain ⟨bq, hq⟩ : ∃ bq, bq = decide ((ax1, ax2, ax3) = (zx1, zx2, zx3)) := ⟨_, rfl⟩
        have HQ := hide hq
        have q1 := equal_right_b ax1 ax2 ax3 zx1 zx2 zx3 bq hq
        clear hq
        cases bq
        all_goals
         go_wp2_with fail
         refine wp_region_fr W0 (by kernel_rfl) (by kernel_rfl) p.fr ?_
         (repeat (first | go_big_quiet_step (fail) | quiet_step (fail)))
         refine wpQuiet_nil ?_
         intro wz hw'
         obtain ⟨p, rfl⟩ := hw'
         go_wp2_with fail
         first
          | (go_ret; exact ⟨ret_b (b := b) (by rw [HB.out]; exact (decide_eq_false (take_not aT.out zT.out (of_decide_eq_false HQ.out.symm))).symm), HF0.out.trans p.fr⟩)
          | exact ⟨⟨m + 1, by simp, hlt, take_same HA.out aT.out zT.out (of_decide_eq_true HQ.out.symm), p, rfl⟩, by simp [intOf]; omega⟩
      · obtain rfl : m = xs.length := by omega
        go_wp2_with fail
        go_ret
        exact ⟨ret_b (b := b) (by rw [HB.out]; exact (decide_eq_true (by have := HA.out; rwa [List.take_length, HL.out, List.take_length] at this)).symm), HF0.out.trans p.fr⟩
  · have hl1 : ¬ ((xs.length : Int) = (ys.length : Int)) := by omega
    have hl2 : (xs.length == ys.length) = false := by simpa using hl
    have hl3 : ((xs.length : Int) == (ys.length : Int)) = false := by simpa using hl1
    go_enter Tryz.func14, Tryz.ntmps14
    go_wp2_with fail
    go_ret
    exact ⟨ret_b (b := b) (by rw [HB.out]; exact (decide_eq_false (fun e => hl (by rw [e]))).symm), Fr.refl no w⟩
end Go.Proofs.YtmnajpkmglmipaaGreat
