/- Back EqS -/
import Derived.Test.YtmnajpkmglmipaaGreatMRuleNeeds02
import Derived.Test.YtmnajpkmglmipaaGreatMRuleNeeds10
import Derived.Test.YtmnajpkmglmipaaGreatMRuleNeeds08
/- Contracts of package tilllaw1's Back.. and Over.. of flat lists. -/
namespace Go.Proofs.YtmnajpkmglmipaaGreat
open Go.RowKit

theorem Sl.take {α : Type} {f : Flat α} {w : World} {A : Option Addr} {c c' : Nat} {xs ys : List α} (h : Sl f w A c (xs ++ ys)) (hc : xs.length ≤ c') (hc' : c' ≤ maxLen) (hA : A = Option.none → c' = 0) : Sl f w A c' xs :=
  ⟨hc, hc', fun hn => by
    obtain ⟨g, o, e, k⟩ := h.cells (by simp [hn])
    refine ⟨g, o, e, fun i hi r hr => ?_⟩
    have := k i (by simp; omega) r hr
    rw [List.getElem_append_left hi] at this
    exact this, hA⟩
set_option maxRecDepth 100000 in
set_option maxHeartbeats 1000000 in
theorem back_lines (A : Option Addr) (g c : Nat) (xs : List LineD) (w : World) (hx : Sl fLine w (some ⟨g, 0, none⟩) (xs.length + 9) (xs ++ List.replicate 9 (777, 7))) (h : Sl fLine w A c xs) :
    Calls Tryz.prog 16 #[.slice (some ⟨g, 0, none⟩) xs.length (xs.length + 9), .slice A xs.length c] w fun e w' => e = .returned (.bool true) ∧ Fr no w w' := by
  have ht : xs.length + 9 ≤ 9223372036854775807 := by have := hx.top; simp only [maxLen] at this; omega
  have hx1 := hx.take (show xs.length ≤ xs.length + 9 by omega) hx.top (fun e => by cases e)
  have hq : ∀ W, Fr no w W → ∀ i, xs.length ≤ i → i < xs.length + 9 → W.cell? ⟨g, i * 2, none⟩ = some (.int .i64 777) ∧ W.cell? ⟨g, i * 2 + 1, none⟩ = some (.int .i64 7) := by
    intro W F i h1 h2
    obtain ⟨g', o', e, k⟩ := hx.cells (by simp)
    obtain ⟨rfl, rfl⟩ : g = g' ∧ 0 = o' := by simpa using e
    have hi : i < (xs ++ List.replicate 9 ((777, 7) : LineD)).length := by simp; omega
    have hv : (xs ++ List.replicate 9 ((777, 7) : LineD))[i] = (777, 7) := by rw [List.getElem_append_right h1, List.getElem_replicate]
    have k0 := k i hi 0 (by decide)
    have k1 := k i hi 1 (by decide)
    rw [hv] at k0 k1
    have hb := World.block_lt_of_cell? w _ k0
    simp only [Nat.zero_add, Nat.add_zero, fLine] at k0 k1
    exact ⟨by rw [World.cell?_of_block (w := w) (F.block g hb (fun e => e))]; exact k0, by rw [World.cell?_of_block (w := w) (F.block g hb (fun e => e))]; exact k1⟩
  have HQ := hide hq
  have H := hide h
  have H1 := hide hx1
  clear h hq hx hx1
  go_enter Tryz.func16, Tryz.ntmps16
  go_wp2_with fail
  refine (eq_lines _ _ _ _ xs _ H1.out H.out).mono ?_
  rintro e W1 ⟨rfl, F1⟩
  go_wp2_with fail
  go_loopw [6] (fun i wr => ∃ m : Nat, i = .int .i64 m ∧ xs.length ≤ m ∧ m ≤ xs.length + 9 ∧ wr = W1) (fun i _ => xs.length + 9 - (intOf i).toNat)
  case atStart => exact ⟨xs.length, rfl, Nat.le_refl _, by omega, rfl⟩
  case round =>
    obtain ⟨m, rfl, hm0, hm, rfl⟩ := hrel
    by_cases hlt : m < xs.length + 9
    · obtain ⟨a0, a1⟩ := HQ.out _ F1 m hm0 hlt
      go_wp2_with fail
      exact ⟨⟨m + 1, by simp, by omega, hlt, trivial⟩, by simp [intOf]; omega⟩
    · go_wp2_with fail
      go_ret
      exact ⟨rfl, F1⟩
set_option maxRecDepth 100000 in
set_option maxHeartbeats 1000000 in
theorem back_guards (A : Option Addr) (g c : Nat) (xs : List GuardD) (w : World) (hx : Sl fGuard w (some ⟨g, 0, none⟩) (xs.length + 9) (xs ++ List.replicate 9 (777, 0, 0))) (h : Sl fGuard w A c xs) :
    Calls Tryz.prog 98 #[.slice (some ⟨g, 0, none⟩) xs.length (xs.length + 9), .slice A xs.length c] w fun e w' => e = .returned (.bool true) ∧ Fr no w w' := by
  have ht : xs.length + 9 ≤ 9223372036854775807 := by have := hx.top; simp only [maxLen] at this; omega
  have hx1 := hx.take (show xs.length ≤ xs.length + 9 by omega) hx.top (fun e => by cases e)
  have hq : ∀ W, Fr no w W → ∀ i, xs.length ≤ i → i < xs.length + 9 → W.cell? ⟨g, i * 3, none⟩ = some (.int .i64 777) ∧ W.cell? ⟨g, i * 3 + 1, none⟩ = some (.int .i64 0) ∧ W.cell? ⟨g, i * 3 + 2, none⟩ = some (.int .i64 0) := by
    intro W F i h1 h2
    obtain ⟨g', o', e, k⟩ := hx.cells (by simp)
    obtain ⟨rfl, rfl⟩ : g = g' ∧ 0 = o' := by simpa using e
    have hi : i < (xs ++ List.replicate 9 ((777, 0, 0) : GuardD)).length := by simp; omega
    have hv : (xs ++ List.replicate 9 ((777, 0, 0) : GuardD))[i] = (777, 0, 0) := by rw [List.getElem_append_right h1, List.getElem_replicate]
    have k0 := k i hi 0 (by decide)
    have k1 := k i hi 1 (by decide)
    have k2 := k i hi 2 (by decide)
    rw [hv] at k0 k1 k2
    have hb := World.block_lt_of_cell? w _ k0
    simp only [Nat.zero_add, Nat.add_zero, fGuard] at k0 k1 k2
    exact ⟨by rw [World.cell?_of_block (w := w) (F.block g hb (fun e => e))]; exact k0, by rw [World.cell?_of_block (w := w) (F.block g hb (fun e => e))]; exact k1, by rw [World.cell?_of_block (w := w) (F.block g hb (fun e => e))]; exact k2⟩
  have HQ := hide hq
  have H := hide h
  have H1 := hide hx1
  clear h hq hx hx1
  go_enter Tryz.func98, Tryz.ntmps98
  go_wp2_with fail
  refine (eq_guards _ _ _ _ xs _ H1.out H.out).mono ?_
  rintro e W1 ⟨rfl, F1⟩
  go_wp2_with fail
  go_loopw [6] (fun i wr => ∃ m : Nat, i = .int .i64 m ∧ xs.length ≤ m ∧ m ≤ xs.length + 9 ∧ wr = W1) (fun i _ => xs.length + 9 - (intOf i).toNat)
  case atStart => exact ⟨xs.length, rfl, Nat.le_refl _, by omega, rfl⟩
  case round =>
    obtain ⟨m, rfl, hm0, hm, rfl⟩ := hrel
    by_cases hlt : m < xs.length + 9
    · obtain ⟨a0, a1, a2⟩ := HQ.out _ F1 m hm0 hlt
      go_wp2_with fail
      exact ⟨⟨m + 1, by simp, by omega, hlt, trivial⟩, by simp [intOf]; omega⟩
    · go_wp2_with fail
      go_ret
      exact ⟨rfl, F1⟩
set_option maxRecDepth 100000 in
set_option maxHeartbeats 1000000 in
theorem back_sets (A : Option Addr) (g c : Nat) (xs : List SetD) (w : World) (hx : Sl fSet w (some ⟨g, 0, none⟩) (xs.length + 9) (xs ++ List.replicate 9 (777, 0, 0))) (h : Sl fSet w A c xs) :
    Calls Tryz.prog 99 #[.slice (some ⟨g, 0, none⟩) xs.length (xs.length + 9), .slice A xs.length c] w fun e w' => e = .returned (.bool true) ∧ Fr no w w' := by
  have ht : xs.length + 9 ≤ 9223372036854775807 := by have := hx.top; simp only [maxLen] at this; omega
  have hx1 := hx.take (show xs.length ≤ xs.length + 9 by omega) hx.top (fun e => by cases e)
  have hq : ∀ W, Fr no w W → ∀ i, xs.length ≤ i → i < xs.length + 9 → W.cell? ⟨g, i * 3, none⟩ = some (.int .i64 777) ∧ W.cell? ⟨g, i * 3 + 1, none⟩ = some (.int .i64 0) ∧ W.cell? ⟨g, i * 3 + 2, none⟩ = some (.int .i64 0) := by
    intro W F i h1 h2
    obtain ⟨g', o', e, k⟩ := hx.cells (by simp)
    obtain ⟨rfl, rfl⟩ : g = g' ∧ 0 = o' := by simpa using e
    have hi : i < (xs ++ List.replicate 9 ((777, 0, 0) : SetD)).length := by simp; omega
    have hv : (xs ++ List.replicate 9 ((777, 0, 0) : SetD))[i] = (777, 0, 0) := by rw [List.getElem_append_right h1, List.getElem_replicate]
    have k0 := k i hi 0 (by decide)
    have k1 := k i hi 1 (by decide)
    have k2 := k i hi 2 (by decide)
    rw [hv] at k0 k1 k2
    have hb := World.block_lt_of_cell? w _ k0
    simp only [Nat.zero_add, Nat.add_zero, fSet] at k0 k1 k2
    exact ⟨by rw [World.cell?_of_block (w := w) (F.block g hb (fun e => e))]; exact k0, by rw [World.cell?_of_block (w := w) (F.block g hb (fun e => e))]; exact k1, by rw [World.cell?_of_block (w := w) (F.block g hb (fun e => e))]; exact k2⟩
  have HQ := hide hq
  have H := hide h
  have H1 := hide hx1
  clear h hq hx hx1
  go_enter Tryz.func99, Tryz.ntmps99
  go_wp2_with fail
  refine (eq_sets _ _ _ _ xs _ H1.out H.out).mono ?_
  rintro e W1 ⟨rfl, F1⟩
  go_wp2_with fail
  go_loopw [6] (fun i wr => ∃ m : Nat, i = .int .i64 m ∧ xs.length ≤ m ∧ m ≤ xs.length + 9 ∧ wr = W1) (fun i _ => xs.length + 9 - (intOf i).toNat)
  case atStart => exact ⟨xs.length, rfl, Nat.le_refl _, by omega, rfl⟩
  case round =>
    obtain ⟨m, rfl, hm0, hm, rfl⟩ := hrel
    by_cases hlt : m < xs.length + 9
    · obtain ⟨a0, a1, a2⟩ := HQ.out _ F1 m hm0 hlt
      go_wp2_with fail
      exact ⟨⟨m + 1, by simp, by omega, hlt, trivial⟩, by simp [intOf]; omega⟩
    · go_wp2_with fail
      go_ret
      exact ⟨rfl, F1⟩
set_option maxRecDepth 100000 in
set_option maxHeartbeats 1000000 in
theorem back_rights (A : Option Addr) (g c : Nat) (xs : List RightD) (w : World) (hx : Sl fRight w (some ⟨g, 0, none⟩) (xs.length + 9) (xs ++ List.replicate 9 (777, 0, 0))) (h : Sl fRight w A c xs) :
    Calls Tryz.prog 160 #[.slice (some ⟨g, 0, none⟩) xs.length (xs.length + 9), .slice A xs.length c] w fun e w' => e = .returned (.bool true) ∧ Fr no w w' := by
  have ht : xs.length + 9 ≤ 9223372036854775807 := by have := hx.top; simp only [maxLen] at this; omega
  have hx1 := hx.take (show xs.length ≤ xs.length + 9 by omega) hx.top (fun e => by cases e)
  have hq : ∀ W, Fr no w W → ∀ i, xs.length ≤ i → i < xs.length + 9 → W.cell? ⟨g, i * 3, none⟩ = some (.int .i64 777) ∧ W.cell? ⟨g, i * 3 + 1, none⟩ = some (.int .i64 0) ∧ W.cell? ⟨g, i * 3 + 2, none⟩ = some (.int .i64 0) := by
    intro W F i h1 h2
    obtain ⟨g', o', e, k⟩ := hx.cells (by simp)
    obtain ⟨rfl, rfl⟩ : g = g' ∧ 0 = o' := by simpa using e
    have hi : i < (xs ++ List.replicate 9 ((777, 0, 0) : RightD)).length := by simp; omega
    have hv : (xs ++ List.replicate 9 ((777, 0, 0) : RightD))[i] = (777, 0, 0) := by rw [List.getElem_append_right h1, List.getElem_replicate]
    have k0 := k i hi 0 (by decide)
    have k1 := k i hi 1 (by decide)
    have k2 := k i hi 2 (by decide)
    rw [hv] at k0 k1 k2
    have hb := World.block_lt_of_cell? w _ k0
    simp only [Nat.zero_add, Nat.add_zero, fRight] at k0 k1 k2
    exact ⟨by rw [World.cell?_of_block (w := w) (F.block g hb (fun e => e))]; exact k0, by rw [World.cell?_of_block (w := w) (F.block g hb (fun e => e))]; exact k1, by rw [World.cell?_of_block (w := w) (F.block g hb (fun e => e))]; exact k2⟩
  have HQ := hide hq
  have H := hide h
  have H1 := hide hx1
  clear h hq hx hx1
  go_enter Tryz.func160, Tryz.ntmps160
  go_wp2_with fail
  refine (eq_rights _ _ _ _ xs _ H1.out H.out).mono ?_
  rintro e W1 ⟨rfl, F1⟩
  go_wp2_with fail
  go_loopw [6] (fun i wr => ∃ m : Nat, i = .int .i64 m ∧ xs.length ≤ m ∧ m ≤ xs.length + 9 ∧ wr = W1) (fun i _ => xs.length + 9 - (intOf i).toNat)
  case atStart => exact ⟨xs.length, rfl, Nat.le_refl _, by omega, rfl⟩
  case round =>
    obtain ⟨m, rfl, hm0, hm, rfl⟩ := hrel
    by_cases hlt : m < xs.length + 9
    · obtain ⟨a0, a1, a2⟩ := HQ.out _ F1 m hm0 hlt
      go_wp2_with fail
      exact ⟨⟨m + 1, by simp, by omega, hlt, trivial⟩, by simp [intOf]; omega⟩
    · go_wp2_with fail
      go_ret
      exact ⟨rfl, F1⟩
end Go.Proofs.YtmnajpkmglmipaaGreat

/- Contracts of tillref0's EqNumbers, EqPool, EqState at data that are alike. -/
namespace Go.Proofs.YtmnajpkmglmipaaGreat
open Go.RowKit

theorem fr_cell {W W' : World} (F : Fr no W W') {a : Addr} {v : Value} (h : W.cell? a = some v) : W'.cell? a = some v := by
  rw [World.cell?_of_block (w := W) (F.block _ (World.block_lt_of_cell? W _ h) (fun e => e))]; exact h
theorem pair_equal (x y z u : Int) (w : World) : (Op.equalIn 10000 141 (.agg #[.int .i64 x, .int .i64 y]) (.agg #[.int .i64 z, .int .i64 u])).run Tryz.prog w = .ok (x == z && y == u) w := by
  rw [show (10000 : Nat) = 9999 + 1 from rfl]
  unfold Op.equalIn
  cases h : (x == z) <;> cases h2 : (y == u) <;> go_simp
  all_goals simp only [List.range', List.forIn_cons, List.forIn_nil]
  all_goals go_simp
theorem pair_same (x y : Int) (w : World) : (Op.equalIn 10000 141 (.agg #[.int .i64 x, .int .i64 y]) (.agg #[.int .i64 x, .int .i64 y])).run Tryz.prog w = .ok true w := by
  rw [pair_equal]; simp
set_option maxRecDepth 100000 in
set_option maxHeartbeats 1000000 in
theorem eq_num (A A' : Option Addr) (c c' : Nat) (xs : List NumD) (w : World) (h : Sl fNum w A c xs) (h' : Sl fNum w A' c' xs) :
    Calls Tryz.prog 203 #[.slice A xs.length c, .slice A' xs.length c'] w fun e w' => e = .returned (.bool true) ∧ Fr no w w' := by
  have hl := h.le
  have hl' := h'.le
  have ht : xs.length ≤ 9223372036854775807 := by have := h.top; simp only [maxLen] at this; omega
  have H := hide h
  have H' := hide h'
  clear h h'
  go_enter Tryz.func203, Tryz.ntmps203
  go_wp2_with fail
  go_loopw [5] (fun i wr => ∃ m : Nat, i = .int .i64 m ∧ m ≤ xs.length ∧ ∃ n, wr = w.drewN n) (fun i _ => xs.length - (intOf i).toNat)
  case atStart => exact ⟨0, rfl, Nat.zero_le _, 0, rfl⟩
  case round =>
    obtain ⟨m, rfl, hm, n, rfl⟩ := hrel
    by_cases hlt : m < xs.length
    · obtain ⟨g, o, rfl, q⟩ := H.out.cells (List.length_pos_iff.1 (by omega))
      obtain ⟨g', o', rfl, q'⟩ := H'.out.cells (List.length_pos_iff.1 (by omega))
      have a0 : (w.drewN n).cell? ⟨g, o + m, none⟩ = some (.int .u64 xs[m]) := by simpa [fNum] using q m hlt 0 (by decide)
      have b0 : (w.drewN n).cell? ⟨g', o' + m, none⟩ = some (.int .u64 xs[m]) := by simpa [fNum] using q' m hlt 0 (by decide)
      have hi0 : (0 : Int) ≤ m := by omega
      have hi1 : (m : Int) < xs.length := by omega
      clear q q'
      go_wp2_with fail
      go_region_held3 (fun W' => W'.cell? ⟨g, o + m, none⟩ = some (.int .u64 xs[m]) ∧ W'.cell? ⟨g', o' + m, none⟩ = some (.int .u64 xs[m])) (first | exact ⟨a0, b0⟩ | assumption) (fail)
      go_wp2_with fail
      exact ⟨⟨m + 1, by simp, hlt, n + 1, rfl⟩, by simp [intOf]; omega⟩
    · go_wp2_with fail
      go_ret
      exact ⟨rfl, (Fr.refl no w).drewN _⟩
set_option maxRecDepth 100000 in
set_option maxHeartbeats 1000000 in
theorem eq_pool (v f0 f1 : Int) (A A' : Option Addr) (c c' : Nat) (xs : List HeldD) (w : World) (h : Sl fHeld w A c xs) (h' : Sl fHeld w A' c' xs) :
    Calls Tryz.prog 202 #[.agg #[.int .i64 v, .int .i64 f0, .int .i64 f1, .slice A xs.length c], .agg #[.int .i64 v, .int .i64 f0, .int .i64 f1, .slice A' xs.length c']] w fun e w' => e = .returned (.bool true) ∧ Fr no w w' := by
  have hl := h.le
  have hl' := h'.le
  have ht : xs.length ≤ 9223372036854775807 := by have := h.top; simp only [maxLen] at this; omega
  have H := hide h
  have H' := hide h'
  clear h h'
  have he := pair_same f0 f1
  go_enter Tryz.func202, Tryz.ntmps202
  go_wp2_with fail
  obtain ⟨W0, hW0⟩ : ∃ W0, ((w.alloc (.cells #[.int .i64 v, .int .i64 f0, .int .i64 f1, .slice A xs.length c] 144)).alloc (.cells #[.int .i64 v, .int .i64 f0, .int .i64 f1, .slice A' xs.length c'] 144)) = W0 := ⟨_, rfl⟩
  have F0 : Fr no w W0 := by rw [← hW0]; exact ((Fr.refl no w).alloc _).alloc _
  have B0 : Blk W0 w.heap.size 144 #[.int .i64 v, .int .i64 f0, .int .i64 f1, .slice A xs.length c] := by rw [← hW0]; exact (Blk.new w _ _).alloc _
  have B1 : Blk W0 (w.heap.size + 1) 144 #[.int .i64 v, .int .i64 f0, .int .i64 f1, .slice A' xs.length c'] := by rw [← hW0]; exact blk_at _ _ _ _ (by simp)
  have b0 : ∀ p : FrBy W0, p.w.cell? ⟨w.heap.size, 3, none⟩ = some (.slice A xs.length c) := fun p => (B0.kept0 p.fr).cell 3
  have b1 : ∀ p : FrBy W0, p.w.cell? ⟨w.heap.size + 1, 3, none⟩ = some (.slice A' xs.length c') := fun p => (B1.kept0 p.fr).cell 3
  have HF0 := hide F0
  obtain ⟨p0, hp0⟩ : ∃ p : FrBy W0, p.w = W0 := ⟨⟨W0, Fr.refl _ _⟩, rfl⟩
  rw [hW0, ← hp0]
  clear hW0 hp0 B0 B1 F0
  go_loopw [5] (fun i wr => ∃ m : Nat, i = .int .i64 m ∧ m ≤ xs.length ∧ ∃ p : FrBy W0, wr = p.w) (fun i _ => xs.length - (intOf i).toNat)
  case atStart => exact ⟨0, rfl, Nat.zero_le _, p0, rfl⟩
  case round =>
    clear p0
    obtain ⟨m, rfl, hm, p, rfl⟩ := hrel
    by_cases hlt : m < xs.length
    · obtain ⟨g, o, rfl, q⟩ := H.out.cells (List.length_pos_iff.1 (by omega))
      obtain ⟨g', o', rfl, q'⟩ := H'.out.cells (List.length_pos_iff.1 (by omega))
      have a0 : ∀ p : FrBy W0, p.w.cell? ⟨g, o + m * 2, none⟩ = some (.int .i64 xs[m].1) := fun p => fr_cell (HF0.out.trans p.fr) (q m hlt 0 (by decide))
      have a1 : ∀ p : FrBy W0, p.w.cell? ⟨g, o + m * 2 + 1, none⟩ = some (.int .i64 xs[m].2) := fun p => fr_cell (HF0.out.trans p.fr) (q m hlt 1 (by decide))
      have a2 : ∀ p : FrBy W0, p.w.cell? ⟨g', o' + m * 2, none⟩ = some (.int .i64 xs[m].1) := fun p => fr_cell (HF0.out.trans p.fr) (q' m hlt 0 (by decide))
      have a3 : ∀ p : FrBy W0, p.w.cell? ⟨g', o' + m * 2 + 1, none⟩ = some (.int .i64 xs[m].2) := fun p => fr_cell (HF0.out.trans p.fr) (q' m hlt 1 (by decide))
      have hi0 : (0 : Int) ≤ m := by omega
      have hi1 : (m : Int) < xs.length := by omega
      have he := pair_same xs[m].1 xs[m].2
      clear q q'
      go_wp2_with fail
      (refine wp_region_fr W0 (by kernel_rfl) (by kernel_rfl) p.fr ?_; (repeat (quiet_step (fail))); refine wpQuiet_nil ?_; intro wz hw'; obtain ⟨p, rfl⟩ := hw')
      go_wp2_with fail
      exact ⟨⟨m + 1, by simp, hlt, p, rfl⟩, by simp [intOf]; omega⟩
    · go_wp2_with fail
      go_ret
      exact ⟨rfl, HF0.out.trans p.fr⟩
/-- A pool's cells, in every world behind. -/
theorem pool_facts {W0 : World} {A : Option Addr} {c : Nat} {ps : List PoolD} (h : kPool.Row W0 A c ps) (i : Nat) (hi : i < ps.length) : ∃ g o, A = some ⟨g, o, none⟩ ∧ (∀ p : FrBy W0, p.w.cell? ⟨g, o + i * 4, none⟩ = some (.int .i64 ps[i].1)) ∧
    (∀ p : FrBy W0, p.w.cell? ⟨g, o + i * 4 + 1, none⟩ = some (.int .i64 ps[i].2.1.1)) ∧ (∀ p : FrBy W0, p.w.cell? ⟨g, o + i * 4 + 2, none⟩ = some (.int .i64 ps[i].2.1.2)) ∧ ∃ hA hc, (∀ p : FrBy W0, p.w.cell? ⟨g, o + i * 4 + 3, none⟩ = some (.slice hA ps[i].2.2.length hc)) ∧ ∀ p : FrBy W0, Sl fHeld p.w hA hc ps[i].2.2 := by
  obtain ⟨g, o, e, a0, a1, a2, hA, hc, a3, hr⟩ := pool_cells h i hi
  exact ⟨g, o, e, fun p => fr_cell p.fr a0, fun p => fr_cell p.fr a1, fun p => fr_cell p.fr a2, hA, hc, fun p => fr_cell p.fr a3, fun p => .of_row rHeld (hr.keep p.fr)⟩
theorem Row.le_top {α : Type} {d : Kd α} {w : World} {A : Option Addr} {c : Nat} {xs : List α} (h : d.Row w A c xs) : xs.length ≤ c ∧ xs.length ≤ 9223372036854775807 := ⟨h.1, by have := h.1; have := h.2.1; simp only [maxLen] at this; omega⟩
theorem Sl.le_top {α : Type} {f : Flat α} {w : World} {A : Option Addr} {c : Nat} {xs : List α} (h : Sl f w A c xs) : xs.length ≤ c ∧ xs.length ≤ 9223372036854775807 := ⟨h.le, by have := h.le; have := h.top; simp only [maxLen] at this; omega⟩
set_option maxRecDepth 100000 in
set_option maxHeartbeats 4000000 in
theorem eq_state (s t : StV) (d : StL) (w : World) (hq : t.q = s.q) (hs : StOk w s d) (ht : StOk w t d) :
    Calls Tryz.prog 155 #[.agg #[.int .u64 s.q, .slice s.P s.np s.cp, .slice s.R s.nr s.cr, .slice s.L s.nl s.cl, .slice s.G s.ng s.cg, .slice s.O s.no s.co], .agg #[.int .u64 t.q, .slice t.P t.np t.cp, .slice t.R t.nr t.cr, .slice t.L t.nl t.cl, .slice t.G t.ng t.cg, .slice t.O t.no t.co]] w fun e w' => e = .returned (.bool true) ∧ Fr no w w' := by
  rw [hs.np, hs.nr, hs.nl, hs.ng, hs.nw, ht.np, ht.nr, ht.nl, ht.ng, ht.nw, hq]
  have hsp := hs.pools
  have hsr := hs.prices
  have hso := hs.owed
  have htp := ht.pools
  have htr := ht.prices
  have hto := ht.owed
  generalize s.P = sP at *
  generalize s.R = sR at *
  generalize s.O = sO at *
  generalize t.P = tP at *
  generalize t.R = tR at *
  generalize t.O = tO at *
  have lp := Row.le_top hsp
  have lv := Sl.le_top hsr
  have lo := Sl.le_top hso
  have lp' := Row.le_top htp
  have lv' := Sl.le_top htr
  have lo' := Sl.le_top hto
  have HL := hide (And.intro hs.lasts ht.lasts)
  have HG := hide (And.intro hs.gens ht.gens)
  have HP := hide (And.intro hsp htp)
  have HR := hide (And.intro hsr htr)
  have HO := hide (And.intro hso hto)
  clear hs ht hq hsp htp hsr htr hso hto
  go_enter Tryz.func155, Tryz.ntmps155
  go_wp2_with fail
  obtain ⟨W0, hW0⟩ : ∃ W0, ((w.alloc (.cells #[.int .u64 s.q, .slice sP d.ps.length s.cp, .slice sR d.vs.length s.cr, .slice s.L d.ls.length s.cl, .slice s.G d.gs.length s.cg, .slice sO d.os.length s.co] 77)).alloc (.cells #[.int .u64 s.q, .slice tP d.ps.length t.cp, .slice tR d.vs.length t.cr, .slice t.L d.ls.length t.cl, .slice t.G d.gs.length t.cg, .slice tO d.os.length t.co] 77)) = W0 := ⟨_, rfl⟩
  have F0 : Fr no w W0 := by rw [← hW0]; exact ((Fr.refl no w).alloc _).alloc _
  have B0 : Blk W0 w.heap.size 77 #[.int .u64 s.q, .slice sP d.ps.length s.cp, .slice sR d.vs.length s.cr, .slice s.L d.ls.length s.cl, .slice s.G d.gs.length s.cg, .slice sO d.os.length s.co] := by rw [← hW0]; exact (Blk.new w _ _).alloc _
  have B1 : Blk W0 (w.heap.size + 1) 77 #[.int .u64 s.q, .slice tP d.ps.length t.cp, .slice tR d.vs.length t.cr, .slice t.L d.ls.length t.cl, .slice t.G d.gs.length t.cg, .slice tO d.os.length t.co] := by rw [← hW0]; exact blk_at _ _ _ _ (by simp)
  have b1 : ∀ p : FrBy W0, p.w.cell? ⟨w.heap.size, 1, none⟩ = some (.slice sP d.ps.length s.cp) := fun p => (B0.kept0 p.fr).cell 1
  have b2 : ∀ p : FrBy W0, p.w.cell? ⟨w.heap.size, 2, none⟩ = some (.slice sR d.vs.length s.cr) := fun p => (B0.kept0 p.fr).cell 2
  have b3 : ∀ p : FrBy W0, p.w.cell? ⟨w.heap.size, 3, none⟩ = some (.slice s.L d.ls.length s.cl) := fun p => (B0.kept0 p.fr).cell 3
  have b4 : ∀ p : FrBy W0, p.w.cell? ⟨w.heap.size, 4, none⟩ = some (.slice s.G d.gs.length s.cg) := fun p => (B0.kept0 p.fr).cell 4
  have b5 : ∀ p : FrBy W0, p.w.cell? ⟨w.heap.size, 5, none⟩ = some (.slice sO d.os.length s.co) := fun p => (B0.kept0 p.fr).cell 5
  have c1 : ∀ p : FrBy W0, p.w.cell? ⟨w.heap.size + 1, 1, none⟩ = some (.slice tP d.ps.length t.cp) := fun p => (B1.kept0 p.fr).cell 1
  have c2 : ∀ p : FrBy W0, p.w.cell? ⟨w.heap.size + 1, 2, none⟩ = some (.slice tR d.vs.length t.cr) := fun p => (B1.kept0 p.fr).cell 2
  have c3 : ∀ p : FrBy W0, p.w.cell? ⟨w.heap.size + 1, 3, none⟩ = some (.slice t.L d.ls.length t.cl) := fun p => (B1.kept0 p.fr).cell 3
  have c4 : ∀ p : FrBy W0, p.w.cell? ⟨w.heap.size + 1, 4, none⟩ = some (.slice t.G d.gs.length t.cg) := fun p => (B1.kept0 p.fr).cell 4
  have c5 : ∀ p : FrBy W0, p.w.cell? ⟨w.heap.size + 1, 5, none⟩ = some (.slice tO d.os.length t.co) := fun p => (B1.kept0 p.fr).cell 5
  have HF0 := hide F0
  have Cn1 : Hid (∀ p : FrBy W0, Calls Tryz.prog 203 #[.slice s.L d.ls.length s.cl, .slice t.L d.ls.length t.cl] p.w fun e w' => e = .returned (.bool true) ∧ ∃ q : FrBy W0, w' = q.w) := hide (fun p => calls_fr (eq_num _ _ _ _ _ _ (HL.out.1.below (HF0.out.trans p.fr).below) (HL.out.2.below (HF0.out.trans p.fr).below)))
  have Cn2 : Hid (∀ p : FrBy W0, Calls Tryz.prog 203 #[.slice s.G d.gs.length s.cg, .slice t.G d.gs.length t.cg] p.w fun e w' => e = .returned (.bool true) ∧ ∃ q : FrBy W0, w' = q.w) := hide (fun p => calls_fr (eq_num _ _ _ _ _ _ (HG.out.1.below (HF0.out.trans p.fr).below) (HG.out.2.below (HF0.out.trans p.fr).below)))
  obtain ⟨p0, hp0⟩ : ∃ p : FrBy W0, p.w = W0 := ⟨⟨W0, Fr.refl _ _⟩, rfl⟩
  rw [hW0, ← hp0]
  clear hW0 hp0 B0 B1 F0
  go_loopw [5] (fun i wr => ∃ m : Nat, i = .int .i64 m ∧ m ≤ d.ps.length ∧ ∃ p : FrBy W0, wr = p.w) (fun i _ => d.ps.length - (intOf i).toNat)
  case atStart => exact ⟨0, rfl, Nat.zero_le _, p0, rfl⟩
  case round =>
    clear p0
    obtain ⟨m, rfl, hm, p, rfl⟩ := hrel
    by_cases hlt : m < d.ps.length
    · obtain ⟨g, o, rfl, a0, a1, a2, hA, hc, a3, hR⟩ := pool_facts (HP.out.1.keep HF0.out) m hlt
      obtain ⟨g', o', rfl, a0', a1', a2', hA', hc', a3', hR'⟩ := pool_facts (HP.out.2.keep HF0.out) m hlt
      have hi0 : (0 : Int) ≤ m := by omega
      have hi1 : (m : Int) < d.ps.length := by omega
      have CP : Hid (∀ p : FrBy W0, Calls Tryz.prog 202 #[.agg #[.int .i64 d.ps[m].1, .int .i64 d.ps[m].2.1.1, .int .i64 d.ps[m].2.1.2, .slice hA d.ps[m].2.2.length hc], .agg #[.int .i64 d.ps[m].1, .int .i64 d.ps[m].2.1.1, .int .i64 d.ps[m].2.1.2, .slice hA' d.ps[m].2.2.length hc']] p.w fun e w' => e = .returned (.bool true) ∧ ∃ q : FrBy W0, w' = q.w) := hide (fun p => calls_fr (eq_pool _ _ _ _ _ _ _ _ _ (hR p) (hR' p)))
      clear hR hR'
      go_wp2_with fail
      (refine wp_region_fr W0 (by kernel_rfl) (by kernel_rfl) p.fr ?_; (repeat (quiet_step (exact CP.out _))); refine wpQuiet_nil ?_; intro wz hw'; obtain ⟨p, rfl⟩ := hw')
      go_wp2_with fail
      exact ⟨⟨m + 1, by simp, hlt, p, rfl⟩, by simp [intOf]; omega⟩
    · obtain rfl : m = d.ps.length := by omega
      go_wp2_with fail
      go_loopw [6] (fun i wr => ∃ m : Nat, i = .int .i64 m ∧ m ≤ d.vs.length ∧ ∃ p : FrBy W0, wr = p.w) (fun i _ => d.vs.length - (intOf i).toNat)
      case atStart => exact ⟨0, rfl, Nat.zero_le _, p, rfl⟩
      case round =>
        clear p
        obtain ⟨m, rfl, hm, p, rfl⟩ := hrel
        by_cases hlt : m < d.vs.length
        · obtain ⟨g, o, rfl, q⟩ := HR.out.1.cells (List.length_pos_iff.1 (by omega))
          obtain ⟨g', o', rfl, q'⟩ := HR.out.2.cells (List.length_pos_iff.1 (by omega))
          have a0 : ∀ p : FrBy W0, p.w.cell? ⟨g, o + m * 2, none⟩ = some (.int .i64 d.vs[m].1) := fun p => fr_cell (HF0.out.trans p.fr) (q m hlt 0 (by decide))
          have a1 : ∀ p : FrBy W0, p.w.cell? ⟨g, o + m * 2 + 1, none⟩ = some (.int .i64 d.vs[m].2) := fun p => fr_cell (HF0.out.trans p.fr) (q m hlt 1 (by decide))
          have a2 : ∀ p : FrBy W0, p.w.cell? ⟨g', o' + m * 2, none⟩ = some (.int .i64 d.vs[m].1) := fun p => fr_cell (HF0.out.trans p.fr) (q' m hlt 0 (by decide))
          have a3 : ∀ p : FrBy W0, p.w.cell? ⟨g', o' + m * 2 + 1, none⟩ = some (.int .i64 d.vs[m].2) := fun p => fr_cell (HF0.out.trans p.fr) (q' m hlt 1 (by decide))
          have hi0 : (0 : Int) ≤ m := by omega
          have hi1 : (m : Int) < d.vs.length := by omega
          clear q q'
          go_wp2_with fail
          (refine wp_region_fr W0 (by kernel_rfl) (by kernel_rfl) p.fr ?_; (repeat (quiet_step (fail))); refine wpQuiet_nil ?_; intro wz hw'; obtain ⟨p, rfl⟩ := hw')
          go_wp2_with fail
          exact ⟨⟨m + 1, by simp, hlt, p, rfl⟩, by simp [intOf]; omega⟩
        · obtain rfl : m = d.vs.length := by omega
          go_wp2_with fail
          go_loopw [7] (fun i wr => ∃ m : Nat, i = .int .i64 m ∧ m ≤ d.os.length ∧ ∃ p : FrBy W0, wr = p.w) (fun i _ => d.os.length - (intOf i).toNat)
          case atStart => exact ⟨0, rfl, Nat.zero_le _, p, rfl⟩
          case round =>
            clear p
            obtain ⟨m, rfl, hm, p, rfl⟩ := hrel
            by_cases hlt : m < d.os.length
            · obtain ⟨g, o, rfl, q⟩ := HO.out.1.cells (List.length_pos_iff.1 (by omega))
              obtain ⟨g', o', rfl, q'⟩ := HO.out.2.cells (List.length_pos_iff.1 (by omega))
              have a0 : ∀ p : FrBy W0, p.w.cell? ⟨g, o + m, none⟩ = some (.bool d.os[m]) := fun p => fr_cell (HF0.out.trans p.fr) (by simpa [fOwe] using q m hlt 0 (by decide))
              have a1 : ∀ p : FrBy W0, p.w.cell? ⟨g', o' + m, none⟩ = some (.bool d.os[m]) := fun p => fr_cell (HF0.out.trans p.fr) (by simpa [fOwe] using q' m hlt 0 (by decide))
              have hi0 : (0 : Int) ≤ m := by omega
              have hi1 : (m : Int) < d.os.length := by omega
              clear q q'
              go_wp2_with fail
              (refine wp_region_fr W0 (by kernel_rfl) (by kernel_rfl) p.fr ?_; (repeat (quiet_step (fail))); refine wpQuiet_nil ?_; intro wz hw'; obtain ⟨p, rfl⟩ := hw')
              go_wp2_with fail
              exact ⟨⟨m + 1, by simp, hlt, p, rfl⟩, by simp [intOf]; omega⟩
            · obtain rfl : m = d.os.length := by omega
              go_wp2_with fail
              refine (Cn1.out _).mono ?_
              rintro e w1 ⟨rfl, p, rfl⟩
              go_wp2_with fail
              refine (Cn2.out _).mono ?_
              rintro e w1 ⟨rfl, p, rfl⟩
              go_wp2_with fail
              go_ret
              exact ⟨rfl, HF0.out.trans p.fr⟩
end Go.Proofs.YtmnajpkmglmipaaGreat
