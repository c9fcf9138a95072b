/- Contracts of package tilllaw1's Back.. and Over.. of flat lists. -/
import Derived.Test.YtmnajpkmglmipaaEq
namespace Go.Proofs.Ytmnajpkmglmipaa
open Go.RowKit

theorem Sl.take {α : Type} {f : Flat α} {w : World} {A : Option Addr} {c c' : Nat} {xs ys : List α} (h : Sl f w A c (xs ++ ys)) (hc : xs.length ≤ c') (hc' : c' ≤ maxLen) (hA : A = Option.none → c' = 0) : Sl f w A c' xs :=
  ⟨hc, hc', fun hn => by
    obtain ⟨g, o, e, k⟩ := h.cells (by simp [hn])
    refine ⟨g, o, e, fun i hi r hr => ?_⟩
    have := k i (by simp; omega) r hr
    rw [List.getElem_append_left hi] at this
    exact this, hA⟩
set_option maxRecDepth 100000 in
set_option maxHeartbeats 1000000 in
theorem back_lines (A : Option Addr) (g c : Nat) (xs : List LineD) (w : World) (hx : Sl fLine w (some ⟨g, 0, none⟩) (xs.length + 9) (xs ++ List.replicate 9 (777, 7))) (h : Sl fLine w A c xs) :
    Calls Try.prog 40 #[.slice (some ⟨g, 0, none⟩) xs.length (xs.length + 9), .slice A xs.length c] w fun e w' => e = .returned (.bool true) ∧ Fr no w w' := by
  have ht : xs.length + 9 ≤ 9223372036854775807 := by have := hx.top; simp only [maxLen] at this; omega
  have hx1 := hx.take (show xs.length ≤ xs.length + 9 by omega) hx.top (fun e => by cases e)
  have hq : ∀ W, Fr no w W → ∀ i, xs.length ≤ i → i < xs.length + 9 → W.cell? ⟨g, i * 2, none⟩ = some (.int .i64 777) ∧ W.cell? ⟨g, i * 2 + 1, none⟩ = some (.int .i64 7) := by
    intro W F i h1 h2
    obtain ⟨g', o', e, k⟩ := hx.cells (by simp)
    obtain ⟨rfl, rfl⟩ : g = g' ∧ 0 = o' := by simpa using e
    have hi : i < (xs ++ List.replicate 9 ((777, 7) : LineD)).length := by simp; omega
    have hv : (xs ++ List.replicate 9 ((777, 7) : LineD))[i] = (777, 7) := by rw [List.getElem_append_right h1, List.getElem_replicate]
    have k0 := k i hi 0 (by decide)
    have k1 := k i hi 1 (by decide)
    rw [hv] at k0 k1
    have hb := World.block_lt_of_cell? w _ k0
    simp only [Nat.zero_add, Nat.add_zero, fLine] at k0 k1
    exact ⟨by rw [World.cell?_of_block (w := w) (F.block g hb (fun e => e))]; exact k0, by rw [World.cell?_of_block (w := w) (F.block g hb (fun e => e))]; exact k1⟩
  have HQ := hide hq
  have H := hide h
  have H1 := hide hx1
  clear h hq hx hx1
  go_enter Try.func40, Try.ntmps40
  go_wp2_with fail
  refine (eq_lines _ _ _ _ xs _ H1.out H.out).mono ?_
  rintro e W1 ⟨rfl, F1⟩
  go_wp2_with fail
  go_loopw [6] (fun i wr => ∃ m : Nat, i = .int .i64 m ∧ xs.length ≤ m ∧ m ≤ xs.length + 9 ∧ wr = W1) (fun i _ => xs.length + 9 - (intOf i).toNat)
  case atStart => exact ⟨xs.length, rfl, Nat.le_refl _, by omega, rfl⟩
  case round =>
    obtain ⟨m, rfl, hm0, hm, rfl⟩ := hrel
    by_cases hlt : m < xs.length + 9
    · obtain ⟨a0, a1⟩ := HQ.out _ F1 m hm0 hlt
      go_wp2_with fail
      exact ⟨⟨m + 1, by simp, by omega, hlt, trivial⟩, by simp [intOf]; omega⟩
    · go_wp2_with fail
      go_ret
      exact ⟨rfl, F1⟩
set_option maxRecDepth 100000 in
set_option maxHeartbeats 1000000 in
theorem back_guards (A : Option Addr) (g c : Nat) (xs : List GuardD) (w : World) (hx : Sl fGuard w (some ⟨g, 0, none⟩) (xs.length + 9) (xs ++ List.replicate 9 (777, 0, 0))) (h : Sl fGuard w A c xs) :
    Calls Try.prog 41 #[.slice (some ⟨g, 0, none⟩) xs.length (xs.length + 9), .slice A xs.length c] w fun e w' => e = .returned (.bool true) ∧ Fr no w w' := by
  have ht : xs.length + 9 ≤ 9223372036854775807 := by have := hx.top; simp only [maxLen] at this; omega
  have hx1 := hx.take (show xs.length ≤ xs.length + 9 by omega) hx.top (fun e => by cases e)
  have hq : ∀ W, Fr no w W → ∀ i, xs.length ≤ i → i < xs.length + 9 → W.cell? ⟨g, i * 3, none⟩ = some (.int .i64 777) ∧ W.cell? ⟨g, i * 3 + 1, none⟩ = some (.int .i64 0) ∧ W.cell? ⟨g, i * 3 + 2, none⟩ = some (.int .i64 0) := by
    intro W F i h1 h2
    obtain ⟨g', o', e, k⟩ := hx.cells (by simp)
    obtain ⟨rfl, rfl⟩ : g = g' ∧ 0 = o' := by simpa using e
    have hi : i < (xs ++ List.replicate 9 ((777, 0, 0) : GuardD)).length := by simp; omega
    have hv : (xs ++ List.replicate 9 ((777, 0, 0) : GuardD))[i] = (777, 0, 0) := by rw [List.getElem_append_right h1, List.getElem_replicate]
    have k0 := k i hi 0 (by decide)
    have k1 := k i hi 1 (by decide)
    have k2 := k i hi 2 (by decide)
    rw [hv] at k0 k1 k2
    have hb := World.block_lt_of_cell? w _ k0
    simp only [Nat.zero_add, Nat.add_zero, fGuard] at k0 k1 k2
    exact ⟨by rw [World.cell?_of_block (w := w) (F.block g hb (fun e => e))]; exact k0, by rw [World.cell?_of_block (w := w) (F.block g hb (fun e => e))]; exact k1, by rw [World.cell?_of_block (w := w) (F.block g hb (fun e => e))]; exact k2⟩
  have HQ := hide hq
  have H := hide h
  have H1 := hide hx1
  clear h hq hx hx1
  go_enter Try.func41, Try.ntmps41
  go_wp2_with fail
  refine (eq_guards _ _ _ _ xs _ H1.out H.out).mono ?_
  rintro e W1 ⟨rfl, F1⟩
  go_wp2_with fail
  go_loopw [6] (fun i wr => ∃ m : Nat, i = .int .i64 m ∧ xs.length ≤ m ∧ m ≤ xs.length + 9 ∧ wr = W1) (fun i _ => xs.length + 9 - (intOf i).toNat)
  case atStart => exact ⟨xs.length, rfl, Nat.le_refl _, by omega, rfl⟩
  case round =>
    obtain ⟨m, rfl, hm0, hm, rfl⟩ := hrel
    by_cases hlt : m < xs.length + 9
    · obtain ⟨a0, a1, a2⟩ := HQ.out _ F1 m hm0 hlt
      go_wp2_with fail
      exact ⟨⟨m + 1, by simp, by omega, hlt, trivial⟩, by simp [intOf]; omega⟩
    · go_wp2_with fail
      go_ret
      exact ⟨rfl, F1⟩
set_option maxRecDepth 100000 in
set_option maxHeartbeats 1000000 in
theorem back_sets (A : Option Addr) (g c : Nat) (xs : List SetD) (w : World) (hx : Sl fSet w (some ⟨g, 0, none⟩) (xs.length + 9) (xs ++ List.replicate 9 (777, 0, 0))) (h : Sl fSet w A c xs) :
    Calls Try.prog 42 #[.slice (some ⟨g, 0, none⟩) xs.length (xs.length + 9), .slice A xs.length c] w fun e w' => e = .returned (.bool true) ∧ Fr no w w' := by
  have ht : xs.length + 9 ≤ 9223372036854775807 := by have := hx.top; simp only [maxLen] at this; omega
  have hx1 := hx.take (show xs.length ≤ xs.length + 9 by omega) hx.top (fun e => by cases e)
  have hq : ∀ W, Fr no w W → ∀ i, xs.length ≤ i → i < xs.length + 9 → W.cell? ⟨g, i * 3, none⟩ = some (.int .i64 777) ∧ W.cell? ⟨g, i * 3 + 1, none⟩ = some (.int .i64 0) ∧ W.cell? ⟨g, i * 3 + 2, none⟩ = some (.int .i64 0) := by
    intro W F i h1 h2
    obtain ⟨g', o', e, k⟩ := hx.cells (by simp)
    obtain ⟨rfl, rfl⟩ : g = g' ∧ 0 = o' := by simpa using e
    have hi : i < (xs ++ List.replicate 9 ((777, 0, 0) : SetD)).length := by simp; omega
    have hv : (xs ++ List.replicate 9 ((777, 0, 0) : SetD))[i] = (777, 0, 0) := by rw [List.getElem_append_right h1, List.getElem_replicate]
    have k0 := k i hi 0 (by decide)
    have k1 := k i hi 1 (by decide)
    have k2 := k i hi 2 (by decide)
    rw [hv] at k0 k1 k2
    have hb := World.block_lt_of_cell? w _ k0
    simp only [Nat.zero_add, Nat.add_zero, fSet] at k0 k1 k2
    exact ⟨by rw [World.cell?_of_block (w := w) (F.block g hb (fun e => e))]; exact k0, by rw [World.cell?_of_block (w := w) (F.block g hb (fun e => e))]; exact k1, by rw [World.cell?_of_block (w := w) (F.block g hb (fun e => e))]; exact k2⟩
  have HQ := hide hq
  have H := hide h
  have H1 := hide hx1
  clear h hq hx hx1
  go_enter Try.func42, Try.ntmps42
  go_wp2_with fail
  refine (eq_sets _ _ _ _ xs _ H1.out H.out).mono ?_
  rintro e W1 ⟨rfl, F1⟩
  go_wp2_with fail
  go_loopw [6] (fun i wr => ∃ m : Nat, i = .int .i64 m ∧ xs.length ≤ m ∧ m ≤ xs.length + 9 ∧ wr = W1) (fun i _ => xs.length + 9 - (intOf i).toNat)
  case atStart => exact ⟨xs.length, rfl, Nat.le_refl _, by omega, rfl⟩
  case round =>
    obtain ⟨m, rfl, hm0, hm, rfl⟩ := hrel
    by_cases hlt : m < xs.length + 9
    · obtain ⟨a0, a1, a2⟩ := HQ.out _ F1 m hm0 hlt
      go_wp2_with fail
      exact ⟨⟨m + 1, by simp, by omega, hlt, trivial⟩, by simp [intOf]; omega⟩
    · go_wp2_with fail
      go_ret
      exact ⟨rfl, F1⟩
set_option maxRecDepth 100000 in
set_option maxHeartbeats 1000000 in
theorem back_rights (A : Option Addr) (g c : Nat) (xs : List RightD) (w : World) (hx : Sl fRight w (some ⟨g, 0, none⟩) (xs.length + 9) (xs ++ List.replicate 9 (777, 0, 0))) (h : Sl fRight w A c xs) :
    Calls Try.prog 43 #[.slice (some ⟨g, 0, none⟩) xs.length (xs.length + 9), .slice A xs.length c] w fun e w' => e = .returned (.bool true) ∧ Fr no w w' := by
  have ht : xs.length + 9 ≤ 9223372036854775807 := by have := hx.top; simp only [maxLen] at this; omega
  have hx1 := hx.take (show xs.length ≤ xs.length + 9 by omega) hx.top (fun e => by cases e)
  have hq : ∀ W, Fr no w W → ∀ i, xs.length ≤ i → i < xs.length + 9 → W.cell? ⟨g, i * 3, none⟩ = some (.int .i64 777) ∧ W.cell? ⟨g, i * 3 + 1, none⟩ = some (.int .i64 0) ∧ W.cell? ⟨g, i * 3 + 2, none⟩ = some (.int .i64 0) := by
    intro W F i h1 h2
    obtain ⟨g', o', e, k⟩ := hx.cells (by simp)
    obtain ⟨rfl, rfl⟩ : g = g' ∧ 0 = o' := by simpa using e
    have hi : i < (xs ++ List.replicate 9 ((777, 0, 0) : RightD)).length := by simp; omega
    have hv : (xs ++ List.replicate 9 ((777, 0, 0) : RightD))[i] = (777, 0, 0) := by rw [List.getElem_append_right h1, List.getElem_replicate]
    have k0 := k i hi 0 (by decide)
    have k1 := k i hi 1 (by decide)
    have k2 := k i hi 2 (by decide)
    rw [hv] at k0 k1 k2
    have hb := World.block_lt_of_cell? w _ k0
    simp only [Nat.zero_add, Nat.add_zero, fRight] at k0 k1 k2
    exact ⟨by rw [World.cell?_of_block (w := w) (F.block g hb (fun e => e))]; exact k0, by rw [World.cell?_of_block (w := w) (F.block g hb (fun e => e))]; exact k1, by rw [World.cell?_of_block (w := w) (F.block g hb (fun e => e))]; exact k2⟩
  have HQ := hide hq
  have H := hide h
  have H1 := hide hx1
  clear h hq hx hx1
  go_enter Try.func43, Try.ntmps43
  go_wp2_with fail
  refine (eq_rights _ _ _ _ xs _ H1.out H.out).mono ?_
  rintro e W1 ⟨rfl, F1⟩
  go_wp2_with fail
  go_loopw [6] (fun i wr => ∃ m : Nat, i = .int .i64 m ∧ xs.length ≤ m ∧ m ≤ xs.length + 9 ∧ wr = W1) (fun i _ => xs.length + 9 - (intOf i).toNat)
  case atStart => exact ⟨xs.length, rfl, Nat.le_refl _, by omega, rfl⟩
  case round =>
    obtain ⟨m, rfl, hm0, hm, rfl⟩ := hrel
    by_cases hlt : m < xs.length + 9
    · obtain ⟨a0, a1, a2⟩ := HQ.out _ F1 m hm0 hlt
      go_wp2_with fail
      exact ⟨⟨m + 1, by simp, by omega, hlt, trivial⟩, by simp [intOf]; omega⟩
    · go_wp2_with fail
      go_ret
      exact ⟨rfl, F1⟩
end Go.Proofs.Ytmnajpkmglmipaa
