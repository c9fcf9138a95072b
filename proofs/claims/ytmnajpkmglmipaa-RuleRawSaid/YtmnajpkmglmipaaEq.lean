/- Contracts of tillref0's Eq.. at flat lists that are alike. -/
import Derived.Test.YtmnajpkmglmipaaLend
import Derived.Deep.QuietTactic
import Derived.BigQuiet
import Derived.Laws.StructEq
import Derived.Deep.RegionHeld3
namespace Go.Proofs.Ytmnajpkmglmipaa
open Go.RowKit

/-- A slice at A holds the elements xs. -/
structure Sl {α : Type} (f : Flat α) (w : World) (A : Option Addr) (c : Nat) (xs : List α) : Prop where
  le : xs.length ≤ c
  top : c ≤ maxLen
  cells : xs ≠ [] → ∃ g o, A = some ⟨g, o, none⟩ ∧ ∀ i (h : i < xs.length) (r : Nat), r < f.sz → w.cell? ⟨g, o + i * f.sz + r, none⟩ = (f.enc xs[i])[r]?
  none : A = none → c = 0
theorem Sl.of_row {α : Type} {f : Flat α} {d : Kd α} (R : f.Reads d) {w : World} {A : Option Addr} {c : Nat} {xs : List α} (h : d.Row w A c xs) : Sl f w A c xs :=
  ⟨h.1, h.2.1, fun hn => by
    obtain ⟨g, o, e, hat⟩ := h.2.2.1 hn
    refine ⟨g, o, e, fun i hi r hr => ?_⟩
    obtain ⟨cells, k1, k2⟩ := hat i hi
    have := k2 r (by rw [R.1]; exact hr)
    rw [R.1, R.2 _ _ _ k1] at this
    exact this, h.2.2.2⟩
theorem Sl.kept {α : Type} {f : Flat α} {w w' : World} {A : Option Addr} {c : Nat} {xs : List α} (h : Sl f w A c xs) (k : ∀ b, (∃ a, A = some a ∧ a.block = b) → w'.heap[b]? = w.heap[b]?) : Sl f w' A c xs :=
  ⟨h.le, h.top, fun hn => by
    obtain ⟨g, o, e, hc⟩ := h.cells hn
    exact ⟨g, o, e, fun i hi r hr => by rw [World.cell?_of_block (w := w) (k g ⟨_, e, rfl⟩)]; exact hc i hi r hr⟩, h.none⟩
set_option maxRecDepth 100000 in
set_option maxHeartbeats 1000000 in
theorem eq_lines (A A' : Option Addr) (c c' : Nat) (xs : List LineD) (w : World) (h : Sl fLine w A c xs) (h' : Sl fLine w A' c' xs) :
    Calls Try.prog 59 #[.slice A xs.length c, .slice A' xs.length c'] w fun e w' => e = .returned (.bool true) ∧ Fr no w w' := by
  have hl := h.le
  have hl' := h'.le
  have ht : xs.length ≤ 9223372036854775807 := by have := h.top; simp only [maxLen] at this; omega
  have H := hide h
  have H' := hide h'
  clear h h'
  go_enter Try.func59, Try.ntmps59
  go_wp2_with fail
  go_loopw [5] (fun i wr => ∃ m : Nat, i = .int .i64 m ∧ m ≤ xs.length ∧ ∃ n, wr = w.drewN n) (fun i _ => xs.length - (intOf i).toNat)
  case atStart => exact ⟨0, rfl, Nat.zero_le _, 0, rfl⟩
  case round =>
    obtain ⟨m, rfl, hm, n, rfl⟩ := hrel
    by_cases hlt : m < xs.length
    · obtain ⟨g, o, rfl, q⟩ := H.out.cells (List.length_pos_iff.1 (by omega))
      obtain ⟨g', o', rfl, q'⟩ := H'.out.cells (List.length_pos_iff.1 (by omega))
      have a0 : (w.drewN n).cell? ⟨g, o + m * 2, none⟩ = some (.int .i64 xs[m].1) := q m hlt 0 (by decide)
      have a1 : (w.drewN n).cell? ⟨g, o + m * 2 + 1, none⟩ = some (.int .i64 xs[m].2) := q m hlt 1 (by decide)
      have b0 : (w.drewN n).cell? ⟨g', o' + m * 2, none⟩ = some (.int .i64 xs[m].1) := q' m hlt 0 (by decide)
      have b1 : (w.drewN n).cell? ⟨g', o' + m * 2 + 1, none⟩ = some (.int .i64 xs[m].2) := q' m hlt 1 (by decide)
      have hi0 : (0 : Int) ≤ m := by omega
      have hi1 : (m : Int) < xs.length := by omega
      clear q q'
      go_wp2_with fail
      go_region_held3 (fun W' => W'.cell? ⟨g, o + m * 2, none⟩ = some (.int .i64 xs[m].1) ∧ W'.cell? ⟨g, o + m * 2 + 1, none⟩ = some (.int .i64 xs[m].2) ∧ W'.cell? ⟨g', o' + m * 2, none⟩ = some (.int .i64 xs[m].1) ∧ W'.cell? ⟨g', o' + m * 2 + 1, none⟩ = some (.int .i64 xs[m].2))
        (first | exact ⟨a0, a1, b0, b1⟩ | assumption)
        (fail)
      go_wp2_with fail
      exact ⟨⟨m + 1, by simp, hlt, n + 1, rfl⟩, by simp [intOf]; omega⟩
    · go_wp2_with fail
      go_ret
      exact ⟨rfl, (Fr.refl _ _).drewN _⟩
set_option maxRecDepth 100000 in
set_option maxHeartbeats 1000000 in
theorem eq_guards (A A' : Option Addr) (c c' : Nat) (xs : List GuardD) (w : World) (h : Sl fGuard w A c xs) (h' : Sl fGuard w A' c' xs) :
    Calls Try.prog 60 #[.slice A xs.length c, .slice A' xs.length c'] w fun e w' => e = .returned (.bool true) ∧ Fr no w w' := by
  have hl := h.le
  have hl' := h'.le
  have ht : xs.length ≤ 9223372036854775807 := by have := h.top; simp only [maxLen] at this; omega
  have H := hide h
  have H' := hide h'
  clear h h'
  go_enter Try.func60, Try.ntmps60
  go_wp2_with fail
  go_loopw [5] (fun i wr => ∃ m : Nat, i = .int .i64 m ∧ m ≤ xs.length ∧ ∃ n, wr = w.drewN n) (fun i _ => xs.length - (intOf i).toNat)
  case atStart => exact ⟨0, rfl, Nat.zero_le _, 0, rfl⟩
  case round =>
    obtain ⟨m, rfl, hm, n, rfl⟩ := hrel
    by_cases hlt : m < xs.length
    · obtain ⟨g, o, rfl, q⟩ := H.out.cells (List.length_pos_iff.1 (by omega))
      obtain ⟨g', o', rfl, q'⟩ := H'.out.cells (List.length_pos_iff.1 (by omega))
      have a0 : (w.drewN n).cell? ⟨g, o + m * 3, none⟩ = some (.int .i64 xs[m].1) := q m hlt 0 (by decide)
      have a1 : (w.drewN n).cell? ⟨g, o + m * 3 + 1, none⟩ = some (.int .i64 xs[m].2.1) := q m hlt 1 (by decide)
      have a2 : (w.drewN n).cell? ⟨g, o + m * 3 + 2, none⟩ = some (.int .i64 xs[m].2.2) := q m hlt 2 (by decide)
      have b0 : (w.drewN n).cell? ⟨g', o' + m * 3, none⟩ = some (.int .i64 xs[m].1) := q' m hlt 0 (by decide)
      have b1 : (w.drewN n).cell? ⟨g', o' + m * 3 + 1, none⟩ = some (.int .i64 xs[m].2.1) := q' m hlt 1 (by decide)
      have b2 : (w.drewN n).cell? ⟨g', o' + m * 3 + 2, none⟩ = some (.int .i64 xs[m].2.2) := q' m hlt 2 (by decide)
      have hi0 : (0 : Int) ≤ m := by omega
      have hi1 : (m : Int) < xs.length := by omega
      clear q q'
      go_wp2_with fail
      go_region_held3 (fun W' => W'.cell? ⟨g, o + m * 3, none⟩ = some (.int .i64 xs[m].1) ∧ W'.cell? ⟨g, o + m * 3 + 1, none⟩ = some (.int .i64 xs[m].2.1) ∧ W'.cell? ⟨g, o + m * 3 + 2, none⟩ = some (.int .i64 xs[m].2.2) ∧ W'.cell? ⟨g', o' + m * 3, none⟩ = some (.int .i64 xs[m].1) ∧ W'.cell? ⟨g', o' + m * 3 + 1, none⟩ = some (.int .i64 xs[m].2.1) ∧ W'.cell? ⟨g', o' + m * 3 + 2, none⟩ = some (.int .i64 xs[m].2.2))
        (first | exact ⟨a0, a1, a2, b0, b1, b2⟩ | assumption)
        (fail)
      go_wp2_with fail
      exact ⟨⟨m + 1, by simp, hlt, n + 1, rfl⟩, by simp [intOf]; omega⟩
    · go_wp2_with fail
      go_ret
      exact ⟨rfl, (Fr.refl _ _).drewN _⟩
set_option maxRecDepth 100000 in
set_option maxHeartbeats 1000000 in
theorem eq_sets (A A' : Option Addr) (c c' : Nat) (xs : List SetD) (w : World) (h : Sl fSet w A c xs) (h' : Sl fSet w A' c' xs) :
    Calls Try.prog 61 #[.slice A xs.length c, .slice A' xs.length c'] w fun e w' => e = .returned (.bool true) ∧ Fr no w w' := by
  have hl := h.le
  have hl' := h'.le
  have ht : xs.length ≤ 9223372036854775807 := by have := h.top; simp only [maxLen] at this; omega
  have H := hide h
  have H' := hide h'
  clear h h'
  go_enter Try.func61, Try.ntmps61
  go_wp2_with fail
  go_loopw [5] (fun i wr => ∃ m : Nat, i = .int .i64 m ∧ m ≤ xs.length ∧ ∃ n, wr = w.drewN n) (fun i _ => xs.length - (intOf i).toNat)
  case atStart => exact ⟨0, rfl, Nat.zero_le _, 0, rfl⟩
  case round =>
    obtain ⟨m, rfl, hm, n, rfl⟩ := hrel
    by_cases hlt : m < xs.length
    · obtain ⟨g, o, rfl, q⟩ := H.out.cells (List.length_pos_iff.1 (by omega))
      obtain ⟨g', o', rfl, q'⟩ := H'.out.cells (List.length_pos_iff.1 (by omega))
      have a0 : (w.drewN n).cell? ⟨g, o + m * 3, none⟩ = some (.int .i64 xs[m].1) := q m hlt 0 (by decide)
      have a1 : (w.drewN n).cell? ⟨g, o + m * 3 + 1, none⟩ = some (.int .i64 xs[m].2.1) := q m hlt 1 (by decide)
      have a2 : (w.drewN n).cell? ⟨g, o + m * 3 + 2, none⟩ = some (.int .i64 xs[m].2.2) := q m hlt 2 (by decide)
      have b0 : (w.drewN n).cell? ⟨g', o' + m * 3, none⟩ = some (.int .i64 xs[m].1) := q' m hlt 0 (by decide)
      have b1 : (w.drewN n).cell? ⟨g', o' + m * 3 + 1, none⟩ = some (.int .i64 xs[m].2.1) := q' m hlt 1 (by decide)
      have b2 : (w.drewN n).cell? ⟨g', o' + m * 3 + 2, none⟩ = some (.int .i64 xs[m].2.2) := q' m hlt 2 (by decide)
      have hi0 : (0 : Int) ≤ m := by omega
      have hi1 : (m : Int) < xs.length := by omega
      clear q q'
      go_wp2_with fail
      go_region_held3 (fun W' => W'.cell? ⟨g, o + m * 3, none⟩ = some (.int .i64 xs[m].1) ∧ W'.cell? ⟨g, o + m * 3 + 1, none⟩ = some (.int .i64 xs[m].2.1) ∧ W'.cell? ⟨g, o + m * 3 + 2, none⟩ = some (.int .i64 xs[m].2.2) ∧ W'.cell? ⟨g', o' + m * 3, none⟩ = some (.int .i64 xs[m].1) ∧ W'.cell? ⟨g', o' + m * 3 + 1, none⟩ = some (.int .i64 xs[m].2.1) ∧ W'.cell? ⟨g', o' + m * 3 + 2, none⟩ = some (.int .i64 xs[m].2.2))
        (first | exact ⟨a0, a1, a2, b0, b1, b2⟩ | assumption)
        (fail)
      go_wp2_with fail
      exact ⟨⟨m + 1, by simp, hlt, n + 1, rfl⟩, by simp [intOf]; omega⟩
    · go_wp2_with fail
      go_ret
      exact ⟨rfl, (Fr.refl _ _).drewN _⟩
set_option maxRecDepth 100000 in
set_option maxHeartbeats 1000000 in
theorem eq_rights (A A' : Option Addr) (c c' : Nat) (xs : List RightD) (w : World) (h : Sl fRight w A c xs) (h' : Sl fRight w A' c' xs) :
    Calls Try.prog 62 #[.slice A xs.length c, .slice A' xs.length c'] w fun e w' => e = .returned (.bool true) ∧ Fr no w w' := by
  have hl := h.le
  have hl' := h'.le
  have ht : xs.length ≤ 9223372036854775807 := by have := h.top; simp only [maxLen] at this; omega
  have H := hide h
  have H' := hide h'
  clear h h'
  go_enter Try.func62, Try.ntmps62
  go_wp2_with fail
  go_loopw [5] (fun i wr => ∃ m : Nat, i = .int .i64 m ∧ m ≤ xs.length ∧ ∃ n, wr = w.drewN n) (fun i _ => xs.length - (intOf i).toNat)
  case atStart => exact ⟨0, rfl, Nat.zero_le _, 0, rfl⟩
  case round =>
    obtain ⟨m, rfl, hm, n, rfl⟩ := hrel
    by_cases hlt : m < xs.length
    · obtain ⟨g, o, rfl, q⟩ := H.out.cells (List.length_pos_iff.1 (by omega))
      obtain ⟨g', o', rfl, q'⟩ := H'.out.cells (List.length_pos_iff.1 (by omega))
      have a0 : (w.drewN n).cell? ⟨g, o + m * 3, none⟩ = some (.int .i64 xs[m].1) := q m hlt 0 (by decide)
      have a1 : (w.drewN n).cell? ⟨g, o + m * 3 + 1, none⟩ = some (.int .i64 xs[m].2.1) := q m hlt 1 (by decide)
      have a2 : (w.drewN n).cell? ⟨g, o + m * 3 + 2, none⟩ = some (.int .i64 xs[m].2.2) := q m hlt 2 (by decide)
      have b0 : (w.drewN n).cell? ⟨g', o' + m * 3, none⟩ = some (.int .i64 xs[m].1) := q' m hlt 0 (by decide)
      have b1 : (w.drewN n).cell? ⟨g', o' + m * 3 + 1, none⟩ = some (.int .i64 xs[m].2.1) := q' m hlt 1 (by decide)
      have b2 : (w.drewN n).cell? ⟨g', o' + m * 3 + 2, none⟩ = some (.int .i64 xs[m].2.2) := q' m hlt 2 (by decide)
      have hi0 : (0 : Int) ≤ m := by omega
      have hi1 : (m : Int) < xs.length := by omega
      clear q q'
      go_wp2_with fail
      go_region_held3 (fun W' => W'.cell? ⟨g, o + m * 3, none⟩ = some (.int .i64 xs[m].1) ∧ W'.cell? ⟨g, o + m * 3 + 1, none⟩ = some (.int .i64 xs[m].2.1) ∧ W'.cell? ⟨g, o + m * 3 + 2, none⟩ = some (.int .i64 xs[m].2.2) ∧ W'.cell? ⟨g', o' + m * 3, none⟩ = some (.int .i64 xs[m].1) ∧ W'.cell? ⟨g', o' + m * 3 + 1, none⟩ = some (.int .i64 xs[m].2.1) ∧ W'.cell? ⟨g', o' + m * 3 + 2, none⟩ = some (.int .i64 xs[m].2.2))
        (first | exact ⟨a0, a1, a2, b0, b1, b2⟩ | assumption)
        (fail)
      go_wp2_with fail
      exact ⟨⟨m + 1, by simp, hlt, n + 1, rfl⟩, by simp [intOf]; omega⟩
    · go_wp2_with fail
      go_ret
      exact ⟨rfl, (Fr.refl _ _).drewN _⟩
end Go.Proofs.Ytmnajpkmglmipaa
