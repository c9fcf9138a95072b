/- Contracts of the leases' functions (package share, the document's twin) and of Within. -/
import Derived.Test.YtljcncfipocnpaaProg
import Derived.Test.YtljcncfipocnpaaNum
import Derived.Test.YtljcncfipocnpaaMem
import Derived.WalkKit
import Derived.WalkSpells
import Derived.WalkLawsBesides
namespace Go.Proofs.Ytljcncfipocnpaa
open Go.RowKit

set_option maxHeartbeats 400000 in
theorem within_any (n m : Int) (w : World) (h0 : 0 < m) (h1 : m ≤ 4611686018427387904) :
    Calls Try.prog 8 #[.int .i64 n, .int .i64 m] w fun e w' => e = .returned (.int .i64 (n % m)) ∧ w = w' := by
  have hm : (m == 0) = false := by simp; omega
  have hl := Int.tmod_lt_of_pos n h0
  go_enter Try.func8, Try.ntmps8
  go_wp2
  · have h : n.tmod m < 0 := by assumption
    have e := emod_neg n m h0 h
    have h3 := Int.emod_nonneg n (by omega : m ≠ 0)
    go_ret
    exact ⟨ret_i (by unfold wrap64; omega), rfl⟩
  · have h : 0 ≤ n.tmod m := by assumption
    go_ret
    exact ⟨ret_i (emod_nonneg n m h0 h), rfl⟩

theorem within_two (n : Int) (w : World) :
    Calls Try.prog 8 #[.int .i64 n, .int .i64 2] w fun e w' => (e = .returned (.int .i64 0) ∨ e = .returned (.int .i64 1)) ∧ w = w' := by
  refine (within_any n 2 w (by omega) (by omega)).mono ?_
  rintro e w' ⟨rfl, rfl⟩
  rcases Int.emod_two_eq n with h | h
  · exact ⟨.inl (ret_i h), rfl⟩
  · exact ⟨.inr (ret_i h), rfl⟩

set_option maxHeartbeats 400000 in
theorem newLease (n : Int) (w : World) :
    Calls Try.prog 7 #[.int .i64 n] w fun e w' => e = .returned (.pointer (some ⟨w.heap.size, 0, none⟩)) ∧ w.alloc (.cells #[.int .i64 (max n 0), .int .i64 0] 72) = w' := by
  go_enter Try.func7, Try.ntmps7
  go_wp2
  all_goals
    go_ret
    refine ⟨rfl, ?_⟩
    congr 6; omega

/-- A lease at block g: for how many ticks it is, how many are left. -/
def LeaseAt (T : TypeId) (W : World) (g : Nat) (t l : Int) : Prop := Blk W g T #[.int .i64 t, .int .i64 l]
theorem LeaseAt.c0 {T : TypeId} {W : World} {g : Nat} {t l : Int} (h : LeaseAt T W g t l) : W.cell? ⟨g, 0, none⟩ = some (.int .i64 t) := Blk.cell h 0
theorem LeaseAt.c1 {T : TypeId} {W : World} {g : Nat} {t l : Int} (h : LeaseAt T W g t l) : W.cell? ⟨g, 1, none⟩ = some (.int .i64 l) := Blk.cell h 1
theorem LeaseAt.set {T : TypeId} {W : World} {g : Nat} {t l : Int} (h : LeaseAt T W g t l) (n : Int) : LeaseAt T (W.setCell ⟨g, 1, none⟩ (.int .i64 n)) g t n := Blk.set h 1 _

theorem newLease2 (w : World) :
    Calls Try.prog 7 #[.int .i64 2] w fun e w' => e = .returned (.pointer (some ⟨w.heap.size, 0, none⟩)) ∧ LeaseAt 72 w' w.heap.size 2 0 ∧ Fr no w w' := by
  refine (newLease 2 w).mono ?_
  rintro e w' ⟨rfl, rfl⟩
  exact ⟨rfl, Blk.new _ _ _, (Fr.refl _ _).alloc _⟩

set_option maxHeartbeats 400000 in
theorem lease_hear (T : TypeId) (g : Nat) (t l : Int) (w : World) (h : LeaseAt T w g t l) :
    Calls Try.prog 9 #[.pointer (some ⟨g, 0, none⟩)] w fun e w' => e = .returned (.tuple #[]) ∧ LeaseAt T w' g t t ∧ Fr (fun k => k = g) w w' := by
  have h0 := h.c0
  have h1 := h.c1
  have hf := Blk.free h 1
  go_enter Try.func9, Try.ntmps9
  go_wp2
  go_end0
  exact ⟨rfl, h.set _, Fr.setCell _ _ _ _⟩

set_option maxHeartbeats 400000 in
theorem lease_tick (T : TypeId) (g : Nat) (t l : Int) (w : World) (h : LeaseAt T w g t l) (hl : 0 ≤ l) (hm : l ≤ 9223372036854775807) :
    Calls Try.prog 11 #[.pointer (some ⟨g, 0, none⟩)] w fun e w' => e = .returned (.tuple #[]) ∧ LeaseAt T w' g t (max (l - 1) 0) ∧ Fr (fun k => k = g) w w' := by
  have h1 := h.c1
  have hf := Blk.free h 1
  have key : ∀ n : Int, n = max (l - 1) 0 → LeaseAt T (w.setCell ⟨g, 1, none⟩ (.int .i64 n)) g t (max (l - 1) 0) := fun n e => by rw [← e]; exact h.set n
  go_enter Try.func11, Try.ntmps11
  go_wp2
  all_goals
    go_end0
    exact ⟨rfl, key _ (by omega), Fr.setCell _ _ _ _⟩

set_option maxHeartbeats 400000 in
theorem ref_hear (T : TypeId) (g : Nat) (t l : Int) (w : World) (h : LeaseAt T w g t l) :
    Calls Try.prog 10 #[.pointer (some ⟨g, 0, none⟩)] w fun e w' => e = .returned (.tuple #[]) ∧ LeaseAt T w' g t (max t 0) ∧ Fr (fun k => k = g) w w' := by
  have h0 := h.c0
  have h1 := h.c1
  have hf := Blk.free h 1
  have k1 : t < 0 → LeaseAt T ((w.setCell ⟨g, 1, none⟩ (.int .i64 t)).setCell ⟨g, 1, none⟩ (.int .i64 0)) g t (max t 0) := fun e => by rw [show max t 0 = 0 by omega]; exact (h.set _).set _
  have k2 : 0 ≤ t → LeaseAt T (w.setCell ⟨g, 1, none⟩ (.int .i64 t)) g t (max t 0) := fun e => by rw [show max t 0 = t by omega]; exact h.set _
  go_enter Try.func10, Try.ntmps10
  go_wp2
  all_goals go_end0
  · exact ⟨rfl, k1 (by assumption), (Fr.setCell _ _ _ _).trans (Fr.setCell _ _ _ _)⟩
  · exact ⟨rfl, k2 (by assumption), Fr.setCell _ _ _ _⟩

set_option maxHeartbeats 400000 in
theorem ref_tick (T : TypeId) (g : Nat) (t l : Int) (w : World) (h : LeaseAt T w g t l) (hl : 0 ≤ l) (hm : l ≤ 9223372036854775807) :
    Calls Try.prog 12 #[.pointer (some ⟨g, 0, none⟩)] w fun e w' => e = .returned (.tuple #[]) ∧ LeaseAt T w' g t (max (l - 1) 0) ∧ Fr (fun k => k = g) w w' := by
  have h1 := h.c1
  have hf := Blk.free h 1
  have k1 : 0 < l → LeaseAt T (w.setCell ⟨g, 1, none⟩ (.int .i64 (l - 1))) g t (max (l - 1) 0) := fun e => by rw [show max (l - 1) 0 = l - 1 by omega]; exact h.set _
  have k2 : l ≤ 0 → LeaseAt T w g t (max (l - 1) 0) := fun e => by rw [show max (l - 1) 0 = l by omega]; exact h
  go_enter Try.func12, Try.ntmps12
  go_wp2
  all_goals go_end0
  · exact ⟨rfl, k1 (by assumption), Fr.setCell _ _ _ _⟩
  · exact ⟨rfl, k2 (by assumption), Fr.refl _ _⟩

set_option maxHeartbeats 400000 in
theorem lease_left (T : TypeId) (g : Nat) (t l : Int) (w : World) (h : LeaseAt T w g t l) :
    Calls Try.prog 13 #[.pointer (some ⟨g, 0, none⟩)] w fun e w' => e = .returned (.int .i64 l) ∧ w' = w := by
  have h1 := h.c1
  go_enter Try.func13, Try.ntmps13
  go_wp2
  go_ret
  exact ⟨rfl, rfl⟩

set_option maxHeartbeats 400000 in
theorem lease_runs (T : TypeId) (g : Nat) (t l : Int) (w : World) (h : LeaseAt T w g t l) :
    Calls Try.prog 14 #[.pointer (some ⟨g, 0, none⟩)] w fun e w' => e = .returned (.bool (decide (0 < l))) ∧ w' = w := by
  have h1 := h.c1
  go_enter Try.func14, Try.ntmps14
  go_wp2
  go_ret
  exact ⟨rfl, rfl⟩
end Go.Proofs.Ytljcncfipocnpaa
