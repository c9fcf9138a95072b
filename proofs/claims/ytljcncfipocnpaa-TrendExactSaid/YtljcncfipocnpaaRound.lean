/- Contract of a wide number's size. -/
import Derived.Test.YtljcncfipocnpaaWide
import Derived.Test.YtljcncfipocnpaaFloat4
import Derived.LoopTactic
import Derived.Deep.RegionWith
import Derived.Deep.DeepCutAuto
import Derived.Deep.LoopGhost
import Derived.Laws.StructEq
namespace Go.Proofs.Ytljcncfipocnpaa
open Go.RowKit Fl

/-- How many binary digits. -/
def size (W : Nat) : Nat := if W = 0 then 0 else W.log2 + 1
theorem size_le (W : Nat) (h : W < NB * NB) : size W ≤ 128 := by
  unfold size
  split
  · omega
  · have : W.log2 ≤ 127 := log2_le (by have : NB * NB = 2 ^ (127 + 1) := by rw [NB_pow, ← Nat.pow_add]
                                       rw [← this]; exact h)
    omega
theorem size_lt {W k : Nat} (h : k < size W) : W / 2 ^ k ≠ 0 := by
  unfold size at h
  split at h
  · omega
  · rename_i h0
    have h1 : 2 ^ k ≤ W := Nat.le_trans (Nat.pow_le_pow_right (by decide) (by omega)) (Nat.log2_self_le h0)
    have := Nat.div_pos h1 (Nat.two_pow_pos k)
    omega
theorem size_at (W : Nat) : W / 2 ^ size W = 0 := by
  unfold size
  split
  · rename_i h; subst h; simp
  · exact Nat.div_eq_of_lt Nat.lt_log2_self

set_option maxRecDepth 100000 in
set_option maxHeartbeats 800000 in
theorem wide_size (hi lo W : Nat) (w : World) (H : Hid (Halves hi lo W)) :
    Calls Try.prog 47 #[.agg #[.int .u64 hi, .int .u64 lo]] w fun e w' => e = .returned (.int .i64 (size W)) ∧ Fr no w w' := by
  have hs := size_le W H.out.lt
  have cells : ∀ W', Fr no (w.alloc (.cells #[.int .u64 hi, .int .u64 lo] 90)) W' → W'.cell? ⟨w.heap.size, 0, none⟩ = some (.int .u64 hi) ∧ W'.cell? ⟨w.heap.size, 1, none⟩ = some (.int .u64 lo) := by
    intro W' f
    have b := (Blk.new w 90 #[.int .u64 hi, .int .u64 lo]).kept0 f
    exact ⟨b.cell 0, b.cell 1⟩
  have HC := hide cells
  clear cells
  go_enter Try.func47, Try.ntmps47
  go_wp2_with fail
  go_loopw [3] (fun i wr => ∃ k : Nat, i = .int .i64 k ∧ k ≤ size W ∧ Fr no (w.alloc (.cells #[.int .u64 hi, .int .u64 lo] 90)) wr) (fun i _ => 128 - (intOf i).toNat)
  case atStart => exact ⟨0, rfl, Nat.zero_le _, Fr.refl _ _⟩
  case round =>
    obtain ⟨k, rfl, hk, F⟩ := hrel
    obtain ⟨c0, c1⟩ := HC.out _ F
    by_cases hlt : k < size W
    · have hne := size_lt hlt
      have k128 : (k : Int) < 128 := by omega
      go_wp2_with fail
      refine (wide_shr hi lo k W _ H (by omega)).mono ?_
      rintro e W1 ⟨⟨x, y, rfl, R⟩, F1⟩
      have F2 := F.trans F1
      have hor : ¬ x = 0 ∨ (x = 0 ∧ ¬ y = 0) := by
        rcases Nat.eq_zero_or_pos x with h1 | h1
        · rcases Nat.eq_zero_or_pos y with h2 | h2
          · exact absurd (by rw [R.w, h1, h2]; rfl) hne
          · exact .inr ⟨h1, by omega⟩
        · exact .inl (by omega)
      clear R hne F F1
      rcases hor with hx | ⟨rfl, hy⟩
      all_goals
        go_wp2_with fail
        exact ⟨⟨k + 1, by go_num, hlt, F2⟩, by simp [intOf]; omega⟩
    · have HK := hide (show k = size W by omega)
      have hz : W / 2 ^ k = 0 := by rw [HK.out]; exact size_at W
      have FIN : Fr no w wr := ((Fr.refl no w).alloc _).trans F
      have hout : ∀ W', Fr no wr W' → Fr no w W' := fun _ f => FIN.trans f
      have HO := hide hout
      clear hout
      by_cases h128 : k < 128
      · have k128 : (k : Int) < 128 := by omega
        clear hlt hk hs
        go_wp2_with fail
        refine (wide_shr hi lo k W _ H (by omega)).mono ?_
        rintro e W1 ⟨⟨x, y, rfl, R⟩, F1⟩
        have hxy : x = 0 ∧ y = 0 := by
          have := R.w; rw [hz] at this; unfold NB at this; omega
        obtain ⟨rfl, rfl⟩ := hxy
        clear R hz
        go_wp2_with fail
        go_ret
        exact ⟨ret_i (by rw [HK.out]), HO.out _ F1⟩
      · have k128 : ¬ (k : Int) < 128 := by omega
        clear hz hlt hk hs
        go_wp2_with fail
        go_ret
        exact ⟨ret_i (by rw [HK.out]), FIN⟩

end Go.Proofs.Ytljcncfipocnpaa
