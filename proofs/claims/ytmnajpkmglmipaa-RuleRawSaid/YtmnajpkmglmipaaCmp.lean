/- Contracts of sum.Amount, cmp.Compare and cmp.Or at whole numbers, and of what compares two rights. -/
import Derived.Test.YtmnajpkmglmipaaProg
import Derived.Test.YtmnajpkmglmipaaNeedsN
import Derived.WalkKit
import Derived.WalkSpells
import Derived.WalkLawsBesides
import Derived.LoopTactic
import Derived.Deep.DeepCutAuto
import Derived.Deep.LoopGhost
import Derived.Deep.QuietTactic
import Derived.BigQuiet
import Derived.Deep.RegionWith
import Derived.Deep.RegionHeld3
import Derived.Sort.Grow
namespace Go.Proofs.Ytmnajpkmglmipaa
open Go.RowKit

/-- A world behind draws and new blocks. -/
def Gr (w w' : World) : Prop := ∃ (q : Nat) (os : Array Obj), w' = Sort.grow (w.drewN q) os
theorem Gr.refl (w : World) : Gr w w := ⟨0, #[], by simp [World.drewN]⟩
theorem Gr.drew {w w' : World} (h : Gr w w') : Gr w w'.drew := by
  obtain ⟨q, os, rfl⟩ := h
  exact ⟨q + 1, os, rfl⟩
theorem Gr.drewN {w w' : World} (h : Gr w w') (n : Nat) : Gr w (w'.drewN n) := by
  obtain ⟨q, os, rfl⟩ := h
  exact ⟨q + n, os, by simp [World.drewN, Sort.grow, Nat.add_assoc]⟩
theorem Gr.alloc {w w' : World} (h : Gr w w') (o : Obj) : Gr w (w'.alloc o) := by
  obtain ⟨q, os, rfl⟩ := h
  exact ⟨q, os.push o, by rw [Sort.alloc_eq_grow, Sort.grow_grow]; simp⟩
theorem Gr.trans {a b c : World} (h : Gr a b) (k : Gr b c) : Gr a c := by
  obtain ⟨q, os, rfl⟩ := h
  obtain ⟨q', os', rfl⟩ := k
  exact ⟨q + q', os ++ os', by simp [World.drewN, Sort.grow, Nat.add_assoc, Array.append_assoc]⟩
theorem Gr.fr {w w' : World} (h : Gr w w') : Fr no w w' := by
  obtain ⟨q, os, rfl⟩ := h
  exact ⟨rfl, rfl, rfl, by simp [Sort.grow, World.drewN], fun k hk _ => by simp [Sort.grow, World.drewN, Array.getElem?_append, hk]⟩

theorem Gr.cell {w w' : World} (h : Gr w w') {p : Addr} {v : Value} (hc : w.cell? p = some v) : w'.cell? p = some v := by
  have hb := World.block_lt_of_cell? w _ hc
  rw [World.cell?_of_block (w := w) (h.fr.block _ hb (fun e => e))]; exact hc

theorem amount_c (c : Int) (hc : Wf64 c) (w : World) : Calls Try.prog 47 #[.int .i64 c] w fun e w' => e = .returned (.int .u64 c.natAbs) ∧ w' = w := by
  have hc' : -9223372036854775808 ≤ c ∧ c ≤ 9223372036854775807 := hc
  by_cases h : c < 0
  · go_enter Try.func47, Try.ntmps47
    go_wp2_with fail
    go_ret
    refine ⟨ret_i ?_, rfl⟩
    first | omega | (simp [IntKind.wrap, IntKind.bits, IntKind.signed]; omega)
  · go_enter Try.func47, Try.ntmps47
    go_wp2_with fail
    go_ret
    refine ⟨ret_i ?_, rfl⟩
    first | omega | (simp [IntKind.wrap, IntKind.bits, IntKind.signed]; omega)
theorem natAbs_amt (c : Int) (hc : Wf64 c) : IntKind.i64.wrap (c.natAbs : Int) = amtOf c := by
  unfold amtOf
  by_cases h : c < 0
  · rw [if_pos h, show (c.natAbs : Int) = -c by omega]; rfl
  · rw [if_neg h, show (c.natAbs : Int) = c by omega]
    exact wr64_of hc

theorem isNaN_c (a : Int) (w : World) : Calls Try.prog 50 #[.int .i64 a] w fun e w' => e = .returned (.bool false) ∧ w' = w := by
  go_enter Try.func50, Try.ntmps50
  go_wp2_with fail
  go_ret
  exact ⟨by simp, rfl⟩
def cmpI (a b : Int) : Int := if a < b then -1 else if b < a then 1 else 0
theorem compare_c (a b : Int) (w : World) : Calls Try.prog 27 #[.int .i64 a, .int .i64 b] w fun e w' => e = .returned (.int .i64 (cmpI a b)) ∧ w' = w := by
  unfold cmpI
  by_cases h : a < b
  · rw [if_pos h]
    go_enter Try.func27, Try.ntmps27
    go_wp2_with (go_at_call 50; refine (isNaN_c _ _).mono ?_; rintro e w' ⟨rfl, rfl⟩)
    go_ret
    exact ⟨rfl, rfl⟩
  · rw [if_neg h]
    by_cases h2 : b < a
    · rw [if_pos h2]
      go_enter Try.func27, Try.ntmps27
      go_wp2_with (go_at_call 50; refine (isNaN_c _ _).mono ?_; rintro e w' ⟨rfl, rfl⟩)
      go_ret
      exact ⟨rfl, rfl⟩
    · rw [if_neg h2]
      go_enter Try.func27, Try.ntmps27
      go_wp2_with (go_at_call 50; refine (isNaN_c _ _).mono ?_; rintro e w' ⟨rfl, rfl⟩)
      go_ret
      exact ⟨rfl, rfl⟩
def orI (a b : Int) : Int := if a = 0 then b else a
theorem or_c (g : Nat) (a b : Int) (w : World) (h0 : w.cell? ⟨g, 0, none⟩ = some (.int .i64 a)) (h1 : w.cell? ⟨g, 1, none⟩ = some (.int .i64 b)) :
    Calls Try.prog 26 #[.slice (some ⟨g, 0, none⟩) 2 2] w fun e w' => e = .returned (.int .i64 (orI a b)) ∧ w' = w := by
  go_enter Try.func26, Try.ntmps26
  go_wp2_with fail
  go_loopw [8] (fun i wr => wr = w ∧ (i = .int .i64 0 ∨ (i = .int .i64 1 ∧ a = 0) ∨ (i = .int .i64 2 ∧ a = 0 ∧ b = 0))) (fun i _ => 2 - (intOf i).toNat)
  case atStart => exact ⟨rfl, .inl rfl⟩
  case round =>
    obtain ⟨rfl, (rfl | ⟨rfl, rfl⟩ | ⟨rfl, rfl, rfl⟩)⟩ := hrel
    · by_cases h : a = 0
      · subst h
        go_wp2_with fail
        exact ⟨⟨trivial, .inr (.inl ⟨rfl, trivial⟩)⟩, by simp [intOf]⟩
      · go_wp2_with fail
        go_ret
        exact ⟨ret_i (by unfold orI; first | rw [if_neg h] | rw [if_pos rfl]), rfl⟩
    · by_cases h : b = 0
      · subst h
        go_wp2_with fail
        exact ⟨⟨trivial, .inr (.inr ⟨rfl, trivial, trivial⟩)⟩, by simp [intOf]⟩
      · go_wp2_with fail
        go_ret
        exact ⟨ret_i (by unfold orI; first | rw [if_neg h] | rw [if_pos rfl]), rfl⟩
    · go_wp2_with fail
      go_ret
      exact ⟨ret_i (by unfold orI; rw [if_pos rfl]), rfl⟩
/-- How two rights stand to one another. -/
def cmpR (x y : RightT) : Int := orI (cmpI x.1 y.1) (cmpI x.2.1 y.2.1)
def encR (x : RightT) : List Value := [.int .i64 x.1, .int .i64 x.2.1, .int .i64 x.2.2]

set_option maxRecDepth 100000 in
set_option maxHeartbeats 1000000 in
/-- What 'Needs' sorts by: counters, then ways. -/
theorem byKind_c (x y : RightT) (w : World) : Calls Try.prog 25 #[.agg #[.int .i64 x.1, .int .i64 x.2.1, .int .i64 x.2.2], .agg #[.int .i64 y.1, .int .i64 y.2.1, .int .i64 y.2.2]] w fun e w' => e = .returned (.int .i64 (cmpR x y)) ∧ Gr w w' := by
  go_enter Try.func25, Try.ntmps25
  go_wp2_with fail
  have c0 : ((w.alloc (.cells #[.int .i64 x.1, .int .i64 x.2.1, .int .i64 x.2.2] 42)).alloc (.cells #[.int .i64 y.1, .int .i64 y.2.1, .int .i64 y.2.2] 42)).cell? ⟨w.heap.size, 0, none⟩ = some (.int .i64 x.1) := ((Blk.new w 42 _).alloc _).cell 0
  have c1 : ((w.alloc (.cells #[.int .i64 x.1, .int .i64 x.2.1, .int .i64 x.2.2] 42)).alloc (.cells #[.int .i64 y.1, .int .i64 y.2.1, .int .i64 y.2.2] 42)).cell? ⟨w.heap.size, 1, none⟩ = some (.int .i64 x.2.1) := ((Blk.new w 42 _).alloc _).cell 1
  have d0 : ((w.alloc (.cells #[.int .i64 x.1, .int .i64 x.2.1, .int .i64 x.2.2] 42)).alloc (.cells #[.int .i64 y.1, .int .i64 y.2.1, .int .i64 y.2.2] 42)).cell? ⟨w.heap.size + 1, 0, none⟩ = some (.int .i64 y.1) := by
    have := (Blk.new (w.alloc (.cells #[.int .i64 x.1, .int .i64 x.2.1, .int .i64 x.2.2] 42)) 42 #[.int .i64 y.1, .int .i64 y.2.1, .int .i64 y.2.2]).cell 0
    rw [World.size_alloc] at this; exact this
  have d1 : ((w.alloc (.cells #[.int .i64 x.1, .int .i64 x.2.1, .int .i64 x.2.2] 42)).alloc (.cells #[.int .i64 y.1, .int .i64 y.2.1, .int .i64 y.2.2] 42)).cell? ⟨w.heap.size + 1, 1, none⟩ = some (.int .i64 y.2.1) := by
    have := (Blk.new (w.alloc (.cells #[.int .i64 x.1, .int .i64 x.2.1, .int .i64 x.2.2] 42)) 42 #[.int .i64 y.1, .int .i64 y.2.1, .int .i64 y.2.2]).cell 1
    rw [World.size_alloc] at this; exact this
  have hG : Gr w ((w.alloc (.cells #[.int .i64 x.1, .int .i64 x.2.1, .int .i64 x.2.2] 42)).alloc (.cells #[.int .i64 y.1, .int .i64 y.2.1, .int .i64 y.2.2] 42)) := ((Gr.refl w).alloc _).alloc _
  generalize (w.alloc (.cells #[.int .i64 x.1, .int .i64 x.2.1, .int .i64 x.2.2] 42)).alloc (.cells #[.int .i64 y.1, .int .i64 y.2.1, .int .i64 y.2.2] 42) = W0 at *
  generalize w.heap.size = g at *
  have HK : Hid (∀ W', Gr W0 W' → W'.cell? ⟨g, 0, none⟩ = some (.int .i64 x.1) ∧ W'.cell? ⟨g, 1, none⟩ = some (.int .i64 x.2.1) ∧ W'.cell? ⟨g + 1, 0, none⟩ = some (.int .i64 y.1) ∧ W'.cell? ⟨g + 1, 1, none⟩ = some (.int .i64 y.2.1) ∧ Gr w W') :=
    hide (fun W' h => ⟨h.cell c0, h.cell c1, h.cell d0, h.cell d1, hG.trans h⟩)
  clear hG
  go_region_held3 (fun W' => W'.cell? ⟨g, 0, none⟩ = some (.int .i64 x.1) ∧ W'.cell? ⟨g, 1, none⟩ = some (.int .i64 x.2.1) ∧ W'.cell? ⟨g + 1, 0, none⟩ = some (.int .i64 y.1) ∧ W'.cell? ⟨g + 1, 1, none⟩ = some (.int .i64 y.2.1) ∧ Gr w W')
    (first | exact HK.out _ (Gr.refl _).drew | exact HK.out _ ((Gr.refl _).alloc _).drew | assumption)
    (first
      | (go_at_call 27; refine (compare_c _ _ _).mono ?_; rintro e w' ⟨rfl, rfl⟩)
      | (go_at_call 26; refine (or_c _ _ _ _ ((Blk.new _ _ _).cell 0) ((Blk.new _ _ _).cell 1)).mono ?_; rintro e w' ⟨rfl, rfl⟩))
  rename_i hH
  have G := hH.2.2.2.2
  go_wp2_with fail
  go_ret
  exact ⟨rfl, G⟩
end Go.Proofs.Ytmnajpkmglmipaa
