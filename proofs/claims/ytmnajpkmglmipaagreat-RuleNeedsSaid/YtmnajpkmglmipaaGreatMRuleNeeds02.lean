/- Lend Eq Iter -/
import Derived.Test.YtmnajpkmglmipaaGreatProg
import Derived.Test.YtmnajpkmglmipaaGreatMRuleNeeds00
import Derived.Test.YtmnajpkmglmipaaGreatMRuleNeeds01
import Derived.WalkKit
import Derived.WalkSpells
import Derived.WalkLawsBesides
import Derived.LoopTactic
import Derived.Deep.DeepCutAuto
import Derived.Deep.LoopGhost
import Derived.Deep.QuietTactic
import Derived.BigQuiet
import Derived.Laws.StructEq
import Derived.Deep.RegionHeld3
import Derived.RangeFuncNested
import Derived.RangeFuncBound
import Derived.RangeFuncCalls
import Derived.RangeFuncLeaves
import Derived.Shelf.Abstract
import Derived.OwnWalkIn
import Derived.TacticsInMore
import Derived.LoopNIn
import Derived.LoopIn
import Derived.Stop.RegionWithIn
/- Contracts of package tilllaw1's lending of flat lists. -/
namespace Go.Proofs.YtmnajpkmglmipaaGreat
open Go.RowKit

abbrev LineD := Int × Int
def kLine : Kd LineD := .pair (.int .i64) (.int .i64)
def fLine : Flat LineD where
  sz := 2
  enc := fun x => [.int .i64 x.1, .int .i64 x.2]
  len := fun _ => rfl
  pos := by decide
  one := fun x u hu => by simp at hu; rcases hu with rfl | rfl <;> rfl
theorem rLine : fLine.Reads kLine := ⟨rfl, fun w x cs h => by
  obtain ⟨c0, d0, rfl, h0, g0⟩ := h
  obtain rfl : c0 = _ := h0
  obtain rfl : d0 = _ := g0
  rfl⟩
theorem info_line : (Tryz.prog.info? 57).map (fun i => (i.zero, i.size, i.bytes)) = some (some (.agg #[.int .i64 0, .int .i64 0]), 2, 16) := by kernel_rfl
abbrev GuardD := Int × Int × Int
def kGuard : Kd GuardD := .pair (.int .i64) (.pair (.int .i64) (.int .i64))
def fGuard : Flat GuardD where
  sz := 3
  enc := fun x => [.int .i64 x.1, .int .i64 x.2.1, .int .i64 x.2.2]
  len := fun _ => rfl
  pos := by decide
  one := fun x u hu => by simp at hu; rcases hu with rfl | rfl | rfl <;> rfl
theorem rGuard : fGuard.Reads kGuard := ⟨rfl, fun w x cs h => by
  obtain ⟨c0, d0, rfl, h0, g0⟩ := h
  obtain rfl : c0 = _ := h0
  obtain ⟨c1, d1, rfl, h1, g1⟩ := g0
  obtain rfl : c1 = _ := h1
  obtain rfl : d1 = _ := g1
  rfl⟩
theorem info_guard : (Tryz.prog.info? 105).map (fun i => (i.zero, i.size, i.bytes)) = some (some (.agg #[.int .i64 0, .int .i64 0, .int .i64 0]), 3, 24) := by kernel_rfl
abbrev SetD := Int × Int × Int
def kSet : Kd SetD := .pair (.int .i64) (.pair (.int .i64) (.int .i64))
def fSet : Flat SetD where
  sz := 3
  enc := fun x => [.int .i64 x.1, .int .i64 x.2.1, .int .i64 x.2.2]
  len := fun _ => rfl
  pos := by decide
  one := fun x u hu => by simp at hu; rcases hu with rfl | rfl | rfl <;> rfl
theorem rSet : fSet.Reads kSet := ⟨rfl, fun w x cs h => by
  obtain ⟨c0, d0, rfl, h0, g0⟩ := h
  obtain rfl : c0 = _ := h0
  obtain ⟨c1, d1, rfl, h1, g1⟩ := g0
  obtain rfl : c1 = _ := h1
  obtain rfl : d1 = _ := g1
  rfl⟩
theorem info_set : (Tryz.prog.info? 108).map (fun i => (i.zero, i.size, i.bytes)) = some (some (.agg #[.int .i64 0, .int .i64 0, .int .i64 0]), 3, 24) := by kernel_rfl
abbrev RightD := Int × Int × Int
def kRight : Kd RightD := .pair (.int .i64) (.pair (.int .i64) (.int .i64))
def fRight : Flat RightD where
  sz := 3
  enc := fun x => [.int .i64 x.1, .int .i64 x.2.1, .int .i64 x.2.2]
  len := fun _ => rfl
  pos := by decide
  one := fun x u hu => by simp at hu; rcases hu with rfl | rfl | rfl <;> rfl
theorem rRight : fRight.Reads kRight := ⟨rfl, fun w x cs h => by
  obtain ⟨c0, d0, rfl, h0, g0⟩ := h
  obtain rfl : c0 = _ := h0
  obtain ⟨c1, d1, rfl, h1, g1⟩ := g0
  obtain rfl : c1 = _ := h1
  obtain rfl : d1 = _ := g1
  rfl⟩
theorem info_right : (Tryz.prog.info? 86).map (fun i => (i.zero, i.size, i.bytes)) = some (some (.agg #[.int .i64 0, .int .i64 0, .int .i64 0]), 3, 24) := by kernel_rfl
theorem new_cells (w : World) (cs : List Value) (T : TypeId) : ∀ j u, cs[j]? = some u → (w.alloc (.cells cs.toArray T)).cell? ((⟨w.heap.size, 0, none⟩ : Addr).add j) = some u := by
  intro j u hj
  rw [Kd.addr_add, Nat.zero_add, (Blk.new w T cs.toArray).cell j]
  simpa using hj
theorem own_kept {w w' : World} {base size n : Nat} {e : TypeId} {v : Value} {xs : List Value} (h : w.ownsRow base e size v n xs) (f : Fr no w w') : w'.ownsRow base e size v n xs := by
  refine ⟨h.1, ?_⟩
  rcases h.2 with h | ⟨g, cap, cur, h1, h2, h3, h4⟩
  · exact .inl h
  · exact .inr ⟨g, cap, cur, h1, h2, (f.block g (Array.getElem?_eq_some_iff.1 h3).1 (fun e => e)).trans h3, h4⟩
theorem reps_succ {α : Type} (n : Nat) (x : α) : List.replicate n x ++ [x] = List.replicate (n + 1) x := List.replicate_succ'.symm

set_option maxRecDepth 100000 in
set_option maxHeartbeats 1000000 in
theorem lend_lines (A : Option Addr) (c : Nat) (xs : List LineD) (w : World) (h : kLine.Row w A c xs) (hb : xs.length * 16 ≤ 140737488351232) :
    Calls Tryz.prog 12 #[.slice A xs.length c] w fun e w' => (∃ g, e = .returned (.slice (some ⟨g, 0, none⟩) xs.length (xs.length + 9)) ∧ w.heap.size ≤ g ∧
      w'.ownsRow w.heap.size 57 2 (.slice (some ⟨g, 0, none⟩) (xs.length + 9) (xs.length + 9)) (xs.length + 9) (fLine.all (xs ++ List.replicate 9 (777, 7)))) ∧ Fr no w w' := by
  obtain ⟨i0, hi, hz0, hz1, hz2⟩ := info_parts info_line
  have H := hide h
  clear h
  go_enter Tryz.func12, Tryz.ntmps12
  have hn9 : Hid (((xs.length : Int) + 9) = ((xs.length + 9 : Nat) : Int)) := hide (by omega)
  go_wp2_with (at_make; refine wpList_make_own _ rfl _ _ 55 rfl w.heap.size 57 i0 (.agg #[.int .i64 0, .int .i64 0]) 2 Tryz.underlying55 hi hz0 hz1 _ _ _ (xs.length + 9) rfl rfl hn9.out (by rw [hz2]; omega) (by simp only [maxLen]; omega) (Nat.le_refl _) ?_)
  intro w1 own1 grow1
  have F1 : Fr no w w1 := (Fr.of_grown grow1).mono (fun _ _ e => by simp at e)
  have none1 := fun e => (Flat.row_none H.out e)
  go_wp2_with (at_builtin; refine wpList_append_fits_any _ rfl _ _ 55 rfl w.heap.size 57 i0 2 Tryz.underlying55 hi hz1 w.heap.size 0 (xs.length + 9) [] rfl own1 A xs.length c (fLine.all xs) rfl (fLine.all_length xs) none1 (rLine.row (H.out.keep F1)) (fLine.all_one xs) (by omega) ?_)
  intro w2 own2 grow2
  have F2 : Fr no w w2 := F1.thru (Fr.of_grown grow2) (fun i hi e => by simp at e; omega)
  have O2 := hide (show w2.ownsRow w.heap.size 57 2 (.slice (some ⟨w.heap.size, 0, none⟩) (xs.length + 0) (xs.length + 9)) (xs.length + 0) (fLine.all (xs ++ List.replicate 0 (777, 7))) from by simpa using own2)
  clear own1 grow1 own2 grow2 none1 F1
  generalize hg : w.heap.size = g at *
  have hgl : w.heap.size ≤ g := Nat.le_of_eq hg
  have HG := hide hg
  clear hg
  go_wp2_with fail
  go_loopw [3, 4] (fun v i wr => ∃ m : Nat, i = .int .i64 m ∧ m ≤ 9 ∧ v = .slice (some ⟨g, 0, none⟩) (xs.length + m) (xs.length + 9) ∧ wr.ownsRow g 57 2 (.slice (some ⟨g, 0, none⟩) (xs.length + m) (xs.length + 9)) (xs.length + m) (fLine.all (xs ++ List.replicate m (777, 7))) ∧ Fr no w wr) (fun _ i _ => 9 - (intOf i).toNat)
  case atStart => exact ⟨0, rfl, by decide, rfl, O2.out, F2⟩
  case round =>
    obtain ⟨m, rfl, hm, rfl, own, F⟩ := hrel
    by_cases hlt : m < 9
    · go_wp2_with (at_builtin; refine wpList_append_fits _ rfl _ _ 55 rfl g 57 i0 2 Tryz.underlying55 hi hz1 g (xs.length + m) (xs.length + 9) _ rfl (own_kept own ((Fr.refl no wr).alloc _)) ⟨wr.heap.size, 0, none⟩ 1 1 [.int .i64 777, .int .i64 7] rfl rfl (new_cells wr _ _) (fun u hu => by simp at hu; rcases hu with rfl | rfl <;> rfl) (by omega) ?_)
      intro w3 own3 grow3
      have F3 : Fr no w w3 := (F.alloc (.cells [.int .i64 777, .int .i64 7].toArray 57)).thru (Fr.of_grown grow3) (fun i hi e => by have := HG.out; simp at e; omega)
      have e3 : fLine.all (xs ++ List.replicate m (777, 7)) ++ [.int .i64 777, .int .i64 7] = fLine.all (xs ++ List.replicate (m + 1) (777, 7)) := by
        rw [← reps_succ, ← List.append_assoc, Flat.all_append _ _ [(777, 7)]]; rfl
      rw [e3] at own3
      have REL := hide (⟨m + 1, by simp, hlt, rfl, own3, F3⟩ : ∃ k : Nat, Value.int .i64 ((m : Int) + 1) = .int .i64 k ∧ k ≤ 9 ∧ Value.slice (some ⟨g, 0, none⟩) (xs.length + (m + 1)) (xs.length + 9) = .slice (some ⟨g, 0, none⟩) (xs.length + k) (xs.length + 9) ∧ w3.ownsRow g 57 2 (.slice (some ⟨g, 0, none⟩) (xs.length + k) (xs.length + 9)) (xs.length + k) (fLine.all (xs ++ List.replicate k (777, 7))) ∧ Fr no w w3)
      clear own3 grow3 F3 e3 own F
      go_wp2_with fail
      exact ⟨REL.out, by simp [intOf]; omega⟩
    · obtain rfl : m = 9 := by omega
      go_wp2_with fail
      go_ret
      exact ⟨⟨g, rfl, hgl, by rw [HG.out]; exact own⟩, F⟩
set_option maxRecDepth 100000 in
set_option maxHeartbeats 1000000 in
theorem lend_guards (A : Option Addr) (c : Nat) (xs : List GuardD) (w : World) (h : kGuard.Row w A c xs) (hb : xs.length * 24 ≤ 140737488351232) :
    Calls Tryz.prog 96 #[.slice A xs.length c] w fun e w' => (∃ g, e = .returned (.slice (some ⟨g, 0, none⟩) xs.length (xs.length + 9)) ∧ w.heap.size ≤ g ∧
      w'.ownsRow w.heap.size 105 3 (.slice (some ⟨g, 0, none⟩) (xs.length + 9) (xs.length + 9)) (xs.length + 9) (fGuard.all (xs ++ List.replicate 9 (777, 0, 0)))) ∧ Fr no w w' := by
  obtain ⟨i0, hi, hz0, hz1, hz2⟩ := info_parts info_guard
  have H := hide h
  clear h
  go_enter Tryz.func96, Tryz.ntmps96
  have hn9 : Hid (((xs.length : Int) + 9) = ((xs.length + 9 : Nat) : Int)) := hide (by omega)
  go_wp2_with (at_make; refine wpList_make_own _ rfl _ _ 81 rfl w.heap.size 105 i0 (.agg #[.int .i64 0, .int .i64 0, .int .i64 0]) 3 Tryz.underlying81 hi hz0 hz1 _ _ _ (xs.length + 9) rfl rfl hn9.out (by rw [hz2]; omega) (by simp only [maxLen]; omega) (Nat.le_refl _) ?_)
  intro w1 own1 grow1
  have F1 : Fr no w w1 := (Fr.of_grown grow1).mono (fun _ _ e => by simp at e)
  have none1 := fun e => (Flat.row_none H.out e)
  go_wp2_with (at_builtin; refine wpList_append_fits_any _ rfl _ _ 81 rfl w.heap.size 105 i0 3 Tryz.underlying81 hi hz1 w.heap.size 0 (xs.length + 9) [] rfl own1 A xs.length c (fGuard.all xs) rfl (fGuard.all_length xs) none1 (rGuard.row (H.out.keep F1)) (fGuard.all_one xs) (by omega) ?_)
  intro w2 own2 grow2
  have F2 : Fr no w w2 := F1.thru (Fr.of_grown grow2) (fun i hi e => by simp at e; omega)
  have O2 := hide (show w2.ownsRow w.heap.size 105 3 (.slice (some ⟨w.heap.size, 0, none⟩) (xs.length + 0) (xs.length + 9)) (xs.length + 0) (fGuard.all (xs ++ List.replicate 0 (777, 0, 0))) from by simpa using own2)
  clear own1 grow1 own2 grow2 none1 F1
  generalize hg : w.heap.size = g at *
  have hgl : w.heap.size ≤ g := Nat.le_of_eq hg
  have HG := hide hg
  clear hg
  go_wp2_with fail
  go_loopw [3, 4] (fun v i wr => ∃ m : Nat, i = .int .i64 m ∧ m ≤ 9 ∧ v = .slice (some ⟨g, 0, none⟩) (xs.length + m) (xs.length + 9) ∧ wr.ownsRow g 105 3 (.slice (some ⟨g, 0, none⟩) (xs.length + m) (xs.length + 9)) (xs.length + m) (fGuard.all (xs ++ List.replicate m (777, 0, 0))) ∧ Fr no w wr) (fun _ i _ => 9 - (intOf i).toNat)
  case atStart => exact ⟨0, rfl, by decide, rfl, O2.out, F2⟩
  case round =>
    obtain ⟨m, rfl, hm, rfl, own, F⟩ := hrel
    by_cases hlt : m < 9
    · go_wp2_with (at_builtin; refine wpList_append_fits _ rfl _ _ 81 rfl g 105 i0 3 Tryz.underlying81 hi hz1 g (xs.length + m) (xs.length + 9) _ rfl (own_kept own ((Fr.refl no wr).alloc _)) ⟨wr.heap.size, 0, none⟩ 1 1 [.int .i64 777, .int .i64 0, .int .i64 0] rfl rfl (new_cells wr _ _) (fun u hu => by simp at hu; rcases hu with rfl | rfl | rfl <;> rfl) (by omega) ?_)
      intro w3 own3 grow3
      have F3 : Fr no w w3 := (F.alloc (.cells [.int .i64 777, .int .i64 0, .int .i64 0].toArray 105)).thru (Fr.of_grown grow3) (fun i hi e => by have := HG.out; simp at e; omega)
      have e3 : fGuard.all (xs ++ List.replicate m (777, 0, 0)) ++ [.int .i64 777, .int .i64 0, .int .i64 0] = fGuard.all (xs ++ List.replicate (m + 1) (777, 0, 0)) := by
        rw [← reps_succ, ← List.append_assoc, Flat.all_append _ _ [(777, 0, 0)]]; rfl
      rw [e3] at own3
      have REL := hide (⟨m + 1, by simp, hlt, rfl, own3, F3⟩ : ∃ k : Nat, Value.int .i64 ((m : Int) + 1) = .int .i64 k ∧ k ≤ 9 ∧ Value.slice (some ⟨g, 0, none⟩) (xs.length + (m + 1)) (xs.length + 9) = .slice (some ⟨g, 0, none⟩) (xs.length + k) (xs.length + 9) ∧ w3.ownsRow g 105 3 (.slice (some ⟨g, 0, none⟩) (xs.length + k) (xs.length + 9)) (xs.length + k) (fGuard.all (xs ++ List.replicate k (777, 0, 0))) ∧ Fr no w w3)
      clear own3 grow3 F3 e3 own F
      go_wp2_with fail
      exact ⟨REL.out, by simp [intOf]; omega⟩
    · obtain rfl : m = 9 := by omega
      go_wp2_with fail
      go_ret
      exact ⟨⟨g, rfl, hgl, by rw [HG.out]; exact own⟩, F⟩
set_option maxRecDepth 100000 in
set_option maxHeartbeats 1000000 in
theorem lend_sets (A : Option Addr) (c : Nat) (xs : List SetD) (w : World) (h : kSet.Row w A c xs) (hb : xs.length * 24 ≤ 140737488351232) :
    Calls Tryz.prog 97 #[.slice A xs.length c] w fun e w' => (∃ g, e = .returned (.slice (some ⟨g, 0, none⟩) xs.length (xs.length + 9)) ∧ w.heap.size ≤ g ∧
      w'.ownsRow w.heap.size 108 3 (.slice (some ⟨g, 0, none⟩) (xs.length + 9) (xs.length + 9)) (xs.length + 9) (fSet.all (xs ++ List.replicate 9 (777, 0, 0)))) ∧ Fr no w w' := by
  obtain ⟨i0, hi, hz0, hz1, hz2⟩ := info_parts info_set
  have H := hide h
  clear h
  go_enter Tryz.func97, Tryz.ntmps97
  have hn9 : Hid (((xs.length : Int) + 9) = ((xs.length + 9 : Nat) : Int)) := hide (by omega)
  go_wp2_with (at_make; refine wpList_make_own _ rfl _ _ 82 rfl w.heap.size 108 i0 (.agg #[.int .i64 0, .int .i64 0, .int .i64 0]) 3 Tryz.underlying82 hi hz0 hz1 _ _ _ (xs.length + 9) rfl rfl hn9.out (by rw [hz2]; omega) (by simp only [maxLen]; omega) (Nat.le_refl _) ?_)
  intro w1 own1 grow1
  have F1 : Fr no w w1 := (Fr.of_grown grow1).mono (fun _ _ e => by simp at e)
  have none1 := fun e => (Flat.row_none H.out e)
  go_wp2_with (at_builtin; refine wpList_append_fits_any _ rfl _ _ 82 rfl w.heap.size 108 i0 3 Tryz.underlying82 hi hz1 w.heap.size 0 (xs.length + 9) [] rfl own1 A xs.length c (fSet.all xs) rfl (fSet.all_length xs) none1 (rSet.row (H.out.keep F1)) (fSet.all_one xs) (by omega) ?_)
  intro w2 own2 grow2
  have F2 : Fr no w w2 := F1.thru (Fr.of_grown grow2) (fun i hi e => by simp at e; omega)
  have O2 := hide (show w2.ownsRow w.heap.size 108 3 (.slice (some ⟨w.heap.size, 0, none⟩) (xs.length + 0) (xs.length + 9)) (xs.length + 0) (fSet.all (xs ++ List.replicate 0 (777, 0, 0))) from by simpa using own2)
  clear own1 grow1 own2 grow2 none1 F1
  generalize hg : w.heap.size = g at *
  have hgl : w.heap.size ≤ g := Nat.le_of_eq hg
  have HG := hide hg
  clear hg
  go_wp2_with fail
  go_loopw [3, 4] (fun v i wr => ∃ m : Nat, i = .int .i64 m ∧ m ≤ 9 ∧ v = .slice (some ⟨g, 0, none⟩) (xs.length + m) (xs.length + 9) ∧ wr.ownsRow g 108 3 (.slice (some ⟨g, 0, none⟩) (xs.length + m) (xs.length + 9)) (xs.length + m) (fSet.all (xs ++ List.replicate m (777, 0, 0))) ∧ Fr no w wr) (fun _ i _ => 9 - (intOf i).toNat)
  case atStart => exact ⟨0, rfl, by decide, rfl, O2.out, F2⟩
  case round =>
    obtain ⟨m, rfl, hm, rfl, own, F⟩ := hrel
    by_cases hlt : m < 9
    · go_wp2_with (at_builtin; refine wpList_append_fits _ rfl _ _ 82 rfl g 108 i0 3 Tryz.underlying82 hi hz1 g (xs.length + m) (xs.length + 9) _ rfl (own_kept own ((Fr.refl no wr).alloc _)) ⟨wr.heap.size, 0, none⟩ 1 1 [.int .i64 777, .int .i64 0, .int .i64 0] rfl rfl (new_cells wr _ _) (fun u hu => by simp at hu; rcases hu with rfl | rfl | rfl <;> rfl) (by omega) ?_)
      intro w3 own3 grow3
      have F3 : Fr no w w3 := (F.alloc (.cells [.int .i64 777, .int .i64 0, .int .i64 0].toArray 108)).thru (Fr.of_grown grow3) (fun i hi e => by have := HG.out; simp at e; omega)
      have e3 : fSet.all (xs ++ List.replicate m (777, 0, 0)) ++ [.int .i64 777, .int .i64 0, .int .i64 0] = fSet.all (xs ++ List.replicate (m + 1) (777, 0, 0)) := by
        rw [← reps_succ, ← List.append_assoc, Flat.all_append _ _ [(777, 0, 0)]]; rfl
      rw [e3] at own3
      have REL := hide (⟨m + 1, by simp, hlt, rfl, own3, F3⟩ : ∃ k : Nat, Value.int .i64 ((m : Int) + 1) = .int .i64 k ∧ k ≤ 9 ∧ Value.slice (some ⟨g, 0, none⟩) (xs.length + (m + 1)) (xs.length + 9) = .slice (some ⟨g, 0, none⟩) (xs.length + k) (xs.length + 9) ∧ w3.ownsRow g 108 3 (.slice (some ⟨g, 0, none⟩) (xs.length + k) (xs.length + 9)) (xs.length + k) (fSet.all (xs ++ List.replicate k (777, 0, 0))) ∧ Fr no w w3)
      clear own3 grow3 F3 e3 own F
      go_wp2_with fail
      exact ⟨REL.out, by simp [intOf]; omega⟩
    · obtain rfl : m = 9 := by omega
      go_wp2_with fail
      go_ret
      exact ⟨⟨g, rfl, hgl, by rw [HG.out]; exact own⟩, F⟩
set_option maxRecDepth 100000 in
set_option maxHeartbeats 1000000 in
theorem lend_rights (A : Option Addr) (c : Nat) (xs : List RightD) (w : World) (h : kRight.Row w A c xs) (hb : xs.length * 24 ≤ 140737488351232) :
    Calls Tryz.prog 159 #[.slice A xs.length c] w fun e w' => (∃ g, e = .returned (.slice (some ⟨g, 0, none⟩) xs.length (xs.length + 9)) ∧ w.heap.size ≤ g ∧
      w'.ownsRow w.heap.size 86 3 (.slice (some ⟨g, 0, none⟩) (xs.length + 9) (xs.length + 9)) (xs.length + 9) (fRight.all (xs ++ List.replicate 9 (777, 0, 0)))) ∧ Fr no w w' := by
  obtain ⟨i0, hi, hz0, hz1, hz2⟩ := info_parts info_right
  have H := hide h
  clear h
  go_enter Tryz.func159, Tryz.ntmps159
  have hn9 : Hid (((xs.length : Int) + 9) = ((xs.length + 9 : Nat) : Int)) := hide (by omega)
  go_wp2_with (at_make; refine wpList_make_own _ rfl _ _ 59 rfl w.heap.size 86 i0 (.agg #[.int .i64 0, .int .i64 0, .int .i64 0]) 3 Tryz.underlying59 hi hz0 hz1 _ _ _ (xs.length + 9) rfl rfl hn9.out (by rw [hz2]; omega) (by simp only [maxLen]; omega) (Nat.le_refl _) ?_)
  intro w1 own1 grow1
  have F1 : Fr no w w1 := (Fr.of_grown grow1).mono (fun _ _ e => by simp at e)
  have none1 := fun e => (Flat.row_none H.out e)
  go_wp2_with (at_builtin; refine wpList_append_fits_any _ rfl _ _ 59 rfl w.heap.size 86 i0 3 Tryz.underlying59 hi hz1 w.heap.size 0 (xs.length + 9) [] rfl own1 A xs.length c (fRight.all xs) rfl (fRight.all_length xs) none1 (rRight.row (H.out.keep F1)) (fRight.all_one xs) (by omega) ?_)
  intro w2 own2 grow2
  have F2 : Fr no w w2 := F1.thru (Fr.of_grown grow2) (fun i hi e => by simp at e; omega)
  have O2 := hide (show w2.ownsRow w.heap.size 86 3 (.slice (some ⟨w.heap.size, 0, none⟩) (xs.length + 0) (xs.length + 9)) (xs.length + 0) (fRight.all (xs ++ List.replicate 0 (777, 0, 0))) from by simpa using own2)
  clear own1 grow1 own2 grow2 none1 F1
  generalize hg : w.heap.size = g at *
  have hgl : w.heap.size ≤ g := Nat.le_of_eq hg
  have HG := hide hg
  clear hg
  go_wp2_with fail
  go_loopw [3, 4] (fun v i wr => ∃ m : Nat, i = .int .i64 m ∧ m ≤ 9 ∧ v = .slice (some ⟨g, 0, none⟩) (xs.length + m) (xs.length + 9) ∧ wr.ownsRow g 86 3 (.slice (some ⟨g, 0, none⟩) (xs.length + m) (xs.length + 9)) (xs.length + m) (fRight.all (xs ++ List.replicate m (777, 0, 0))) ∧ Fr no w wr) (fun _ i _ => 9 - (intOf i).toNat)
  case atStart => exact ⟨0, rfl, by decide, rfl, O2.out, F2⟩
  case round =>
    obtain ⟨m, rfl, hm, rfl, own, F⟩ := hrel
    by_cases hlt : m < 9
    · go_wp2_with (at_builtin; refine wpList_append_fits _ rfl _ _ 59 rfl g 86 i0 3 Tryz.underlying59 hi hz1 g (xs.length + m) (xs.length + 9) _ rfl (own_kept own ((Fr.refl no wr).alloc _)) ⟨wr.heap.size, 0, none⟩ 1 1 [.int .i64 777, .int .i64 0, .int .i64 0] rfl rfl (new_cells wr _ _) (fun u hu => by simp at hu; rcases hu with rfl | rfl | rfl <;> rfl) (by omega) ?_)
      intro w3 own3 grow3
      have F3 : Fr no w w3 := (F.alloc (.cells [.int .i64 777, .int .i64 0, .int .i64 0].toArray 86)).thru (Fr.of_grown grow3) (fun i hi e => by have := HG.out; simp at e; omega)
      have e3 : fRight.all (xs ++ List.replicate m (777, 0, 0)) ++ [.int .i64 777, .int .i64 0, .int .i64 0] = fRight.all (xs ++ List.replicate (m + 1) (777, 0, 0)) := by
        rw [← reps_succ, ← List.append_assoc, Flat.all_append _ _ [(777, 0, 0)]]; rfl
      rw [e3] at own3
      have REL := hide (⟨m + 1, by simp, hlt, rfl, own3, F3⟩ : ∃ k : Nat, Value.int .i64 ((m : Int) + 1) = .int .i64 k ∧ k ≤ 9 ∧ Value.slice (some ⟨g, 0, none⟩) (xs.length + (m + 1)) (xs.length + 9) = .slice (some ⟨g, 0, none⟩) (xs.length + k) (xs.length + 9) ∧ w3.ownsRow g 86 3 (.slice (some ⟨g, 0, none⟩) (xs.length + k) (xs.length + 9)) (xs.length + k) (fRight.all (xs ++ List.replicate k (777, 0, 0))) ∧ Fr no w w3)
      clear own3 grow3 F3 e3 own F
      go_wp2_with fail
      exact ⟨REL.out, by simp [intOf]; omega⟩
    · obtain rfl : m = 9 := by omega
      go_wp2_with fail
      go_ret
      exact ⟨⟨g, rfl, hgl, by rw [HG.out]; exact own⟩, F⟩
end Go.Proofs.YtmnajpkmglmipaaGreat

/- Contracts of tillref0's Eq.. at flat lists that are alike. -/
namespace Go.Proofs.YtmnajpkmglmipaaGreat
open Go.RowKit

/-- A slice at A holds the elements xs. -/
structure Sl {α : Type} (f : Flat α) (w : World) (A : Option Addr) (c : Nat) (xs : List α) : Prop where
  le : xs.length ≤ c
  top : c ≤ maxLen
  cells : xs ≠ [] → ∃ g o, A = some ⟨g, o, none⟩ ∧ ∀ i (h : i < xs.length) (r : Nat), r < f.sz → w.cell? ⟨g, o + i * f.sz + r, none⟩ = (f.enc xs[i])[r]?
  none : A = none → c = 0
theorem Sl.of_row {α : Type} {f : Flat α} {d : Kd α} (R : f.Reads d) {w : World} {A : Option Addr} {c : Nat} {xs : List α} (h : d.Row w A c xs) : Sl f w A c xs :=
  ⟨h.1, h.2.1, fun hn => by
    obtain ⟨g, o, e, hat⟩ := h.2.2.1 hn
    refine ⟨g, o, e, fun i hi r hr => ?_⟩
    obtain ⟨cells, k1, k2⟩ := hat i hi
    have := k2 r (by rw [R.1]; exact hr)
    rw [R.1, R.2 _ _ _ k1] at this
    exact this, h.2.2.2⟩
theorem Sl.kept {α : Type} {f : Flat α} {w w' : World} {A : Option Addr} {c : Nat} {xs : List α} (h : Sl f w A c xs) (k : ∀ b, (∃ a, A = some a ∧ a.block = b) → w'.heap[b]? = w.heap[b]?) : Sl f w' A c xs :=
  ⟨h.le, h.top, fun hn => by
    obtain ⟨g, o, e, hc⟩ := h.cells hn
    exact ⟨g, o, e, fun i hi r hr => by rw [World.cell?_of_block (w := w) (k g ⟨_, e, rfl⟩)]; exact hc i hi r hr⟩, h.none⟩
set_option maxRecDepth 100000 in
set_option maxHeartbeats 1000000 in
theorem eq_lines (A A' : Option Addr) (c c' : Nat) (xs : List LineD) (w : World) (h : Sl fLine w A c xs) (h' : Sl fLine w A' c' xs) :
    Calls Tryz.prog 34 #[.slice A xs.length c, .slice A' xs.length c'] w fun e w' => e = .returned (.bool true) ∧ Fr no w w' := by
  have hl := h.le
  have hl' := h'.le
  have ht : xs.length ≤ 9223372036854775807 := by have := h.top; simp only [maxLen] at this; omega
  have H := hide h
  have H' := hide h'
  clear h h'
  go_enter Tryz.func34, Tryz.ntmps34
  go_wp2_with fail
  go_loopw [5] (fun i wr => ∃ m : Nat, i = .int .i64 m ∧ m ≤ xs.length ∧ ∃ n, wr = w.drewN n) (fun i _ => xs.length - (intOf i).toNat)
  case atStart => exact ⟨0, rfl, Nat.zero_le _, 0, rfl⟩
  case round =>
    obtain ⟨m, rfl, hm, n, rfl⟩ := hrel
    by_cases hlt : m < xs.length
    · obtain ⟨g, o, rfl, q⟩ := H.out.cells (List.length_pos_iff.1 (by omega))
      obtain ⟨g', o', rfl, q'⟩ := H'.out.cells (List.length_pos_iff.1 (by omega))
      have a0 : (w.drewN n).cell? ⟨g, o + m * 2, none⟩ = some (.int .i64 xs[m].1) := q m hlt 0 (by decide)
      have a1 : (w.drewN n).cell? ⟨g, o + m * 2 + 1, none⟩ = some (.int .i64 xs[m].2) := q m hlt 1 (by decide)
      have b0 : (w.drewN n).cell? ⟨g', o' + m * 2, none⟩ = some (.int .i64 xs[m].1) := q' m hlt 0 (by decide)
      have b1 : (w.drewN n).cell? ⟨g', o' + m * 2 + 1, none⟩ = some (.int .i64 xs[m].2) := q' m hlt 1 (by decide)
      have hi0 : (0 : Int) ≤ m := by omega
      have hi1 : (m : Int) < xs.length := by omega
      clear q q'
      go_wp2_with fail
      go_region_held3 (fun W' => W'.cell? ⟨g, o + m * 2, none⟩ = some (.int .i64 xs[m].1) ∧ W'.cell? ⟨g, o + m * 2 + 1, none⟩ = some (.int .i64 xs[m].2) ∧ W'.cell? ⟨g', o' + m * 2, none⟩ = some (.int .i64 xs[m].1) ∧ W'.cell? ⟨g', o' + m * 2 + 1, none⟩ = some (.int .i64 xs[m].2))
        (first | exact ⟨a0, a1, b0, b1⟩ | assumption)
        (fail)
      go_wp2_with fail
      exact ⟨⟨m + 1, by simp, hlt, n + 1, rfl⟩, by simp [intOf]; omega⟩
    · go_wp2_with fail
      go_ret
      exact ⟨rfl, (Fr.refl _ _).drewN _⟩
set_option maxRecDepth 100000 in
set_option maxHeartbeats 1000000 in
theorem eq_guards (A A' : Option Addr) (c c' : Nat) (xs : List GuardD) (w : World) (h : Sl fGuard w A c xs) (h' : Sl fGuard w A' c' xs) :
    Calls Tryz.prog 133 #[.slice A xs.length c, .slice A' xs.length c'] w fun e w' => e = .returned (.bool true) ∧ Fr no w w' := by
  have hl := h.le
  have hl' := h'.le
  have ht : xs.length ≤ 9223372036854775807 := by have := h.top; simp only [maxLen] at this; omega
  have H := hide h
  have H' := hide h'
  clear h h'
  go_enter Tryz.func133, Tryz.ntmps133
  go_wp2_with fail
  go_loopw [5] (fun i wr => ∃ m : Nat, i = .int .i64 m ∧ m ≤ xs.length ∧ ∃ n, wr = w.drewN n) (fun i _ => xs.length - (intOf i).toNat)
  case atStart => exact ⟨0, rfl, Nat.zero_le _, 0, rfl⟩
  case round =>
    obtain ⟨m, rfl, hm, n, rfl⟩ := hrel
    by_cases hlt : m < xs.length
    · obtain ⟨g, o, rfl, q⟩ := H.out.cells (List.length_pos_iff.1 (by omega))
      obtain ⟨g', o', rfl, q'⟩ := H'.out.cells (List.length_pos_iff.1 (by omega))
      have a0 : (w.drewN n).cell? ⟨g, o + m * 3, none⟩ = some (.int .i64 xs[m].1) := q m hlt 0 (by decide)
      have a1 : (w.drewN n).cell? ⟨g, o + m * 3 + 1, none⟩ = some (.int .i64 xs[m].2.1) := q m hlt 1 (by decide)
      have a2 : (w.drewN n).cell? ⟨g, o + m * 3 + 2, none⟩ = some (.int .i64 xs[m].2.2) := q m hlt 2 (by decide)
      have b0 : (w.drewN n).cell? ⟨g', o' + m * 3, none⟩ = some (.int .i64 xs[m].1) := q' m hlt 0 (by decide)
      have b1 : (w.drewN n).cell? ⟨g', o' + m * 3 + 1, none⟩ = some (.int .i64 xs[m].2.1) := q' m hlt 1 (by decide)
      have b2 : (w.drewN n).cell? ⟨g', o' + m * 3 + 2, none⟩ = some (.int .i64 xs[m].2.2) := q' m hlt 2 (by decide)
      have hi0 : (0 : Int) ≤ m := by omega
      have hi1 : (m : Int) < xs.length := by omega
      clear q q'
      go_wp2_with fail
      go_region_held3 (fun W' => W'.cell? ⟨g, o + m * 3, none⟩ = some (.int .i64 xs[m].1) ∧ W'.cell? ⟨g, o + m * 3 + 1, none⟩ = some (.int .i64 xs[m].2.1) ∧ W'.cell? ⟨g, o + m * 3 + 2, none⟩ = some (.int .i64 xs[m].2.2) ∧ W'.cell? ⟨g', o' + m * 3, none⟩ = some (.int .i64 xs[m].1) ∧ W'.cell? ⟨g', o' + m * 3 + 1, none⟩ = some (.int .i64 xs[m].2.1) ∧ W'.cell? ⟨g', o' + m * 3 + 2, none⟩ = some (.int .i64 xs[m].2.2))
        (first | exact ⟨a0, a1, a2, b0, b1, b2⟩ | assumption)
        (fail)
      go_wp2_with fail
      exact ⟨⟨m + 1, by simp, hlt, n + 1, rfl⟩, by simp [intOf]; omega⟩
    · go_wp2_with fail
      go_ret
      exact ⟨rfl, (Fr.refl _ _).drewN _⟩
set_option maxRecDepth 100000 in
set_option maxHeartbeats 1000000 in
theorem eq_sets (A A' : Option Addr) (c c' : Nat) (xs : List SetD) (w : World) (h : Sl fSet w A c xs) (h' : Sl fSet w A' c' xs) :
    Calls Tryz.prog 35 #[.slice A xs.length c, .slice A' xs.length c'] w fun e w' => e = .returned (.bool true) ∧ Fr no w w' := by
  have hl := h.le
  have hl' := h'.le
  have ht : xs.length ≤ 9223372036854775807 := by have := h.top; simp only [maxLen] at this; omega
  have H := hide h
  have H' := hide h'
  clear h h'
  go_enter Tryz.func35, Tryz.ntmps35
  go_wp2_with fail
  go_loopw [5] (fun i wr => ∃ m : Nat, i = .int .i64 m ∧ m ≤ xs.length ∧ ∃ n, wr = w.drewN n) (fun i _ => xs.length - (intOf i).toNat)
  case atStart => exact ⟨0, rfl, Nat.zero_le _, 0, rfl⟩
  case round =>
    obtain ⟨m, rfl, hm, n, rfl⟩ := hrel
    by_cases hlt : m < xs.length
    · obtain ⟨g, o, rfl, q⟩ := H.out.cells (List.length_pos_iff.1 (by omega))
      obtain ⟨g', o', rfl, q'⟩ := H'.out.cells (List.length_pos_iff.1 (by omega))
      have a0 : (w.drewN n).cell? ⟨g, o + m * 3, none⟩ = some (.int .i64 xs[m].1) := q m hlt 0 (by decide)
      have a1 : (w.drewN n).cell? ⟨g, o + m * 3 + 1, none⟩ = some (.int .i64 xs[m].2.1) := q m hlt 1 (by decide)
      have a2 : (w.drewN n).cell? ⟨g, o + m * 3 + 2, none⟩ = some (.int .i64 xs[m].2.2) := q m hlt 2 (by decide)
      have b0 : (w.drewN n).cell? ⟨g', o' + m * 3, none⟩ = some (.int .i64 xs[m].1) := q' m hlt 0 (by decide)
      have b1 : (w.drewN n).cell? ⟨g', o' + m * 3 + 1, none⟩ = some (.int .i64 xs[m].2.1) := q' m hlt 1 (by decide)
      have b2 : (w.drewN n).cell? ⟨g', o' + m * 3 + 2, none⟩ = some (.int .i64 xs[m].2.2) := q' m hlt 2 (by decide)
      have hi0 : (0 : Int) ≤ m := by omega
      have hi1 : (m : Int) < xs.length := by omega
      clear q q'
      go_wp2_with fail
      go_region_held3 (fun W' => W'.cell? ⟨g, o + m * 3, none⟩ = some (.int .i64 xs[m].1) ∧ W'.cell? ⟨g, o + m * 3 + 1, none⟩ = some (.int .i64 xs[m].2.1) ∧ W'.cell? ⟨g, o + m * 3 + 2, none⟩ = some (.int .i64 xs[m].2.2) ∧ W'.cell? ⟨g', o' + m * 3, none⟩ = some (.int .i64 xs[m].1) ∧ W'.cell? ⟨g', o' + m * 3 + 1, none⟩ = some (.int .i64 xs[m].2.1) ∧ W'.cell? ⟨g', o' + m * 3 + 2, none⟩ = some (.int .i64 xs[m].2.2))
        (first | exact ⟨a0, a1, a2, b0, b1, b2⟩ | assumption)
        (fail)
      go_wp2_with fail
      exact ⟨⟨m + 1, by simp, hlt, n + 1, rfl⟩, by simp [intOf]; omega⟩
    · go_wp2_with fail
      go_ret
      exact ⟨rfl, (Fr.refl _ _).drewN _⟩
set_option maxRecDepth 100000 in
set_option maxHeartbeats 1000000 in
theorem eq_rights (A A' : Option Addr) (c c' : Nat) (xs : List RightD) (w : World) (h : Sl fRight w A c xs) (h' : Sl fRight w A' c' xs) :
    Calls Tryz.prog 14 #[.slice A xs.length c, .slice A' xs.length c'] w fun e w' => e = .returned (.bool true) ∧ Fr no w w' := by
  have hl := h.le
  have hl' := h'.le
  have ht : xs.length ≤ 9223372036854775807 := by have := h.top; simp only [maxLen] at this; omega
  have H := hide h
  have H' := hide h'
  clear h h'
  go_enter Tryz.func14, Tryz.ntmps14
  go_wp2_with fail
  go_loopw [5] (fun i wr => ∃ m : Nat, i = .int .i64 m ∧ m ≤ xs.length ∧ ∃ n, wr = w.drewN n) (fun i _ => xs.length - (intOf i).toNat)
  case atStart => exact ⟨0, rfl, Nat.zero_le _, 0, rfl⟩
  case round =>
    obtain ⟨m, rfl, hm, n, rfl⟩ := hrel
    by_cases hlt : m < xs.length
    · obtain ⟨g, o, rfl, q⟩ := H.out.cells (List.length_pos_iff.1 (by omega))
      obtain ⟨g', o', rfl, q'⟩ := H'.out.cells (List.length_pos_iff.1 (by omega))
      have a0 : (w.drewN n).cell? ⟨g, o + m * 3, none⟩ = some (.int .i64 xs[m].1) := q m hlt 0 (by decide)
      have a1 : (w.drewN n).cell? ⟨g, o + m * 3 + 1, none⟩ = some (.int .i64 xs[m].2.1) := q m hlt 1 (by decide)
      have a2 : (w.drewN n).cell? ⟨g, o + m * 3 + 2, none⟩ = some (.int .i64 xs[m].2.2) := q m hlt 2 (by decide)
      have b0 : (w.drewN n).cell? ⟨g', o' + m * 3, none⟩ = some (.int .i64 xs[m].1) := q' m hlt 0 (by decide)
      have b1 : (w.drewN n).cell? ⟨g', o' + m * 3 + 1, none⟩ = some (.int .i64 xs[m].2.1) := q' m hlt 1 (by decide)
      have b2 : (w.drewN n).cell? ⟨g', o' + m * 3 + 2, none⟩ = some (.int .i64 xs[m].2.2) := q' m hlt 2 (by decide)
      have hi0 : (0 : Int) ≤ m := by omega
      have hi1 : (m : Int) < xs.length := by omega
      clear q q'
      go_wp2_with fail
      go_region_held3 (fun W' => W'.cell? ⟨g, o + m * 3, none⟩ = some (.int .i64 xs[m].1) ∧ W'.cell? ⟨g, o + m * 3 + 1, none⟩ = some (.int .i64 xs[m].2.1) ∧ W'.cell? ⟨g, o + m * 3 + 2, none⟩ = some (.int .i64 xs[m].2.2) ∧ W'.cell? ⟨g', o' + m * 3, none⟩ = some (.int .i64 xs[m].1) ∧ W'.cell? ⟨g', o' + m * 3 + 1, none⟩ = some (.int .i64 xs[m].2.1) ∧ W'.cell? ⟨g', o' + m * 3 + 2, none⟩ = some (.int .i64 xs[m].2.2))
        (first | exact ⟨a0, a1, a2, b0, b1, b2⟩ | assumption)
        (fail)
      go_wp2_with fail
      exact ⟨⟨m + 1, by simp, hlt, n + 1, rfl⟩, by simp [intOf]; omega⟩
    · go_wp2_with fail
      go_ret
      exact ⟨rfl, (Fr.refl _ _).drewN _⟩
end Go.Proofs.YtmnajpkmglmipaaGreat

/- The iterator over what each line needs: a sequence of kinds and numbers. -/
namespace Go.Proofs.YtmnajpkmglmipaaGreat
open Go.RowKit Go.Shelf
attribute [local go_sem] Oper.semAt_some

/-- What a sequence of kinds and numbers hands over: a kind whose numbers are numbers of 64 bits, and a number. -/
abbrev NeedT := { p : KindD × Int // (Wf64 p.1.1 ∧ Wf64 p.1.2) ∧ Wf64 p.2 }
def needEnc (p : NeedT) : Array Value := #[.agg #[.int .i64 p.1.1.1, .int .i64 p.1.1.2], .int .i64 p.1.2]
theorem wayOf_wf (c : Int) : Wf64 (wayOf c) := by unfold wayOf Wf64; split <;> omega
theorem amtOf_wf {c : Int} (h : Wf64 c) : Wf64 (amtOf c) := by
  unfold amtOf
  split
  · exact wr64_wf _
  · exact h
def WfL (x : LineD) : Prop := Wf64 x.1 ∧ Wf64 x.2
/-- What lines need, one behind the other. -/
def needT (x : LineD) (h : WfL x) : NeedT := ⟨((x.1, wayOf x.2), amtOf x.2), ⟨h.1, wayOf_wf _⟩, amtOf_wf h.2⟩
def needTs (xs : List LineD) (h : ∀ x ∈ xs, WfL x) : List NeedT := xs.attach.map fun x => needT x.1 (h x.1 x.2)

set_option maxRecDepth 100000 in
set_option maxHeartbeats 2000000 in
theorem needs_it (l Bn : Nat) (A : Option Addr) (c n₀ : Nat) (xs : List LineD) (hx : ∀ x ∈ xs, WfL x) (J Jx : List NeedT → World → Prop)
    (hY : ∀ pre x W, J pre W → pre.length < xs.length → YieldAt Fence.wide 5 Tryz.prog l (needEnc x) W fun e W' => (e = .returned (.bool true) ∧ J (pre ++ [x]) W' ∧ Below n₀ W W') ∨ (e = .returned (.bool false) ∧ Jx (pre ++ [x]) W'))
    (W : World) (hJ : AbidesFrom W.heap.size J) (hBn : W.cell? ⟨Bn, 0, none⟩ = some (.slice A xs.length c)) (hs : Sl fLine W A c xs) (hA : xs ≠ [] → ∀ a, A = some a → a.block < n₀) (hn₀ : n₀ ≤ W.heap.size) (h0 : J [] W) :
    CallsIn Fence.wide 6 Tryz.prog 105 #[.func (.yield l) #[] #[], .pointer (some ⟨Bn, 0, none⟩)] W fun e W' => (∃ v, e = .returned v) ∧
      ((∃ ys, ys = needTs xs hx ∧ J ys W') ∨ (∃ pre, pre <+: needTs xs hx ∧ Jx pre W')) := by
  have hlen : (needTs xs hx).length = xs.length := by simp [needTs]
  have hget : ∀ m (h : m < xs.length) (h' : m < (needTs xs hx).length), (needTs xs hx)[m]'h' = needT xs[m] (hx _ (List.getElem_mem _)) := by
    intro m h h'
    simp only [needTs, List.getElem_map, List.getElem_attach]
  obtain ⟨ts, hts⟩ : ∃ ts, ts = needTs xs hx := ⟨_, rfl⟩
  rw [← hts] at hlen ⊢
  have HG : Hid (∀ m (h : m < xs.length), ∃ h' : m < ts.length, ∃ hw : WfL xs[m], ts[m]'h' = needT xs[m] hw) := hide (by
    subst hts
    intro m h
    exact ⟨by rw [hlen]; exact h, hx _ (List.getElem_mem _), hget m h _⟩)
  clear hget hts
  refine callsIn_of_wp Tryz.func105 rfl trivial ?_ rfl
  simp only [Tryz.ntmps105, List.size_toArray, List.length_cons, List.length_nil, Nat.reduceAdd, Nat.reduceSub, Array.replicate_succ, Array.replicate_zero, List.push_toArray, List.append_toArray, List.nil_append, List.cons_append]
  gi_wp2
  have ht : xs.length ≤ 9223372036854775807 := by have h1 := hs.le; have h2 := hs.top; simp only [maxLen] at h2; omega
  have hf47 : Fence.wide.fn 106 := trivial
  have HS := hide hs
  have HJ := hide hJ
  have HY := hide hY
  clear hs hJ hY
  gi_loopw [8] (fun i wr => ∃ m : Nat, i = .int .i64 m ∧ m ≤ xs.length ∧ J (ts.take m) wr ∧ Below n₀ W wr) (fun i _ => xs.length - (intOf i).toNat)
  case atStart => exact ⟨0, rfl, Nat.zero_le _, h0, Below.refl _ _⟩
  case round =>
    obtain ⟨m, rfl, hm, hJm, hbl⟩ := hrel
    by_cases hlt : m < xs.length
    · obtain ⟨g, o, rfl, hc⟩ := HS.out.cells (List.length_pos_iff.1 (by omega))
      obtain ⟨c1, d1, hxm⟩ : ∃ c1 d1, xs[m] = (c1, d1) := ⟨_, _, rfl⟩
      have hg : g < n₀ := hA (List.length_pos_iff.1 (by omega)) _ rfl
      have a0 : wr.cell? ⟨g, o + m * 2, none⟩ = some (.int .i64 c1) := by
        have := hc m hlt 0 (by decide)
        rw [hxm] at this
        exact (hbl.cell (p := ⟨g, o + m * 2, none⟩) hg).trans this
      have a1 : wr.cell? ⟨g, o + m * 2 + 1, none⟩ = some (.int .i64 d1) := by
        have := hc m hlt 1 (by decide)
        rw [hxm] at this
        exact (hbl.cell (p := ⟨g, o + m * 2 + 1, none⟩) hg).trans this
      obtain ⟨hm', hw, hel⟩ := HG.out m hlt
      have htk : Hid (ts.take (m + 1) = ts.take m ++ [ts[m]]) := hide (List.take_append_getElem hm').symm
      have hd1 : Wf64 d1 := by rw [hxm] at hw; exact hw.2
      have HD := hide hd1
      have hq : IntKind.i64.wrap (d1.natAbs : Int) = amtOf d1 := natAbs_amt d1 hd1
      have hen : needEnc ts[m] = #[.agg #[.int .i64 c1, .int .i64 (wayOf d1)], .int .i64 (amtOf d1)] := by
        rw [hel]; simp only [needEnc, needT, hxm]
      have hJ2 : J (ts.take m) (wr.alloc (.cells #[.int .i64 c1, .int .i64 d1] 57)).drew := by
        have hsz := hbl.size
        refine HJ.out _ _ _ none hJm ⟨rfl, rfl, rfl, by simp [World.drew], fun k hk _ => heap_alloc_old wr _ hk⟩ (fun r e => by cases e)
      have hb2 : Below n₀ W (wr.alloc (.cells #[.int .i64 c1, .int .i64 d1] 57)).drew := (hbl.alloc (Nat.le_trans hn₀ hbl.size) _).drew
      have hR0 := HY.out _ ts[m] _ hJ2 (by rw [List.length_take, hlen]; omega)
      rw [hen] at hR0
      have hi0 : (0 : Int) ≤ m := by omega
      have hi1 : (m : Int) < xs.length := by omega
      generalize ts[m] = tm at *
      clear hc hxm hw hel hen hd1
      generalize hqq : amtOf d1 = q at *
      clear hqq
      have hR1 := hR0
      clear hR0
      obtain ⟨wy, hwy⟩ : ∃ wy, wy = wayOf d1 := ⟨_, rfl⟩
      rw [← hwy] at hR1
      obtain ⟨fn, tmps, assign, body, hy, hR'⟩ := hR1
      have hR := hR'.mono (R' := fun e W' => ∃ bb, e = .returned (.bool bb) ∧ Hid ((bb = true → J (ts.take m ++ [tm]) W' ∧ Below n₀ (wr.alloc (.cells #[.int .i64 c1, .int .i64 d1] 57)).drew W') ∧ (bb = false → Jx (ts.take m ++ [tm]) W')))
        (by rintro e W' (⟨rfl, h1, h2⟩ | ⟨rfl, h1⟩)
            · exact ⟨true, rfl, hide ⟨fun _ => ⟨h1, h2⟩, fun h => (by cases h)⟩⟩
            · exact ⟨false, rfl, hide ⟨fun h => (by cases h), fun _ => h1⟩⟩)
      clear hR'
      by_cases hneg : d1 < 0
      · obtain rfl : wy = 0 := by rw [hwy]; simp [wayOf, hneg]
        clear hwy
        gi_wp2
        gi_region_with (first
          | (gi_at_call 106; refine (callsIn_wide.2 (amount_c _ HD.out _)).mono ?_; rintro e w' ⟨rfl, rfl⟩)
          | (refine hR.mono ?_; rintro e W3 ⟨bb, rfl, hD⟩))
        all_goals
          cases bb
          · have jx := hD.out.2 rfl
            gi_wp2
            refine bodyPost_ret (results_none rfl _ _ _) rfl ?_
            exact ⟨⟨_, rfl⟩, .inr ⟨_, htk.out ▸ List.take_prefix (m + 1) ts, jx⟩⟩
          · have jt := hide (hD.out.1 rfl)
            gi_wp2
            exact ⟨⟨m + 1, by simp, hlt, htk.out ▸ jt.out.1, hb2.trans jt.out.2⟩, by simp [intOf]; omega⟩
      · obtain rfl : wy = 1 := by rw [hwy]; simp [wayOf, hneg]
        clear hwy
        gi_wp2
        gi_region_with (first
          | (gi_at_call 106; refine (callsIn_wide.2 (amount_c _ HD.out _)).mono ?_; rintro e w' ⟨rfl, rfl⟩)
          | (refine hR.mono ?_; rintro e W3 ⟨bb, rfl, hD⟩))
        all_goals
          cases bb
          · have jx := hD.out.2 rfl
            gi_wp2
            refine bodyPost_ret (results_none rfl _ _ _) rfl ?_
            exact ⟨⟨_, rfl⟩, .inr ⟨_, htk.out ▸ List.take_prefix (m + 1) ts, jx⟩⟩
          · have jt := hide (hD.out.1 rfl)
            gi_wp2
            exact ⟨⟨m + 1, by simp, hlt, htk.out ▸ jt.out.1, hb2.trans jt.out.2⟩, by simp [intOf]; omega⟩
    · obtain rfl : m = xs.length := by omega
      gi_wp2
      go_end0
      exact ⟨⟨_, rfl⟩, .inl ⟨ts, rfl, by rw [List.take_of_length_le (by omega)] at hJm; exact hJm⟩⟩
theorem needs_c (A : Option Addr) (n c : Nat) (w : World) :
    Calls Tryz.prog 51 #[.slice A n c] w fun e w' => e = .returned (.func (.func 105) #[] #[.pointer (some ⟨w.heap.size, 0, none⟩)]) ∧ w' = w.alloc (.cells #[.slice A n c] 55) := by
  go_enter Tryz.func51, Tryz.ntmps51
  go_wp2_with fail
  go_ret
  exact ⟨rfl, rfl⟩
theorem Sl.lt {α : Type} {f : Flat α} {w : World} {A : Option Addr} {c : Nat} {xs : List α} (h : Sl f w A c xs) (hn : xs ≠ []) : ∀ a, A = some a → a.block < w.heap.size := by
  intro a ha
  obtain ⟨g, o, e, hc⟩ := h.cells hn
  rw [ha] at e
  obtain rfl := Option.some.inj e
  have h0 : 0 < xs.length := List.length_pos_iff.2 hn
  have := hc 0 h0 0 f.pos
  rw [List.getElem?_eq_getElem (by rw [f.len]; exact f.pos)] at this
  have hb := World.block_lt_of_cell? w _ this
  exact hb
theorem Sl.below {α : Type} {f : Flat α} {w w' : World} {A : Option Addr} {c : Nat} {xs : List α} (h : Sl f w A c xs) (k : Below w.heap.size w w') : Sl f w' A c xs := by
  by_cases hn : xs = []
  · exact ⟨h.le, h.top, fun e => absurd hn e, h.none⟩
  · exact h.kept (fun b ⟨a, ha, e⟩ => by subst e; exact k.block _ (h.lt hn a ha))
theorem needs_stops (Bn n₀ : Nat) (A : Option Addr) (c : Nat) (xs : List LineD) (hx : ∀ x ∈ xs, WfL x) (w : World) (hn₀ : n₀ ≤ w.heap.size) (hBn : w.cell? ⟨Bn, 0, none⟩ = some (.slice A xs.length c)) (hs : Sl fLine w A c xs) (hA : xs ≠ [] → ∀ a, A = some a → a.block < n₀) :
    SeqStopsK Fence.wide 6 Tryz.prog 105 #[.pointer (some ⟨Bn, 0, none⟩)] needEnc (Below n₀) (fun ys => ys = needTs xs hx) (fun pre => pre <+: needTs xs hx) xs.length w := fun l J Jx W hW hJ _ hY h0 =>
  needs_it l Bn A c n₀ xs hx J Jx hY W hJ ((hW.cell (p := ⟨Bn, 0, none⟩) (World.block_lt_of_cell? w _ hBn)).trans hBn) (hs.below hW) hA (Nat.le_trans hn₀ hW.size) h0
end Go.Proofs.YtmnajpkmglmipaaGreat
