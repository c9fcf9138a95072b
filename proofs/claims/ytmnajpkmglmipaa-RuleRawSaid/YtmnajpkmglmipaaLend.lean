/- Contracts of package tilllaw1's lending of flat lists. -/
import Derived.Test.YtmnajpkmglmipaaProg
import Derived.Test.YtmnajpkmglmipaaNum
import Derived.Test.YtmnajpkmglmipaaFlat
import Derived.WalkKit
import Derived.WalkSpells
import Derived.WalkLawsBesides
import Derived.LoopTactic
import Derived.Deep.DeepCutAuto
import Derived.Deep.LoopGhost
namespace Go.Proofs.Ytmnajpkmglmipaa
open Go.RowKit

abbrev LineD := Int × Int
def kLine : Kd LineD := .pair (.int .i64) (.int .i64)
def fLine : Flat LineD where
  sz := 2
  enc := fun x => [.int .i64 x.1, .int .i64 x.2]
  len := fun _ => rfl
  pos := by decide
  one := fun x u hu => by simp at hu; rcases hu with rfl | rfl <;> rfl
theorem rLine : fLine.Reads kLine := ⟨rfl, fun w x cs h => by
  obtain ⟨c0, d0, rfl, h0, g0⟩ := h
  obtain rfl : c0 = _ := h0
  obtain rfl : d0 = _ := g0
  rfl⟩
theorem info_line : (Try.prog.info? 104).map (fun i => (i.zero, i.size, i.bytes)) = some (some (.agg #[.int .i64 0, .int .i64 0]), 2, 16) := by kernel_rfl
abbrev GuardD := Int × Int × Int
def kGuard : Kd GuardD := .pair (.int .i64) (.pair (.int .i64) (.int .i64))
def fGuard : Flat GuardD where
  sz := 3
  enc := fun x => [.int .i64 x.1, .int .i64 x.2.1, .int .i64 x.2.2]
  len := fun _ => rfl
  pos := by decide
  one := fun x u hu => by simp at hu; rcases hu with rfl | rfl | rfl <;> rfl
theorem rGuard : fGuard.Reads kGuard := ⟨rfl, fun w x cs h => by
  obtain ⟨c0, d0, rfl, h0, g0⟩ := h
  obtain rfl : c0 = _ := h0
  obtain ⟨c1, d1, rfl, h1, g1⟩ := g0
  obtain rfl : c1 = _ := h1
  obtain rfl : d1 = _ := g1
  rfl⟩
theorem info_guard : (Try.prog.info? 81).map (fun i => (i.zero, i.size, i.bytes)) = some (some (.agg #[.int .i64 0, .int .i64 0, .int .i64 0]), 3, 24) := by kernel_rfl
abbrev SetD := Int × Int × Int
def kSet : Kd SetD := .pair (.int .i64) (.pair (.int .i64) (.int .i64))
def fSet : Flat SetD where
  sz := 3
  enc := fun x => [.int .i64 x.1, .int .i64 x.2.1, .int .i64 x.2.2]
  len := fun _ => rfl
  pos := by decide
  one := fun x u hu => by simp at hu; rcases hu with rfl | rfl | rfl <;> rfl
theorem rSet : fSet.Reads kSet := ⟨rfl, fun w x cs h => by
  obtain ⟨c0, d0, rfl, h0, g0⟩ := h
  obtain rfl : c0 = _ := h0
  obtain ⟨c1, d1, rfl, h1, g1⟩ := g0
  obtain rfl : c1 = _ := h1
  obtain rfl : d1 = _ := g1
  rfl⟩
theorem info_set : (Try.prog.info? 85).map (fun i => (i.zero, i.size, i.bytes)) = some (some (.agg #[.int .i64 0, .int .i64 0, .int .i64 0]), 3, 24) := by kernel_rfl
abbrev RightD := Int × Int × Int
def kRight : Kd RightD := .pair (.int .i64) (.pair (.int .i64) (.int .i64))
def fRight : Flat RightD where
  sz := 3
  enc := fun x => [.int .i64 x.1, .int .i64 x.2.1, .int .i64 x.2.2]
  len := fun _ => rfl
  pos := by decide
  one := fun x u hu => by simp at hu; rcases hu with rfl | rfl | rfl <;> rfl
theorem rRight : fRight.Reads kRight := ⟨rfl, fun w x cs h => by
  obtain ⟨c0, d0, rfl, h0, g0⟩ := h
  obtain rfl : c0 = _ := h0
  obtain ⟨c1, d1, rfl, h1, g1⟩ := g0
  obtain rfl : c1 = _ := h1
  obtain rfl : d1 = _ := g1
  rfl⟩
theorem info_right : (Try.prog.info? 42).map (fun i => (i.zero, i.size, i.bytes)) = some (some (.agg #[.int .i64 0, .int .i64 0, .int .i64 0]), 3, 24) := by kernel_rfl
theorem new_cells (w : World) (cs : List Value) (T : TypeId) : ∀ j u, cs[j]? = some u → (w.alloc (.cells cs.toArray T)).cell? ((⟨w.heap.size, 0, none⟩ : Addr).add j) = some u := by
  intro j u hj
  rw [Kd.addr_add, Nat.zero_add, (Blk.new w T cs.toArray).cell j]
  simpa using hj
theorem own_kept {w w' : World} {base size n : Nat} {e : TypeId} {v : Value} {xs : List Value} (h : w.ownsRow base e size v n xs) (f : Fr no w w') : w'.ownsRow base e size v n xs := by
  refine ⟨h.1, ?_⟩
  rcases h.2 with h | ⟨g, cap, cur, h1, h2, h3, h4⟩
  · exact .inl h
  · exact .inr ⟨g, cap, cur, h1, h2, (f.block g (Array.getElem?_eq_some_iff.1 h3).1 (fun e => e)).trans h3, h4⟩
theorem reps_succ {α : Type} (n : Nat) (x : α) : List.replicate n x ++ [x] = List.replicate (n + 1) x := List.replicate_succ'.symm

set_option maxRecDepth 100000 in
set_option maxHeartbeats 1000000 in
theorem lend_lines (A : Option Addr) (c : Nat) (xs : List LineD) (w : World) (h : kLine.Row w A c xs) (hb : xs.length * 16 ≤ 140737488351232) :
    Calls Try.prog 19 #[.slice A xs.length c] w fun e w' => (∃ g, e = .returned (.slice (some ⟨g, 0, none⟩) xs.length (xs.length + 9)) ∧ w.heap.size ≤ g ∧
      w'.ownsRow w.heap.size 104 2 (.slice (some ⟨g, 0, none⟩) (xs.length + 9) (xs.length + 9)) (xs.length + 9) (fLine.all (xs ++ List.replicate 9 (777, 7)))) ∧ Fr no w w' := by
  obtain ⟨i0, hi, hz0, hz1, hz2⟩ := info_parts info_line
  have H := hide h
  clear h
  go_enter Try.func19, Try.ntmps19
  have hn9 : Hid (((xs.length : Int) + 9) = ((xs.length + 9 : Nat) : Int)) := hide (by omega)
  go_wp2_with (at_make; refine wpList_make_own _ rfl _ _ 36 rfl w.heap.size 104 i0 (.agg #[.int .i64 0, .int .i64 0]) 2 Try.underlying36 hi hz0 hz1 _ _ _ (xs.length + 9) rfl rfl hn9.out (by rw [hz2]; omega) (by simp only [maxLen]; omega) (Nat.le_refl _) ?_)
  intro w1 own1 grow1
  have F1 : Fr no w w1 := (Fr.of_grown grow1).mono (fun _ _ e => by simp at e)
  have none1 := fun e => (Flat.row_none H.out e)
  go_wp2_with (at_builtin; refine wpList_append_fits_any _ rfl _ _ 36 rfl w.heap.size 104 i0 2 Try.underlying36 hi hz1 w.heap.size 0 (xs.length + 9) [] rfl own1 A xs.length c (fLine.all xs) rfl (fLine.all_length xs) none1 (rLine.row (H.out.keep F1)) (fLine.all_one xs) (by omega) ?_)
  intro w2 own2 grow2
  have F2 : Fr no w w2 := F1.thru (Fr.of_grown grow2) (fun i hi e => by simp at e; omega)
  have O2 := hide (show w2.ownsRow w.heap.size 104 2 (.slice (some ⟨w.heap.size, 0, none⟩) (xs.length + 0) (xs.length + 9)) (xs.length + 0) (fLine.all (xs ++ List.replicate 0 (777, 7))) from by simpa using own2)
  clear own1 grow1 own2 grow2 none1 F1
  generalize hg : w.heap.size = g at *
  have hgl : w.heap.size ≤ g := Nat.le_of_eq hg
  have HG := hide hg
  clear hg
  go_wp2_with fail
  go_loopw [3, 4] (fun v i wr => ∃ m : Nat, i = .int .i64 m ∧ m ≤ 9 ∧ v = .slice (some ⟨g, 0, none⟩) (xs.length + m) (xs.length + 9) ∧ wr.ownsRow g 104 2 (.slice (some ⟨g, 0, none⟩) (xs.length + m) (xs.length + 9)) (xs.length + m) (fLine.all (xs ++ List.replicate m (777, 7))) ∧ Fr no w wr) (fun _ i _ => 9 - (intOf i).toNat)
  case atStart => exact ⟨0, rfl, by decide, rfl, O2.out, F2⟩
  case round =>
    obtain ⟨m, rfl, hm, rfl, own, F⟩ := hrel
    by_cases hlt : m < 9
    · go_wp2_with (at_builtin; refine wpList_append_fits _ rfl _ _ 36 rfl g 104 i0 2 Try.underlying36 hi hz1 g (xs.length + m) (xs.length + 9) _ rfl (own_kept own ((Fr.refl no wr).alloc _)) ⟨wr.heap.size, 0, none⟩ 1 1 [.int .i64 777, .int .i64 7] rfl rfl (new_cells wr _ _) (fun u hu => by simp at hu; rcases hu with rfl | rfl <;> rfl) (by omega) ?_)
      intro w3 own3 grow3
      have F3 : Fr no w w3 := (F.alloc (.cells [.int .i64 777, .int .i64 7].toArray 104)).thru (Fr.of_grown grow3) (fun i hi e => by have := HG.out; simp at e; omega)
      have e3 : fLine.all (xs ++ List.replicate m (777, 7)) ++ [.int .i64 777, .int .i64 7] = fLine.all (xs ++ List.replicate (m + 1) (777, 7)) := by
        rw [← reps_succ, ← List.append_assoc, Flat.all_append _ _ [(777, 7)]]; rfl
      rw [e3] at own3
      have REL := hide (⟨m + 1, by simp, hlt, rfl, own3, F3⟩ : ∃ k : Nat, Value.int .i64 ((m : Int) + 1) = .int .i64 k ∧ k ≤ 9 ∧ Value.slice (some ⟨g, 0, none⟩) (xs.length + (m + 1)) (xs.length + 9) = .slice (some ⟨g, 0, none⟩) (xs.length + k) (xs.length + 9) ∧ w3.ownsRow g 104 2 (.slice (some ⟨g, 0, none⟩) (xs.length + k) (xs.length + 9)) (xs.length + k) (fLine.all (xs ++ List.replicate k (777, 7))) ∧ Fr no w w3)
      clear own3 grow3 F3 e3 own F
      go_wp2_with fail
      exact ⟨REL.out, by simp [intOf]; omega⟩
    · obtain rfl : m = 9 := by omega
      go_wp2_with fail
      go_ret
      exact ⟨⟨g, rfl, hgl, by rw [HG.out]; exact own⟩, F⟩
set_option maxRecDepth 100000 in
set_option maxHeartbeats 1000000 in
theorem lend_guards (A : Option Addr) (c : Nat) (xs : List GuardD) (w : World) (h : kGuard.Row w A c xs) (hb : xs.length * 24 ≤ 140737488351232) :
    Calls Try.prog 20 #[.slice A xs.length c] w fun e w' => (∃ g, e = .returned (.slice (some ⟨g, 0, none⟩) xs.length (xs.length + 9)) ∧ w.heap.size ≤ g ∧
      w'.ownsRow w.heap.size 81 3 (.slice (some ⟨g, 0, none⟩) (xs.length + 9) (xs.length + 9)) (xs.length + 9) (fGuard.all (xs ++ List.replicate 9 (777, 0, 0)))) ∧ Fr no w w' := by
  obtain ⟨i0, hi, hz0, hz1, hz2⟩ := info_parts info_guard
  have H := hide h
  clear h
  go_enter Try.func20, Try.ntmps20
  have hn9 : Hid (((xs.length : Int) + 9) = ((xs.length + 9 : Nat) : Int)) := hide (by omega)
  go_wp2_with (at_make; refine wpList_make_own _ rfl _ _ 37 rfl w.heap.size 81 i0 (.agg #[.int .i64 0, .int .i64 0, .int .i64 0]) 3 Try.underlying37 hi hz0 hz1 _ _ _ (xs.length + 9) rfl rfl hn9.out (by rw [hz2]; omega) (by simp only [maxLen]; omega) (Nat.le_refl _) ?_)
  intro w1 own1 grow1
  have F1 : Fr no w w1 := (Fr.of_grown grow1).mono (fun _ _ e => by simp at e)
  have none1 := fun e => (Flat.row_none H.out e)
  go_wp2_with (at_builtin; refine wpList_append_fits_any _ rfl _ _ 37 rfl w.heap.size 81 i0 3 Try.underlying37 hi hz1 w.heap.size 0 (xs.length + 9) [] rfl own1 A xs.length c (fGuard.all xs) rfl (fGuard.all_length xs) none1 (rGuard.row (H.out.keep F1)) (fGuard.all_one xs) (by omega) ?_)
  intro w2 own2 grow2
  have F2 : Fr no w w2 := F1.thru (Fr.of_grown grow2) (fun i hi e => by simp at e; omega)
  have O2 := hide (show w2.ownsRow w.heap.size 81 3 (.slice (some ⟨w.heap.size, 0, none⟩) (xs.length + 0) (xs.length + 9)) (xs.length + 0) (fGuard.all (xs ++ List.replicate 0 (777, 0, 0))) from by simpa using own2)
  clear own1 grow1 own2 grow2 none1 F1
  generalize hg : w.heap.size = g at *
  have hgl : w.heap.size ≤ g := Nat.le_of_eq hg
  have HG := hide hg
  clear hg
  go_wp2_with fail
  go_loopw [3, 4] (fun v i wr => ∃ m : Nat, i = .int .i64 m ∧ m ≤ 9 ∧ v = .slice (some ⟨g, 0, none⟩) (xs.length + m) (xs.length + 9) ∧ wr.ownsRow g 81 3 (.slice (some ⟨g, 0, none⟩) (xs.length + m) (xs.length + 9)) (xs.length + m) (fGuard.all (xs ++ List.replicate m (777, 0, 0))) ∧ Fr no w wr) (fun _ i _ => 9 - (intOf i).toNat)
  case atStart => exact ⟨0, rfl, by decide, rfl, O2.out, F2⟩
  case round =>
    obtain ⟨m, rfl, hm, rfl, own, F⟩ := hrel
    by_cases hlt : m < 9
    · go_wp2_with (at_builtin; refine wpList_append_fits _ rfl _ _ 37 rfl g 81 i0 3 Try.underlying37 hi hz1 g (xs.length + m) (xs.length + 9) _ rfl (own_kept own ((Fr.refl no wr).alloc _)) ⟨wr.heap.size, 0, none⟩ 1 1 [.int .i64 777, .int .i64 0, .int .i64 0] rfl rfl (new_cells wr _ _) (fun u hu => by simp at hu; rcases hu with rfl | rfl | rfl <;> rfl) (by omega) ?_)
      intro w3 own3 grow3
      have F3 : Fr no w w3 := (F.alloc (.cells [.int .i64 777, .int .i64 0, .int .i64 0].toArray 81)).thru (Fr.of_grown grow3) (fun i hi e => by have := HG.out; simp at e; omega)
      have e3 : fGuard.all (xs ++ List.replicate m (777, 0, 0)) ++ [.int .i64 777, .int .i64 0, .int .i64 0] = fGuard.all (xs ++ List.replicate (m + 1) (777, 0, 0)) := by
        rw [← reps_succ, ← List.append_assoc, Flat.all_append _ _ [(777, 0, 0)]]; rfl
      rw [e3] at own3
      have REL := hide (⟨m + 1, by simp, hlt, rfl, own3, F3⟩ : ∃ k : Nat, Value.int .i64 ((m : Int) + 1) = .int .i64 k ∧ k ≤ 9 ∧ Value.slice (some ⟨g, 0, none⟩) (xs.length + (m + 1)) (xs.length + 9) = .slice (some ⟨g, 0, none⟩) (xs.length + k) (xs.length + 9) ∧ w3.ownsRow g 81 3 (.slice (some ⟨g, 0, none⟩) (xs.length + k) (xs.length + 9)) (xs.length + k) (fGuard.all (xs ++ List.replicate k (777, 0, 0))) ∧ Fr no w w3)
      clear own3 grow3 F3 e3 own F
      go_wp2_with fail
      exact ⟨REL.out, by simp [intOf]; omega⟩
    · obtain rfl : m = 9 := by omega
      go_wp2_with fail
      go_ret
      exact ⟨⟨g, rfl, hgl, by rw [HG.out]; exact own⟩, F⟩
set_option maxRecDepth 100000 in
set_option maxHeartbeats 1000000 in
theorem lend_sets (A : Option Addr) (c : Nat) (xs : List SetD) (w : World) (h : kSet.Row w A c xs) (hb : xs.length * 24 ≤ 140737488351232) :
    Calls Try.prog 21 #[.slice A xs.length c] w fun e w' => (∃ g, e = .returned (.slice (some ⟨g, 0, none⟩) xs.length (xs.length + 9)) ∧ w.heap.size ≤ g ∧
      w'.ownsRow w.heap.size 85 3 (.slice (some ⟨g, 0, none⟩) (xs.length + 9) (xs.length + 9)) (xs.length + 9) (fSet.all (xs ++ List.replicate 9 (777, 0, 0)))) ∧ Fr no w w' := by
  obtain ⟨i0, hi, hz0, hz1, hz2⟩ := info_parts info_set
  have H := hide h
  clear h
  go_enter Try.func21, Try.ntmps21
  have hn9 : Hid (((xs.length : Int) + 9) = ((xs.length + 9 : Nat) : Int)) := hide (by omega)
  go_wp2_with (at_make; refine wpList_make_own _ rfl _ _ 38 rfl w.heap.size 85 i0 (.agg #[.int .i64 0, .int .i64 0, .int .i64 0]) 3 Try.underlying38 hi hz0 hz1 _ _ _ (xs.length + 9) rfl rfl hn9.out (by rw [hz2]; omega) (by simp only [maxLen]; omega) (Nat.le_refl _) ?_)
  intro w1 own1 grow1
  have F1 : Fr no w w1 := (Fr.of_grown grow1).mono (fun _ _ e => by simp at e)
  have none1 := fun e => (Flat.row_none H.out e)
  go_wp2_with (at_builtin; refine wpList_append_fits_any _ rfl _ _ 38 rfl w.heap.size 85 i0 3 Try.underlying38 hi hz1 w.heap.size 0 (xs.length + 9) [] rfl own1 A xs.length c (fSet.all xs) rfl (fSet.all_length xs) none1 (rSet.row (H.out.keep F1)) (fSet.all_one xs) (by omega) ?_)
  intro w2 own2 grow2
  have F2 : Fr no w w2 := F1.thru (Fr.of_grown grow2) (fun i hi e => by simp at e; omega)
  have O2 := hide (show w2.ownsRow w.heap.size 85 3 (.slice (some ⟨w.heap.size, 0, none⟩) (xs.length + 0) (xs.length + 9)) (xs.length + 0) (fSet.all (xs ++ List.replicate 0 (777, 0, 0))) from by simpa using own2)
  clear own1 grow1 own2 grow2 none1 F1
  generalize hg : w.heap.size = g at *
  have hgl : w.heap.size ≤ g := Nat.le_of_eq hg
  have HG := hide hg
  clear hg
  go_wp2_with fail
  go_loopw [3, 4] (fun v i wr => ∃ m : Nat, i = .int .i64 m ∧ m ≤ 9 ∧ v = .slice (some ⟨g, 0, none⟩) (xs.length + m) (xs.length + 9) ∧ wr.ownsRow g 85 3 (.slice (some ⟨g, 0, none⟩) (xs.length + m) (xs.length + 9)) (xs.length + m) (fSet.all (xs ++ List.replicate m (777, 0, 0))) ∧ Fr no w wr) (fun _ i _ => 9 - (intOf i).toNat)
  case atStart => exact ⟨0, rfl, by decide, rfl, O2.out, F2⟩
  case round =>
    obtain ⟨m, rfl, hm, rfl, own, F⟩ := hrel
    by_cases hlt : m < 9
    · go_wp2_with (at_builtin; refine wpList_append_fits _ rfl _ _ 38 rfl g 85 i0 3 Try.underlying38 hi hz1 g (xs.length + m) (xs.length + 9) _ rfl (own_kept own ((Fr.refl no wr).alloc _)) ⟨wr.heap.size, 0, none⟩ 1 1 [.int .i64 777, .int .i64 0, .int .i64 0] rfl rfl (new_cells wr _ _) (fun u hu => by simp at hu; rcases hu with rfl | rfl | rfl <;> rfl) (by omega) ?_)
      intro w3 own3 grow3
      have F3 : Fr no w w3 := (F.alloc (.cells [.int .i64 777, .int .i64 0, .int .i64 0].toArray 85)).thru (Fr.of_grown grow3) (fun i hi e => by have := HG.out; simp at e; omega)
      have e3 : fSet.all (xs ++ List.replicate m (777, 0, 0)) ++ [.int .i64 777, .int .i64 0, .int .i64 0] = fSet.all (xs ++ List.replicate (m + 1) (777, 0, 0)) := by
        rw [← reps_succ, ← List.append_assoc, Flat.all_append _ _ [(777, 0, 0)]]; rfl
      rw [e3] at own3
      have REL := hide (⟨m + 1, by simp, hlt, rfl, own3, F3⟩ : ∃ k : Nat, Value.int .i64 ((m : Int) + 1) = .int .i64 k ∧ k ≤ 9 ∧ Value.slice (some ⟨g, 0, none⟩) (xs.length + (m + 1)) (xs.length + 9) = .slice (some ⟨g, 0, none⟩) (xs.length + k) (xs.length + 9) ∧ w3.ownsRow g 85 3 (.slice (some ⟨g, 0, none⟩) (xs.length + k) (xs.length + 9)) (xs.length + k) (fSet.all (xs ++ List.replicate k (777, 0, 0))) ∧ Fr no w w3)
      clear own3 grow3 F3 e3 own F
      go_wp2_with fail
      exact ⟨REL.out, by simp [intOf]; omega⟩
    · obtain rfl : m = 9 := by omega
      go_wp2_with fail
      go_ret
      exact ⟨⟨g, rfl, hgl, by rw [HG.out]; exact own⟩, F⟩
set_option maxRecDepth 100000 in
set_option maxHeartbeats 1000000 in
theorem lend_rights (A : Option Addr) (c : Nat) (xs : List RightD) (w : World) (h : kRight.Row w A c xs) (hb : xs.length * 24 ≤ 140737488351232) :
    Calls Try.prog 22 #[.slice A xs.length c] w fun e w' => (∃ g, e = .returned (.slice (some ⟨g, 0, none⟩) xs.length (xs.length + 9)) ∧ w.heap.size ≤ g ∧
      w'.ownsRow w.heap.size 42 3 (.slice (some ⟨g, 0, none⟩) (xs.length + 9) (xs.length + 9)) (xs.length + 9) (fRight.all (xs ++ List.replicate 9 (777, 0, 0)))) ∧ Fr no w w' := by
  obtain ⟨i0, hi, hz0, hz1, hz2⟩ := info_parts info_right
  have H := hide h
  clear h
  go_enter Try.func22, Try.ntmps22
  have hn9 : Hid (((xs.length : Int) + 9) = ((xs.length + 9 : Nat) : Int)) := hide (by omega)
  go_wp2_with (at_make; refine wpList_make_own _ rfl _ _ 43 rfl w.heap.size 42 i0 (.agg #[.int .i64 0, .int .i64 0, .int .i64 0]) 3 Try.underlying43 hi hz0 hz1 _ _ _ (xs.length + 9) rfl rfl hn9.out (by rw [hz2]; omega) (by simp only [maxLen]; omega) (Nat.le_refl _) ?_)
  intro w1 own1 grow1
  have F1 : Fr no w w1 := (Fr.of_grown grow1).mono (fun _ _ e => by simp at e)
  have none1 := fun e => (Flat.row_none H.out e)
  go_wp2_with (at_builtin; refine wpList_append_fits_any _ rfl _ _ 43 rfl w.heap.size 42 i0 3 Try.underlying43 hi hz1 w.heap.size 0 (xs.length + 9) [] rfl own1 A xs.length c (fRight.all xs) rfl (fRight.all_length xs) none1 (rRight.row (H.out.keep F1)) (fRight.all_one xs) (by omega) ?_)
  intro w2 own2 grow2
  have F2 : Fr no w w2 := F1.thru (Fr.of_grown grow2) (fun i hi e => by simp at e; omega)
  have O2 := hide (show w2.ownsRow w.heap.size 42 3 (.slice (some ⟨w.heap.size, 0, none⟩) (xs.length + 0) (xs.length + 9)) (xs.length + 0) (fRight.all (xs ++ List.replicate 0 (777, 0, 0))) from by simpa using own2)
  clear own1 grow1 own2 grow2 none1 F1
  generalize hg : w.heap.size = g at *
  have hgl : w.heap.size ≤ g := Nat.le_of_eq hg
  have HG := hide hg
  clear hg
  go_wp2_with fail
  go_loopw [3, 4] (fun v i wr => ∃ m : Nat, i = .int .i64 m ∧ m ≤ 9 ∧ v = .slice (some ⟨g, 0, none⟩) (xs.length + m) (xs.length + 9) ∧ wr.ownsRow g 42 3 (.slice (some ⟨g, 0, none⟩) (xs.length + m) (xs.length + 9)) (xs.length + m) (fRight.all (xs ++ List.replicate m (777, 0, 0))) ∧ Fr no w wr) (fun _ i _ => 9 - (intOf i).toNat)
  case atStart => exact ⟨0, rfl, by decide, rfl, O2.out, F2⟩
  case round =>
    obtain ⟨m, rfl, hm, rfl, own, F⟩ := hrel
    by_cases hlt : m < 9
    · go_wp2_with (at_builtin; refine wpList_append_fits _ rfl _ _ 43 rfl g 42 i0 3 Try.underlying43 hi hz1 g (xs.length + m) (xs.length + 9) _ rfl (own_kept own ((Fr.refl no wr).alloc _)) ⟨wr.heap.size, 0, none⟩ 1 1 [.int .i64 777, .int .i64 0, .int .i64 0] rfl rfl (new_cells wr _ _) (fun u hu => by simp at hu; rcases hu with rfl | rfl | rfl <;> rfl) (by omega) ?_)
      intro w3 own3 grow3
      have F3 : Fr no w w3 := (F.alloc (.cells [.int .i64 777, .int .i64 0, .int .i64 0].toArray 42)).thru (Fr.of_grown grow3) (fun i hi e => by have := HG.out; simp at e; omega)
      have e3 : fRight.all (xs ++ List.replicate m (777, 0, 0)) ++ [.int .i64 777, .int .i64 0, .int .i64 0] = fRight.all (xs ++ List.replicate (m + 1) (777, 0, 0)) := by
        rw [← reps_succ, ← List.append_assoc, Flat.all_append _ _ [(777, 0, 0)]]; rfl
      rw [e3] at own3
      have REL := hide (⟨m + 1, by simp, hlt, rfl, own3, F3⟩ : ∃ k : Nat, Value.int .i64 ((m : Int) + 1) = .int .i64 k ∧ k ≤ 9 ∧ Value.slice (some ⟨g, 0, none⟩) (xs.length + (m + 1)) (xs.length + 9) = .slice (some ⟨g, 0, none⟩) (xs.length + k) (xs.length + 9) ∧ w3.ownsRow g 42 3 (.slice (some ⟨g, 0, none⟩) (xs.length + k) (xs.length + 9)) (xs.length + k) (fRight.all (xs ++ List.replicate k (777, 0, 0))) ∧ Fr no w w3)
      clear own3 grow3 F3 e3 own F
      go_wp2_with fail
      exact ⟨REL.out, by simp [intOf]; omega⟩
    · obtain rfl : m = 9 := by omega
      go_wp2_with fail
      go_ret
      exact ⟨⟨g, rfl, hgl, by rw [HG.out]; exact own⟩, F⟩
end Go.Proofs.Ytmnajpkmglmipaa
