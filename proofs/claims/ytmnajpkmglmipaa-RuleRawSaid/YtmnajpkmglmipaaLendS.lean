/- Contracts of package tilllaw1's lending of a state's flat lists. -/
import Derived.Test.YtmnajpkmglmipaaLend
namespace Go.Proofs.Ytmnajpkmglmipaa
open Go.RowKit

abbrev NumD := Int
def kNum : Kd NumD := .int .u64
def fNum : Flat NumD where
  sz := 1
  enc := fun x => [.int .u64 x]
  len := fun _ => rfl
  pos := by decide
  one := fun x u hu => by simp at hu; subst hu; rfl
theorem rNum : fNum.Reads kNum := ⟨rfl, fun w x cs h => by
  obtain rfl : cs = _ := h
  rfl⟩
theorem info_num : (Try.prog.info? 26).map (fun i => (i.zero, i.size, i.bytes)) = some (some (.int .u64 0), 1, 8) := by kernel_rfl
abbrev HeldD := Int × Int
def kHeld : Kd HeldD := .pair (.int .i64) (.int .i64)
def fHeld : Flat HeldD where
  sz := 2
  enc := fun x => [.int .i64 x.1, .int .i64 x.2]
  len := fun _ => rfl
  pos := by decide
  one := fun x u hu => by simp at hu; rcases hu with rfl | rfl <;> rfl
theorem rHeld : fHeld.Reads kHeld := ⟨rfl, fun w x cs h => by
  obtain ⟨c0, d0, rfl, h0, g0⟩ := h
  obtain rfl : c0 = _ := h0
  obtain rfl : d0 = _ := g0
  rfl⟩
theorem info_held : (Try.prog.info? 99).map (fun i => (i.zero, i.size, i.bytes)) = some (some (.agg #[.int .i64 0, .int .i64 0]), 2, 16) := by kernel_rfl
abbrev PricedD := Int × Int
def kPriced : Kd PricedD := .pair (.int .i64) (.int .i64)
def fPriced : Flat PricedD where
  sz := 2
  enc := fun x => [.int .i64 x.1, .int .i64 x.2]
  len := fun _ => rfl
  pos := by decide
  one := fun x u hu => by simp at hu; rcases hu with rfl | rfl <;> rfl
theorem rPriced : fPriced.Reads kPriced := ⟨rfl, fun w x cs h => by
  obtain ⟨c0, d0, rfl, h0, g0⟩ := h
  obtain rfl : c0 = _ := h0
  obtain rfl : d0 = _ := g0
  rfl⟩
theorem info_priced : (Try.prog.info? 94).map (fun i => (i.zero, i.size, i.bytes)) = some (some (.agg #[.int .i64 0, .int .i64 0]), 2, 16) := by kernel_rfl
abbrev OweD := Bool
def kOwe : Kd OweD := .bool
def fOwe : Flat OweD where
  sz := 1
  enc := fun x => [.bool x]
  len := fun _ => rfl
  pos := by decide
  one := fun x u hu => by simp at hu; subst hu; rfl
theorem rOwe : fOwe.Reads kOwe := ⟨rfl, fun w x cs h => by
  obtain rfl : cs = _ := h
  rfl⟩
theorem info_owe : (Try.prog.info? 4).map (fun i => (i.zero, i.size, i.bytes)) = some (some (.bool false), 1, 1) := by kernel_rfl
set_option maxRecDepth 100000 in
set_option maxHeartbeats 1000000 in
theorem lend_num (A : Option Addr) (c : Nat) (xs : List NumD) (w : World) (h : kNum.Row w A c xs) (hb : xs.length * 8 ≤ 140737488351232) :
    Calls Try.prog 15 #[.slice A xs.length c] w fun e w' => (∃ g, e = .returned (.slice (some ⟨g, 0, none⟩) xs.length (xs.length + 9)) ∧ w.heap.size ≤ g ∧
      w'.ownsRow w.heap.size 26 1 (.slice (some ⟨g, 0, none⟩) (xs.length + 9) (xs.length + 9)) (xs.length + 9) (fNum.all (xs ++ List.replicate 9 (777)))) ∧ Fr no w w' := by
  obtain ⟨i0, hi, hz0, hz1, hz2⟩ := info_parts info_num
  have H := hide h
  clear h
  go_enter Try.func15, Try.ntmps15
  have hn9 : Hid (((xs.length : Int) + 9) = ((xs.length + 9 : Nat) : Int)) := hide (by omega)
  go_wp2_with (at_make; refine wpList_make_own _ rfl _ _ 29 rfl w.heap.size 26 i0 (.int .u64 0) 1 Try.underlying29 hi hz0 hz1 _ _ _ (xs.length + 9) rfl rfl hn9.out (by rw [hz2]; omega) (by simp only [maxLen]; omega) (Nat.le_refl _) ?_)
  intro w1 own1 grow1
  have F1 : Fr no w w1 := (Fr.of_grown grow1).mono (fun _ _ e => by simp at e)
  have none1 := fun e => (Flat.row_none H.out e)
  go_wp2_with (at_builtin; refine wpList_append_fits_any _ rfl _ _ 29 rfl w.heap.size 26 i0 1 Try.underlying29 hi hz1 w.heap.size 0 (xs.length + 9) [] rfl own1 A xs.length c (fNum.all xs) rfl (fNum.all_length xs) none1 (rNum.row (H.out.keep F1)) (fNum.all_one xs) (by omega) ?_)
  intro w2 own2 grow2
  have F2 : Fr no w w2 := F1.thru (Fr.of_grown grow2) (fun i hi e => by simp at e; omega)
  have O2 := hide (show w2.ownsRow w.heap.size 26 1 (.slice (some ⟨w.heap.size, 0, none⟩) (xs.length + 0) (xs.length + 9)) (xs.length + 0) (fNum.all (xs ++ List.replicate 0 (777))) from by simpa using own2)
  clear own1 grow1 own2 grow2 none1 F1
  generalize hg : w.heap.size = g at *
  have hgl : w.heap.size ≤ g := Nat.le_of_eq hg
  have HG := hide hg
  clear hg
  go_wp2_with fail
  go_loopw [3, 4] (fun v i wr => ∃ m : Nat, i = .int .i64 m ∧ m ≤ 9 ∧ v = .slice (some ⟨g, 0, none⟩) (xs.length + m) (xs.length + 9) ∧ wr.ownsRow g 26 1 (.slice (some ⟨g, 0, none⟩) (xs.length + m) (xs.length + 9)) (xs.length + m) (fNum.all (xs ++ List.replicate m (777))) ∧ Fr no w wr) (fun _ i _ => 9 - (intOf i).toNat)
  case atStart => exact ⟨0, rfl, by decide, rfl, O2.out, F2⟩
  case round =>
    obtain ⟨m, rfl, hm, rfl, own, F⟩ := hrel
    by_cases hlt : m < 9
    · go_wp2_with (at_builtin; refine wpList_append_fits _ rfl _ _ 29 rfl g 26 i0 1 Try.underlying29 hi hz1 g (xs.length + m) (xs.length + 9) _ rfl (own_kept own ((Fr.refl no wr).alloc _)) ⟨wr.heap.size, 0, none⟩ 1 1 [.int .u64 777] rfl rfl (new_cells wr _ _) (fun u hu => by simp at hu; rcases hu with rfl <;> rfl) (by omega) ?_)
      intro w3 own3 grow3
      have F3 : Fr no w w3 := (F.alloc (.cells [.int .u64 777].toArray 26)).thru (Fr.of_grown grow3) (fun i hi e => by have := HG.out; simp at e; omega)
      have e3 : fNum.all (xs ++ List.replicate m (777)) ++ [.int .u64 777] = fNum.all (xs ++ List.replicate (m + 1) (777)) := by
        rw [← reps_succ, ← List.append_assoc, Flat.all_append _ _ [(777)]]; rfl
      rw [e3] at own3
      have REL := hide (⟨m + 1, by simp, hlt, rfl, own3, F3⟩ : ∃ k : Nat, Value.int .i64 ((m : Int) + 1) = .int .i64 k ∧ k ≤ 9 ∧ Value.slice (some ⟨g, 0, none⟩) (xs.length + (m + 1)) (xs.length + 9) = .slice (some ⟨g, 0, none⟩) (xs.length + k) (xs.length + 9) ∧ w3.ownsRow g 26 1 (.slice (some ⟨g, 0, none⟩) (xs.length + k) (xs.length + 9)) (xs.length + k) (fNum.all (xs ++ List.replicate k (777))) ∧ Fr no w w3)
      clear own3 grow3 F3 e3 own F
      go_wp2_with fail
      exact ⟨REL.out, by simp [intOf]; omega⟩
    · obtain rfl : m = 9 := by omega
      go_wp2_with fail
      go_ret
      exact ⟨⟨g, rfl, hgl, by rw [HG.out]; exact own⟩, F⟩
set_option maxRecDepth 100000 in
set_option maxHeartbeats 1000000 in
theorem lend_held (A : Option Addr) (c : Nat) (xs : List HeldD) (w : World) (h : kHeld.Row w A c xs) (hb : xs.length * 16 ≤ 140737488351232) :
    Calls Try.prog 45 #[.slice A xs.length c] w fun e w' => (∃ g, e = .returned (.slice (some ⟨g, 0, none⟩) xs.length (xs.length + 9)) ∧ w.heap.size ≤ g ∧
      w'.ownsRow w.heap.size 99 2 (.slice (some ⟨g, 0, none⟩) (xs.length + 9) (xs.length + 9)) (xs.length + 9) (fHeld.all (xs ++ List.replicate 9 (777, 778)))) ∧ Fr no w w' := by
  obtain ⟨i0, hi, hz0, hz1, hz2⟩ := info_parts info_held
  have H := hide h
  clear h
  go_enter Try.func45, Try.ntmps45
  have hn9 : Hid (((xs.length : Int) + 9) = ((xs.length + 9 : Nat) : Int)) := hide (by omega)
  go_wp2_with (at_make; refine wpList_make_own _ rfl _ _ 100 rfl w.heap.size 99 i0 (.agg #[.int .i64 0, .int .i64 0]) 2 Try.underlying100 hi hz0 hz1 _ _ _ (xs.length + 9) rfl rfl hn9.out (by rw [hz2]; omega) (by simp only [maxLen]; omega) (Nat.le_refl _) ?_)
  intro w1 own1 grow1
  have F1 : Fr no w w1 := (Fr.of_grown grow1).mono (fun _ _ e => by simp at e)
  have none1 := fun e => (Flat.row_none H.out e)
  go_wp2_with (at_builtin; refine wpList_append_fits_any _ rfl _ _ 100 rfl w.heap.size 99 i0 2 Try.underlying100 hi hz1 w.heap.size 0 (xs.length + 9) [] rfl own1 A xs.length c (fHeld.all xs) rfl (fHeld.all_length xs) none1 (rHeld.row (H.out.keep F1)) (fHeld.all_one xs) (by omega) ?_)
  intro w2 own2 grow2
  have F2 : Fr no w w2 := F1.thru (Fr.of_grown grow2) (fun i hi e => by simp at e; omega)
  have O2 := hide (show w2.ownsRow w.heap.size 99 2 (.slice (some ⟨w.heap.size, 0, none⟩) (xs.length + 0) (xs.length + 9)) (xs.length + 0) (fHeld.all (xs ++ List.replicate 0 (777, 778))) from by simpa using own2)
  clear own1 grow1 own2 grow2 none1 F1
  generalize hg : w.heap.size = g at *
  have hgl : w.heap.size ≤ g := Nat.le_of_eq hg
  have HG := hide hg
  clear hg
  go_wp2_with fail
  go_loopw [3, 4] (fun v i wr => ∃ m : Nat, i = .int .i64 m ∧ m ≤ 9 ∧ v = .slice (some ⟨g, 0, none⟩) (xs.length + m) (xs.length + 9) ∧ wr.ownsRow g 99 2 (.slice (some ⟨g, 0, none⟩) (xs.length + m) (xs.length + 9)) (xs.length + m) (fHeld.all (xs ++ List.replicate m (777, 778))) ∧ Fr no w wr) (fun _ i _ => 9 - (intOf i).toNat)
  case atStart => exact ⟨0, rfl, by decide, rfl, O2.out, F2⟩
  case round =>
    obtain ⟨m, rfl, hm, rfl, own, F⟩ := hrel
    by_cases hlt : m < 9
    · go_wp2_with (at_builtin; refine wpList_append_fits _ rfl _ _ 100 rfl g 99 i0 2 Try.underlying100 hi hz1 g (xs.length + m) (xs.length + 9) _ rfl (own_kept own ((Fr.refl no wr).alloc _)) ⟨wr.heap.size, 0, none⟩ 1 1 [.int .i64 777, .int .i64 778] rfl rfl (new_cells wr _ _) (fun u hu => by simp at hu; rcases hu with rfl | rfl <;> rfl) (by omega) ?_)
      intro w3 own3 grow3
      have F3 : Fr no w w3 := (F.alloc (.cells [.int .i64 777, .int .i64 778].toArray 99)).thru (Fr.of_grown grow3) (fun i hi e => by have := HG.out; simp at e; omega)
      have e3 : fHeld.all (xs ++ List.replicate m (777, 778)) ++ [.int .i64 777, .int .i64 778] = fHeld.all (xs ++ List.replicate (m + 1) (777, 778)) := by
        rw [← reps_succ, ← List.append_assoc, Flat.all_append _ _ [(777, 778)]]; rfl
      rw [e3] at own3
      have REL := hide (⟨m + 1, by simp, hlt, rfl, own3, F3⟩ : ∃ k : Nat, Value.int .i64 ((m : Int) + 1) = .int .i64 k ∧ k ≤ 9 ∧ Value.slice (some ⟨g, 0, none⟩) (xs.length + (m + 1)) (xs.length + 9) = .slice (some ⟨g, 0, none⟩) (xs.length + k) (xs.length + 9) ∧ w3.ownsRow g 99 2 (.slice (some ⟨g, 0, none⟩) (xs.length + k) (xs.length + 9)) (xs.length + k) (fHeld.all (xs ++ List.replicate k (777, 778))) ∧ Fr no w w3)
      clear own3 grow3 F3 e3 own F
      go_wp2_with fail
      exact ⟨REL.out, by simp [intOf]; omega⟩
    · obtain rfl : m = 9 := by omega
      go_wp2_with fail
      go_ret
      exact ⟨⟨g, rfl, hgl, by rw [HG.out]; exact own⟩, F⟩
set_option maxRecDepth 100000 in
set_option maxHeartbeats 1000000 in
theorem lend_priced (A : Option Addr) (c : Nat) (xs : List PricedD) (w : World) (h : kPriced.Row w A c xs) (hb : xs.length * 16 ≤ 140737488351232) :
    Calls Try.prog 17 #[.slice A xs.length c] w fun e w' => (∃ g, e = .returned (.slice (some ⟨g, 0, none⟩) xs.length (xs.length + 9)) ∧ w.heap.size ≤ g ∧
      w'.ownsRow w.heap.size 94 2 (.slice (some ⟨g, 0, none⟩) (xs.length + 9) (xs.length + 9)) (xs.length + 9) (fPriced.all (xs ++ List.replicate 9 (777, 0)))) ∧ Fr no w w' := by
  obtain ⟨i0, hi, hz0, hz1, hz2⟩ := info_parts info_priced
  have H := hide h
  clear h
  go_enter Try.func17, Try.ntmps17
  have hn9 : Hid (((xs.length : Int) + 9) = ((xs.length + 9 : Nat) : Int)) := hide (by omega)
  go_wp2_with (at_make; refine wpList_make_own _ rfl _ _ 28 rfl w.heap.size 94 i0 (.agg #[.int .i64 0, .int .i64 0]) 2 Try.underlying28 hi hz0 hz1 _ _ _ (xs.length + 9) rfl rfl hn9.out (by rw [hz2]; omega) (by simp only [maxLen]; omega) (Nat.le_refl _) ?_)
  intro w1 own1 grow1
  have F1 : Fr no w w1 := (Fr.of_grown grow1).mono (fun _ _ e => by simp at e)
  have none1 := fun e => (Flat.row_none H.out e)
  go_wp2_with (at_builtin; refine wpList_append_fits_any _ rfl _ _ 28 rfl w.heap.size 94 i0 2 Try.underlying28 hi hz1 w.heap.size 0 (xs.length + 9) [] rfl own1 A xs.length c (fPriced.all xs) rfl (fPriced.all_length xs) none1 (rPriced.row (H.out.keep F1)) (fPriced.all_one xs) (by omega) ?_)
  intro w2 own2 grow2
  have F2 : Fr no w w2 := F1.thru (Fr.of_grown grow2) (fun i hi e => by simp at e; omega)
  have O2 := hide (show w2.ownsRow w.heap.size 94 2 (.slice (some ⟨w.heap.size, 0, none⟩) (xs.length + 0) (xs.length + 9)) (xs.length + 0) (fPriced.all (xs ++ List.replicate 0 (777, 0))) from by simpa using own2)
  clear own1 grow1 own2 grow2 none1 F1
  generalize hg : w.heap.size = g at *
  have hgl : w.heap.size ≤ g := Nat.le_of_eq hg
  have HG := hide hg
  clear hg
  go_wp2_with fail
  go_loopw [3, 4] (fun v i wr => ∃ m : Nat, i = .int .i64 m ∧ m ≤ 9 ∧ v = .slice (some ⟨g, 0, none⟩) (xs.length + m) (xs.length + 9) ∧ wr.ownsRow g 94 2 (.slice (some ⟨g, 0, none⟩) (xs.length + m) (xs.length + 9)) (xs.length + m) (fPriced.all (xs ++ List.replicate m (777, 0))) ∧ Fr no w wr) (fun _ i _ => 9 - (intOf i).toNat)
  case atStart => exact ⟨0, rfl, by decide, rfl, O2.out, F2⟩
  case round =>
    obtain ⟨m, rfl, hm, rfl, own, F⟩ := hrel
    by_cases hlt : m < 9
    · go_wp2_with (at_builtin; refine wpList_append_fits _ rfl _ _ 28 rfl g 94 i0 2 Try.underlying28 hi hz1 g (xs.length + m) (xs.length + 9) _ rfl (own_kept own ((Fr.refl no wr).alloc _)) ⟨wr.heap.size, 0, none⟩ 1 1 [.int .i64 777, .int .i64 0] rfl rfl (new_cells wr _ _) (fun u hu => by simp at hu; rcases hu with rfl | rfl <;> rfl) (by omega) ?_)
      intro w3 own3 grow3
      have F3 : Fr no w w3 := (F.alloc (.cells [.int .i64 777, .int .i64 0].toArray 94)).thru (Fr.of_grown grow3) (fun i hi e => by have := HG.out; simp at e; omega)
      have e3 : fPriced.all (xs ++ List.replicate m (777, 0)) ++ [.int .i64 777, .int .i64 0] = fPriced.all (xs ++ List.replicate (m + 1) (777, 0)) := by
        rw [← reps_succ, ← List.append_assoc, Flat.all_append _ _ [(777, 0)]]; rfl
      rw [e3] at own3
      have REL := hide (⟨m + 1, by simp, hlt, rfl, own3, F3⟩ : ∃ k : Nat, Value.int .i64 ((m : Int) + 1) = .int .i64 k ∧ k ≤ 9 ∧ Value.slice (some ⟨g, 0, none⟩) (xs.length + (m + 1)) (xs.length + 9) = .slice (some ⟨g, 0, none⟩) (xs.length + k) (xs.length + 9) ∧ w3.ownsRow g 94 2 (.slice (some ⟨g, 0, none⟩) (xs.length + k) (xs.length + 9)) (xs.length + k) (fPriced.all (xs ++ List.replicate k (777, 0))) ∧ Fr no w w3)
      clear own3 grow3 F3 e3 own F
      go_wp2_with fail
      exact ⟨REL.out, by simp [intOf]; omega⟩
    · obtain rfl : m = 9 := by omega
      go_wp2_with fail
      go_ret
      exact ⟨⟨g, rfl, hgl, by rw [HG.out]; exact own⟩, F⟩
end Go.Proofs.Ytmnajpkmglmipaa
