/- Contract of slices.SortFunc at rights, by what 'Needs' sorts by. -/
import Derived.Test.YtmnajpkmglmipaaCmp
import Derived.Test.YtmnajpkmglmipaaEq
import Derived.Shelf.SlSortCmp.WholeK
import Derived.Shelf.SlSortCmp.NoneTotal
import Derived.Shelf.SlLaysF0
namespace Go.Proofs.Ytmnajpkmglmipaa
open Go.RowKit Go.Shelf Go.Sort

def sortR_ren : Go.Shelf.Ren := ⟨fun | 6 => 24 | 15 => 49 | 14 => 48 | 28 => 71 | 29 => 72 | 20 => 63 | 21 => 64 | 22 => 65 | 23 => 66 | 24 => 67 | 25 => 68 | 26 => 69 | 27 => 70 | 46 => 75 | 47 => 76 | 48 => 77 | 49 => 78 | 50 => 79 | 57 => 80 | n => n, fun | 22 => 43 | 24 => 42 | 25 => 75 | 3 => 3 | 39 => 113 | 0 => 0 | 53 => 130 | 55 => 26 | 4 => 4 | 46 => 123 | 45 => 122 | 50 => 127 | 5 => 5 | 9 => 9 | 66 => 134 | 70 => 138 | 76 => 140 | 77 => 141 | n => n, fun n => n⟩
theorem sortR : SlLaysF0.n6 Try.prog sortR_ren := {
  mixed := by kernel_rfl
  f6 := ⟨Try.f24.name, by decide, Try.func24.trans (congrArg some (by kernel_rfl))⟩
  f14 := ⟨Try.f48.name, by decide, Try.func48.trans (congrArg some (by kernel_rfl))⟩
  f15 := Try.func49.trans (congrArg some (by kernel_rfl))
  f20 := ⟨Try.f63.name, by decide, Try.func63.trans (congrArg some (by kernel_rfl))⟩
  f21 := ⟨Try.f64.name, by decide, Try.func64.trans (congrArg some (by kernel_rfl))⟩
  f22 := ⟨Try.f65.name, by decide, Try.func65.trans (congrArg some (by kernel_rfl))⟩
  f23 := ⟨Try.f66.name, by decide, Try.func66.trans (congrArg some (by kernel_rfl))⟩
  f24 := ⟨Try.f67.name, by decide, Try.func67.trans (congrArg some (by kernel_rfl))⟩
  f25 := ⟨Try.f68.name, by decide, Try.func68.trans (congrArg some (by kernel_rfl))⟩
  f26 := ⟨Try.f69.name, by decide, Try.func69.trans (congrArg some (by kernel_rfl))⟩
  f27 := ⟨Try.f70.name, by decide, Try.func70.trans (congrArg some (by kernel_rfl))⟩
  f28 := Try.func71.trans (congrArg some (by kernel_rfl))
  f29 := Try.func72.trans (congrArg some (by kernel_rfl))
  f46 := ⟨Try.f75.name, by decide, Try.func75.trans (congrArg some (by kernel_rfl))⟩
  f47 := Try.func76.trans (congrArg some (by kernel_rfl))
  f48 := Try.func77.trans (congrArg some (by kernel_rfl))
  f49 := ⟨Try.f78.name, by decide, Try.func78.trans (congrArg some (by kernel_rfl))⟩
  f50 := ⟨Try.f79.name, by decide, Try.func79.trans (congrArg some (by kernel_rfl))⟩
  f57 := ⟨Try.f80.name, by decide, Try.func80.trans (congrArg some (by kernel_rfl))⟩
  t0 := Try.underlying0
  a0 := Try.isAgg0
  z0 := Try.sizeOf0
  v0 := Try.zeroValue0
  t3 := Try.underlying3
  a3 := Try.isAgg3
  z3 := Try.sizeOf3
  v3 := Try.zeroValue3
  t4 := Try.underlying4
  a4 := Try.isAgg4
  z4 := Try.sizeOf4
  v4 := Try.zeroValue4
  t5 := Try.underlying5
  a5 := Try.isAgg5
  z5 := Try.sizeOf5
  v5 := Try.zeroValue5
  t9 := Try.underlying9
  a9 := Try.isAgg9
  z9 := Try.sizeOf9
  v9 := Try.zeroValue9
  t22 := Try.underlying43
  a22 := Try.isAgg43
  z22 := Try.sizeOf43
  v22 := Try.zeroValue43
  t25 := Try.underlying75
  a25 := Try.isAgg75
  z25 := Try.sizeOf75
  v25 := Try.zeroValue75
  t39 := Try.underlying113
  a39 := Try.isAgg113
  z39 := Try.sizeOf113
  v39 := Try.zeroValue113
  t45 := Try.underlying122
  a45 := Try.isAgg122
  z45 := Try.sizeOf122
  v45 := Try.zeroValue122
  t46 := Try.underlying123
  a46 := Try.isAgg123
  z46 := Try.sizeOf123
  v46 := Try.zeroValue123
  t50 := Try.underlying127
  a50 := Try.isAgg127
  z50 := Try.sizeOf127
  v50 := Try.zeroValue127
  t53 := Try.underlying130
  a53 := Try.isAgg130
  z53 := Try.sizeOf130
  v53 := Try.zeroValue130
  t55 := Try.underlying26
  a55 := Try.isAgg26
  z55 := Try.sizeOf26
  v55 := Try.zeroValue26
  t66 := Try.underlying134
  a66 := Try.isAgg134
  z66 := Try.sizeOf134
  v66 := Try.zeroValue134
  t70 := Try.underlying138
  a70 := Try.isAgg138
  z70 := Try.sizeOf138
  v70 := Try.zeroValue138
  t76 := Try.underlying140
  a76 := Try.isAgg140
  z76 := Try.sizeOf140
  v76 := Try.zeroValue140
  t77 := Try.underlying141
  a77 := Try.isAgg141
  z77 := Try.sizeOf141
  v77 := Try.zeroValue141 }
theorem cmpR_iff (x y : RightT) : cmpR x y < 0 ↔ kLt (kOf x) (kOf y) := by
  unfold cmpR orI cmpI kLt
  show _ ↔ (x.1 < y.1 ∨ (x.1 = y.1 ∧ x.2.1 < y.2.1))
  by_cases h1 : x.1 < y.1
  · simp [h1]
  · by_cases h2 : y.1 < x.1
    · have h3 : ¬ x.1 = y.1 := by omega
      simp [h1, h2, h3]
    · have h3 : x.1 = y.1 := by omega
      by_cases h4 : x.2.1 < y.2.1
      · simp [h3, h4]
      · by_cases h5 : y.2.1 < x.2.1
        · simp [h3, h4, h5]
        · simp [h3, h4, h5]
theorem cmpR_lt (x y : RightT) : ltOf cmpR x y = decide (kLt (kOf x) (kOf y)) := decide_eq_decide.2 (cmpR_iff x y)
theorem swoR : SWO (ltOf cmpR) where
  irrefl x := by rw [cmpR_lt]; simpa using kLt_irrefl _
  trans x y z h1 h2 := by rw [cmpR_lt] at *; simp at *; exact kLt_trans h1 h2
  ntrans x y z h1 h2 := by rw [cmpR_lt] at *; simp at *; unfold kLt at *; omega
theorem cmpLaysR (blk off size : Nat) (w : World) : CmpLays Try.prog 25 #[] encR 3 cmpR blk off size w :=
  fun _ _ _ _ x y => byKind_c x y _
theorem sortWorldK_fr {α : Type} [Inhabited α] (enc : α → List Value) (k : Nat) (w : World) (g off m : Nat) (dk : Array α) (os : Array Obj) : Fr (fun j => j = g) w (sortWorldK enc k w g off m dk os) := by
  refine ⟨rfl, rfl, rfl, ?_, ?_⟩
  · simp [sortWorldK, grow, putRowK, putRow, mapBlock]
  · intro j hj hn
    simp only [sortWorldK, grow, putRowK, putRow, mapBlock]
    rw [Array.getElem?_append_left (by simpa using hj), Array.getElem?_modify, if_neg (fun e => hn e.symm)]
    rfl
theorem sort_c (g cap : Nat) (xs : List RightT) (w : World) (hc : ∀ i (h : i < xs.length) (r : Nat), r < 3 → w.cell? ⟨g, i * 3 + r, none⟩ = (encR xs[i])[r]?) (hf : ∀ j, w.frozen? ⟨g, j, none⟩ = false)
    (hg : g < w.heap.size) (hl : xs.length < 4611686018427387904) (hd : xs.Pairwise (fun a b => kOf a ≠ kOf b)) :
    Calls Try.prog 24 #[.slice (some ⟨g, 0, none⟩) xs.length cap, .func (.func 25) #[] #[]] w fun e w' => e = .returned (.tuple #[]) ∧ ∃ ys : List RightT, ys.Perm xs ∧ Rising ys ∧
      (∀ i (h : i < ys.length) (r : Nat), r < 3 → w'.cell? ⟨g, i * 3 + r, none⟩ = (encR ys[i])[r]?) ∧ Fr (fun j => j = g) w w' := by
  have eg : ∀ args w, (callFunc 25 args).run Try.prog w = .ok (.enter 25 args) w := enters_of Try.func25 (by kernel_rfl) rfl
  have hlen3 : ∀ x : RightT, (encR x).length = 3 := fun _ => rfl
  have hH : HoldsK encR 3 w g 0 xs.toArray := by
    intro j hj
    rw [size_flatK] at hj
    have hj' : j < xs.length * 3 := by simpa using hj
    have h1 : j / 3 < xs.length := by omega
    have h2 : j % 3 < 3 := by omega
    refine ⟨?_, hf _⟩
    rw [get_flatK _ _ _ _ hj, Nat.zero_add]
    have := hc (j / 3) h1 (j % 3) h2
    rw [show j / 3 * 3 + j % 3 = j by omega] at this
    rw [this]
    have h3 : xs.toArray[j / 3]! = xs[j / 3] := by simp [h1]
    rw [h3, List.getElem?_eq_getElem (by rw [hlen3]; exact h2)]
    simp [hlen3, h2]
  refine (AnyQ.slices_SortFunc sortR 3 Try.isAgg42 Try.sizeOf42 encR hlen3 (fun x v hv => by simp [encR] at hv; rcases hv with rfl | rfl | rfl <;> rfl) cmpR swoR 25 #[] g 0 cap xs.toArray w eg (cmpLaysR g 0 _ w) hH hg (by simpa using hl)).mono ?_
  rintro e w' ⟨rfl, d', n, os, ⟨hs, _, hp⟩, hsd, rfl⟩
  have hsz : d'.size = xs.length := by simpa using hs
  have hperm : d'.toList.Perm xs := by
    have h1 : (d'.extract 0 xs.toArray.size).toList = d'.toList := by simp [← hsz]
    have h2 : (xs.toArray.extract 0 xs.toArray.size).toList = xs := by simp
    rw [h1, h2] at hp
    exact hp
  refine ⟨rfl, d'.toList, hperm, ?_, ?_, sortWorldK_fr _ _ _ _ _ _ _ _⟩
  · have hd2 : d'.toList.Pairwise (fun a b => kOf a ≠ kOf b) := (hperm.pairwise_iff (fun {_ _} h => Ne.symm h)).2 hd
    rw [Rising, List.pairwise_iff_getElem]
    intro i j hi hj hij
    have h1 := List.pairwise_iff_getElem.1 hd2 i j hi hj hij
    have hj' : j < d'.size := by simpa using hj
    have h2 := hsd i j (Nat.zero_le _) hij (by rw [← hs]; exact hj')
    rw [cmpR_lt, getElem!_pos d' j hj', getElem!_pos d' i (by omega)] at h2
    rcases kLt_tri _ _ h1 with h | h
    · exact h
    · simp at h2
      exact absurd (by simpa using h) h2
  · intro i hi r hr
    have hi' : i < d'.size := by simpa using hi
    have hH' := holdsK_sortWorldK encR 3 w g 0 n xs.toArray d' os hg hH (by simpa using hs)
    have := (hH'.cell hi' hr).1
    rw [getElem!_pos d' i hi', Nat.zero_add, getElem!_pos (encR d'[i]) r (by rw [hlen3]; exact hr)] at this
    rw [this, List.getElem?_eq_getElem (by rw [hlen3]; exact hr)]
    simp
end Go.Proofs.Ytmnajpkmglmipaa
