/- BookL -/
import Derived.Test.YtmnajpkmglmipaaGreatMRuleNeeds17
/- The law's book: grow, holds, Look. Printed by gen_look.py. -/
namespace Go.Proofs.YtmnajpkmglmipaaGreat
open Go.RowKit

theorem cz0 (b : BookV) : (cellsOf b)[0]? = some (.slice none 0 0) := by
  unfold cellsOf
  rw [List.getElem?_toArray]
  simp only [kz, kc, List.cons_append, List.nil_append, List.getElem?_cons_succ, List.getElem?_cons_zero]
theorem cz2 (b : BookV) : (cellsOf b)[2]? = some (.int .i64 0) := by
  unfold cellsOf
  rw [List.getElem?_toArray]
  simp only [kz, kc, List.cons_append, List.nil_append, List.getElem?_cons_succ, List.getElem?_cons_zero]
theorem cz3 (b : BookV) : (cellsOf b)[3]? = some (.slice none 0 0) := by
  unfold cellsOf
  rw [List.getElem?_toArray]
  simp only [kz, kc, List.cons_append, List.nil_append, List.getElem?_cons_succ, List.getElem?_cons_zero]
theorem cz5 (b : BookV) : (cellsOf b)[5]? = some (.int .i64 0) := by
  unfold cellsOf
  rw [List.getElem?_toArray]
  simp only [kz, kc, List.cons_append, List.nil_append, List.getElem?_cons_succ, List.getElem?_cons_zero]
theorem cz6 (b : BookV) : (cellsOf b)[6]? = some (.slice none 0 0) := by
  unfold cellsOf
  rw [List.getElem?_toArray]
  simp only [kz, kc, List.cons_append, List.nil_append, List.getElem?_cons_succ, List.getElem?_cons_zero]
theorem cz8 (b : BookV) : (cellsOf b)[8]? = some (.int .i64 0) := by
  unfold cellsOf
  rw [List.getElem?_toArray]
  simp only [kz, kc, List.cons_append, List.nil_append, List.getElem?_cons_succ, List.getElem?_cons_zero]
theorem cz9 (b : BookV) : (cellsOf b)[9]? = some (.slice none 0 0) := by
  unfold cellsOf
  rw [List.getElem?_toArray]
  simp only [kz, kc, List.cons_append, List.nil_append, List.getElem?_cons_succ, List.getElem?_cons_zero]
theorem cz11 (b : BookV) : (cellsOf b)[11]? = some (.int .i64 0) := by
  unfold cellsOf
  rw [List.getElem?_toArray]
  simp only [kz, kc, List.cons_append, List.nil_append, List.getElem?_cons_succ, List.getElem?_cons_zero]
theorem cz12 (b : BookV) : (cellsOf b)[12]? = some (.slice none 0 0) := by
  unfold cellsOf
  rw [List.getElem?_toArray]
  simp only [kz, kc, List.cons_append, List.nil_append, List.getElem?_cons_succ, List.getElem?_cons_zero]
theorem cz14 (b : BookV) : (cellsOf b)[14]? = some (.int .i64 0) := by
  unfold cellsOf
  rw [List.getElem?_toArray]
  simp only [kz, kc, List.cons_append, List.nil_append, List.getElem?_cons_succ, List.getElem?_cons_zero]
theorem cz15 (b : BookV) : (cellsOf b)[15]? = some (.slice none 0 0) := by
  unfold cellsOf
  rw [List.getElem?_toArray]
  simp only [kz, kc, List.cons_append, List.nil_append, List.getElem?_cons_succ, List.getElem?_cons_zero]
theorem cz17 (b : BookV) : (cellsOf b)[17]? = some (.int .i64 0) := by
  unfold cellsOf
  rw [List.getElem?_toArray]
  simp only [kz, kc, List.cons_append, List.nil_append, List.getElem?_cons_succ, List.getElem?_cons_zero]
theorem cz30 (b : BookV) : (cellsOf b)[30]? = some (.slice none 0 0) := by
  unfold cellsOf
  rw [List.getElem?_toArray]
  simp only [kz, kc, List.cons_append, List.nil_append, List.getElem?_cons_succ, List.getElem?_cons_zero]
theorem cz32 (b : BookV) : (cellsOf b)[32]? = some (.int .i64 0) := by
  unfold cellsOf
  rw [List.getElem?_toArray]
  simp only [kz, kc, List.cons_append, List.nil_append, List.getElem?_cons_succ, List.getElem?_cons_zero]
theorem cz33 (b : BookV) : (cellsOf b)[33]? = some (.slice none 0 0) := by
  unfold cellsOf
  rw [List.getElem?_toArray]
  simp only [kz, kc, List.cons_append, List.nil_append, List.getElem?_cons_succ, List.getElem?_cons_zero]
theorem cz35 (b : BookV) : (cellsOf b)[35]? = some (.int .i64 0) := by
  unfold cellsOf
  rw [List.getElem?_toArray]
  simp only [kz, kc, List.cons_append, List.nil_append, List.getElem?_cons_succ, List.getElem?_cons_zero]
theorem cz36 (b : BookV) : (cellsOf b)[36]? = some (.slice none 0 0) := by
  unfold cellsOf
  rw [List.getElem?_toArray]
  simp only [kz, kc, List.cons_append, List.nil_append, List.getElem?_cons_succ, List.getElem?_cons_zero]
theorem cz38 (b : BookV) : (cellsOf b)[38]? = some (.int .i64 0) := by
  unfold cellsOf
  rw [List.getElem?_toArray]
  simp only [kz, kc, List.cons_append, List.nil_append, List.getElem?_cons_succ, List.getElem?_cons_zero]
theorem cz39 (b : BookV) : (cellsOf b)[39]? = some (.slice none 0 0) := by
  unfold cellsOf
  rw [List.getElem?_toArray]
  simp only [kz, kc, List.cons_append, List.nil_append, List.getElem?_cons_succ, List.getElem?_cons_zero]
theorem cz41 (b : BookV) : (cellsOf b)[41]? = some (.int .i64 0) := by
  unfold cellsOf
  rw [List.getElem?_toArray]
  simp only [kz, kc, List.cons_append, List.nil_append, List.getElem?_cons_succ, List.getElem?_cons_zero]
theorem cz42 (b : BookV) : (cellsOf b)[42]? = some (.slice none 0 0) := by
  unfold cellsOf
  rw [List.getElem?_toArray]
  simp only [kz, kc, List.cons_append, List.nil_append, List.getElem?_cons_succ, List.getElem?_cons_zero]
theorem cz44 (b : BookV) : (cellsOf b)[44]? = some (.int .i64 0) := by
  unfold cellsOf
  rw [List.getElem?_toArray]
  simp only [kz, kc, List.cons_append, List.nil_append, List.getElem?_cons_succ, List.getElem?_cons_zero]
theorem cz45 (b : BookV) : (cellsOf b)[45]? = some (.slice none 0 0) := by
  unfold cellsOf
  rw [List.getElem?_toArray]
  simp only [kz, kc, List.cons_append, List.nil_append, List.getElem?_cons_succ, List.getElem?_cons_zero]
theorem cz47 (b : BookV) : (cellsOf b)[47]? = some (.int .i64 0) := by
  unfold cellsOf
  rw [List.getElem?_toArray]
  simp only [kz, kc, List.cons_append, List.nil_append, List.getElem?_cons_succ, List.getElem?_cons_zero]
theorem cz48 (b : BookV) : (cellsOf b)[48]? = some (.slice none 0 0) := by
  unfold cellsOf
  rw [List.getElem?_toArray]
  simp only [kz, kc, List.cons_append, List.nil_append, List.getElem?_cons_succ, List.getElem?_cons_zero]
theorem cz50 (b : BookV) : (cellsOf b)[50]? = some (.int .i64 0) := by
  unfold cellsOf
  rw [List.getElem?_toArray]
  simp only [kz, kc, List.cons_append, List.nil_append, List.getElem?_cons_succ, List.getElem?_cons_zero]
theorem cz51 (b : BookV) : (cellsOf b)[51]? = some (.slice none 0 0) := by
  unfold cellsOf
  rw [List.getElem?_toArray]
  simp only [kz, kc, List.cons_append, List.nil_append, List.getElem?_cons_succ, List.getElem?_cons_zero]
theorem cz53 (b : BookV) : (cellsOf b)[53]? = some (.int .i64 0) := by
  unfold cellsOf
  rw [List.getElem?_toArray]
  simp only [kz, kc, List.cons_append, List.nil_append, List.getElem?_cons_succ, List.getElem?_cons_zero]
theorem cz21 (b : BookV) (h : b.G = .none) : (cellsOf b)[21]? = some (.slice none 0 0) := by rw [c21, h]; rfl
theorem cz23 (b : BookV) (h : b.G = .none) : (cellsOf b)[23]? = some (.int .i64 0) := by
  unfold cellsOf
  rw [List.getElem?_toArray]
  simp only [kz, kc, List.cons_append, List.nil_append, List.getElem?_cons_succ, List.getElem?_cons_zero, h, KeptV.none]
  rfl
theorem set55 (b : BookV) (n : Int) : (cellsOf b).setIfInBounds 55 (.int .i64 n) = cellsOf { b with done := n } := by
  unfold cellsOf
  rw [List.setIfInBounds_toArray]
  simp only [kz, kc, List.cons_append, List.nil_append, List.set_cons_succ, List.set_cons_zero]
/-- The book's blocks. -/
def KS (X : KeptV) (i : Nat) : Prop := some i = X.A.map (·.block) ∨ some i = X.OA.map (·.block) ∨ ∃ e ∈ X.es, some i = blkOf e
def BS (b : BookV) (B : Nat) (i : Nat) : Prop := i = B ∨ KS b.L i ∨ KS b.G i ∨ KS b.S i ∨ KS b.R i
theorem ks_sub {w : World} {X Y : KeptV} (hel : ∀ e ∈ Y.es, ∀ i, i < w.heap.size → some i = e.1.1.map (·.block) → ∃ e ∈ X.es, some i = blkOf e) (l1 : Lies w X.A Y.A) (l2 : Lies w X.OA Y.OA) (i : Nat) (h : KS Y i) : KS X i ∨ w.heap.size ≤ i := by
  by_cases hi : i < w.heap.size
  · left
    rcases h with h | h | ⟨e, he, h⟩
    · exact .inl (lies_in l1 hi h)
    · exact .inr (.inl (lies_in l2 hi h))
    · exact .inr (.inr (hel e he i hi h))
  · right; omega
theorem BookOk.touch {w w' : World} {base B : Nat} {b : BookV} (h : BookOk w base B b) (F : Fr (fun i => i = B) w w') (hB : Blk w' B 54 (cellsOf b)) : BookOk w' base B b :=
  { h with blk := hB, L := h.L.wrote h.blk (by decide) (by decide) (by decide) F, G := h.G.wrote h.blk (by decide) (by decide) (by decide) F, S := h.S.wrote h.blk (by decide) (by decide) (by decide) F, R := h.R.wrote h.blk (by decide) (by decide) (by decide) F }
theorem BookOk.settle {w w' : World} {base B : Nat} {b : BookV} (n : Int) (h : BookOk w base B b) (F : Fr (fun i => i = B) w w') (hB : Blk w' B 54 (cellsOf { b with done := n })) : BookOk w' base B { b with done := n } :=
  ⟨hB, h.lo, h.L.wrote h.blk (by decide) (by decide) (by decide) F, h.G.wrote h.blk (by decide) (by decide) (by decide) F, h.S.wrote h.blk (by decide) (by decide) (by decide) F, h.R.wrote h.blk (by decide) (by decide) (by decide) F, h.dLG, h.dLS, h.dLR, h.dGS, h.dGR, h.dSR, h.room⟩
set_option maxRecDepth 100000 in
set_option maxHeartbeats 8000000 in
theorem grow_c (w : World) (base B : Nat) (b : BookV) (hbk : BookOk w base B b) (hG : b.G = .none) :
    Calls Tryz.prog 62 #[.pointer (some ⟨B, 0, none⟩)] w fun e w' => e = .returned (.tuple #[]) ∧ (∃ b', BookOk w' base B b' ∧ b'.G = .none ∧ ∀ i, BS b' B i → BS b B i ∨ w.heap.size ≤ i) ∧ Fr (BS b B) w w' := by
  have K0 := hide hbk
  have F0 := hide (Fr.refl (BS b B) w)
  have HG0 := hide hG
  have M0 : Hid (∀ i, BS b B i → BS b B i ∨ w.heap.size ≤ i) := hide (fun i h => .inl h)
  clear hbk hG
  go_enter Tryz.func62, Tryz.ntmps62
  go_wp2_with fail
  refine (grow0_bytes _ B (cellsOf b) K0.out.blk (cz0 _) (cz2 _)).mono ?_
  rintro e w1 ⟨rfl, hB, F⟩
  have K1 := hide (K0.out.touch F hB)
  have F1 := hide (F0.out.trans (F.mono (fun i _ e => (show BS b B i from .inl e))))
  clear hB F K0 F0
  have K0 := hide K1.out
  have F0 := hide F1.out
  clear K1 F1
  go_wp2_with fail
  refine (grow0_rows _ B (cellsOf b) K0.out.blk (cz3 _) (cz5 _)).mono ?_
  rintro e w2 ⟨rfl, hB, F⟩
  have K1 := hide (K0.out.touch F hB)
  have F1 := hide (F0.out.trans (F.mono (fun i _ e => (show BS b B i from .inl e))))
  clear hB F K0 F0
  have K0 := hide K1.out
  have F0 := hide F1.out
  clear K1 F1
  go_wp2_with fail
  refine (grow0_texts _ B (cellsOf b) K0.out.blk (cz6 _) (cz8 _)).mono ?_
  rintro e w3 ⟨rfl, hB, F⟩
  have K1 := hide (K0.out.touch F hB)
  have F1 := hide (F0.out.trans (F.mono (fun i _ e => (show BS b B i from .inl e))))
  clear hB F K0 F0
  have K0 := hide K1.out
  have F0 := hide F1.out
  clear K1 F1
  go_wp2_with fail
  refine (grow0_ints _ B (cellsOf b) K0.out.blk (cz9 _) (cz11 _)).mono ?_
  rintro e w4 ⟨rfl, hB, F⟩
  have K1 := hide (K0.out.touch F hB)
  have F1 := hide (F0.out.trans (F.mono (fun i _ e => (show BS b B i from .inl e))))
  clear hB F K0 F0
  have K0 := hide K1.out
  have F0 := hide F1.out
  clear K1 F1
  go_wp2_with fail
  refine (grow0_words _ B (cellsOf b) K0.out.blk (cz12 _) (cz14 _)).mono ?_
  rintro e w5 ⟨rfl, hB, F⟩
  have K1 := hide (K0.out.touch F hB)
  have F1 := hide (F0.out.trans (F.mono (fun i _ e => (show BS b B i from .inl e))))
  clear hB F K0 F0
  have K0 := hide K1.out
  have F0 := hide F1.out
  clear K1 F1
  go_wp2_with fail
  refine (grow0_bools _ B (cellsOf b) K0.out.blk (cz15 _) (cz17 _)).mono ?_
  rintro e w6 ⟨rfl, hB, F⟩
  have K1 := hide (K0.out.touch F hB)
  have F1 := hide (F0.out.trans (F.mono (fun i _ e => (show BS b B i from .inl e))))
  clear hB F K0 F0
  have K0 := hide K1.out
  have F0 := hide F1.out
  clear K1 F1
  go_wp2_with fail
  refine (grow_lines _ base B b K0.out).mono ?_
  rintro e w7 ⟨rfl, ⟨kL, hk, el, l1, l2⟩, F⟩
  have hsz := F0.out.size
  have hKS : ∀ i, KS b.L i → i < w.heap.size → KS b.L i := fun i h hi => by
    exact h
  have F1 := hide (F0.out.thru F (fun i hi e => (show BS b B i from by
    rcases e with e | e | e | e
    · exact .inl e
    · exact .inr (.inl (hKS i (.inl e) hi))
    · exact .inr (.inl (hKS i (.inr (.inl e)) hi))
    · exact .inr (.inl (hKS i (.inr (.inr e)) hi)))))
  obtain ⟨b7, hb⟩ : ∃ b1, b1 = { b with L := kL } := ⟨_, rfl⟩
  have M1 : Hid (∀ i, BS b7 B i → BS b B i ∨ w.heap.size ≤ i) := hide (by
    intro i h
    have hs : KS kL i → KS b.L i ∨ w.heap.size ≤ i := fun h => (ks_sub el l1 l2 i h).imp id (fun h => by omega)
    have hm : ∀ i, BS b B i → BS b B i ∨ w.heap.size ≤ i := M0.out
    rw [hb] at h
    rcases h with h | h | h | h | h
    · exact .inl (.inl h)
    · rcases hs h with h | h
      · exact hm i (.inr (.inl h))
      · exact .inr h
    · exact hm i (.inr (.inr (.inl h)))
    · exact hm i (.inr (.inr (.inr (.inl h))))
    · exact hm i (.inr (.inr (.inr (.inr h)))))
  rw [← hb] at hk
  have K1 := hide hk
  have HG1 : Hid (b7.G = .none) := hide (by rw [hb]; exact HG0.out)
  have HSame : Hid (b7.S = b.S ∧ b7.R = b.R) := hide (by rw [hb]; exact ⟨rfl, rfl⟩)
  clear hk el l1 l2 F hsz hKS hb K0 F0 M0 HG0
  have K0 := hide K1.out
  have F0 := hide F1.out
  have M0 := hide M1.out
  have HG0 := hide HG1.out
  clear K1 F1 M1 HG1
  have HSL := hide HSame.out
  clear HSame
  go_wp2_with fail
  refine (grow0_guards _ B (cellsOf b7) K0.out.blk (cz21 _ HG0.out) (cz23 _ HG0.out)).mono ?_
  rintro e w8 ⟨rfl, hB, F⟩
  have K1 := hide (K0.out.touch F hB)
  have F1 := hide (F0.out.trans (F.mono (fun i _ e => (show BS b B i from .inl e))))
  clear hB F K0 F0
  have K0 := hide K1.out
  have F0 := hide F1.out
  clear K1 F1
  go_wp2_with fail
  refine (grow_sets _ base B b7 K0.out).mono ?_
  rintro e w9 ⟨rfl, ⟨kS, hk, el, l1, l2⟩, F⟩
  have hsz := F0.out.size
  have hKS : ∀ i, KS b7.S i → i < w.heap.size → KS b.S i := fun i h hi => by
    rw [HSL.out.1] at h; exact h
  have F1 := hide (F0.out.thru F (fun i hi e => (show BS b B i from by
    rcases e with e | e | e | e
    · exact .inl e
    · exact .inr (.inr (.inr (.inl (hKS i (.inl e) hi))))
    · exact .inr (.inr (.inr (.inl (hKS i (.inr (.inl e)) hi))))
    · exact .inr (.inr (.inr (.inl (hKS i (.inr (.inr e)) hi)))))))
  obtain ⟨b9, hb⟩ : ∃ b1, b1 = { b7 with S := kS } := ⟨_, rfl⟩
  have M1 : Hid (∀ i, BS b9 B i → BS b B i ∨ w.heap.size ≤ i) := hide (by
    intro i h
    have hs : KS kS i → KS b7.S i ∨ w.heap.size ≤ i := fun h => (ks_sub el l1 l2 i h).imp id (fun h => by omega)
    have hm : ∀ i, BS b7 B i → BS b B i ∨ w.heap.size ≤ i := M0.out
    rw [hb] at h
    rcases h with h | h | h | h | h
    · exact .inl (.inl h)
    · exact hm i (.inr (.inl h))
    · exact hm i (.inr (.inr (.inl h)))
    · rcases hs h with h | h
      · exact hm i (.inr (.inr (.inr (.inl h))))
      · exact .inr h
    · exact hm i (.inr (.inr (.inr (.inr h)))))
  rw [← hb] at hk
  have K1 := hide hk
  have HG1 : Hid (b9.G = .none) := hide (by rw [hb]; exact HG0.out)
  have HSame : Hid (b9.L = b7.L ∧ b9.R = b7.R) := hide (by rw [hb]; exact ⟨rfl, rfl⟩)
  clear hk el l1 l2 F hsz hKS hb K0 F0 M0 HG0
  have K0 := hide K1.out
  have F0 := hide F1.out
  have M0 := hide M1.out
  have HG0 := hide HG1.out
  clear K1 F1 M1 HG1
  have HSS := hide HSame.out
  clear HSame
  go_wp2_with fail
  refine (grow_rights _ base B b9 K0.out).mono ?_
  rintro e w10 ⟨rfl, ⟨kR, hk, el, l1, l2⟩, F⟩
  have hsz := F0.out.size
  have hKS : ∀ i, KS b9.R i → i < w.heap.size → KS b.R i := fun i h hi => by
    rw [HSS.out.2, HSL.out.2] at h; exact h
  have F1 := hide (F0.out.thru F (fun i hi e => (show BS b B i from by
    rcases e with e | e | e | e
    · exact .inl e
    · exact .inr (.inr (.inr (.inr (hKS i (.inl e) hi))))
    · exact .inr (.inr (.inr (.inr (hKS i (.inr (.inl e)) hi))))
    · exact .inr (.inr (.inr (.inr (hKS i (.inr (.inr e)) hi)))))))
  obtain ⟨b10, hb⟩ : ∃ b1, b1 = { b9 with R := kR } := ⟨_, rfl⟩
  have M1 : Hid (∀ i, BS b10 B i → BS b B i ∨ w.heap.size ≤ i) := hide (by
    intro i h
    have hs : KS kR i → KS b9.R i ∨ w.heap.size ≤ i := fun h => (ks_sub el l1 l2 i h).imp id (fun h => by omega)
    have hm : ∀ i, BS b9 B i → BS b B i ∨ w.heap.size ≤ i := M0.out
    rw [hb] at h
    rcases h with h | h | h | h | h
    · exact .inl (.inl h)
    · exact hm i (.inr (.inl h))
    · exact hm i (.inr (.inr (.inl h)))
    · exact hm i (.inr (.inr (.inr (.inl h))))
    · rcases hs h with h | h
      · exact hm i (.inr (.inr (.inr (.inr h))))
      · exact .inr h)
  rw [← hb] at hk
  have K1 := hide hk
  have HG1 : Hid (b10.G = .none) := hide (by rw [hb]; exact HG0.out)
  have HSame : Hid (b10.L = b9.L ∧ b10.S = b9.S) := hide (by rw [hb]; exact ⟨rfl, rfl⟩)
  clear hk el l1 l2 F hsz hKS hb K0 F0 M0 HG0
  have K0 := hide K1.out
  have F0 := hide F1.out
  have M0 := hide M1.out
  have HG0 := hide HG1.out
  clear K1 F1 M1 HG1
  have HSR := hide HSame.out
  clear HSame
  go_wp2_with fail
  refine (grow0_prices _ B (cellsOf b10) K0.out.blk (cz30 _) (cz32 _)).mono ?_
  rintro e w11 ⟨rfl, hB, F⟩
  have K1 := hide (K0.out.touch F hB)
  have F1 := hide (F0.out.trans (F.mono (fun i _ e => (show BS b B i from .inl e))))
  clear hB F K0 F0
  have K0 := hide K1.out
  have F0 := hide F1.out
  clear K1 F1
  go_wp2_with fail
  refine (grow0_helds _ B (cellsOf b10) K0.out.blk (cz33 _) (cz35 _)).mono ?_
  rintro e w12 ⟨rfl, hB, F⟩
  have K1 := hide (K0.out.touch F hB)
  have F1 := hide (F0.out.trans (F.mono (fun i _ e => (show BS b B i from .inl e))))
  clear hB F K0 F0
  have K0 := hide K1.out
  have F0 := hide F1.out
  clear K1 F1
  go_wp2_with fail
  refine (grow0_pools _ B (cellsOf b10) K0.out.blk (cz36 _) (cz38 _)).mono ?_
  rintro e w13 ⟨rfl, hB, F⟩
  have K1 := hide (K0.out.touch F hB)
  have F1 := hide (F0.out.trans (F.mono (fun i _ e => (show BS b B i from .inl e))))
  clear hB F K0 F0
  have K0 := hide K1.out
  have F0 := hide F1.out
  clear K1 F1
  go_wp2_with fail
  refine (grow0_acts _ B (cellsOf b10) K0.out.blk (cz39 _) (cz41 _)).mono ?_
  rintro e w14 ⟨rfl, hB, F⟩
  have K1 := hide (K0.out.touch F hB)
  have F1 := hide (F0.out.trans (F.mono (fun i _ e => (show BS b B i from .inl e))))
  clear hB F K0 F0
  have K0 := hide K1.out
  have F0 := hide F1.out
  clear K1 F1
  go_wp2_with fail
  refine (grow0_entries _ B (cellsOf b10) K0.out.blk (cz42 _) (cz44 _)).mono ?_
  rintro e w15 ⟨rfl, hB, F⟩
  have K1 := hide (K0.out.touch F hB)
  have F1 := hide (F0.out.trans (F.mono (fun i _ e => (show BS b B i from .inl e))))
  clear hB F K0 F0
  have K0 := hide K1.out
  have F0 := hide F1.out
  clear K1 F1
  go_wp2_with fail
  refine (grow0_flights _ B (cellsOf b10) K0.out.blk (cz45 _) (cz47 _)).mono ?_
  rintro e w16 ⟨rfl, hB, F⟩
  have K1 := hide (K0.out.touch F hB)
  have F1 := hide (F0.out.trans (F.mono (fun i _ e => (show BS b B i from .inl e))))
  clear hB F K0 F0
  have K0 := hide K1.out
  have F0 := hide F1.out
  clear K1 F1
  go_wp2_with fail
  refine (grow0_files _ B (cellsOf b10) K0.out.blk (cz48 _) (cz50 _)).mono ?_
  rintro e w17 ⟨rfl, hB, F⟩
  have K1 := hide (K0.out.touch F hB)
  have F1 := hide (F0.out.trans (F.mono (fun i _ e => (show BS b B i from .inl e))))
  clear hB F K0 F0
  have K0 := hide K1.out
  have F0 := hide F1.out
  clear K1 F1
  go_wp2_with fail
  refine (grow0_items _ B (cellsOf b10) K0.out.blk (cz51 _) (cz53 _)).mono ?_
  rintro e w18 ⟨rfl, hB, F⟩
  have K1 := hide (K0.out.touch F hB)
  have F1 := hide (F0.out.trans (F.mono (fun i _ e => (show BS b B i from .inl e))))
  clear hB F K0 F0
  have K0 := hide K1.out
  have F0 := hide F1.out
  clear K1 F1
  have kt : w18.cell? ⟨B, 54, none⟩ = some (.int .i64 b10.turn) := (K0.out.blk.cell 54).trans (c54 _)
  have kd : w18.cell? ⟨B, 55, none⟩ = some (.int .i64 b10.done) := (K0.out.blk.cell 55).trans (c55 _)
  have fd := K0.out.blk.free 55
  have hB := K0.out.blk.set 55 (.int .i64 b10.turn)
  rw [set55] at hB
  have END := hide hB
  clear hB
  go_wp2_with fail
  exact bodyPost_end (results_none rfl _ _ _) rfl ⟨rfl, ⟨_, K0.out.settle _ (Fr.setCell _ _ _ _) END.out, HG0.out, M0.out⟩, F0.out.thru (Fr.setCell _ _ _ _) (fun i _ e => .inl e)⟩
set_option maxRecDepth 100000 in
set_option maxHeartbeats 8000000 in
theorem holds_book (w : World) (base B : Nat) (b : BookV) (hbk : BookOk w base B b) (hG : b.G = .none) :
    Calls Tryz.prog 61 #[.pointer (some ⟨B, 0, none⟩)] w fun e w' => e = .returned (.bool true) ∧ Fr no w w' := by
  have HB := hide hbk
  have HG := hide hG
  clear hbk hG
  go_enter Tryz.func61, Tryz.ntmps61
  go_wp2_with fail
  refine (look_plain _ B _ HB.out.blk (cz0 _) (cz3 _)).mono ?_
  rintro e w1 ⟨rfl, rfl⟩
  go_wp2_with fail
  refine (look_kept _ B _ HB.out.blk (cz6 _) (cz9 _) (cz12 _) (cz15 _)).mono ?_
  rintro e w1 ⟨rfl, rfl⟩
  go_wp2_with fail
  refine (told_c _ base B b HB.out (by rw [HG.out]; rfl)).mono ?_
  rintro e w2 ⟨rfl, F⟩
  have HF := hide F
  have HB2 := hide (HB.out.blk.kept0 F)
  clear F
  go_wp2_with fail
  refine (look_held _ B _ HB2.out (cz30 _) (cz33 _) (cz36 _) (cz39 _)).mono ?_
  rintro e w1 ⟨rfl, rfl⟩
  go_wp2_with fail
  refine (look_sent _ B _ HB2.out (cz42 _) (cz45 _) (cz48 _) (cz51 _)).mono ?_
  rintro e w1 ⟨rfl, rfl⟩
  go_wp2_with fail
  go_ret
  exact ⟨rfl, HF.out⟩
set_option maxRecDepth 100000 in
set_option maxHeartbeats 8000000 in
theorem look_c (w : World) (base B : Nat) (b : BookV) (hbk : BookOk w base B b) (hG : b.G = .none) :
    Calls Tryz.prog 18 #[.pointer (some ⟨B, 0, none⟩)] w fun e w' => e = .returned (.bool true) ∧ (∃ b', BookOk w' base B b' ∧ b'.G = .none ∧ ∀ i, BS b' B i → BS b B i ∨ w.heap.size ≤ i) ∧ Fr (BS b B) w w' := by
  have HB := hide hbk
  have HG := hide hG
  clear hbk hG
  go_enter Tryz.func18, Tryz.ntmps18
  go_wp2_with fail
  refine (holds_book _ base B b HB.out HG.out).mono ?_
  rintro e w1 ⟨rfl, F⟩
  have HF := hide F
  have HB2 := hide (HB.out.keep F)
  have kt : ∀ p : FrBy w1, p.w.cell? ⟨B, 54, none⟩ = some (.int .i64 b.turn) := fun p => fr_cell p.fr ((HB2.out.blk.cell 54).trans (c54 _))
  have kd : ∀ p : FrBy w1, p.w.cell? ⟨B, 55, none⟩ = some (.int .i64 b.done) := fun p => fr_cell p.fr ((HB2.out.blk.cell 55).trans (c55 _))
  clear F
  obtain ⟨p, hp⟩ : ∃ p : FrBy w1, p.w = w1 := ⟨⟨w1, Fr.refl _ _⟩, rfl⟩
  rw [← hp]
  clear hp
  by_cases hd : b.done = b.turn
  · have hd1 : (b.done == b.turn) = true := by simpa using hd
    have HD := hide hd
    clear hd
    go_wp2_with fail
    refine wp_region_fr w1 (by kernel_rfl) (by kernel_rfl) p.fr ?_
    (repeat (first | go_big_quiet_step (fail) | quiet_step (fail)))
    refine wpQuiet_nil ?_
    intro wz hw'
    obtain ⟨p, rfl⟩ := hw'
    go_wp2_with fail
    go_ret
    exact ⟨rfl, ⟨b, HB2.out.keep p.fr, HG.out, fun i h => .inl h⟩, (HF.out.trans p.fr).mono (fun _ _ e => e.elim)⟩
  · have hd1 : (b.done == b.turn) = false := by simpa using hd
    go_wp2_with fail
    refine wp_region_fr w1 (by kernel_rfl) (by kernel_rfl) p.fr ?_
    (repeat (first | go_big_quiet_step (fail) | quiet_step (fail)))
    refine wpQuiet_nil ?_
    intro wz hw'
    obtain ⟨p, rfl⟩ := hw'
    go_wp2_with fail
    refine (grow_c _ base B b (HB2.out.keep p.fr) HG.out).mono ?_
    rintro e w2 ⟨rfl, ⟨b', hb', hg', hm⟩, F⟩
    have hs0 := (HF.out.trans p.fr).size
    have F2 := hide (((HF.out.trans p.fr).mono (S' := BS b B) (fun _ _ e => e.elim)).trans F)
    have HB3 := hide hb'
    have HG3 := hide hg'
    have HM : Hid (∀ i, BS b' B i → BS b B i ∨ w.heap.size ≤ i) := hide (fun i h => (hm i h).imp id (fun h => by omega))
    clear hb' hg' hm F hs0 hd
    go_wp2_with fail
    refine (holds_book _ base B b' HB3.out HG3.out).mono ?_
    rintro e w3 ⟨rfl, F⟩
    have F3 := hide F
    clear F
    go_wp2_with fail
    go_ret
    exact ⟨rfl, ⟨b', HB3.out.keep F3.out, HG3.out, HM.out⟩, F2.out.trans0 F3.out⟩
end Go.Proofs.YtmnajpkmglmipaaGreat
