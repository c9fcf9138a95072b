/- What lines need, in plain Lean: rights by counter and way. -/
import Derived.Test.YtmnajpkmglmipaaKMap
import Derived.Test.YtmnajpkmglmipaaNum
namespace Go.Proofs.Ytmnajpkmglmipaa
open Go.RowKit

abbrev KindD := Int × Int
def wr64 (n : Int) : Int := IntKind.i64.wrap n
def amtOf (c : Int) : Int := if c < 0 then wr64 (-c) else c
def wayOf (c : Int) : Int := if c < 0 then 0 else 1
def needL (xs : List (Int × Int)) : List (KindD × Int) := xs.map fun x => ((x.1, wayOf x.2), amtOf x.2)
def addTo (f : KindD → Option Int) (p : KindD × Int) : KindD → Option Int := KeyK.upd f p.1 (wr64 ((f p.1).getD 0 + p.2))
def sumOf (l : List (KindD × Int)) : KindD → Option Int := l.foldl addTo (fun _ => none)
theorem sumOf_snoc (l : List (KindD × Int)) (p : KindD × Int) : sumOf (l ++ [p]) = addTo (sumOf l) p := by simp [sumOf, List.foldl_append]

abbrev RightT := Int × Int × Int
def kOf (r : RightT) : KindD := (r.1, r.2.1)
def kLt (a b : KindD) : Prop := a.1 < b.1 ∨ (a.1 = b.1 ∧ a.2 < b.2)
instance (a b : KindD) : Decidable (kLt a b) := by unfold kLt; infer_instance
theorem kLt_irrefl (a : KindD) : ¬ kLt a a := by unfold kLt; omega
theorem kLt_trans {a b c : KindD} (h : kLt a b) (k : kLt b c) : kLt a c := by unfold kLt at *; omega
theorem kLt_tri (a b : KindD) (h : a ≠ b) : kLt a b ∨ kLt b a := by
  unfold kLt
  have h2 : ¬ (a.1 = b.1 ∧ a.2 = b.2) := fun e => h (Prod.ext e.1 e.2)
  omega
/-- Rights by counter and way, none twice. -/
def Rising (l : List RightT) : Prop := l.Pairwise (fun a b => kLt (kOf a) (kOf b))
/-- The right of a kind in a list. -/
def fOf (l : List RightT) (k : KindD) : Option Int := (l.find? (fun y => decide (kOf y = k))).map (·.2.2)
theorem fOf_nil (k : KindD) : fOf [] k = none := rfl
theorem fOf_cons (y : RightT) (l : List RightT) (k : KindD) : fOf (y :: l) k = if kOf y = k then some y.2.2 else fOf l k := by
  unfold fOf
  rw [List.find?_cons]
  by_cases h : kOf y = k
  · simp [h]
  · simp [h]
theorem fOf_none {l : List RightT} {k : KindD} (h : ∀ y ∈ l, kOf y ≠ k) : fOf l k = none := by
  unfold fOf
  rw [List.find?_eq_none.2 (fun y hy => by simpa using h y hy)]; rfl
theorem fOf_some {l : List RightT} (hl : Rising l) (y : RightT) : y ∈ l ↔ fOf l (kOf y) = some y.2.2 := by
  induction l with
  | nil => simp [fOf_nil]
  | cons x l ih =>
    obtain ⟨h1, h2⟩ := List.pairwise_cons.1 hl
    rw [fOf_cons]
    by_cases h : kOf x = kOf y
    · rw [if_pos h]
      constructor
      · intro hy
        rcases List.mem_cons.1 hy with rfl | hy
        · rfl
        · exact absurd (h ▸ h1 y hy) (kLt_irrefl _)
      · intro e
        have e2 : x.2.2 = y.2.2 := by simpa using e
        have e1 : x.1 = y.1 := congrArg (fun z : KindD => z.1) h
        have e3 : x.2.1 = y.2.1 := congrArg (fun z : KindD => z.2) h
        have : x = y := by
          obtain ⟨a, b, c⟩ := x
          obtain ⟨a', b', c'⟩ := y
          simp only at e1 e2 e3
          subst e1 e2 e3; rfl
        rw [this]; exact List.mem_cons_self
    · rw [if_neg h, ← ih h2]
      constructor
      · intro hy
        rcases List.mem_cons.1 hy with rfl | hy
        · exact absurd rfl h
        · exact hy
      · exact List.mem_cons_of_mem _
/-- Two rising lists that tell the same are the same. -/
theorem rising_eq {l m : List RightT} (hl : Rising l) (hm : Rising m) (h : ∀ y, y ∈ l ↔ y ∈ m) : l = m := by
  induction l generalizing m with
  | nil =>
    cases m with
    | nil => rfl
    | cons y m => exact absurd ((h y).2 List.mem_cons_self) (by simp)
  | cons x l ih =>
    cases m with
    | nil => exact absurd ((h x).1 List.mem_cons_self) (by simp)
    | cons y m =>
      obtain ⟨h1, h2⟩ := List.pairwise_cons.1 hl
      obtain ⟨k1, k2⟩ := List.pairwise_cons.1 hm
      have hxy : x = y := by
        rcases List.mem_cons.1 ((h x).1 List.mem_cons_self) with e | e
        · exact e
        · rcases List.mem_cons.1 ((h y).2 List.mem_cons_self) with e' | e'
          · exact e'.symm
          · exact absurd (kLt_trans (h1 y e') (k1 x e)) (kLt_irrefl _)
      subst hxy
      congr 1
      refine ih h2 k2 (fun z => ?_)
      have hz := h z
      simp only [List.mem_cons] at hz
      constructor
      · intro hzl
        rcases hz.1 (.inr hzl) with e | e
        · subst e; exact absurd (h1 z hzl) (kLt_irrefl _)
        · exact e
      · intro hzm
        rcases hz.2 (.inr hzm) with e | e
        · subst e; exact absurd (k1 z hzm) (kLt_irrefl _)
        · exact e
/-- A right into a rising list, or onto the one of its kind. -/
def putR : List RightT → RightT → List RightT
  | [], r => [r]
  | x :: l, r => if kOf x = kOf r then (x.1, x.2.1, wr64 (x.2.2 + r.2.2)) :: l else if kLt (kOf r) (kOf x) then r :: x :: l else x :: putR l r
theorem putR_keys {l : List RightT} {r y : RightT} (h : y ∈ putR l r) : kOf y = kOf r ∨ ∃ z ∈ l, kOf z = kOf y := by
  induction l with
  | nil => simp [putR] at h; subst h; exact .inl rfl
  | cons x l ih =>
    unfold putR at h
    split at h
    · rename_i he
      rcases List.mem_cons.1 h with rfl | h
      · exact .inl he
      · exact .inr ⟨y, List.mem_cons_of_mem _ h, rfl⟩
    · split at h
      · rcases List.mem_cons.1 h with rfl | h
        · exact .inl rfl
        · exact .inr ⟨y, h, rfl⟩
      · rcases List.mem_cons.1 h with rfl | h
        · exact .inr ⟨y, List.mem_cons_self, rfl⟩
        · rcases ih h with e | ⟨z, hz, e⟩
          · exact .inl e
          · exact .inr ⟨z, List.mem_cons_of_mem _ hz, e⟩
theorem putR_rising {l : List RightT} (hl : Rising l) (r : RightT) : Rising (putR l r) := by
  induction l with
  | nil => simp [putR, Rising]
  | cons x l ih =>
    obtain ⟨h1, h2⟩ := List.pairwise_cons.1 hl
    unfold putR
    split
    · exact List.pairwise_cons.2 ⟨h1, h2⟩
    · rename_i hne
      split
      · rename_i hlt
        refine List.pairwise_cons.2 ⟨fun y hy => ?_, hl⟩
        rcases List.mem_cons.1 hy with rfl | hy
        · exact hlt
        · exact kLt_trans hlt (h1 y hy)
      · rename_i hnl
        have hxr : kLt (kOf x) (kOf r) := by
          rcases kLt_tri _ _ hne with h | h
          · exact h
          · exact absurd h hnl
        refine List.pairwise_cons.2 ⟨fun y hy => ?_, ih h2⟩
        rcases putR_keys hy with e | ⟨z, hz, e⟩
        · rw [e]; exact hxr
        · rw [← e]; exact h1 z hz
theorem putR_fOf {l : List RightT} (hl : Rising l) (r : RightT) (hr : wr64 r.2.2 = r.2.2) (k : KindD) : fOf (putR l r) k = if k = kOf r then some (wr64 ((fOf l k).getD 0 + r.2.2)) else fOf l k := by
  induction l with
  | nil =>
    simp only [putR, fOf_cons, fOf_nil]
    by_cases h : kOf r = k
    · subst h; simp [hr]
    · rw [if_neg h, if_neg (fun e => h e.symm)]
  | cons x l ih =>
    obtain ⟨h1, h2⟩ := List.pairwise_cons.1 hl
    unfold putR
    split
    · rename_i he
      rw [fOf_cons, fOf_cons]
      have e' : kOf (x.1, x.2.1, wr64 (x.2.2 + r.2.2)) = kOf x := rfl
      rw [e', he]
      by_cases h : k = kOf r
      · subst h; simp
      · rw [if_neg (fun e => h e.symm), if_neg h, if_neg (fun e => h e.symm)]
    · rename_i hne
      split
      · rename_i hlt
        have hno : fOf (x :: l) (kOf r) = none := fOf_none (fun y hy e => by
          rcases List.mem_cons.1 hy with rfl | hy
          · exact hne e
          · exact absurd (e ▸ kLt_trans hlt (h1 y hy)) (kLt_irrefl _))
        rw [fOf_cons]
        by_cases h : k = kOf r
        · subst h; simp [hno, hr]
        · rw [if_neg (fun e => h e.symm), if_neg h]
      · rw [fOf_cons, fOf_cons, ih h2]
        by_cases h : kOf x = k
        · subst h; simp [hne]
        · simp [h]
def rightOf (p : KindD × Int) : RightT := (p.1.1, p.1.2, p.2)
/-- What lines need. -/
def needsD (xs : List (Int × Int)) : List RightT := (needL xs).foldl (fun l p => putR l (rightOf p)) []
theorem wr64_wr64 (n : Int) : wr64 (wr64 n) = wr64 n := by
  unfold wr64 IntKind.wrap
  simp only [IntKind.bits, IntKind.signed]
  simp
  omega
theorem needs_fold' (l : List (KindD × Int)) (hl : ∀ p ∈ l, wr64 p.2 = p.2) (acc : List RightT) (f : KindD → Option Int) (ha : Rising acc) (hf : ∀ k, fOf acc k = f k) :
    Rising (l.foldl (fun l p => putR l (rightOf p)) acc) ∧ ∀ k, fOf (l.foldl (fun l p => putR l (rightOf p)) acc) k = l.foldl addTo f k := by
  induction l generalizing acc f with
  | nil => exact ⟨ha, hf⟩
  | cons p l ih =>
    refine ih (fun q hq => hl q (List.mem_cons_of_mem _ hq)) _ _ (putR_rising ha _) (fun k => ?_)
    rw [putR_fOf ha (rightOf p) (hl p List.mem_cons_self), hf]
    unfold addTo KeyK.upd
    by_cases h : k = p.1
    · subst h
      rw [if_pos (show p.1 = kOf (rightOf p) from rfl), if_pos rfl]; rfl
    · rw [if_neg (show ¬ k = kOf (rightOf p) from fun e => h (e.trans rfl)), if_neg h]
theorem needs_fold (l : List (KindD × Int)) (hl : ∀ p ∈ l, wr64 p.2 = p.2) : Rising (l.foldl (fun l p => putR l (rightOf p)) []) ∧ ∀ k, fOf (l.foldl (fun l p => putR l (rightOf p)) []) k = sumOf l k :=
  needs_fold' l hl [] _ List.Pairwise.nil (fun _ => rfl)
/-- Lines whose numbers are numbers of 64 bits. -/
def Wf64 (n : Int) : Prop := -9223372036854775808 ≤ n ∧ n ≤ 9223372036854775807
theorem wr64_of {n : Int} (h : Wf64 n) : wr64 n = n := by
  unfold Wf64 at h
  unfold wr64 IntKind.wrap
  simp only [IntKind.bits, IntKind.signed]
  simp
  omega
theorem wr64_wf (n : Int) : Wf64 (wr64 n) := by
  unfold Wf64 wr64 IntKind.wrap
  simp only [IntKind.bits, IntKind.signed]
  simp
  omega
theorem needL_wf (xs : List (Int × Int)) (hx : ∀ x ∈ xs, Wf64 x.2) : ∀ p ∈ needL xs, wr64 p.2 = p.2 := by
  intro p hp
  obtain ⟨x, hx', rfl⟩ := List.mem_map.1 hp
  show wr64 (amtOf x.2) = amtOf x.2
  unfold amtOf
  split
  · exact wr64_wr64 _
  · exact wr64_of (hx x hx')
theorem needs_rising (xs : List (Int × Int)) (hx : ∀ x ∈ xs, Wf64 x.2) : Rising (needsD xs) := (needs_fold _ (needL_wf xs hx)).1
theorem needs_mem (xs : List (Int × Int)) (hx : ∀ x ∈ xs, Wf64 x.2) (y : RightT) : y ∈ needsD xs ↔ sumOf (needL xs) (kOf y) = some y.2.2 := by
  rw [fOf_some (needs_rising xs hx)]
  unfold needsD
  rw [(needs_fold _ (needL_wf xs hx)).2]
end Go.Proofs.Ytmnajpkmglmipaa
