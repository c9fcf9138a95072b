/- Lists of elements without pointers, as rows of cells. -/
import Derived.Test.YtmnajpkmglmipaaKd
import Derived.OwnWalk
namespace Go.Proofs.Ytmnajpkmglmipaa
open Go.RowKit

/-- The elements' cells, one element behind the other. -/
structure Flat (α : Type) where
  sz : Nat
  enc : α → List Value
  len : ∀ x, (enc x).length = sz
  pos : 0 < sz
  one : ∀ x, ∀ u ∈ enc x, u.oneCell' = true
namespace Flat
variable {α : Type}
def all (f : Flat α) (xs : List α) : List Value := xs.flatMap f.enc
theorem all_nil (f : Flat α) : f.all [] = [] := rfl
theorem all_cons (f : Flat α) (x : α) (xs : List α) : f.all (x :: xs) = f.enc x ++ f.all xs := rfl
theorem all_append (f : Flat α) (xs ys : List α) : f.all (xs ++ ys) = f.all xs ++ f.all ys := List.flatMap_append
theorem all_length (f : Flat α) (xs : List α) : (f.all xs).length = xs.length * f.sz := by
  induction xs with
  | nil => simp [all]
  | cons x xs ih => rw [all_cons, List.length_append, ih, f.len, List.length_cons, Nat.add_mul, Nat.one_mul, Nat.add_comm]
theorem all_one (f : Flat α) (xs : List α) : ∀ u ∈ f.all xs, u.oneCell' = true := by
  intro u hu
  obtain ⟨x, _, hx⟩ := List.mem_flatMap.1 hu
  exact f.one x u hx
/-- Cell r of element i. -/
theorem all_get (f : Flat α) (xs : List α) (i r : Nat) (hi : i < xs.length) (hr : r < f.sz) : (f.all xs)[i * f.sz + r]? = (f.enc xs[i])[r]? := by
  induction xs generalizing i with
  | nil => simp at hi
  | cons x xs ih =>
    rw [all_cons]
    cases i with
    | zero =>
      rw [Nat.zero_mul, Nat.zero_add, List.getElem?_append_left (by rw [f.len]; exact hr)]
      rfl
    | succ i =>
      rw [List.getElem?_append_right (by rw [f.len, Nat.add_mul, Nat.one_mul]; omega), f.len]
      have e : (i + 1) * f.sz + r - f.sz = i * f.sz + r := by rw [Nat.add_mul, Nat.one_mul]; omega
      rw [e]
      exact ih i (by simpa using hi)
/-- The kind reads as these cells. -/
def Reads (f : Flat α) (d : Kd α) : Prop := d.sz = f.sz ∧ ∀ w x cs, d.K w x cs → cs = f.enc x
theorem Reads.cells {f : Flat α} {d : Kd α} (R : f.Reads d) {w : World} {g o : Nat} {xs : List α} (h : d.At w g o xs) : ∀ j u, (f.all xs)[j]? = some u → w.cell? ((⟨g, o, none⟩ : Addr).add j) = some u := by
  intro j u hj
  have hlt : j < (f.all xs).length := (List.getElem?_eq_some_iff.1 hj).1
  rw [f.all_length] at hlt
  have hi : j / f.sz < xs.length := Nat.div_lt_of_lt_mul (by rw [Nat.mul_comm]; exact hlt)
  have hr : j % f.sz < f.sz := Nat.mod_lt _ f.pos
  have e : j = j / f.sz * f.sz + j % f.sz := by rw [Nat.mul_comm]; exact (Nat.div_add_mod _ _).symm
  obtain ⟨cells, k1, k2⟩ := h (j / f.sz) hi
  have k3 := R.2 _ _ _ k1
  have k4 := k2 (j % f.sz) (by rw [R.1]; exact hr)
  rw [Kd.addr_add]
  rw [e, f.all_get xs _ _ hi hr] at hj
  rw [R.1, k3, hj, Nat.add_assoc, ← e] at k4
  exact k4
theorem Reads.row {f : Flat α} {d : Kd α} (R : f.Reads d) {w : World} {A : Option Addr} {c : Nat} {xs : List α} (h : d.Row w A c xs) : ∀ ad, A = some ad → ∀ j u, (f.all xs)[j]? = some u → w.cell? (ad.add j) = some u := by
  intro ad ha j u hj
  have hne : xs ≠ [] := by rintro rfl; simp [all_nil] at hj
  obtain ⟨g, o, e, hat⟩ := h.2.2.1 hne
  rw [ha] at e
  obtain rfl : ad = _ := Option.some.inj e
  exact R.cells hat j u hj
theorem row_none {d : Kd α} {w : World} {A : Option Addr} {c : Nat} {xs : List α} (h : d.Row w A c xs) : A = none → xs.length = 0 ∧ c = 0 := fun e => by
  have := h.2.2.2 e
  have := h.1
  omega
end Flat
end Go.Proofs.Ytmnajpkmglmipaa
