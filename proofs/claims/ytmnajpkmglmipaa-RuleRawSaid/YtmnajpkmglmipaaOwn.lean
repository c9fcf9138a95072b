/- Rows that a call owns: slices that read as lists and lie in new memory of their own. -/
import Derived.Test.YtmnajpkmglmipaaNeeds
namespace Go.Proofs.Ytmnajpkmglmipaa
open Go.RowKit

/-- What a call owns is a slice that holds these elements. -/
theorem own_sl {α : Type} (f : Flat α) {w : World} {base : Nat} {T : TypeId} {v : Value} {xs : List α} (h : w.ownsRow base T f.sz v xs.length (f.all xs)) : ∃ A c, v = .slice A xs.length c ∧ Sl f w A c xs := by
  rcases h.2 with ⟨rfl, h0⟩ | ⟨g, cap, cur, rfl, hbg, hg, hnc, hcm, hcs, htake⟩
  · have hx : xs = [] := List.eq_nil_of_length_eq_zero h0
    subst hx
    exact ⟨none, 0, rfl, Nat.le_refl _, Nat.zero_le _, fun e => absurd rfl e, fun _ => rfl⟩
  · refine ⟨some ⟨g, 0, none⟩, cap, rfl, hnc, hcm, fun _ => ⟨g, 0, rfl, fun i hi r hr => ?_⟩, fun e => by cases e⟩
    have h1 := f.all_get xs i r hi hr
    have h2 : r < (f.enc xs[i]).length := by rw [f.len]; exact hr
    rw [List.getElem?_eq_getElem h2] at h1 ⊢
    have := h.cells (g := g) rfl _ _ h1
    rw [Kd.addr_add] at this
    rw [Nat.add_assoc]; exact this
theorem own_but {w w' : World} {S : Nat → Prop} {base size n gi c : Nat} {e : TypeId} {xs : List Value} (h : w.ownsRow base e size (.slice (some ⟨gi, 0, none⟩) n c) n xs) (f : Fr S w w') (hg : ¬ S gi) : w'.ownsRow base e size (.slice (some ⟨gi, 0, none⟩) n c) n xs := by
  refine ⟨h.1, ?_⟩
  rcases h.2 with h | ⟨g', cap, cur, h1, h2, h3, h4⟩
  · exact .inl h
  · obtain ⟨e1, rfl⟩ : gi = g' ∧ c = cap := by simpa using h1
    subst e1
    exact .inr ⟨gi, c, cur, h1, h2, (f.block gi (Array.getElem?_eq_some_iff.1 h3).1 hg).trans h3, h4⟩
theorem own_down {w : World} {base base' size n : Nat} {e : TypeId} {v : Value} {xs : List Value} (h : w.ownsRow base e size v n xs) (hb : base' ≤ base) : w.ownsRow base' e size v n xs := by
  refine ⟨h.1, ?_⟩
  rcases h.2 with h | ⟨g', cap, cur, k1, k2, k3⟩
  · exact .inl h
  · exact .inr ⟨g', cap, cur, k1, Nat.le_trans hb k2, k3⟩
/-- A list in new memory of its own: it lies at the head of a block from base on. -/
structure Om {α : Type} (f : Flat α) (T : TypeId) (base : Nat) (w : World) (A : Option Addr) (c : Nat) (xs : List α) : Prop where
  own : w.ownsRow base T f.sz (.slice A xs.length c) xs.length (f.all xs)
section
variable {α : Type} {f : Flat α} {T : TypeId} {base : Nat} {w w' : World} {A : Option Addr} {c : Nat} {xs : List α}
theorem Om.sl (h : Om f T base w A c xs) : Sl f w A c xs := by
  obtain ⟨A', c', e, hs⟩ := own_sl f h.own
  cases e
  exact hs
theorem Om.keep (h : Om f T base w A c xs) (F : Fr no w w') : Om f T base w' A c xs := ⟨own_kept h.own F⟩
theorem Om.below (h : Om f T base w A c xs) (k : Below w.heap.size w w') : Om f T base w' A c xs := h.keep (Fr.of_below k)
theorem Om.down {b : Nat} (h : Om f T base w A c xs) (hb : b ≤ base) : Om f T b w A c xs := ⟨own_down h.own hb⟩
theorem om_none (f : Flat α) (T : TypeId) (base : Nat) (w : World) : Om f T base w none 0 [] := ⟨World.ownsRow_nil _ _ _ _⟩
theorem Om.put {D : Nat} {l : Option (List Deferred)} (h : Om f T base w A c xs) (hD : w.heap[D]? = some (.deferred l)) (o : Obj) : Om f T base (w.putObj D o) A c xs := by
  refine ⟨h.own.1, ?_⟩
  rcases h.own.2 with e | ⟨g, cap, cur, e, h2, h3, h4⟩
  · exact .inl e
  · refine .inr ⟨g, cap, cur, e, h2, ((Fr.put w D o).block g (Array.getElem?_eq_some_iff.1 h3).1 ?_).trans h3, h4⟩
    rintro rfl
    rw [h3] at hD
    simp at hD
/-- An owned row as a slice's parts. -/
theorem om_of {base : Nat} {v : Value} (h : w.ownsRow base T f.sz v xs.length (f.all xs)) : ∃ A c, v = .slice A xs.length c ∧ Om f T base w A c xs := by
  obtain ⟨A, c, rfl, _⟩ := own_sl f h
  exact ⟨A, c, rfl, ⟨h⟩⟩
end
end Go.Proofs.Ytmnajpkmglmipaa
