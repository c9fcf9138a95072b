/- Memory in whole blocks: what a block holds, and what a step leaves as it was. -/
import Derived.WalkKit
import Derived.WalkSpells
import Derived.Maps.AppendAt
import Derived.Deep.Draws
namespace Go.Proofs.Ytmnajpkmglmipaa
open Go.RowKit

/-- A fact kept from the walk. -/
theorem hide {p : Prop} (h : p) : Hid p := h

/-- Block g holds just these cells, and may be written. -/
def Blk (W : World) (g : Nat) (T : TypeId) (cs : Array Value) : Prop := W.heap[g]? = some (.cells cs T (0, 0))

/-- From w to w' nothing that was there has changed, but blocks of S. -/
structure Fr (S : Nat → Prop) (w w' : World) : Prop where
  os : w'.os = w.os
  tape : w'.tape = w.tape
  output : w'.output = w.output
  size : w.heap.size ≤ w'.heap.size
  block : ∀ k, k < w.heap.size → ¬ S k → w'.heap[k]? = w.heap[k]?

def no : Nat → Prop := fun _ => False

theorem Fr.refl (S : Nat → Prop) (w : World) : Fr S w w := ⟨rfl, rfl, rfl, Nat.le_refl _, fun _ _ _ => rfl⟩
theorem Fr.thru {S S' : Nat → Prop} {a b c : World} (h : Fr S a b) (k : Fr S' b c) (hs : ∀ i, i < a.heap.size → S' i → S i) : Fr S a c :=
  ⟨k.os.trans h.os, k.tape.trans h.tape, k.output.trans h.output, Nat.le_trans h.size k.size, fun i hi hn => (k.block i (Nat.lt_of_lt_of_le hi h.size) (fun e => hn (hs i hi e))).trans (h.block i hi hn)⟩
theorem Fr.trans {S : Nat → Prop} {a b c : World} (h : Fr S a b) (k : Fr S b c) : Fr S a c := h.thru k (fun _ _ e => e)
theorem Fr.trans0 {S : Nat → Prop} {a b c : World} (h : Fr S a b) (k : Fr no b c) : Fr S a c := h.thru k (fun _ _ e => e.elim)
theorem Fr.mono {S S' : Nat → Prop} {a b : World} (h : Fr S a b) (hs : ∀ i, i < a.heap.size → S i → S' i) : Fr S' a b :=
  ⟨h.os, h.tape, h.output, h.size, fun i hi hn => h.block i hi (fun e => hn (hs i hi e))⟩
theorem Fr.alloc {S : Nat → Prop} {a b : World} (h : Fr S a b) (o : Obj) : Fr S a (b.alloc o) :=
  h.thru (S' := no) ⟨rfl, rfl, rfl, by simp, fun k hk _ => heap_alloc_old b o hk⟩ (fun _ _ e => e.elim)
theorem Fr.drew {S : Nat → Prop} {a b : World} (h : Fr S a b) : Fr S a b.drew := ⟨h.os, h.tape, h.output, h.size, h.block⟩
theorem Fr.drewN {S : Nat → Prop} {a b : World} (h : Fr S a b) (n : Nat) : Fr S a (b.drewN n) := ⟨h.os, h.tape, h.output, h.size, h.block⟩
theorem Fr.set {S : Nat → Prop} {a b : World} (h : Fr S a b) (p : Addr) (v : Value) (hp : p.block < a.heap.size → S p.block) : Fr S a (b.setCell p v) :=
  h.thru (S' := fun k => k = p.block) ⟨rfl, rfl, rfl, by simp [World.setCell], fun k _ hk => Below.heap_setCell _ _ _ _ hk⟩ (fun i hi e => by subst e; exact hp hi)
theorem Fr.below {a b : World} (h : Fr no a b) : Below a.heap.size a b := ⟨h.os, h.tape, h.output, h.size, fun k hk => h.block k hk (fun e => e)⟩
theorem Fr.of_below {a b : World} (h : Below a.heap.size a b) : Fr no a b := ⟨h.os, h.tape, h.output, h.size, fun k hk _ => h.block k hk⟩
theorem Fr.of_grown {a b : World} {row : Option Nat} (h : a.grownBy b row) : Fr (fun k => some k = row) a b := ⟨h.os, h.tape, h.output, h.size, fun k hk hn => h.block k hk hn⟩
theorem Fr.setCell (w : World) (g o : Nat) (v : Value) : Fr (fun k => k = g) w (w.setCell ⟨g, o, none⟩ v) := (Fr.refl _ w).set _ _ (fun _ => rfl)

theorem Blk.lt {W : World} {g : Nat} {T : TypeId} {cs : Array Value} (h : Blk W g T cs) : g < W.heap.size := (Array.getElem?_eq_some_iff.1 h).1
theorem Blk.cell {W : World} {g : Nat} {T : TypeId} {cs : Array Value} (h : Blk W g T cs) (o : Nat) : W.cell? ⟨g, o, none⟩ = cs[o]? := by
  unfold Blk at h; simp [World.cell?, h]
theorem Blk.free {W : World} {g : Nat} {T : TypeId} {cs : Array Value} (h : Blk W g T cs) (o : Nat) : W.frozen? ⟨g, o, none⟩ = false := by
  unfold Blk at h; simp [World.frozen?, h]
theorem Blk.new (W : World) (T : TypeId) (cs : Array Value) : Blk (W.alloc (.cells cs T)) W.heap.size T cs := heap_alloc_new W _
theorem Blk.kept {S : Nat → Prop} {W W' : World} {g : Nat} {T : TypeId} {cs : Array Value} (h : Blk W g T cs) (f : Fr S W W') (hn : ¬ S g) : Blk W' g T cs := (f.block g h.lt hn).trans h
theorem Blk.kept0 {W W' : World} {g : Nat} {T : TypeId} {cs : Array Value} (h : Blk W g T cs) (f : Fr no W W') : Blk W' g T cs := h.kept f (fun e => e)
theorem Blk.alloc {W : World} {g : Nat} {T : TypeId} {cs : Array Value} (h : Blk W g T cs) (o : Obj) : Blk (W.alloc o) g T cs := h.kept0 ((Fr.refl no W).alloc o)
theorem Blk.drew {W : World} {g : Nat} {T : TypeId} {cs : Array Value} (h : Blk W g T cs) : Blk W.drew g T cs := h
theorem Blk.drewN {W : World} {g : Nat} {T : TypeId} {cs : Array Value} (h : Blk W g T cs) (n : Nat) : Blk (W.drewN n) g T cs := h
theorem Blk.set {W : World} {g : Nat} {T : TypeId} {cs : Array Value} (h : Blk W g T cs) (o : Nat) (v : Value) : Blk (W.setCell ⟨g, o, none⟩ v) g T (cs.setIfInBounds o v) := by
  have hlt := h.lt
  unfold Blk at *
  have h' : W.heap[g] = .cells cs T (0, 0) := by simpa [Array.getElem?_eq_getElem hlt] using h
  show (W.heap.modify g _)[g]? = _
  rw [Array.getElem?_eq_getElem (by simpa using hlt), Array.getElem_modify_self, h']
  rfl
theorem Blk.setOther {W : World} {g g' : Nat} {T : TypeId} {cs : Array Value} (h : Blk W g T cs) (hn : g ≠ g') (o : Nat) (v : Value) : Blk (W.setCell ⟨g', o, none⟩ v) g T cs :=
  h.kept (Fr.setCell W g' o v) hn
theorem Blk.alloc_iff {W : World} {o : Obj} {g : Nat} {T : TypeId} {cs : Array Value} : Blk (W.alloc o) g T cs ↔ (g = W.heap.size ∧ o = .cells cs T (0, 0)) ∨ (g ≠ W.heap.size ∧ Blk W g T cs) := by
  unfold Blk
  show (W.heap.push o)[g]? = _ ↔ _
  rw [Array.getElem?_push]
  by_cases h : g = W.heap.size
  · simp [h]
  · simp [h]
theorem Blk.drew_iff {W : World} {g : Nat} {T : TypeId} {cs : Array Value} : Blk W.drew g T cs ↔ Blk W g T cs := Iff.rfl
theorem Fr.drew_iff {S : Nat → Prop} {a b : World} : Fr S a b.drew ↔ Fr S a b := ⟨fun h => ⟨h.os, h.tape, h.output, h.size, h.block⟩, fun h => h.drew⟩
end Go.Proofs.Ytmnajpkmglmipaa
