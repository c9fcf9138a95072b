/- Mem KMap Num NeedsN -/
import Derived.WalkKit
import Derived.WalkSpells
import Derived.Maps.AppendAt
import Derived.Deep.Draws
import Derived.Maps.Own
import Derived.Maps.OwnOps
import Derived.Maps.OwnIn
import Derived.Maps.RangeWalk
import Derived.Maps.Views
import Derived.DeepKeys4
/- Memory in whole blocks: what a block holds, and what a step leaves as it was. -/
namespace Go.Proofs.YtmnajpkmglmipaaGreat
open Go.RowKit

/-- A fact kept from the walk. -/
theorem hide {p : Prop} (h : p) : Hid p := h

/-- Block g holds just these cells, and may be written. -/
def Blk (W : World) (g : Nat) (T : TypeId) (cs : Array Value) : Prop := W.heap[g]? = some (.cells cs T (0, 0))

/-- From w to w' nothing that was there has changed, but blocks of S. -/
structure Fr (S : Nat → Prop) (w w' : World) : Prop where
  os : w'.os = w.os
  tape : w'.tape = w.tape
  output : w'.output = w.output
  size : w.heap.size ≤ w'.heap.size
  block : ∀ k, k < w.heap.size → ¬ S k → w'.heap[k]? = w.heap[k]?

def no : Nat → Prop := fun _ => False

theorem Fr.refl (S : Nat → Prop) (w : World) : Fr S w w := ⟨rfl, rfl, rfl, Nat.le_refl _, fun _ _ _ => rfl⟩
theorem Fr.thru {S S' : Nat → Prop} {a b c : World} (h : Fr S a b) (k : Fr S' b c) (hs : ∀ i, i < a.heap.size → S' i → S i) : Fr S a c :=
  ⟨k.os.trans h.os, k.tape.trans h.tape, k.output.trans h.output, Nat.le_trans h.size k.size, fun i hi hn => (k.block i (Nat.lt_of_lt_of_le hi h.size) (fun e => hn (hs i hi e))).trans (h.block i hi hn)⟩
theorem Fr.trans {S : Nat → Prop} {a b c : World} (h : Fr S a b) (k : Fr S b c) : Fr S a c := h.thru k (fun _ _ e => e)
theorem Fr.trans0 {S : Nat → Prop} {a b c : World} (h : Fr S a b) (k : Fr no b c) : Fr S a c := h.thru k (fun _ _ e => e.elim)
theorem Fr.mono {S S' : Nat → Prop} {a b : World} (h : Fr S a b) (hs : ∀ i, i < a.heap.size → S i → S' i) : Fr S' a b :=
  ⟨h.os, h.tape, h.output, h.size, fun i hi hn => h.block i hi (fun e => hn (hs i hi e))⟩
theorem Fr.alloc {S : Nat → Prop} {a b : World} (h : Fr S a b) (o : Obj) : Fr S a (b.alloc o) :=
  h.thru (S' := no) ⟨rfl, rfl, rfl, by simp, fun k hk _ => heap_alloc_old b o hk⟩ (fun _ _ e => e.elim)
theorem Fr.drew {S : Nat → Prop} {a b : World} (h : Fr S a b) : Fr S a b.drew := ⟨h.os, h.tape, h.output, h.size, h.block⟩
theorem Fr.drewN {S : Nat → Prop} {a b : World} (h : Fr S a b) (n : Nat) : Fr S a (b.drewN n) := ⟨h.os, h.tape, h.output, h.size, h.block⟩
theorem Fr.set {S : Nat → Prop} {a b : World} (h : Fr S a b) (p : Addr) (v : Value) (hp : p.block < a.heap.size → S p.block) : Fr S a (b.setCell p v) :=
  h.thru (S' := fun k => k = p.block) ⟨rfl, rfl, rfl, by simp [World.setCell], fun k _ hk => Below.heap_setCell _ _ _ _ hk⟩ (fun i hi e => by subst e; exact hp hi)
theorem Fr.below {a b : World} (h : Fr no a b) : Below a.heap.size a b := ⟨h.os, h.tape, h.output, h.size, fun k hk => h.block k hk (fun e => e)⟩
theorem Fr.of_below {a b : World} (h : Below a.heap.size a b) : Fr no a b := ⟨h.os, h.tape, h.output, h.size, fun k hk _ => h.block k hk⟩
theorem Fr.of_grown {a b : World} {row : Option Nat} (h : a.grownBy b row) : Fr (fun k => some k = row) a b := ⟨h.os, h.tape, h.output, h.size, fun k hk hn => h.block k hk hn⟩
theorem Fr.setCell (w : World) (g o : Nat) (v : Value) : Fr (fun k => k = g) w (w.setCell ⟨g, o, none⟩ v) := (Fr.refl _ w).set _ _ (fun _ => rfl)

theorem Blk.lt {W : World} {g : Nat} {T : TypeId} {cs : Array Value} (h : Blk W g T cs) : g < W.heap.size := (Array.getElem?_eq_some_iff.1 h).1
theorem Blk.cell {W : World} {g : Nat} {T : TypeId} {cs : Array Value} (h : Blk W g T cs) (o : Nat) : W.cell? ⟨g, o, none⟩ = cs[o]? := by
  unfold Blk at h; simp [World.cell?, h]
theorem Blk.free {W : World} {g : Nat} {T : TypeId} {cs : Array Value} (h : Blk W g T cs) (o : Nat) : W.frozen? ⟨g, o, none⟩ = false := by
  unfold Blk at h; simp [World.frozen?, h]
theorem Blk.new (W : World) (T : TypeId) (cs : Array Value) : Blk (W.alloc (.cells cs T)) W.heap.size T cs := heap_alloc_new W _
theorem Blk.kept {S : Nat → Prop} {W W' : World} {g : Nat} {T : TypeId} {cs : Array Value} (h : Blk W g T cs) (f : Fr S W W') (hn : ¬ S g) : Blk W' g T cs := (f.block g h.lt hn).trans h
theorem Blk.kept0 {W W' : World} {g : Nat} {T : TypeId} {cs : Array Value} (h : Blk W g T cs) (f : Fr no W W') : Blk W' g T cs := h.kept f (fun e => e)
theorem Blk.alloc {W : World} {g : Nat} {T : TypeId} {cs : Array Value} (h : Blk W g T cs) (o : Obj) : Blk (W.alloc o) g T cs := h.kept0 ((Fr.refl no W).alloc o)
theorem Blk.drew {W : World} {g : Nat} {T : TypeId} {cs : Array Value} (h : Blk W g T cs) : Blk W.drew g T cs := h
theorem Blk.drewN {W : World} {g : Nat} {T : TypeId} {cs : Array Value} (h : Blk W g T cs) (n : Nat) : Blk (W.drewN n) g T cs := h
theorem Blk.set {W : World} {g : Nat} {T : TypeId} {cs : Array Value} (h : Blk W g T cs) (o : Nat) (v : Value) : Blk (W.setCell ⟨g, o, none⟩ v) g T (cs.setIfInBounds o v) := by
  have hlt := h.lt
  unfold Blk at *
  have h' : W.heap[g] = .cells cs T (0, 0) := by simpa [Array.getElem?_eq_getElem hlt] using h
  show (W.heap.modify g _)[g]? = _
  rw [Array.getElem?_eq_getElem (by simpa using hlt), Array.getElem_modify_self, h']
  rfl
theorem Blk.setOther {W : World} {g g' : Nat} {T : TypeId} {cs : Array Value} (h : Blk W g T cs) (hn : g ≠ g') (o : Nat) (v : Value) : Blk (W.setCell ⟨g', o, none⟩ v) g T cs :=
  h.kept (Fr.setCell W g' o v) hn
theorem Blk.alloc_iff {W : World} {o : Obj} {g : Nat} {T : TypeId} {cs : Array Value} : Blk (W.alloc o) g T cs ↔ (g = W.heap.size ∧ o = .cells cs T (0, 0)) ∨ (g ≠ W.heap.size ∧ Blk W g T cs) := by
  unfold Blk
  show (W.heap.push o)[g]? = _ ↔ _
  rw [Array.getElem?_push]
  by_cases h : g = W.heap.size
  · simp [h]
  · simp [h]
theorem Blk.drew_iff {W : World} {g : Nat} {T : TypeId} {cs : Array Value} : Blk W.drew g T cs ↔ Blk W g T cs := Iff.rfl
theorem Fr.drew_iff {S : Nat → Prop} {a b : World} : Fr S a b.drew ↔ Fr S a b := ⟨fun h => ⟨h.os, h.tape, h.output, h.size, h.block⟩, fun h => h.drew⟩
end Go.Proofs.YtmnajpkmglmipaaGreat

/- Maps with integer elements, as functions of their keys. -/
namespace Go.Proofs.YtmnajpkmglmipaaGreat
open Go.RowKit Go.Maps

/-- A key type: which values are keys, and what they read as. -/
structure KeyK (P : Program) (K : TypeId) (κ : Type) where
  law : Keyed P K
  enc : κ → Value
  kl : κ → Lit
  ok : κ → Prop
  key : ∀ {x}, ok x → keyOf P K (enc x) = some (kl x)
  inv : ∀ {v l}, keyOf P K v = some l → ∃ x, ok x ∧ v = enc x
  inj : ∀ {x y}, enc x = enc y → x = y
namespace KeyK
variable {P : Program} {K : TypeId} {κ : Type} (kk : KeyK P K κ)
theorem kl_inj {x y : κ} (hx : kk.ok x) (hy : kk.ok y) (h : kk.kl x = kk.kl y) : x = y := kk.inj (kk.law.inj (kk.key hx) (h ▸ kk.key hy))
/-- What a datum says of each key. -/
def Says (D : DataW Unit) (f : κ → Option Int) : Prop := ∀ x, kk.ok x → has D (kk.kl x) = (f x).isSome ∧ D.atKey (kk.kl x) (.lit (.int .i64 0)) = .lit (.int .i64 ((f x).getD 0))
/-- Block b is the map f. -/
def Mp (e : TypeId) (w : World) (b n : Nat) (f : κ → Option Int) : Prop := ∃ D : DataW Unit, w.ownsMap P K (plainElem P e) b n D ∧ kk.Says D f
/-- A range over it is under way. -/
def Rg [DecidableEq κ] (e : TypeId) (w : World) (b r n : Nat) (f : κ → Option Int) (done : List κ) (cnt : Nat) : Prop :=
  ∃ (D : DataW Unit) (left : Lit → Bool), w.ranges P K (plainElem P e) b r n D left cnt ∧ kk.Says D f ∧ done.Nodup ∧ (∀ x ∈ done, kk.ok x ∧ (f x).isSome = true) ∧ ∀ x, kk.ok x → left (kk.kl x) = ((f x).isSome && !decide (x ∈ done))
def upd [DecidableEq κ] (f : κ → Option Int) (y : κ) (v : Int) : κ → Option Int := fun z => if z = y then some v else f z

variable {kk} {e : TypeId} {w : World} {b r n cnt : Nat} {f : κ → Option Int} {done : List κ}
theorem Mp.made (w : World) (e : TypeId) : kk.Mp e (w.alloc (.map #[] 0)) w.heap.size 0 (fun _ => none) :=
  ⟨_, World.ownsMap_made w P K _, fun _ _ => ⟨rfl, rfl⟩⟩
theorem Mp.lt (h : kk.Mp e w b n f) : b < w.heap.size := by obtain ⟨D, h, _⟩ := h; exact h.lt
theorem Mp.kept {w' : World} {S : Nat → Prop} (h : kk.Mp e w b n f) (F : Fr S w w') (hn : ¬ S b) : kk.Mp e w' b n f := by
  obtain ⟨D, ⟨es, clock, hb, q⟩, s⟩ := h
  exact ⟨D, ⟨es, clock, (F.block b (Array.getElem?_eq_some_iff.1 hb).1 hn).trans hb, q⟩, s⟩
theorem Mp.kept0 {w' : World} (h : kk.Mp e w b n f) (F : Fr no w w') : kk.Mp e w' b n f := h.kept F (fun x => x)
theorem Mp.mono (h : kk.Mp e w b n f) {m : Nat} (hm : n ≤ m) : kk.Mp e w b m f := by obtain ⟨D, h, s⟩ := h; exact ⟨D, h.mono hm, s⟩
theorem Rg.left_eq [DecidableEq κ] (h : kk.Rg e w b r n f done cnt) : w.rangeLeft b r = cnt := by obtain ⟨D, left, h, _⟩ := h; exact h.left_eq
theorem Rg.lt [DecidableEq κ] (h : kk.Rg e w b r n f done cnt) : r < w.heap.size := by obtain ⟨D, left, h, _⟩ := h; exact h.lt
theorem Rg.map_lt [DecidableEq κ] (h : kk.Rg e w b r n f done cnt) : b < w.heap.size := by obtain ⟨D, left, h, _⟩ := h; exact h.owns.lt
theorem Rg.kept [DecidableEq κ] {w' : World} {S : Nat → Prop} (h : kk.Rg e w b r n f done cnt) (F : Fr S w w') (hb : ¬ S b) (hr : ¬ S r) : kk.Rg e w' b r n f done cnt := by
  obtain ⟨D, left, ⟨es, clock, since, seen, c0, h1, h2, h3, h4, h5, h6⟩, q⟩ := h
  exact ⟨D, left, ⟨es, clock, since, seen, c0, (F.block b (Array.getElem?_eq_some_iff.1 h1).1 hb).trans h1, h2, h3, h4, (F.block r (Array.getElem?_eq_some_iff.1 h5).1 hr).trans h5, h6⟩, q⟩
theorem Says.put [DecidableEq κ] {D : DataW Unit} (h : kk.Says D f) (hD : IsMap D) {y : κ} (hy : kk.ok y) (v : Int) : kk.Says (D.put (kk.kl y) (.lit (.int .i64 v))) (upd f y v) := by
  intro x hx
  unfold upd
  by_cases e : x = y
  · subst e
    rw [if_pos rfl]
    exact ⟨has_put_same hD (kk.law.key (kk.key hx)) _, atKey_put_same hD (kk.law.key (kk.key hx)) _ _⟩
  · rw [if_neg e]
    have hne : kk.kl x ≠ kk.kl y := fun e' => e (kk.kl_inj hx hy e')
    rw [has_put_other hne, atKey_put_other hne]
    exact h x hx
theorem isMap_of_owns {R : Value → Option (DataW Unit × List MemPlace)} {D : DataW Unit} (h : w.ownsMap P K R b n D) : IsMap D := by
  obtain ⟨es, clock, _, _, _, rfl⟩ := h
  exact ⟨_, rfl⟩
theorem says_val {D : DataW Unit} (h : kk.Says D f) {y : κ} (hy : kk.ok y) {c : Int} (hat : D.atKey (kk.kl y) (.lit (.int .i64 0)) = .lit (.int .i64 c)) : c = (f y).getD 0 := by
  have := (h y hy).2
  rw [hat] at this
  simpa using this
end KeyK

section
variable {P : Program} {K : TypeId} {κ : Type} {kk : KeyK P K κ} {F : Fence} {nF : Nat}
variable (w : World) {ops : Array Oper} {rest : List Oper} {o : Oper} {a : Act} {Q : Exit → Act → World → Prop}

theorem wpList_look (hg : o.guard = none) (m x : Operand) (t : TypeId) (hop : o.op = Op.lookup t m x false) (e : TypeId) (ht : P.underlying t = some (.map K e)) (he : P.underlying e = some (.int .i64)) (hz : (zeroValue e).run P w = .ok (.int .i64 0) w)
    (b n : Nat) (f : κ → Option Int) (hm : a.eval m = .map (some b)) (h : kk.Mp e w b n f) (y : κ) (hx : a.eval x = kk.enc y) (hy : kk.ok y) (hK : wpList P ops Q rest (a.put o.dst (.int .i64 ((f y).getD 0))) w) :
    wpList P ops Q (o :: rest) a w := by
  obtain ⟨D, h, s⟩ := h
  refine wpList_lookup_own_int w hg m x t hop K e .i64 kk.law ht he hz b n D hm h _ (kk.kl y) hx (kk.key hy) ?_
  intro c hat _
  rw [KeyK.says_val s hy hat]; exact hK
theorem wpListIn_look (hg : o.guard = none) (m x : Operand) (t : TypeId) (hop : o.op = Op.lookup t m x false) (e : TypeId) (ht : P.underlying t = some (.map K e)) (he : P.underlying e = some (.int .i64)) (hz : (zeroValue e).run P w = .ok (.int .i64 0) w)
    (b n : Nat) (f : κ → Option Int) (hm : a.eval m = .map (some b)) (h : kk.Mp e w b n f) (y : κ) (hx : a.eval x = kk.enc y) (hy : kk.ok y) (hK : wpListIn F nF P ops Q rest (a.put o.dst (.int .i64 ((f y).getD 0))) w) :
    wpListIn F nF P ops Q (o :: rest) a w := by
  obtain ⟨D, h, s⟩ := h
  refine wpListIn_lookup_own_int w hg m x t hop K e .i64 kk.law ht he hz b n D hm h _ (kk.kl y) hx (kk.key hy) ?_
  intro c hat _
  rw [KeyK.says_val s hy hat]; exact hK
theorem wpList_store [DecidableEq κ] (hg : o.guard = none) (m x v : Operand) (t : TypeId) (hop : o.op = Op.mapUpdate t m x v) (e : TypeId) (ht : P.underlying t = some (.map K e)) (he : P.underlying e = some (.int .i64))
    (b n : Nat) (f : κ → Option Int) (hm : a.eval m = .map (some b)) (h : kk.Mp e w b n f) (hn : n < maxLen) (y : κ) (hx : a.eval x = kk.enc y) (hy : kk.ok y) (c : Int) (hv : a.eval v = .int .i64 c) (hc : (Lit.int .i64 c).wf = true)
    (hK : ∀ w', kk.Mp e w' b (n + 1) (KeyK.upd f y c) → w.grownBy w' (some b) → wpList P ops Q rest (a.put o.dst undef) w') :
    wpList P ops Q (o :: rest) a w := by
  obtain ⟨D, h, s⟩ := h
  refine wpList_mapUpdate_own w hg m x v t hop K e kk.law ht _ b n D hm h hn _ _ (kk.kl y) hx hv (kk.key hy) _ [] (plainElem_int he hc) ?_
  intro w' own grow
  exact hK w' ⟨_, own, s.put (KeyK.isMap_of_owns h) hy c⟩ grow
theorem wpListIn_store [DecidableEq κ] (hg : o.guard = none) (m x v : Operand) (t : TypeId) (hop : o.op = Op.mapUpdate t m x v) (e : TypeId) (ht : P.underlying t = some (.map K e)) (he : P.underlying e = some (.int .i64))
    (b n : Nat) (f : κ → Option Int) (hm : a.eval m = .map (some b)) (h : kk.Mp e w b n f) (hn : n < maxLen) (y : κ) (hx : a.eval x = kk.enc y) (hy : kk.ok y) (c : Int) (hv : a.eval v = .int .i64 c) (hc : (Lit.int .i64 c).wf = true)
    (hK : ∀ w', kk.Mp e w' b (n + 1) (KeyK.upd f y c) → w.grownBy w' (some b) → wpListIn F nF P ops Q rest (a.put o.dst undef) w') :
    wpListIn F nF P ops Q (o :: rest) a w := by
  obtain ⟨D, h, s⟩ := h
  refine wpListIn_mapUpdate_own w hg m x v t hop K e kk.law ht _ b n D hm h hn _ _ (kk.kl y) hx hv (kk.key hy) _ [] (plainElem_int he hc) ?_
  intro w' own grow
  exact hK w' ⟨_, own, s.put (KeyK.isMap_of_owns h) hy c⟩ grow
theorem rg_start [DecidableEq κ] {e : TypeId} {b n r cnt : Nat} {f : κ → Option Int} {w' : World} {D : DataW Unit} (h : w'.ranges P K (plainElem P e) b r n D (has D) cnt) (s : kk.Says D f) : kk.Rg e w' b r n f [] cnt :=
  ⟨D, _, h, s, List.nodup_nil, by simp, fun x hx => by rw [(s x hx).1]; simp⟩
theorem wpList_ranged [DecidableEq κ] (hg : o.guard = none) (m : Operand) (t : TypeId) (hop : o.op = Op.range t m) (e : TypeId) (ht : P.underlying t = some (.map K e)) (b n : Nat) (f : κ → Option Int) (hm : a.eval m = .map (some b)) (h : kk.Mp e w b n f)
    (hK : ∀ w' cnt, kk.Rg e w' b w.heap.size n f [] cnt → w.grownBy w' none → w'.heap.size = w.heap.size + 1 → wpList P ops Q rest (a.put o.dst (.pointer (some ⟨w.heap.size, 0, none⟩))) w') :
    wpList P ops Q (o :: rest) a w := by
  obtain ⟨D, h, s⟩ := h
  exact wpList_range_own w hg m t hop K e kk.law ht _ b n D hm h (fun w' hr g hs => hK w' _ (rg_start hr s) g hs)
theorem wpListIn_ranged [DecidableEq κ] (hg : o.guard = none) (m : Operand) (t : TypeId) (hop : o.op = Op.range t m) (e : TypeId) (ht : P.underlying t = some (.map K e)) (b n : Nat) (f : κ → Option Int) (hm : a.eval m = .map (some b)) (h : kk.Mp e w b n f)
    (hK : ∀ w' cnt, kk.Rg e w' b w.heap.size n f [] cnt → w.grownBy w' none → w'.heap.size = w.heap.size + 1 → wpListIn F nF P ops Q rest (a.put o.dst (.pointer (some ⟨w.heap.size, 0, none⟩))) w') :
    wpListIn F nF P ops Q (o :: rest) a w := by
  obtain ⟨D, h, s⟩ := h
  exact wpListIn_range_own w hg m t hop K e kk.law ht _ b n D hm h (fun w' hr g hs => hK w' _ (rg_start hr s) g hs)
theorem rg_done [DecidableEq κ] {f : κ → Option Int} {done : List κ} {left : Lit → Bool} (hl : ∀ x, kk.ok x → left (kk.kl x) = ((f x).isSome && !decide (x ∈ done))) (h0 : ∀ kl, left kl = false) :
    ∀ x, kk.ok x → (f x).isSome = true → x ∈ done := by
  intro x hx hf
  have := hl x hx
  rw [h0, hf] at this
  simpa using this
theorem rg_more [DecidableEq κ] {e : TypeId} {w' : World} {b r n cnt : Nat} {f : κ → Option Int} {done : List κ} {D : DataW Unit} {left : Lit → Bool} (s : kk.Says D f) (hnd : done.Nodup) (hok : ∀ x ∈ done, kk.ok x ∧ (f x).isSome = true) (hl : ∀ x, kk.ok x → left (kk.kl x) = ((f x).isSome && !decide (x ∈ done)))
    {x : κ} {c : Int} {l : Lit} (hx : kk.ok x) (hkl : l = kk.kl x) (hlk : left l = true) {y : DataW Unit × List MemPlace} (he : P.underlying e = some (.int .i64)) (hR : plainElem P e (.int .i64 c) = some y) (hat : ∀ zd, D.atKey l zd = y.1)
    (hrg : w'.ranges P K (plainElem P e) b r n D (fun z => left z && !z.sameKey l) cnt) : x ∉ done ∧ f x = some c ∧ kk.Rg e w' b r n f (done ++ [x]) cnt := by
  subst hkl
  have h1 := hl x hx
  rw [hlk] at h1
  have h2 : (f x).isSome = true ∧ x ∉ done := by simpa using h1.symm
  obtain ⟨c', hc', rfl, _⟩ := plainElem_int_inv he hR
  obtain rfl : c = c' := by simpa using hc'
  have h3 := KeyK.says_val s hx (hat _)
  have h4 : f x = some c := by
    obtain ⟨v, hv⟩ := Option.isSome_iff_exists.1 h2.1
    rw [hv] at h3 ⊢
    simp at h3; rw [h3]
  refine ⟨h2.2, h4, D, _, hrg, s, ?_, ?_, ?_⟩
  · exact List.nodup_append.2 ⟨hnd, by simp, by intro a ha b hb; simp at hb; subst hb; intro e'; subst e'; exact h2.2 ha⟩
  · intro z hz
    rcases List.mem_append.1 hz with hz | hz
    · exact hok z hz
    · simp at hz; subst hz; exact ⟨hx, h2.1⟩
  · intro z hz
    show (left (kk.kl z) && !(kk.kl z).sameKey (kk.kl x)) = _
    rw [hl z hz]
    by_cases e' : z = x
    · subst e'
      rw [WideAt.sameKey_self (kk.law.key (kk.key hz))]
      simp
    · have : (kk.kl z).sameKey (kk.kl x) = false := by
        cases hs : (kk.kl z).sameKey (kk.kl x)
        · rfl
        · exact absurd (kk.kl_inj hz hx (WideAt.sameKey_eq hs)) e'
      rw [this]
      simp [e']
theorem wpList_nexted [DecidableEq κ] (hg : o.guard = none) (it : Operand) (hop : o.op = Op.next it false) (e : TypeId) (he : P.underlying e = some (.int .i64)) (b r n : Nat) (f : κ → Option Int) (done : List κ) (cnt : Nat)
    (hit : a.eval it = .pointer (some ⟨r, 0, none⟩)) (h : kk.Rg e w b r n f done cnt)
    (hDone : (∀ x, kk.ok x → (f x).isSome = true → x ∈ done) → wpList P ops Q rest (a.put o.dst (.tuple #[.bool false])) w)
    (hMore : ∀ (x : κ) (c : Int) (w' : World) (cnt' : Nat), kk.ok x → x ∉ done → f x = some c → kk.Rg e w' b r n f (done ++ [x]) cnt' → cnt' < cnt → w.grownBy w' (some r) → w'.heap.size = w.heap.size →
      (Instr.entry (.pointer (some ⟨r, 0, none⟩))).run P w' = .ok (.tuple #[kk.enc x, .int .i64 c]) w' → wpList P ops Q rest (a.put o.dst (.tuple #[.bool true, kk.enc x, .int .i64 c])) w') :
    wpList P ops Q (o :: rest) a w := by
  obtain ⟨D, left, hr, s, hnd, hok, hl⟩ := h
  refine wpList_next_ranges w hg it hop K kk.law (plainElem P e) kk.enc (Value.int .i64) (fun key kl hk => by obtain ⟨x, _, hx⟩ := kk.inv hk; exact ⟨x, hx⟩) (fun v y hv => by obtain ⟨c, rfl, _⟩ := plainElem_int_inv he hv; exact ⟨c, rfl⟩) b r n D left cnt hit hr ?_ ?_
  · intro _ h0
    exact hDone (rg_done hl h0)
  · intro x c l y w' cnt' hkey hlk hR hat hrg hlt hgr hsz hen
    obtain ⟨x', hx', e'⟩ := kk.inv hkey
    obtain rfl : x = x' := kk.inj e'
    have hkl : l = kk.kl x := by have := kk.key hx'; rw [hkey] at this; exact Option.some.inj this
    obtain ⟨q1, q2, q3⟩ := rg_more s hnd hok hl hx' hkl hlk he hR hat hrg
    exact hMore x c w' cnt' hx' q1 q2 q3 hlt hgr hsz hen
theorem wpListIn_nexted [DecidableEq κ] (hg : o.guard = none) (it : Operand) (hop : o.op = Op.next it false) (e : TypeId) (he : P.underlying e = some (.int .i64)) (b r n : Nat) (f : κ → Option Int) (done : List κ) (cnt : Nat)
    (hit : a.eval it = .pointer (some ⟨r, 0, none⟩)) (h : kk.Rg e w b r n f done cnt)
    (hDone : (∀ x, kk.ok x → (f x).isSome = true → x ∈ done) → wpListIn F nF P ops Q rest (a.put o.dst (.tuple #[.bool false])) w)
    (hMore : ∀ (x : κ) (c : Int) (w' : World) (cnt' : Nat), kk.ok x → x ∉ done → f x = some c → kk.Rg e w' b r n f (done ++ [x]) cnt' → cnt' < cnt → w.grownBy w' (some r) → w'.heap.size = w.heap.size →
      (Instr.entry (.pointer (some ⟨r, 0, none⟩))).run P w' = .ok (.tuple #[kk.enc x, .int .i64 c]) w' → wpListIn F nF P ops Q rest (a.put o.dst (.tuple #[.bool true, kk.enc x, .int .i64 c])) w') :
    wpListIn F nF P ops Q (o :: rest) a w := by
  obtain ⟨D, left, hr, s, hnd, hok, hl⟩ := h
  refine wpListIn_next_ranges w hg it hop K kk.law (plainElem P e) kk.enc (Value.int .i64) (fun key kl hk => by obtain ⟨x, _, hx⟩ := kk.inv hk; exact ⟨x, hx⟩) (fun v y hv => by obtain ⟨c, rfl, _⟩ := plainElem_int_inv he hv; exact ⟨c, rfl⟩) b r n D left cnt hit hr ?_ ?_
  · intro _ h0
    exact hDone (rg_done hl h0)
  · intro x c l y w' cnt' hkey hlk hR hat hrg hlt hgr hsz hen
    obtain ⟨x', hx', e'⟩ := kk.inv hkey
    obtain rfl : x = x' := kk.inj e'
    have hkl : l = kk.kl x := by have := kk.key hx'; rw [hkey] at this; exact Option.some.inj this
    obtain ⟨q1, q2, q3⟩ := rg_more s hnd hok hl hx' hkl hlk he hR hat hrg
    exact hMore x c w' cnt' hx' q1 q2 q3 hlt hgr hsz hen
end

/-- Keys that are whole numbers. -/
def intKey {P : Program} {K : TypeId} (hK : P.underlying K = some (.int .i64)) : KeyK P K Int where
  law := int_keyed hK
  enc := fun x => .int .i64 x
  kl := fun x => .int .i64 x
  ok := fun x => (Lit.int .i64 x).wf = true
  key := fun h => keyOf_int_mk hK h
  inv := fun h => by obtain ⟨x, rfl, _, hw⟩ := Maps.keyOf_int_inv hK h; exact ⟨x, hw, rfl⟩
  inj := fun h => by simpa using h

/-- A struct of two numbers as a key: what it reads as. -/
theorem keyLits_two {P : Program} {K : TypeId} {f0 f1 : Field} {q : IntKind} (hK : P.underlying K = some (.struct #[f0, f1])) (h0 : P.underlying f0.type = some (.int q)) (h1 : P.underlying f1.type = some (.int q))
    (c0 : P.cellsOf f0.type = 1) (c1 : P.cellsOf f1.type = 1) (o0 : f0.offset = 0) (o1 : f1.offset = 1) (cK : P.cellsOf K = 2) (n0 : (f0.name != "_") = true) (n1 : (f1.name != "_") = true) (d : Nat) (cs : List Value) (ls : List Lit) :
    P.keyLits (d + 2) K cs = some ls ↔ ∃ a b, cs = [.int q a, .int q b] ∧ ls = [.int q a, .int q b] ∧ (Lit.int q a).wf = true ∧ (Lit.int q b).wf = true := by
  have hone : ∀ (T : TypeId), P.underlying T = some (.int q) → ∀ (v : Value) (l : List Lit), P.keyLits (d + 1) T [v] = some l ↔ ∃ a, v = .int q a ∧ l = [.int q a] ∧ (Lit.int q a).wf = true := by
    intro T hT v l
    unfold Program.keyLits
    rw [hT]
    cases v
    case int q' n =>
      by_cases hq : q' = q ∧ (Lit.int q n).wf = true
      · obtain ⟨rfl, hw⟩ := hq
        simp only [hw, and_self, if_true, Option.some.injEq, Value.int.injEq, true_and]
        constructor
        · rintro rfl; exact ⟨n, rfl, rfl, hw⟩
        · rintro ⟨a, rfl, rfl, _⟩; rfl
      · simp only [hq, if_false, Value.int.injEq]
        constructor
        · intro h; cases h
        · rintro ⟨a, ⟨rfl, rfl⟩, _, hw⟩; exact absurd ⟨rfl, hw⟩ hq
    all_goals simp
  unfold Program.keyLits
  rw [hK]
  have hall : (#[f0, f1] : Array Field).all (fun f => f.name != "_") = true := by simp [n0, n1] at *
  simp only [cK, hall, and_true]
  constructor
  · intro h
    split at h
    · rename_i hl
      match cs, hl with
      | [u, v], _ =>
        simp only [Option.map_eq_some_iff, List.mapM_cons, List.mapM_nil, o0, o1, c0, c1, List.drop_zero, List.take_succ_cons, List.take_zero, List.drop_succ_cons, Option.bind_eq_bind, Option.bind_eq_some_iff, Option.pure_def, Option.some.injEq] at h
        obtain ⟨_, ⟨l0, h3, _, ⟨l1, h4, _, rfl, rfl⟩, rfl⟩, rfl⟩ := h
        obtain ⟨a, rfl, rfl, hw⟩ := (hone _ h0 _ _).1 h3
        obtain ⟨b, rfl, rfl, hw'⟩ := (hone _ h1 _ _).1 h4
        exact ⟨a, b, rfl, rfl, hw, hw'⟩
    · cases h
  · rintro ⟨a, b, rfl, rfl, hw, hw'⟩
    rw [if_pos (show [Value.int q a, Value.int q b].length = 2 from rfl)]
    simp only [List.mapM_cons, List.mapM_nil, o0, o1, c0, c1, List.drop_zero, List.take_succ_cons, List.take_zero, List.drop_succ_cons, (hone _ h0 _ _).2 ⟨a, rfl, rfl, hw⟩, (hone _ h1 _ _).2 ⟨b, rfl, rfl, hw'⟩, Option.bind_eq_bind, Option.bind_some, Option.pure_def, Option.map_some]
    rfl
/-- Keys that are structs of two numbers. -/
def pairKey {P : Program} {K : TypeId} {f0 f1 : Field} (hK : P.underlying K = some (.struct #[f0, f1])) (h0 : P.underlying f0.type = some (.int .i64)) (h1 : P.underlying f1.type = some (.int .i64))
    (c0 : P.cellsOf f0.type = 1) (c1 : P.cellsOf f1.type = 1) (o0 : f0.offset = 0) (o1 : f1.offset = 1) (cK : P.cellsOf K = 2) (n0 : (f0.name != "_") = true) (n1 : (f1.name != "_") = true) (hs : 0 < P.types.size) (hkt : P.keyType K = true) (law : Keyed P K) : KeyK P K (Int × Int) where
  law := law
  enc := fun x => .agg #[.int .i64 x.1, .int .i64 x.2]
  kl := fun x => .string (keyBytes [.int .i64 x.1, .int .i64 x.2])
  ok := fun x => (Lit.int .i64 x.1).wf = true ∧ (Lit.int .i64 x.2).wf = true
  key := fun {x} h => by
    obtain ⟨d, hd⟩ : ∃ d, P.types.size + 1 = d + 2 := ⟨P.types.size - 1, by omega⟩
    have hf : (Value.agg #[.int .i64 x.1, .int .i64 x.2]).formed P K = true := by simp [Value.formed, hK, cK]
    unfold keyOf
    rw [hK]
    simp only [hkt, hf, Bool.and_self, if_true, hd]
    rw [show (Value.agg #[Value.int .i64 x.1, Value.int .i64 x.2]).cells.toList = [.int .i64 x.1, .int .i64 x.2] from rfl, (keyLits_two hK h0 h1 c0 c1 o0 o1 cK n0 n1 d _ _).2 ⟨x.1, x.2, rfl, rfl, h.1, h.2⟩]
    rfl
  inv := fun {v l} h => by
    obtain ⟨d, hd⟩ : ∃ d, P.types.size + 1 = d + 2 := ⟨P.types.size - 1, by omega⟩
    obtain ⟨xs, L, rfl, hl, _⟩ := keyOf_top (by rw [hK]) h
    rw [hd] at hl
    obtain ⟨a, b, e, _, wa, wb⟩ := (keyLits_two hK h0 h1 c0 c1 o0 o1 cK n0 n1 d _ _).1 hl
    refine ⟨(a, b), ⟨wa, wb⟩, ?_⟩
    have : xs = #[.int .i64 a, .int .i64 b] := by rw [← Array.toArray_toList (xs := xs), e]
    rw [this]
  inj := fun {x y} h => by
    simp at h
    exact Prod.ext h.1 h.2
end Go.Proofs.YtmnajpkmglmipaaGreat

/- Plain facts on whole numbers that the walks want. -/
namespace Go.Proofs.YtmnajpkmglmipaaGreat
theorem emod_neg (n m : Int) (hm : 0 < m) (h : n.tmod m < 0) : n.tmod m + m = n % m := by
  have h2 := Int.emod_lt_of_pos n hm
  have h3 := Int.emod_nonneg n (by omega : m ≠ 0)
  have h4 : (m.natAbs : Int) = m := by omega
  have e := Int.tmod_eq_emod (a := n) (b := m)
  by_cases hc : 0 ≤ n ∨ m ∣ n
  · rw [if_pos hc] at e; omega
  · rw [if_neg hc] at e; omega
theorem emod_nonneg (n m : Int) (hm : 0 < m) (h : 0 ≤ n.tmod m) : n.tmod m = n % m := by
  have h2 := Int.emod_lt_of_pos n hm
  have h3 := Int.emod_nonneg n (by omega : m ≠ 0)
  have h4 : (m.natAbs : Int) = m := by omega
  have e := Int.tmod_eq_emod (a := n) (b := m)
  by_cases hc : 0 ≤ n ∨ m ∣ n
  · rw [if_pos hc] at e; omega
  · rw [if_neg hc] at e; omega
theorem ret_i {k : IntKind} {a b : Int} (h : a = b) : Ending.returned (.int k a) = .returned (.int k b) := by rw [h]
end Go.Proofs.YtmnajpkmglmipaaGreat

/- What lines need, in plain Lean: rights by counter and way. -/
namespace Go.Proofs.YtmnajpkmglmipaaGreat
open Go.RowKit

abbrev KindD := Int × Int
def wr64 (n : Int) : Int := IntKind.i64.wrap n
def amtOf (c : Int) : Int := if c < 0 then wr64 (-c) else c
def wayOf (c : Int) : Int := if c < 0 then 0 else 1
def needL (xs : List (Int × Int)) : List (KindD × Int) := xs.map fun x => ((x.1, wayOf x.2), amtOf x.2)
def addTo (f : KindD → Option Int) (p : KindD × Int) : KindD → Option Int := KeyK.upd f p.1 (wr64 ((f p.1).getD 0 + p.2))
def sumOf (l : List (KindD × Int)) : KindD → Option Int := l.foldl addTo (fun _ => none)
theorem sumOf_snoc (l : List (KindD × Int)) (p : KindD × Int) : sumOf (l ++ [p]) = addTo (sumOf l) p := by simp [sumOf, List.foldl_append]

abbrev RightT := Int × Int × Int
def kOf (r : RightT) : KindD := (r.1, r.2.1)
def kLt (a b : KindD) : Prop := a.1 < b.1 ∨ (a.1 = b.1 ∧ a.2 < b.2)
instance (a b : KindD) : Decidable (kLt a b) := by unfold kLt; infer_instance
theorem kLt_irrefl (a : KindD) : ¬ kLt a a := by unfold kLt; omega
theorem kLt_trans {a b c : KindD} (h : kLt a b) (k : kLt b c) : kLt a c := by unfold kLt at *; omega
theorem kLt_tri (a b : KindD) (h : a ≠ b) : kLt a b ∨ kLt b a := by
  unfold kLt
  have h2 : ¬ (a.1 = b.1 ∧ a.2 = b.2) := fun e => h (Prod.ext e.1 e.2)
  omega
/-- Rights by counter and way, none twice. -/
def Rising (l : List RightT) : Prop := l.Pairwise (fun a b => kLt (kOf a) (kOf b))
/-- The right of a kind in a list. -/
def fOf (l : List RightT) (k : KindD) : Option Int := (l.find? (fun y => decide (kOf y = k))).map (·.2.2)
theorem fOf_nil (k : KindD) : fOf [] k = none := rfl
theorem fOf_cons (y : RightT) (l : List RightT) (k : KindD) : fOf (y :: l) k = if kOf y = k then some y.2.2 else fOf l k := by
  unfold fOf
  rw [List.find?_cons]
  by_cases h : kOf y = k
  · simp [h]
  · simp [h]
theorem fOf_none {l : List RightT} {k : KindD} (h : ∀ y ∈ l, kOf y ≠ k) : fOf l k = none := by
  unfold fOf
  rw [List.find?_eq_none.2 (fun y hy => by simpa using h y hy)]; rfl
theorem fOf_some {l : List RightT} (hl : Rising l) (y : RightT) : y ∈ l ↔ fOf l (kOf y) = some y.2.2 := by
  induction l with
  | nil => simp [fOf_nil]
  | cons x l ih =>
    obtain ⟨h1, h2⟩ := List.pairwise_cons.1 hl
    rw [fOf_cons]
    by_cases h : kOf x = kOf y
    · rw [if_pos h]
      constructor
      · intro hy
        rcases List.mem_cons.1 hy with rfl | hy
        · rfl
        · exact absurd (h ▸ h1 y hy) (kLt_irrefl _)
      · intro e
        have e2 : x.2.2 = y.2.2 := by simpa using e
        have e1 : x.1 = y.1 := congrArg (fun z : KindD => z.1) h
        have e3 : x.2.1 = y.2.1 := congrArg (fun z : KindD => z.2) h
        have : x = y := by
          obtain ⟨a, b, c⟩ := x
          obtain ⟨a', b', c'⟩ := y
          simp only at e1 e2 e3
          subst e1 e2 e3; rfl
        rw [this]; exact List.mem_cons_self
    · rw [if_neg h, ← ih h2]
      constructor
      · intro hy
        rcases List.mem_cons.1 hy with rfl | hy
        · exact absurd rfl h
        · exact hy
      · exact List.mem_cons_of_mem _
/-- Two rising lists that tell the same are the same. -/
theorem rising_eq {l m : List RightT} (hl : Rising l) (hm : Rising m) (h : ∀ y, y ∈ l ↔ y ∈ m) : l = m := by
  induction l generalizing m with
  | nil =>
    cases m with
    | nil => rfl
    | cons y m => exact absurd ((h y).2 List.mem_cons_self) (by simp)
  | cons x l ih =>
    cases m with
    | nil => exact absurd ((h x).1 List.mem_cons_self) (by simp)
    | cons y m =>
      obtain ⟨h1, h2⟩ := List.pairwise_cons.1 hl
      obtain ⟨k1, k2⟩ := List.pairwise_cons.1 hm
      have hxy : x = y := by
        rcases List.mem_cons.1 ((h x).1 List.mem_cons_self) with e | e
        · exact e
        · rcases List.mem_cons.1 ((h y).2 List.mem_cons_self) with e' | e'
          · exact e'.symm
          · exact absurd (kLt_trans (h1 y e') (k1 x e)) (kLt_irrefl _)
      subst hxy
      congr 1
      refine ih h2 k2 (fun z => ?_)
      have hz := h z
      simp only [List.mem_cons] at hz
      constructor
      · intro hzl
        rcases hz.1 (.inr hzl) with e | e
        · subst e; exact absurd (h1 z hzl) (kLt_irrefl _)
        · exact e
      · intro hzm
        rcases hz.2 (.inr hzm) with e | e
        · subst e; exact absurd (k1 z hzm) (kLt_irrefl _)
        · exact e
/-- A right into a rising list, or onto the one of its kind. -/
def putR : List RightT → RightT → List RightT
  | [], r => [r]
  | x :: l, r => if kOf x = kOf r then (x.1, x.2.1, wr64 (x.2.2 + r.2.2)) :: l else if kLt (kOf r) (kOf x) then r :: x :: l else x :: putR l r
theorem putR_keys {l : List RightT} {r y : RightT} (h : y ∈ putR l r) : kOf y = kOf r ∨ ∃ z ∈ l, kOf z = kOf y := by
  induction l with
  | nil => simp [putR] at h; subst h; exact .inl rfl
  | cons x l ih =>
    unfold putR at h
    split at h
    · rename_i he
      rcases List.mem_cons.1 h with rfl | h
      · exact .inl he
      · exact .inr ⟨y, List.mem_cons_of_mem _ h, rfl⟩
    · split at h
      · rcases List.mem_cons.1 h with rfl | h
        · exact .inl rfl
        · exact .inr ⟨y, h, rfl⟩
      · rcases List.mem_cons.1 h with rfl | h
        · exact .inr ⟨y, List.mem_cons_self, rfl⟩
        · rcases ih h with e | ⟨z, hz, e⟩
          · exact .inl e
          · exact .inr ⟨z, List.mem_cons_of_mem _ hz, e⟩
theorem putR_rising {l : List RightT} (hl : Rising l) (r : RightT) : Rising (putR l r) := by
  induction l with
  | nil => simp [putR, Rising]
  | cons x l ih =>
    obtain ⟨h1, h2⟩ := List.pairwise_cons.1 hl
    unfold putR
    split
    · exact List.pairwise_cons.2 ⟨h1, h2⟩
    · rename_i hne
      split
      · rename_i hlt
        refine List.pairwise_cons.2 ⟨fun y hy => ?_, hl⟩
        rcases List.mem_cons.1 hy with rfl | hy
        · exact hlt
        · exact kLt_trans hlt (h1 y hy)
      · rename_i hnl
        have hxr : kLt (kOf x) (kOf r) := by
          rcases kLt_tri _ _ hne with h | h
          · exact h
          · exact absurd h hnl
        refine List.pairwise_cons.2 ⟨fun y hy => ?_, ih h2⟩
        rcases putR_keys hy with e | ⟨z, hz, e⟩
        · rw [e]; exact hxr
        · rw [← e]; exact h1 z hz
theorem putR_fOf {l : List RightT} (hl : Rising l) (r : RightT) (hr : wr64 r.2.2 = r.2.2) (k : KindD) : fOf (putR l r) k = if k = kOf r then some (wr64 ((fOf l k).getD 0 + r.2.2)) else fOf l k := by
  induction l with
  | nil =>
    simp only [putR, fOf_cons, fOf_nil]
    by_cases h : kOf r = k
    · subst h; simp [hr]
    · rw [if_neg h, if_neg (fun e => h e.symm)]
  | cons x l ih =>
    obtain ⟨h1, h2⟩ := List.pairwise_cons.1 hl
    unfold putR
    split
    · rename_i he
      rw [fOf_cons, fOf_cons]
      have e' : kOf (x.1, x.2.1, wr64 (x.2.2 + r.2.2)) = kOf x := rfl
      rw [e', he]
      by_cases h : k = kOf r
      · subst h; simp
      · rw [if_neg (fun e => h e.symm), if_neg h, if_neg (fun e => h e.symm)]
    · rename_i hne
      split
      · rename_i hlt
        have hno : fOf (x :: l) (kOf r) = none := fOf_none (fun y hy e => by
          rcases List.mem_cons.1 hy with rfl | hy
          · exact hne e
          · exact absurd (e ▸ kLt_trans hlt (h1 y hy)) (kLt_irrefl _))
        rw [fOf_cons]
        by_cases h : k = kOf r
        · subst h; simp [hno, hr]
        · rw [if_neg (fun e => h e.symm), if_neg h]
      · rw [fOf_cons, fOf_cons, ih h2]
        by_cases h : kOf x = k
        · subst h; simp [hne]
        · simp [h]
def rightOf (p : KindD × Int) : RightT := (p.1.1, p.1.2, p.2)
/-- What lines need. -/
def needsD (xs : List (Int × Int)) : List RightT := (needL xs).foldl (fun l p => putR l (rightOf p)) []
theorem wr64_wr64 (n : Int) : wr64 (wr64 n) = wr64 n := by
  unfold wr64 IntKind.wrap
  simp only [IntKind.bits, IntKind.signed]
  simp
  omega
theorem needs_fold' (l : List (KindD × Int)) (hl : ∀ p ∈ l, wr64 p.2 = p.2) (acc : List RightT) (f : KindD → Option Int) (ha : Rising acc) (hf : ∀ k, fOf acc k = f k) :
    Rising (l.foldl (fun l p => putR l (rightOf p)) acc) ∧ ∀ k, fOf (l.foldl (fun l p => putR l (rightOf p)) acc) k = l.foldl addTo f k := by
  induction l generalizing acc f with
  | nil => exact ⟨ha, hf⟩
  | cons p l ih =>
    refine ih (fun q hq => hl q (List.mem_cons_of_mem _ hq)) _ _ (putR_rising ha _) (fun k => ?_)
    rw [putR_fOf ha (rightOf p) (hl p List.mem_cons_self), hf]
    unfold addTo KeyK.upd
    by_cases h : k = p.1
    · subst h
      rw [if_pos (show p.1 = kOf (rightOf p) from rfl), if_pos rfl]; rfl
    · rw [if_neg (show ¬ k = kOf (rightOf p) from fun e => h (e.trans rfl)), if_neg h]
theorem needs_fold (l : List (KindD × Int)) (hl : ∀ p ∈ l, wr64 p.2 = p.2) : Rising (l.foldl (fun l p => putR l (rightOf p)) []) ∧ ∀ k, fOf (l.foldl (fun l p => putR l (rightOf p)) []) k = sumOf l k :=
  needs_fold' l hl [] _ List.Pairwise.nil (fun _ => rfl)
/-- Lines whose numbers are numbers of 64 bits. -/
def Wf64 (n : Int) : Prop := -9223372036854775808 ≤ n ∧ n ≤ 9223372036854775807
theorem wr64_of {n : Int} (h : Wf64 n) : wr64 n = n := by
  unfold Wf64 at h
  unfold wr64 IntKind.wrap
  simp only [IntKind.bits, IntKind.signed]
  simp
  omega
theorem wr64_wf (n : Int) : Wf64 (wr64 n) := by
  unfold Wf64 wr64 IntKind.wrap
  simp only [IntKind.bits, IntKind.signed]
  simp
  omega
theorem needL_wf (xs : List (Int × Int)) (hx : ∀ x ∈ xs, Wf64 x.2) : ∀ p ∈ needL xs, wr64 p.2 = p.2 := by
  intro p hp
  obtain ⟨x, hx', rfl⟩ := List.mem_map.1 hp
  show wr64 (amtOf x.2) = amtOf x.2
  unfold amtOf
  split
  · exact wr64_wr64 _
  · exact wr64_of (hx x hx')
theorem needs_rising (xs : List (Int × Int)) (hx : ∀ x ∈ xs, Wf64 x.2) : Rising (needsD xs) := (needs_fold _ (needL_wf xs hx)).1
theorem needs_mem (xs : List (Int × Int)) (hx : ∀ x ∈ xs, Wf64 x.2) (y : RightT) : y ∈ needsD xs ↔ sumOf (needL xs) (kOf y) = some y.2.2 := by
  rw [fOf_some (needs_rising xs hx)]
  unfold needsD
  rw [(needs_fold _ (needL_wf xs hx)).2]
end Go.Proofs.YtmnajpkmglmipaaGreat
