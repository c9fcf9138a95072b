/- Maps with integer elements, as functions of their keys. -/
import Derived.Test.YtmnajpkmglmipaaMem
import Derived.Maps.Own
import Derived.Maps.OwnOps
import Derived.Maps.OwnIn
import Derived.Maps.RangeWalk
import Derived.Maps.Views
import Derived.DeepKeys4
namespace Go.Proofs.Ytmnajpkmglmipaa
open Go.RowKit Go.Maps

/-- A key type: which values are keys, and what they read as. -/
structure KeyK (P : Program) (K : TypeId) (κ : Type) where
  law : Keyed P K
  enc : κ → Value
  kl : κ → Lit
  ok : κ → Prop
  key : ∀ {x}, ok x → keyOf P K (enc x) = some (kl x)
  inv : ∀ {v l}, keyOf P K v = some l → ∃ x, ok x ∧ v = enc x
  inj : ∀ {x y}, enc x = enc y → x = y
namespace KeyK
variable {P : Program} {K : TypeId} {κ : Type} (kk : KeyK P K κ)
theorem kl_inj {x y : κ} (hx : kk.ok x) (hy : kk.ok y) (h : kk.kl x = kk.kl y) : x = y := kk.inj (kk.law.inj (kk.key hx) (h ▸ kk.key hy))
/-- What a datum says of each key. -/
def Says (D : DataW Unit) (f : κ → Option Int) : Prop := ∀ x, kk.ok x → has D (kk.kl x) = (f x).isSome ∧ D.atKey (kk.kl x) (.lit (.int .i64 0)) = .lit (.int .i64 ((f x).getD 0))
/-- Block b is the map f. -/
def Mp (e : TypeId) (w : World) (b n : Nat) (f : κ → Option Int) : Prop := ∃ D : DataW Unit, w.ownsMap P K (plainElem P e) b n D ∧ kk.Says D f
/-- A range over it is under way. -/
def Rg [DecidableEq κ] (e : TypeId) (w : World) (b r n : Nat) (f : κ → Option Int) (done : List κ) (cnt : Nat) : Prop :=
  ∃ (D : DataW Unit) (left : Lit → Bool), w.ranges P K (plainElem P e) b r n D left cnt ∧ kk.Says D f ∧ done.Nodup ∧ (∀ x ∈ done, kk.ok x ∧ (f x).isSome = true) ∧ ∀ x, kk.ok x → left (kk.kl x) = ((f x).isSome && !decide (x ∈ done))
def upd [DecidableEq κ] (f : κ → Option Int) (y : κ) (v : Int) : κ → Option Int := fun z => if z = y then some v else f z

variable {kk} {e : TypeId} {w : World} {b r n cnt : Nat} {f : κ → Option Int} {done : List κ}
theorem Mp.made (w : World) (e : TypeId) : kk.Mp e (w.alloc (.map #[] 0)) w.heap.size 0 (fun _ => none) :=
  ⟨_, World.ownsMap_made w P K _, fun _ _ => ⟨rfl, rfl⟩⟩
theorem Mp.lt (h : kk.Mp e w b n f) : b < w.heap.size := by obtain ⟨D, h, _⟩ := h; exact h.lt
theorem Mp.kept {w' : World} {S : Nat → Prop} (h : kk.Mp e w b n f) (F : Fr S w w') (hn : ¬ S b) : kk.Mp e w' b n f := by
  obtain ⟨D, ⟨es, clock, hb, q⟩, s⟩ := h
  exact ⟨D, ⟨es, clock, (F.block b (Array.getElem?_eq_some_iff.1 hb).1 hn).trans hb, q⟩, s⟩
theorem Mp.kept0 {w' : World} (h : kk.Mp e w b n f) (F : Fr no w w') : kk.Mp e w' b n f := h.kept F (fun x => x)
theorem Mp.mono (h : kk.Mp e w b n f) {m : Nat} (hm : n ≤ m) : kk.Mp e w b m f := by obtain ⟨D, h, s⟩ := h; exact ⟨D, h.mono hm, s⟩
theorem Rg.left_eq [DecidableEq κ] (h : kk.Rg e w b r n f done cnt) : w.rangeLeft b r = cnt := by obtain ⟨D, left, h, _⟩ := h; exact h.left_eq
theorem Rg.lt [DecidableEq κ] (h : kk.Rg e w b r n f done cnt) : r < w.heap.size := by obtain ⟨D, left, h, _⟩ := h; exact h.lt
theorem Rg.map_lt [DecidableEq κ] (h : kk.Rg e w b r n f done cnt) : b < w.heap.size := by obtain ⟨D, left, h, _⟩ := h; exact h.owns.lt
theorem Rg.kept [DecidableEq κ] {w' : World} {S : Nat → Prop} (h : kk.Rg e w b r n f done cnt) (F : Fr S w w') (hb : ¬ S b) (hr : ¬ S r) : kk.Rg e w' b r n f done cnt := by
  obtain ⟨D, left, ⟨es, clock, since, seen, c0, h1, h2, h3, h4, h5, h6⟩, q⟩ := h
  exact ⟨D, left, ⟨es, clock, since, seen, c0, (F.block b (Array.getElem?_eq_some_iff.1 h1).1 hb).trans h1, h2, h3, h4, (F.block r (Array.getElem?_eq_some_iff.1 h5).1 hr).trans h5, h6⟩, q⟩
theorem Says.put [DecidableEq κ] {D : DataW Unit} (h : kk.Says D f) (hD : IsMap D) {y : κ} (hy : kk.ok y) (v : Int) : kk.Says (D.put (kk.kl y) (.lit (.int .i64 v))) (upd f y v) := by
  intro x hx
  unfold upd
  by_cases e : x = y
  · subst e
    rw [if_pos rfl]
    exact ⟨has_put_same hD (kk.law.key (kk.key hx)) _, atKey_put_same hD (kk.law.key (kk.key hx)) _ _⟩
  · rw [if_neg e]
    have hne : kk.kl x ≠ kk.kl y := fun e' => e (kk.kl_inj hx hy e')
    rw [has_put_other hne, atKey_put_other hne]
    exact h x hx
theorem isMap_of_owns {R : Value → Option (DataW Unit × List MemPlace)} {D : DataW Unit} (h : w.ownsMap P K R b n D) : IsMap D := by
  obtain ⟨es, clock, _, _, _, rfl⟩ := h
  exact ⟨_, rfl⟩
theorem says_val {D : DataW Unit} (h : kk.Says D f) {y : κ} (hy : kk.ok y) {c : Int} (hat : D.atKey (kk.kl y) (.lit (.int .i64 0)) = .lit (.int .i64 c)) : c = (f y).getD 0 := by
  have := (h y hy).2
  rw [hat] at this
  simpa using this
end KeyK

section
variable {P : Program} {K : TypeId} {κ : Type} {kk : KeyK P K κ} {F : Fence} {nF : Nat}
variable (w : World) {ops : Array Oper} {rest : List Oper} {o : Oper} {a : Act} {Q : Exit → Act → World → Prop}

theorem wpList_look (hg : o.guard = none) (m x : Operand) (t : TypeId) (hop : o.op = Op.lookup t m x false) (e : TypeId) (ht : P.underlying t = some (.map K e)) (he : P.underlying e = some (.int .i64)) (hz : (zeroValue e).run P w = .ok (.int .i64 0) w)
    (b n : Nat) (f : κ → Option Int) (hm : a.eval m = .map (some b)) (h : kk.Mp e w b n f) (y : κ) (hx : a.eval x = kk.enc y) (hy : kk.ok y) (hK : wpList P ops Q rest (a.put o.dst (.int .i64 ((f y).getD 0))) w) :
    wpList P ops Q (o :: rest) a w := by
  obtain ⟨D, h, s⟩ := h
  refine wpList_lookup_own_int w hg m x t hop K e .i64 kk.law ht he hz b n D hm h _ (kk.kl y) hx (kk.key hy) ?_
  intro c hat _
  rw [KeyK.says_val s hy hat]; exact hK
theorem wpListIn_look (hg : o.guard = none) (m x : Operand) (t : TypeId) (hop : o.op = Op.lookup t m x false) (e : TypeId) (ht : P.underlying t = some (.map K e)) (he : P.underlying e = some (.int .i64)) (hz : (zeroValue e).run P w = .ok (.int .i64 0) w)
    (b n : Nat) (f : κ → Option Int) (hm : a.eval m = .map (some b)) (h : kk.Mp e w b n f) (y : κ) (hx : a.eval x = kk.enc y) (hy : kk.ok y) (hK : wpListIn F nF P ops Q rest (a.put o.dst (.int .i64 ((f y).getD 0))) w) :
    wpListIn F nF P ops Q (o :: rest) a w := by
  obtain ⟨D, h, s⟩ := h
  refine wpListIn_lookup_own_int w hg m x t hop K e .i64 kk.law ht he hz b n D hm h _ (kk.kl y) hx (kk.key hy) ?_
  intro c hat _
  rw [KeyK.says_val s hy hat]; exact hK
theorem wpList_store [DecidableEq κ] (hg : o.guard = none) (m x v : Operand) (t : TypeId) (hop : o.op = Op.mapUpdate t m x v) (e : TypeId) (ht : P.underlying t = some (.map K e)) (he : P.underlying e = some (.int .i64))
    (b n : Nat) (f : κ → Option Int) (hm : a.eval m = .map (some b)) (h : kk.Mp e w b n f) (hn : n < maxLen) (y : κ) (hx : a.eval x = kk.enc y) (hy : kk.ok y) (c : Int) (hv : a.eval v = .int .i64 c) (hc : (Lit.int .i64 c).wf = true)
    (hK : ∀ w', kk.Mp e w' b (n + 1) (KeyK.upd f y c) → w.grownBy w' (some b) → wpList P ops Q rest (a.put o.dst undef) w') :
    wpList P ops Q (o :: rest) a w := by
  obtain ⟨D, h, s⟩ := h
  refine wpList_mapUpdate_own w hg m x v t hop K e kk.law ht _ b n D hm h hn _ _ (kk.kl y) hx hv (kk.key hy) _ [] (plainElem_int he hc) ?_
  intro w' own grow
  exact hK w' ⟨_, own, s.put (KeyK.isMap_of_owns h) hy c⟩ grow
theorem wpListIn_store [DecidableEq κ] (hg : o.guard = none) (m x v : Operand) (t : TypeId) (hop : o.op = Op.mapUpdate t m x v) (e : TypeId) (ht : P.underlying t = some (.map K e)) (he : P.underlying e = some (.int .i64))
    (b n : Nat) (f : κ → Option Int) (hm : a.eval m = .map (some b)) (h : kk.Mp e w b n f) (hn : n < maxLen) (y : κ) (hx : a.eval x = kk.enc y) (hy : kk.ok y) (c : Int) (hv : a.eval v = .int .i64 c) (hc : (Lit.int .i64 c).wf = true)
    (hK : ∀ w', kk.Mp e w' b (n + 1) (KeyK.upd f y c) → w.grownBy w' (some b) → wpListIn F nF P ops Q rest (a.put o.dst undef) w') :
    wpListIn F nF P ops Q (o :: rest) a w := by
  obtain ⟨D, h, s⟩ := h
  refine wpListIn_mapUpdate_own w hg m x v t hop K e kk.law ht _ b n D hm h hn _ _ (kk.kl y) hx hv (kk.key hy) _ [] (plainElem_int he hc) ?_
  intro w' own grow
  exact hK w' ⟨_, own, s.put (KeyK.isMap_of_owns h) hy c⟩ grow
theorem rg_start [DecidableEq κ] {e : TypeId} {b n r cnt : Nat} {f : κ → Option Int} {w' : World} {D : DataW Unit} (h : w'.ranges P K (plainElem P e) b r n D (has D) cnt) (s : kk.Says D f) : kk.Rg e w' b r n f [] cnt :=
  ⟨D, _, h, s, List.nodup_nil, by simp, fun x hx => by rw [(s x hx).1]; simp⟩
theorem wpList_ranged [DecidableEq κ] (hg : o.guard = none) (m : Operand) (t : TypeId) (hop : o.op = Op.range t m) (e : TypeId) (ht : P.underlying t = some (.map K e)) (b n : Nat) (f : κ → Option Int) (hm : a.eval m = .map (some b)) (h : kk.Mp e w b n f)
    (hK : ∀ w' cnt, kk.Rg e w' b w.heap.size n f [] cnt → w.grownBy w' none → w'.heap.size = w.heap.size + 1 → wpList P ops Q rest (a.put o.dst (.pointer (some ⟨w.heap.size, 0, none⟩))) w') :
    wpList P ops Q (o :: rest) a w := by
  obtain ⟨D, h, s⟩ := h
  exact wpList_range_own w hg m t hop K e kk.law ht _ b n D hm h (fun w' hr g hs => hK w' _ (rg_start hr s) g hs)
theorem wpListIn_ranged [DecidableEq κ] (hg : o.guard = none) (m : Operand) (t : TypeId) (hop : o.op = Op.range t m) (e : TypeId) (ht : P.underlying t = some (.map K e)) (b n : Nat) (f : κ → Option Int) (hm : a.eval m = .map (some b)) (h : kk.Mp e w b n f)
    (hK : ∀ w' cnt, kk.Rg e w' b w.heap.size n f [] cnt → w.grownBy w' none → w'.heap.size = w.heap.size + 1 → wpListIn F nF P ops Q rest (a.put o.dst (.pointer (some ⟨w.heap.size, 0, none⟩))) w') :
    wpListIn F nF P ops Q (o :: rest) a w := by
  obtain ⟨D, h, s⟩ := h
  exact wpListIn_range_own w hg m t hop K e kk.law ht _ b n D hm h (fun w' hr g hs => hK w' _ (rg_start hr s) g hs)
theorem rg_done [DecidableEq κ] {f : κ → Option Int} {done : List κ} {left : Lit → Bool} (hl : ∀ x, kk.ok x → left (kk.kl x) = ((f x).isSome && !decide (x ∈ done))) (h0 : ∀ kl, left kl = false) :
    ∀ x, kk.ok x → (f x).isSome = true → x ∈ done := by
  intro x hx hf
  have := hl x hx
  rw [h0, hf] at this
  simpa using this
theorem rg_more [DecidableEq κ] {e : TypeId} {w' : World} {b r n cnt : Nat} {f : κ → Option Int} {done : List κ} {D : DataW Unit} {left : Lit → Bool} (s : kk.Says D f) (hnd : done.Nodup) (hok : ∀ x ∈ done, kk.ok x ∧ (f x).isSome = true) (hl : ∀ x, kk.ok x → left (kk.kl x) = ((f x).isSome && !decide (x ∈ done)))
    {x : κ} {c : Int} {l : Lit} (hx : kk.ok x) (hkl : l = kk.kl x) (hlk : left l = true) {y : DataW Unit × List MemPlace} (he : P.underlying e = some (.int .i64)) (hR : plainElem P e (.int .i64 c) = some y) (hat : ∀ zd, D.atKey l zd = y.1)
    (hrg : w'.ranges P K (plainElem P e) b r n D (fun z => left z && !z.sameKey l) cnt) : x ∉ done ∧ f x = some c ∧ kk.Rg e w' b r n f (done ++ [x]) cnt := by
  subst hkl
  have h1 := hl x hx
  rw [hlk] at h1
  have h2 : (f x).isSome = true ∧ x ∉ done := by simpa using h1.symm
  obtain ⟨c', hc', rfl, _⟩ := plainElem_int_inv he hR
  obtain rfl : c = c' := by simpa using hc'
  have h3 := KeyK.says_val s hx (hat _)
  have h4 : f x = some c := by
    obtain ⟨v, hv⟩ := Option.isSome_iff_exists.1 h2.1
    rw [hv] at h3 ⊢
    simp at h3; rw [h3]
  refine ⟨h2.2, h4, D, _, hrg, s, ?_, ?_, ?_⟩
  · exact List.nodup_append.2 ⟨hnd, by simp, by intro a ha b hb; simp at hb; subst hb; intro e'; subst e'; exact h2.2 ha⟩
  · intro z hz
    rcases List.mem_append.1 hz with hz | hz
    · exact hok z hz
    · simp at hz; subst hz; exact ⟨hx, h2.1⟩
  · intro z hz
    show (left (kk.kl z) && !(kk.kl z).sameKey (kk.kl x)) = _
    rw [hl z hz]
    by_cases e' : z = x
    · subst e'
      rw [WideAt.sameKey_self (kk.law.key (kk.key hz))]
      simp
    · have : (kk.kl z).sameKey (kk.kl x) = false := by
        cases hs : (kk.kl z).sameKey (kk.kl x)
        · rfl
        · exact absurd (kk.kl_inj hz hx (WideAt.sameKey_eq hs)) e'
      rw [this]
      simp [e']
theorem wpList_nexted [DecidableEq κ] (hg : o.guard = none) (it : Operand) (hop : o.op = Op.next it false) (e : TypeId) (he : P.underlying e = some (.int .i64)) (b r n : Nat) (f : κ → Option Int) (done : List κ) (cnt : Nat)
    (hit : a.eval it = .pointer (some ⟨r, 0, none⟩)) (h : kk.Rg e w b r n f done cnt)
    (hDone : (∀ x, kk.ok x → (f x).isSome = true → x ∈ done) → wpList P ops Q rest (a.put o.dst (.tuple #[.bool false])) w)
    (hMore : ∀ (x : κ) (c : Int) (w' : World) (cnt' : Nat), kk.ok x → x ∉ done → f x = some c → kk.Rg e w' b r n f (done ++ [x]) cnt' → cnt' < cnt → w.grownBy w' (some r) → w'.heap.size = w.heap.size →
      (Instr.entry (.pointer (some ⟨r, 0, none⟩))).run P w' = .ok (.tuple #[kk.enc x, .int .i64 c]) w' → wpList P ops Q rest (a.put o.dst (.tuple #[.bool true, kk.enc x, .int .i64 c])) w') :
    wpList P ops Q (o :: rest) a w := by
  obtain ⟨D, left, hr, s, hnd, hok, hl⟩ := h
  refine wpList_next_ranges w hg it hop K kk.law (plainElem P e) kk.enc (Value.int .i64) (fun key kl hk => by obtain ⟨x, _, hx⟩ := kk.inv hk; exact ⟨x, hx⟩) (fun v y hv => by obtain ⟨c, rfl, _⟩ := plainElem_int_inv he hv; exact ⟨c, rfl⟩) b r n D left cnt hit hr ?_ ?_
  · intro _ h0
    exact hDone (rg_done hl h0)
  · intro x c l y w' cnt' hkey hlk hR hat hrg hlt hgr hsz hen
    obtain ⟨x', hx', e'⟩ := kk.inv hkey
    obtain rfl : x = x' := kk.inj e'
    have hkl : l = kk.kl x := by have := kk.key hx'; rw [hkey] at this; exact Option.some.inj this
    obtain ⟨q1, q2, q3⟩ := rg_more s hnd hok hl hx' hkl hlk he hR hat hrg
    exact hMore x c w' cnt' hx' q1 q2 q3 hlt hgr hsz hen
theorem wpListIn_nexted [DecidableEq κ] (hg : o.guard = none) (it : Operand) (hop : o.op = Op.next it false) (e : TypeId) (he : P.underlying e = some (.int .i64)) (b r n : Nat) (f : κ → Option Int) (done : List κ) (cnt : Nat)
    (hit : a.eval it = .pointer (some ⟨r, 0, none⟩)) (h : kk.Rg e w b r n f done cnt)
    (hDone : (∀ x, kk.ok x → (f x).isSome = true → x ∈ done) → wpListIn F nF P ops Q rest (a.put o.dst (.tuple #[.bool false])) w)
    (hMore : ∀ (x : κ) (c : Int) (w' : World) (cnt' : Nat), kk.ok x → x ∉ done → f x = some c → kk.Rg e w' b r n f (done ++ [x]) cnt' → cnt' < cnt → w.grownBy w' (some r) → w'.heap.size = w.heap.size →
      (Instr.entry (.pointer (some ⟨r, 0, none⟩))).run P w' = .ok (.tuple #[kk.enc x, .int .i64 c]) w' → wpListIn F nF P ops Q rest (a.put o.dst (.tuple #[.bool true, kk.enc x, .int .i64 c])) w') :
    wpListIn F nF P ops Q (o :: rest) a w := by
  obtain ⟨D, left, hr, s, hnd, hok, hl⟩ := h
  refine wpListIn_next_ranges w hg it hop K kk.law (plainElem P e) kk.enc (Value.int .i64) (fun key kl hk => by obtain ⟨x, _, hx⟩ := kk.inv hk; exact ⟨x, hx⟩) (fun v y hv => by obtain ⟨c, rfl, _⟩ := plainElem_int_inv he hv; exact ⟨c, rfl⟩) b r n D left cnt hit hr ?_ ?_
  · intro _ h0
    exact hDone (rg_done hl h0)
  · intro x c l y w' cnt' hkey hlk hR hat hrg hlt hgr hsz hen
    obtain ⟨x', hx', e'⟩ := kk.inv hkey
    obtain rfl : x = x' := kk.inj e'
    have hkl : l = kk.kl x := by have := kk.key hx'; rw [hkey] at this; exact Option.some.inj this
    obtain ⟨q1, q2, q3⟩ := rg_more s hnd hok hl hx' hkl hlk he hR hat hrg
    exact hMore x c w' cnt' hx' q1 q2 q3 hlt hgr hsz hen
end

/-- Keys that are whole numbers. -/
def intKey {P : Program} {K : TypeId} (hK : P.underlying K = some (.int .i64)) : KeyK P K Int where
  law := int_keyed hK
  enc := fun x => .int .i64 x
  kl := fun x => .int .i64 x
  ok := fun x => (Lit.int .i64 x).wf = true
  key := fun h => keyOf_int_mk hK h
  inv := fun h => by obtain ⟨x, rfl, _, hw⟩ := Maps.keyOf_int_inv hK h; exact ⟨x, hw, rfl⟩
  inj := fun h => by simpa using h

/-- A struct of two numbers as a key: what it reads as. -/
theorem keyLits_two {P : Program} {K : TypeId} {f0 f1 : Field} {q : IntKind} (hK : P.underlying K = some (.struct #[f0, f1])) (h0 : P.underlying f0.type = some (.int q)) (h1 : P.underlying f1.type = some (.int q))
    (c0 : P.cellsOf f0.type = 1) (c1 : P.cellsOf f1.type = 1) (o0 : f0.offset = 0) (o1 : f1.offset = 1) (cK : P.cellsOf K = 2) (n0 : (f0.name != "_") = true) (n1 : (f1.name != "_") = true) (d : Nat) (cs : List Value) (ls : List Lit) :
    P.keyLits (d + 2) K cs = some ls ↔ ∃ a b, cs = [.int q a, .int q b] ∧ ls = [.int q a, .int q b] ∧ (Lit.int q a).wf = true ∧ (Lit.int q b).wf = true := by
  have hone : ∀ (T : TypeId), P.underlying T = some (.int q) → ∀ (v : Value) (l : List Lit), P.keyLits (d + 1) T [v] = some l ↔ ∃ a, v = .int q a ∧ l = [.int q a] ∧ (Lit.int q a).wf = true := by
    intro T hT v l
    unfold Program.keyLits
    rw [hT]
    cases v
    case int q' n =>
      by_cases hq : q' = q ∧ (Lit.int q n).wf = true
      · obtain ⟨rfl, hw⟩ := hq
        simp only [hw, and_self, if_true, Option.some.injEq, Value.int.injEq, true_and]
        constructor
        · rintro rfl; exact ⟨n, rfl, rfl, hw⟩
        · rintro ⟨a, rfl, rfl, _⟩; rfl
      · simp only [hq, if_false, Value.int.injEq]
        constructor
        · intro h; cases h
        · rintro ⟨a, ⟨rfl, rfl⟩, _, hw⟩; exact absurd ⟨rfl, hw⟩ hq
    all_goals simp
  unfold Program.keyLits
  rw [hK]
  have hall : (#[f0, f1] : Array Field).all (fun f => f.name != "_") = true := by simp [n0, n1] at *
  simp only [cK, hall, and_true]
  constructor
  · intro h
    split at h
    · rename_i hl
      match cs, hl with
      | [u, v], _ =>
        simp only [Option.map_eq_some_iff, List.mapM_cons, List.mapM_nil, o0, o1, c0, c1, List.drop_zero, List.take_succ_cons, List.take_zero, List.drop_succ_cons, Option.bind_eq_bind, Option.bind_eq_some_iff, Option.pure_def, Option.some.injEq] at h
        obtain ⟨_, ⟨l0, h3, _, ⟨l1, h4, _, rfl, rfl⟩, rfl⟩, rfl⟩ := h
        obtain ⟨a, rfl, rfl, hw⟩ := (hone _ h0 _ _).1 h3
        obtain ⟨b, rfl, rfl, hw'⟩ := (hone _ h1 _ _).1 h4
        exact ⟨a, b, rfl, rfl, hw, hw'⟩
    · cases h
  · rintro ⟨a, b, rfl, rfl, hw, hw'⟩
    rw [if_pos (show [Value.int q a, Value.int q b].length = 2 from rfl)]
    simp only [List.mapM_cons, List.mapM_nil, o0, o1, c0, c1, List.drop_zero, List.take_succ_cons, List.take_zero, List.drop_succ_cons, (hone _ h0 _ _).2 ⟨a, rfl, rfl, hw⟩, (hone _ h1 _ _).2 ⟨b, rfl, rfl, hw'⟩, Option.bind_eq_bind, Option.bind_some, Option.pure_def, Option.map_some]
    rfl
/-- Keys that are structs of two numbers. -/
def pairKey {P : Program} {K : TypeId} {f0 f1 : Field} (hK : P.underlying K = some (.struct #[f0, f1])) (h0 : P.underlying f0.type = some (.int .i64)) (h1 : P.underlying f1.type = some (.int .i64))
    (c0 : P.cellsOf f0.type = 1) (c1 : P.cellsOf f1.type = 1) (o0 : f0.offset = 0) (o1 : f1.offset = 1) (cK : P.cellsOf K = 2) (n0 : (f0.name != "_") = true) (n1 : (f1.name != "_") = true) (hs : 0 < P.types.size) (hkt : P.keyType K = true) (law : Keyed P K) : KeyK P K (Int × Int) where
  law := law
  enc := fun x => .agg #[.int .i64 x.1, .int .i64 x.2]
  kl := fun x => .string (keyBytes [.int .i64 x.1, .int .i64 x.2])
  ok := fun x => (Lit.int .i64 x.1).wf = true ∧ (Lit.int .i64 x.2).wf = true
  key := fun {x} h => by
    obtain ⟨d, hd⟩ : ∃ d, P.types.size + 1 = d + 2 := ⟨P.types.size - 1, by omega⟩
    have hf : (Value.agg #[.int .i64 x.1, .int .i64 x.2]).formed P K = true := by simp [Value.formed, hK, cK]
    unfold keyOf
    rw [hK]
    simp only [hkt, hf, Bool.and_self, if_true, hd]
    rw [show (Value.agg #[Value.int .i64 x.1, Value.int .i64 x.2]).cells.toList = [.int .i64 x.1, .int .i64 x.2] from rfl, (keyLits_two hK h0 h1 c0 c1 o0 o1 cK n0 n1 d _ _).2 ⟨x.1, x.2, rfl, rfl, h.1, h.2⟩]
    rfl
  inv := fun {v l} h => by
    obtain ⟨d, hd⟩ : ∃ d, P.types.size + 1 = d + 2 := ⟨P.types.size - 1, by omega⟩
    obtain ⟨xs, L, rfl, hl, _⟩ := keyOf_top (by rw [hK]) h
    rw [hd] at hl
    obtain ⟨a, b, e, _, wa, wb⟩ := (keyLits_two hK h0 h1 c0 c1 o0 o1 cK n0 n1 d _ _).1 hl
    refine ⟨(a, b), ⟨wa, wb⟩, ?_⟩
    have : xs = #[.int .i64 a, .int .i64 b] := by rw [← Array.toArray_toList (xs := xs), e]
    rw [this]
  inj := fun {x y} h => by
    simp at h
    exact Prod.ext h.1 h.2
end Go.Proofs.Ytmnajpkmglmipaa
