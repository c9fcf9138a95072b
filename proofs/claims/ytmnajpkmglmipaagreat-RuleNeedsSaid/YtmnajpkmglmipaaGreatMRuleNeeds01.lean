/- Cmp Kd Flat -/
import Derived.Test.YtmnajpkmglmipaaGreatProg
import Derived.Test.YtmnajpkmglmipaaGreatMRuleNeeds00
import Derived.WalkKit
import Derived.WalkSpells
import Derived.WalkLawsBesides
import Derived.LoopTactic
import Derived.Deep.DeepCutAuto
import Derived.Deep.LoopGhost
import Derived.Deep.QuietTactic
import Derived.BigQuiet
import Derived.Deep.RegionWith
import Derived.Deep.RegionHeld3
import Derived.Sort.Grow
import Derived.ProofKit
import Derived.SizedLaws
import Derived.OpenShut
import Derived.OwnWalk
/- Contracts of sum.Amount, cmp.Compare and cmp.Or at whole numbers, and of what compares two rights. -/
namespace Go.Proofs.YtmnajpkmglmipaaGreat
open Go.RowKit

/-- A world behind draws and new blocks. -/
def Gr (w w' : World) : Prop := ∃ (q : Nat) (os : Array Obj), w' = Sort.grow (w.drewN q) os
theorem Gr.refl (w : World) : Gr w w := ⟨0, #[], by simp [World.drewN]⟩
theorem Gr.drew {w w' : World} (h : Gr w w') : Gr w w'.drew := by
  obtain ⟨q, os, rfl⟩ := h
  exact ⟨q + 1, os, rfl⟩
theorem Gr.drewN {w w' : World} (h : Gr w w') (n : Nat) : Gr w (w'.drewN n) := by
  obtain ⟨q, os, rfl⟩ := h
  exact ⟨q + n, os, by simp [World.drewN, Sort.grow, Nat.add_assoc]⟩
theorem Gr.alloc {w w' : World} (h : Gr w w') (o : Obj) : Gr w (w'.alloc o) := by
  obtain ⟨q, os, rfl⟩ := h
  exact ⟨q, os.push o, by rw [Sort.alloc_eq_grow, Sort.grow_grow]; simp⟩
theorem Gr.trans {a b c : World} (h : Gr a b) (k : Gr b c) : Gr a c := by
  obtain ⟨q, os, rfl⟩ := h
  obtain ⟨q', os', rfl⟩ := k
  exact ⟨q + q', os ++ os', by simp [World.drewN, Sort.grow, Nat.add_assoc, Array.append_assoc]⟩
theorem Gr.fr {w w' : World} (h : Gr w w') : Fr no w w' := by
  obtain ⟨q, os, rfl⟩ := h
  exact ⟨rfl, rfl, rfl, by simp [Sort.grow, World.drewN], fun k hk _ => by simp [Sort.grow, World.drewN, Array.getElem?_append, hk]⟩

theorem Gr.cell {w w' : World} (h : Gr w w') {p : Addr} {v : Value} (hc : w.cell? p = some v) : w'.cell? p = some v := by
  have hb := World.block_lt_of_cell? w _ hc
  rw [World.cell?_of_block (w := w) (h.fr.block _ hb (fun e => e))]; exact hc

theorem amount_c (c : Int) (hc : Wf64 c) (w : World) : Calls Tryz.prog 106 #[.int .i64 c] w fun e w' => e = .returned (.int .u64 c.natAbs) ∧ w' = w := by
  have hc' : -9223372036854775808 ≤ c ∧ c ≤ 9223372036854775807 := hc
  by_cases h : c < 0
  · go_enter Tryz.func106, Tryz.ntmps106
    go_wp2_with fail
    go_ret
    refine ⟨ret_i ?_, rfl⟩
    first | omega | (simp [IntKind.wrap, IntKind.bits, IntKind.signed]; omega)
  · go_enter Tryz.func106, Tryz.ntmps106
    go_wp2_with fail
    go_ret
    refine ⟨ret_i ?_, rfl⟩
    first | omega | (simp [IntKind.wrap, IntKind.bits, IntKind.signed]; omega)
theorem natAbs_amt (c : Int) (hc : Wf64 c) : IntKind.i64.wrap (c.natAbs : Int) = amtOf c := by
  unfold amtOf
  by_cases h : c < 0
  · rw [if_pos h, show (c.natAbs : Int) = -c by omega]; rfl
  · rw [if_neg h, show (c.natAbs : Int) = c by omega]
    exact wr64_of hc

theorem isNaN_c (a : Int) (w : World) : Calls Tryz.prog 109 #[.int .i64 a] w fun e w' => e = .returned (.bool false) ∧ w' = w := by
  go_enter Tryz.func109, Tryz.ntmps109
  go_wp2_with fail
  go_ret
  exact ⟨by simp, rfl⟩
def cmpI (a b : Int) : Int := if a < b then -1 else if b < a then 1 else 0
theorem compare_c (a b : Int) (w : World) : Calls Tryz.prog 55 #[.int .i64 a, .int .i64 b] w fun e w' => e = .returned (.int .i64 (cmpI a b)) ∧ w' = w := by
  unfold cmpI
  by_cases h : a < b
  · rw [if_pos h]
    go_enter Tryz.func55, Tryz.ntmps55
    go_wp2_with (go_at_call 109; refine (isNaN_c _ _).mono ?_; rintro e w' ⟨rfl, rfl⟩)
    go_ret
    exact ⟨rfl, rfl⟩
  · rw [if_neg h]
    by_cases h2 : b < a
    · rw [if_pos h2]
      go_enter Tryz.func55, Tryz.ntmps55
      go_wp2_with (go_at_call 109; refine (isNaN_c _ _).mono ?_; rintro e w' ⟨rfl, rfl⟩)
      go_ret
      exact ⟨rfl, rfl⟩
    · rw [if_neg h2]
      go_enter Tryz.func55, Tryz.ntmps55
      go_wp2_with (go_at_call 109; refine (isNaN_c _ _).mono ?_; rintro e w' ⟨rfl, rfl⟩)
      go_ret
      exact ⟨rfl, rfl⟩
def orI (a b : Int) : Int := if a = 0 then b else a
theorem or_c (g : Nat) (a b : Int) (w : World) (h0 : w.cell? ⟨g, 0, none⟩ = some (.int .i64 a)) (h1 : w.cell? ⟨g, 1, none⟩ = some (.int .i64 b)) :
    Calls Tryz.prog 54 #[.slice (some ⟨g, 0, none⟩) 2 2] w fun e w' => e = .returned (.int .i64 (orI a b)) ∧ w' = w := by
  go_enter Tryz.func54, Tryz.ntmps54
  go_wp2_with fail
  go_loopw [8] (fun i wr => wr = w ∧ (i = .int .i64 0 ∨ (i = .int .i64 1 ∧ a = 0) ∨ (i = .int .i64 2 ∧ a = 0 ∧ b = 0))) (fun i _ => 2 - (intOf i).toNat)
  case atStart => exact ⟨rfl, .inl rfl⟩
  case round =>
    obtain ⟨rfl, (rfl | ⟨rfl, rfl⟩ | ⟨rfl, rfl, rfl⟩)⟩ := hrel
    · by_cases h : a = 0
      · subst h
        go_wp2_with fail
        exact ⟨⟨trivial, .inr (.inl ⟨rfl, trivial⟩)⟩, by simp [intOf]⟩
      · go_wp2_with fail
        go_ret
        exact ⟨ret_i (by unfold orI; first | rw [if_neg h] | rw [if_pos rfl]), rfl⟩
    · by_cases h : b = 0
      · subst h
        go_wp2_with fail
        exact ⟨⟨trivial, .inr (.inr ⟨rfl, trivial, trivial⟩)⟩, by simp [intOf]⟩
      · go_wp2_with fail
        go_ret
        exact ⟨ret_i (by unfold orI; first | rw [if_neg h] | rw [if_pos rfl]), rfl⟩
    · go_wp2_with fail
      go_ret
      exact ⟨ret_i (by unfold orI; rw [if_pos rfl]), rfl⟩
/-- How two rights stand to one another. -/
def cmpR (x y : RightT) : Int := orI (cmpI x.1 y.1) (cmpI x.2.1 y.2.1)
def encR (x : RightT) : List Value := [.int .i64 x.1, .int .i64 x.2.1, .int .i64 x.2.2]

set_option maxRecDepth 100000 in
set_option maxHeartbeats 1000000 in
/-- What 'Needs' sorts by: counters, then ways. -/
theorem byKind_c (x y : RightT) (w : World) : Calls Tryz.prog 53 #[.agg #[.int .i64 x.1, .int .i64 x.2.1, .int .i64 x.2.2], .agg #[.int .i64 y.1, .int .i64 y.2.1, .int .i64 y.2.2]] w fun e w' => e = .returned (.int .i64 (cmpR x y)) ∧ Gr w w' := by
  go_enter Tryz.func53, Tryz.ntmps53
  go_wp2_with fail
  have c0 : ((w.alloc (.cells #[.int .i64 x.1, .int .i64 x.2.1, .int .i64 x.2.2] 86)).alloc (.cells #[.int .i64 y.1, .int .i64 y.2.1, .int .i64 y.2.2] 86)).cell? ⟨w.heap.size, 0, none⟩ = some (.int .i64 x.1) := ((Blk.new w 86 _).alloc _).cell 0
  have c1 : ((w.alloc (.cells #[.int .i64 x.1, .int .i64 x.2.1, .int .i64 x.2.2] 86)).alloc (.cells #[.int .i64 y.1, .int .i64 y.2.1, .int .i64 y.2.2] 86)).cell? ⟨w.heap.size, 1, none⟩ = some (.int .i64 x.2.1) := ((Blk.new w 86 _).alloc _).cell 1
  have d0 : ((w.alloc (.cells #[.int .i64 x.1, .int .i64 x.2.1, .int .i64 x.2.2] 86)).alloc (.cells #[.int .i64 y.1, .int .i64 y.2.1, .int .i64 y.2.2] 86)).cell? ⟨w.heap.size + 1, 0, none⟩ = some (.int .i64 y.1) := by
    have := (Blk.new (w.alloc (.cells #[.int .i64 x.1, .int .i64 x.2.1, .int .i64 x.2.2] 86)) 86 #[.int .i64 y.1, .int .i64 y.2.1, .int .i64 y.2.2]).cell 0
    rw [World.size_alloc] at this; exact this
  have d1 : ((w.alloc (.cells #[.int .i64 x.1, .int .i64 x.2.1, .int .i64 x.2.2] 86)).alloc (.cells #[.int .i64 y.1, .int .i64 y.2.1, .int .i64 y.2.2] 86)).cell? ⟨w.heap.size + 1, 1, none⟩ = some (.int .i64 y.2.1) := by
    have := (Blk.new (w.alloc (.cells #[.int .i64 x.1, .int .i64 x.2.1, .int .i64 x.2.2] 86)) 86 #[.int .i64 y.1, .int .i64 y.2.1, .int .i64 y.2.2]).cell 1
    rw [World.size_alloc] at this; exact this
  have hG : Gr w ((w.alloc (.cells #[.int .i64 x.1, .int .i64 x.2.1, .int .i64 x.2.2] 86)).alloc (.cells #[.int .i64 y.1, .int .i64 y.2.1, .int .i64 y.2.2] 86)) := ((Gr.refl w).alloc _).alloc _
  generalize (w.alloc (.cells #[.int .i64 x.1, .int .i64 x.2.1, .int .i64 x.2.2] 86)).alloc (.cells #[.int .i64 y.1, .int .i64 y.2.1, .int .i64 y.2.2] 86) = W0 at *
  generalize w.heap.size = g at *
  have HK : Hid (∀ W', Gr W0 W' → W'.cell? ⟨g, 0, none⟩ = some (.int .i64 x.1) ∧ W'.cell? ⟨g, 1, none⟩ = some (.int .i64 x.2.1) ∧ W'.cell? ⟨g + 1, 0, none⟩ = some (.int .i64 y.1) ∧ W'.cell? ⟨g + 1, 1, none⟩ = some (.int .i64 y.2.1) ∧ Gr w W') :=
    hide (fun W' h => ⟨h.cell c0, h.cell c1, h.cell d0, h.cell d1, hG.trans h⟩)
  clear hG
  go_region_held3 (fun W' => W'.cell? ⟨g, 0, none⟩ = some (.int .i64 x.1) ∧ W'.cell? ⟨g, 1, none⟩ = some (.int .i64 x.2.1) ∧ W'.cell? ⟨g + 1, 0, none⟩ = some (.int .i64 y.1) ∧ W'.cell? ⟨g + 1, 1, none⟩ = some (.int .i64 y.2.1) ∧ Gr w W')
    (first | exact HK.out _ (Gr.refl _).drew | exact HK.out _ ((Gr.refl _).alloc _).drew | assumption)
    (first
      | (go_at_call 55; refine (compare_c _ _ _).mono ?_; rintro e w' ⟨rfl, rfl⟩)
      | (go_at_call 54; refine (or_c _ _ _ _ ((Blk.new _ _ _).cell 0) ((Blk.new _ _ _).cell 1)).mono ?_; rintro e w' ⟨rfl, rfl⟩))
  rename_i hH
  have G := hH.2.2.2.2
  go_wp2_with fail
  go_ret
  exact ⟨rfl, G⟩
end Go.Proofs.YtmnajpkmglmipaaGreat

/- Kinds of data: what a value's cells say of memory (K), which numbers and lengths they may have (Fit), how the form's own reading gives them (For). -/
namespace Go.Proofs.YtmnajpkmglmipaaGreat
open Go.RowKit

structure Kd (α : Type) where
  sz : Nat
  K : World → α → List Value → Prop
  Fit : α → Prop
  len : ∀ {w x cs}, K w x cs → cs.length = sz
  loc : ∀ {w w' : World} {x cs}, (∀ k, k < w.heap.size → w'.heap[k]? = w.heap[k]?) → K w x cs → K w' x cs

namespace Kd
variable {α β : Type}

theorem keep (d : Kd α) {w w' : World} {x : α} {cs : List Value} (f : Fr no w w') (h : d.K w x cs) : d.K w' x cs := d.loc (fun k hk => f.block k hk (fun e => e)) h

def int (k : IntKind) : Kd Int where
  sz := 1
  K := fun _ n cs => cs = [.int k n]
  Fit := fun n => k.min ≤ n ∧ n ≤ k.max
  len := fun h => by rw [h]; rfl
  loc := fun _ h => h
def bool : Kd Bool where
  sz := 1
  K := fun _ b cs => cs = [.bool b]
  Fit := fun _ => True
  len := fun h => by rw [h]; rfl
  loc := fun _ h => h
def string : Kd ByteArray where
  sz := 1
  K := fun _ s cs => cs = [.string s]
  Fit := fun s => s.size ≤ 140737488351232
  len := fun h => by rw [h]; rfl
  loc := fun _ h => h
def pair (a : Kd α) (b : Kd β) : Kd (α × β) where
  sz := a.sz + b.sz
  K := fun w x cs => ∃ c1 c2, cs = c1 ++ c2 ∧ a.K w x.1 c1 ∧ b.K w x.2 c2
  Fit := fun x => a.Fit x.1 ∧ b.Fit x.2
  len := by rintro w x cs ⟨c1, c2, rfl, h1, h2⟩; rw [List.length_append, a.len h1, b.len h2]
  loc := by rintro w w' x cs hk ⟨c1, c2, rfl, h1, h2⟩; exact ⟨c1, c2, rfl, a.loc hk h1, b.loc hk h2⟩
def iso (d : Kd β) (f : α → β) : Kd α where
  sz := d.sz
  K := fun w x cs => d.K w (f x) cs
  Fit := fun x => d.Fit (f x)
  len := fun h => d.len h
  loc := fun hk h => d.loc hk h

/-- A row of elements at (g, o). -/
def At (d : Kd α) (w : World) (g o : Nat) (xs : List α) : Prop :=
  ∀ i (h : i < xs.length), ∃ cells, d.K w xs[i] cells ∧ ∀ j, j < d.sz → w.cell? ⟨g, o + i * d.sz + j, none⟩ = cells[j]?
/-- A slice's row: nil where there is none. -/
def Row (d : Kd α) (w : World) (A : Option Addr) (c : Nat) (xs : List α) : Prop :=
  xs.length ≤ c ∧ c ≤ maxLen ∧ (xs ≠ [] → ∃ g o, A = some ⟨g, o, none⟩ ∧ d.At w g o xs) ∧ (A = none → c = 0)
theorem At.loc {d : Kd α} {w w' : World} {g o : Nat} {xs : List α} (hk : ∀ k, k < w.heap.size → w'.heap[k]? = w.heap[k]?) (h : d.At w g o xs) : d.At w' g o xs := by
  intro i hi
  obtain ⟨cells, h1, h2⟩ := h i hi
  refine ⟨cells, d.loc hk h1, fun j hj => ?_⟩
  have hj' : j < cells.length := by rw [d.len h1]; exact hj
  have e := h2 j hj
  rw [List.getElem?_eq_getElem hj'] at e ⊢
  have hl := World.block_lt_of_cell? w _ e
  rw [World.cell?_of_block (w := w) (hk g hl)]; exact e
theorem Row.loc {d : Kd α} {w w' : World} {A : Option Addr} {c : Nat} {xs : List α} (hk : ∀ k, k < w.heap.size → w'.heap[k]? = w.heap[k]?) (h : d.Row w A c xs) : d.Row w' A c xs :=
  ⟨h.1, h.2.1, fun hn => (by obtain ⟨g, o, e, ha⟩ := h.2.2.1 hn; exact ⟨g, o, e, ha.loc hk⟩), h.2.2.2⟩
theorem Row.keep {d : Kd α} {w w' : World} {A : Option Addr} {c : Nat} {xs : List α} (f : Fr no w w') (h : d.Row w A c xs) : d.Row w' A c xs := h.loc (fun k hk => f.block k hk (fun e => e))
theorem At.one_int {k : IntKind} {w : World} {g o : Nat} {xs : List Int} (h : (int k).At w g o xs) (j : Nat) (hj : j < xs.length) : w.cell? ⟨g, o + j, none⟩ = some (.int k xs[j]) := by
  obtain ⟨cells, k1, k2⟩ := h j hj
  have k3 : cells = [.int k xs[j]] := k1
  subst k3
  have := k2 0 (by exact Nat.one_pos)
  simpa [Kd.int] using this
/-- A slice whose elements have 'bytes' bytes each. -/
def slice (bytes : Nat) (d : Kd α) : Kd (List α) where
  sz := 1
  K := fun w xs cs => ∃ A c, cs = [.slice A xs.length c] ∧ d.Row w A c xs
  Fit := fun xs => xs.length * bytes ≤ 140737488351232 ∧ ∀ x ∈ xs, d.Fit x
  len := by rintro w x cs ⟨A, c, rfl, _⟩; rfl
  loc := by rintro w w' x cs hk ⟨A, c, rfl, h⟩; exact ⟨A, c, rfl, h.loc hk⟩

/-! ### The form's own reading -/
def For (P : Program) (T : TypeId) (d : Kd α) : Prop :=
  P.cellsOf T = d.sz ∧ ∀ (H : Type) (enc : TypeId × Value → H) (w : World) (fuel : Nat) (cs : List Value) (y : DataW H × List MemPlace),
    DataW.trod enc P w 0 (fun _ => true) true fuel T cs = some y → (∀ n ∈ y.1.weights P T, n ≤ reachBytes) → ∃ x, d.K w x cs ∧ d.Fit x

theorem For.int {P : Program} {T : TypeId} {k : IntKind} (h : P.underlying T = some (.int k)) (hc : P.cellsOf T = 1) : For P T (int k) :=
  ⟨hc, fun H enc w fuel cs y hy _ => by
    obtain ⟨n, rfl, _, hw⟩ := DataW.trod_int h hy
    exact ⟨n, rfl, by simpa [Lit.wf, Kd.int] using hw⟩⟩
theorem For.bool {P : Program} {T : TypeId} (h : P.underlying T = some .bool) (hc : P.cellsOf T = 1) : For P T bool :=
  ⟨hc, fun H enc w fuel cs y hy _ => by
    cases fuel with
    | zero => simp [DataW.trod] at hy
    | succ n =>
      unfold DataW.trod at hy
      rw [h] at hy
      split at hy
      all_goals first
        | exact ⟨_, rfl, trivial⟩
        | simp_all⟩
theorem For.string {P : Program} {T : TypeId} (h : P.underlying T = some .string) (hc : P.cellsOf T = 1) : For P T string :=
  ⟨hc, fun H enc w fuel cs y hy hn => by
    obtain ⟨s, rfl, rfl, _⟩ := DataW.trod_string h hy
    refine ⟨s, rfl, ?_⟩
    have := hn s.data.toList.length (by simp [DataW.weights])
    simpa [Kd.string, reachBytes] using this⟩

theorem weights_all {H : Type} {P : Program} {e : TypeId} {n : Nat} : ∀ {ds : List (DataW H)} {d : DataW H}, d ∈ ds → n ∈ d.weights P e → n ∈ DataW.weightsAll P e ds
  | [], _, h, _ => by simp at h
  | a :: r, d, h, hn => by
    simp only [DataW.weightsAll, List.mem_append]
    rcases List.mem_cons.1 h with rfl | h
    · exact .inl hn
    · exact .inr (weights_all h hn)

theorem addr_add (g o s : Nat) : (⟨g, o, none⟩ : Addr).add s = ⟨g, o + s, none⟩ := by unfold Addr.add; split <;> simp_all

theorem mapM_get {α β : Type} (f : α → Option β) : ∀ {l : List α} {m : List β}, l.mapM f = some m → m.length = l.length ∧ ∀ i (h : i < l.length), f l[i] = m[i]?
  | [], m, h => by simp at h; subst h; simp
  | a :: l, m, h => by
    simp only [List.mapM_cons, Option.bind_eq_bind, Option.bind_eq_some_iff, Option.pure_def, Option.some.injEq] at h
    obtain ⟨b, hb, m', hm, rfl⟩ := h
    obtain ⟨h1, h2⟩ := mapM_get f hm
    refine ⟨by simp [h1], fun i hi => ?_⟩
    cases i with
    | zero => simpa using hb
    | succ i => simpa using h2 i (by simpa using hi)

theorem For.slice {P : Program} {T e : TypeId} {d : Kd α} {bytes : Nat} (h : P.underlying T = some (.slice e)) (hc : P.cellsOf T = 1) (hb : P.bytesOf e = bytes) (hd : For P e d) (hs : 0 < d.sz) : For P T (slice bytes d) := by
  refine ⟨hc, fun H enc w fuel cs y hy hn => ?_⟩
  rcases DataW.trod_slice h hy with ⟨rfl, rfl⟩ | ⟨a, len, cap, elems, rest, n, rfl, rfl, rfl, _, hl, hm, he, hel, _⟩
  · exact ⟨[], ⟨none, 0, rfl, by simp, by simp [maxLen], fun h => absurd rfl h, fun _ => rfl⟩, by simp [Kd.slice]⟩
  · have key : ∀ i (hi : i < len), ∃ x cells, d.K w x cells ∧ d.Fit x ∧ (∀ j, j < d.sz → w.cell? ((a.add (i * d.sz)).add j) = cells[j]?) := by
      intro i hi
      have h1 := hel i hi
      rw [List.getElem?_eq_getElem (by omega), hd.1] at h1
      obtain ⟨cells, hcl, ht⟩ := Option.bind_eq_some_iff.1 h1
      obtain ⟨x, hx, hf⟩ := hd.2 H enc w n cells _ ht (fun m hm => hn m (by
        simp only [DataW.weights, h]
        refine List.mem_cons_of_mem _ (List.mem_append_left _ (weights_all ?_ hm))
        exact List.mem_map.2 ⟨elems[i], List.getElem_mem _, rfl⟩))
      refine ⟨x, cells, hx, hf, fun j hj => ?_⟩
      unfold World.cells? at hcl
      rw [if_pos (Nat.zero_le _)] at hcl
      have := (mapM_get _ hcl).2 j (by simpa using hj)
      simpa using this
    have hx : ∃ xs : List α, xs.length = len ∧ ∀ i (hi : i < len) (hx : i < xs.length), ∃ cells, d.K w xs[i] cells ∧ d.Fit xs[i] ∧ (∀ j, j < d.sz → w.cell? ((a.add (i * d.sz)).add j) = cells[j]?) := by
      clear hn hel he hy
      generalize len = len at key
      induction len with
      | zero => exact ⟨[], rfl, fun i hi => absurd hi (by omega)⟩
      | succ m ih =>
        obtain ⟨xs, h1, h2⟩ := ih (fun i hi => key i (by omega))
        obtain ⟨x, cells, k1, k2, k3⟩ := key m (by omega)
        refine ⟨xs ++ [x], by simp [h1], fun i hi hx => ?_⟩
        by_cases e : i < m
        · rw [List.getElem_append_left (by omega)]; exact h2 i e (by omega)
        · obtain rfl : i = m := by omega
          rw [List.getElem_append_right (by omega)]
          simp only [h1, Nat.sub_self, List.getElem_cons_zero]
          exact ⟨cells, k1, k2, k3⟩
    obtain ⟨xs, hxl, hxs⟩ := hx
    refine ⟨xs, ⟨some a, cap, by rw [hxl], by omega, hm, fun hne => ?_, fun h => by cases h⟩, ?_, ?_⟩
    · have h0 : 0 < xs.length := List.length_pos_iff.2 hne
      have hsp : a.spot = none := by
        obtain ⟨cells, k1, _, k3⟩ := hxs 0 (by omega) h0
        have := k3 0 hs
        rw [List.getElem?_eq_getElem (by rw [d.len k1]; exact hs)] at this
        simp only [Nat.zero_mul, Addr.add, if_true] at this
        unfold World.cell? at this
        split at this
        · cases hq : a.spot with
          | none => rfl
          | some q => simp [hq] at this
        · simp at this
      obtain ⟨g, o, sp⟩ := a
      simp only at hsp
      subst hsp
      refine ⟨g, o, rfl, fun i hi => ?_⟩
      obtain ⟨cells, k1, _, k3⟩ := hxs i (by omega) hi
      exact ⟨cells, k1, fun j hj => by have := k3 j hj; rwa [addr_add, addr_add] at this⟩
    · have := hn ((elems.length + rest.length) * P.bytesOf e) (by simp [DataW.weights, h])
      rw [hb, he] at this
      have h2 : xs.length * bytes ≤ (len + rest.length) * bytes := Nat.mul_le_mul_right _ (by omega)
      simp only [reachBytes] at this
      omega
    · intro x hx
      obtain ⟨i, hi, rfl⟩ := List.getElem_of_mem hx
      exact (hxs i (by omega) hi).choose_spec.2.1

/-- Fields of a struct, from cell 'off' on. -/
def Fields (P : Program) (fs : List Field) (off : Nat) (d : Kd α) : Prop :=
  ∀ (H : Type) (enc : TypeId × Value → H) (w : World) (fuel : Nat) (cs : List Value) (xs : List (DataW H × List MemPlace)), cs.length = off + d.sz → xs.length = fs.length →
    (∀ (i : Nat) (f : Field), fs[i]? = some f → DataW.trod enc P w 0 (fun _ => true) true fuel f.type ((cs.drop f.offset).take (P.cellsOf f.type)) = xs[i]?) →
    (∀ (i : Nat) (f : Field) y, fs[i]? = some f → xs[i]? = some y → ∀ n ∈ y.1.weights P f.type, n ≤ reachBytes) → ∃ x, d.K w x (cs.drop off) ∧ d.Fit x
theorem Fields.one {P : Program} {f : Field} {off : Nat} {d : Kd α} (ho : f.offset = off) (h : For P f.type d) : Fields P [f] off d := by
  intro H enc w fuel cs xs hl hx ht hw
  match xs, hx with
  | [y], _ =>
    have h1 := ht 0 f rfl
    rw [h.1, ho, List.take_of_length_le (by simp; omega)] at h1
    exact h.2 H enc w fuel _ y h1 (hw 0 f y rfl rfl)
theorem Fields.cons {P : Program} {f : Field} {fs : List Field} {off : Nat} {a : Kd α} {b : Kd β} (ho : f.offset = off) (h : For P f.type a) (k : Fields P fs (off + a.sz) b) : Fields P (f :: fs) off (pair a b) := by
  intro H enc w fuel cs xs hl hx ht hw
  match xs, hx with
  | y :: ys, hx =>
    simp only [pair] at hl
    have h1 := ht 0 f rfl
    rw [h.1, ho] at h1
    obtain ⟨x, k1, k2⟩ := h.2 H enc w fuel _ y h1 (hw 0 f y rfl rfl)
    obtain ⟨z, k3, k4⟩ := k H enc w fuel cs ys (by omega) (by simpa using hx) (fun i g hg => ht (i + 1) g hg) (fun i g y hg hy => hw (i + 1) g y hg hy)
    refine ⟨(x, z), ⟨_, _, ?_, k1, k3⟩, k2, k4⟩
    rw [← List.drop_drop, List.take_append_drop]
theorem For.struct {P : Program} {T : TypeId} {fs : Array Field} {d : Kd α} (h : P.underlying T = some (.struct fs)) (hc : P.cellsOf T = d.sz) (k : Fields P fs.toList 0 d) : For P T d := by
  refine ⟨hc, fun H enc w fuel cs y hy hn => ?_⟩
  obtain ⟨xs, n, rfl, rfl, hl, hx, ht⟩ := DataW.trod_struct h hy
  have := k H enc w n cs xs (by omega) (by simpa using hx) (fun i f hf => ht i f (by simpa using hf)) (fun i f y hf hy m hm => hn m (by
    simp only [DataW.weights, h]
    exact DataW.weights_mem_each (j := i) (t := f.type) (d := y.1) (by simp at hf; simp [hf]) (by simp [hy]) m hm))
  simpa using this
theorem For.iso {P : Program} {T : TypeId} {d : Kd β} {f : α → β} (g : β → α) (hg : ∀ y, f (g y) = y) (h : For P T d) : For P T (d.iso f) :=
  ⟨h.1, fun H enc w fuel cs y hy hn => by
    obtain ⟨x, k1, k2⟩ := h.2 H enc w fuel cs y hy hn
    exact ⟨g x, by simp only [Kd.iso, hg]; exact k1, by simp only [Kd.iso, hg]; exact k2⟩⟩
/-- An array of two. -/
theorem For.two {P : Program} {T e : TypeId} {d : Kd α} (h : P.underlying T = some (.array 2 e)) (hc : P.cellsOf T = d.sz + d.sz) (hd : For P e d) : For P T (pair d d) := by
  refine ⟨hc, fun H enc w fuel cs y hy hn => ?_⟩
  obtain ⟨xs, m, rfl, rfl, hl, hx, ht⟩ := DataW.trod_array h hy
  match xs, hx with
  | [y0, y1], _ =>
    have h0 := ht 0 (by omega)
    have h1 := ht 1 (by omega)
    rw [hd.1] at h0 h1
    have hw : ∀ y, y ∈ [y0, y1] → ∀ n ∈ y.1.weights P e, n ≤ reachBytes := fun y hy n hm => hn n (by
      simp only [DataW.weights, h]
      exact weights_all (List.mem_map.2 ⟨y, hy, rfl⟩) hm)
    obtain ⟨x0, k0, f0⟩ := hd.2 H enc w m _ y0 h0 (hw y0 (by simp))
    obtain ⟨x1, k1, f1⟩ := hd.2 H enc w m _ y1 h1 (hw y1 (by simp))
    refine ⟨(x0, x1), ⟨_, _, ?_, k0, k1⟩, f0, f1⟩
    rw [hc] at hl
    simp only [Nat.zero_mul, List.drop_zero, Nat.one_mul]
    rw [List.take_of_length_le (l := cs.drop d.sz) (by simp; omega), List.take_append_drop]
end Kd
end Go.Proofs.YtmnajpkmglmipaaGreat

/- Lists of elements without pointers, as rows of cells. -/
namespace Go.Proofs.YtmnajpkmglmipaaGreat
open Go.RowKit

/-- The elements' cells, one element behind the other. -/
structure Flat (α : Type) where
  sz : Nat
  enc : α → List Value
  len : ∀ x, (enc x).length = sz
  pos : 0 < sz
  one : ∀ x, ∀ u ∈ enc x, u.oneCell' = true
namespace Flat
variable {α : Type}
def all (f : Flat α) (xs : List α) : List Value := xs.flatMap f.enc
theorem all_nil (f : Flat α) : f.all [] = [] := rfl
theorem all_cons (f : Flat α) (x : α) (xs : List α) : f.all (x :: xs) = f.enc x ++ f.all xs := rfl
theorem all_append (f : Flat α) (xs ys : List α) : f.all (xs ++ ys) = f.all xs ++ f.all ys := List.flatMap_append
theorem all_length (f : Flat α) (xs : List α) : (f.all xs).length = xs.length * f.sz := by
  induction xs with
  | nil => simp [all]
  | cons x xs ih => rw [all_cons, List.length_append, ih, f.len, List.length_cons, Nat.add_mul, Nat.one_mul, Nat.add_comm]
theorem all_one (f : Flat α) (xs : List α) : ∀ u ∈ f.all xs, u.oneCell' = true := by
  intro u hu
  obtain ⟨x, _, hx⟩ := List.mem_flatMap.1 hu
  exact f.one x u hx
/-- Cell r of element i. -/
theorem all_get (f : Flat α) (xs : List α) (i r : Nat) (hi : i < xs.length) (hr : r < f.sz) : (f.all xs)[i * f.sz + r]? = (f.enc xs[i])[r]? := by
  induction xs generalizing i with
  | nil => simp at hi
  | cons x xs ih =>
    rw [all_cons]
    cases i with
    | zero =>
      rw [Nat.zero_mul, Nat.zero_add, List.getElem?_append_left (by rw [f.len]; exact hr)]
      rfl
    | succ i =>
      rw [List.getElem?_append_right (by rw [f.len, Nat.add_mul, Nat.one_mul]; omega), f.len]
      have e : (i + 1) * f.sz + r - f.sz = i * f.sz + r := by rw [Nat.add_mul, Nat.one_mul]; omega
      rw [e]
      exact ih i (by simpa using hi)
/-- The kind reads as these cells. -/
def Reads (f : Flat α) (d : Kd α) : Prop := d.sz = f.sz ∧ ∀ w x cs, d.K w x cs → cs = f.enc x
theorem Reads.cells {f : Flat α} {d : Kd α} (R : f.Reads d) {w : World} {g o : Nat} {xs : List α} (h : d.At w g o xs) : ∀ j u, (f.all xs)[j]? = some u → w.cell? ((⟨g, o, none⟩ : Addr).add j) = some u := by
  intro j u hj
  have hlt : j < (f.all xs).length := (List.getElem?_eq_some_iff.1 hj).1
  rw [f.all_length] at hlt
  have hi : j / f.sz < xs.length := Nat.div_lt_of_lt_mul (by rw [Nat.mul_comm]; exact hlt)
  have hr : j % f.sz < f.sz := Nat.mod_lt _ f.pos
  have e : j = j / f.sz * f.sz + j % f.sz := by rw [Nat.mul_comm]; exact (Nat.div_add_mod _ _).symm
  obtain ⟨cells, k1, k2⟩ := h (j / f.sz) hi
  have k3 := R.2 _ _ _ k1
  have k4 := k2 (j % f.sz) (by rw [R.1]; exact hr)
  rw [Kd.addr_add]
  rw [e, f.all_get xs _ _ hi hr] at hj
  rw [R.1, k3, hj, Nat.add_assoc, ← e] at k4
  exact k4
theorem Reads.row {f : Flat α} {d : Kd α} (R : f.Reads d) {w : World} {A : Option Addr} {c : Nat} {xs : List α} (h : d.Row w A c xs) : ∀ ad, A = some ad → ∀ j u, (f.all xs)[j]? = some u → w.cell? (ad.add j) = some u := by
  intro ad ha j u hj
  have hne : xs ≠ [] := by rintro rfl; simp [all_nil] at hj
  obtain ⟨g, o, e, hat⟩ := h.2.2.1 hne
  rw [ha] at e
  obtain rfl : ad = _ := Option.some.inj e
  exact R.cells hat j u hj
theorem row_none {d : Kd α} {w : World} {A : Option Addr} {c : Nat} {xs : List α} (h : d.Row w A c xs) : A = none → xs.length = 0 ∧ c = 0 := fun e => by
  have := h.2.2.2 e
  have := h.1
  omega
end Flat
end Go.Proofs.YtmnajpkmglmipaaGreat
