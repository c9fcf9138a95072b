/- What the twins' list is, and what an append makes of it. -/
import Derived.Test.YtljcncfipocnpaaTwin
import Derived.Laws.AppendOwn
import Derived.Maps.AppendAt
namespace Go.Proofs.Ytljcncfipocnpaa
open Go.RowKit Fl

structure TW where
  g : Nat
  h : Nat
  k : Nat
def TW.cells (t : TW) : List Value := [.pointer (some ⟨t.g, 0, none⟩), .pointer (some ⟨t.h, 0, none⟩)]
def flat (ts : List TW) : List Value := ts.flatMap TW.cells
theorem flat_append (ts : List TW) (t : TW) : flat (ts ++ [t]) = flat ts ++ t.cells := by unfold flat; simp
theorem flat_length (ts : List TW) : (flat ts).length = ts.length * 2 := by
  induction ts with
  | nil => rfl
  | cons t r ih => unfold flat at *; simp only [List.flatMap_cons, List.length_append, ih, List.length_cons]; show 2 + r.length * 2 = _; omega
theorem flat_get (ts : List TW) (j : Nat) (h : j < ts.length) : (flat ts)[j * 2]? = some (.pointer (some ⟨ts[j].g, 0, none⟩)) ∧ (flat ts)[j * 2 + 1]? = some (.pointer (some ⟨ts[j].h, 0, none⟩)) := by
  induction ts generalizing j with
  | nil => simp at h
  | cons t r ih =>
    cases j with
    | zero => exact ⟨rfl, rfl⟩
    | succ j =>
      have := ih j (by simpa using h)
      have e : flat (t :: r) = t.cells ++ flat r := rfl
      rw [e, show (j + 1) * 2 = j * 2 + 2 by omega, show j * 2 + 2 + 1 = j * 2 + 1 + 2 by omega]
      exact this
/-- Twins that have no note yet, none of them in the row's block. -/
structure Fresh (W : World) (base : Nat) (row : Option Nat) (ts : List TW) : Prop where
  t : ∀ t ∈ ts, TrendAt W t.g t.k 0 0
  r : ∀ t ∈ ts, RefAt W t.h t.k 0 0
  k : ∀ t ∈ ts, KeepIs t.k
  bg : ∀ t ∈ ts, base ≤ t.g ∧ some t.g ≠ row
  bh : ∀ t ∈ ts, base ≤ t.h ∧ some t.h ≠ row
  dg : (ts.map TW.g).Nodup
  dh : (ts.map TW.h).Nodup
theorem Fresh.nil (W : World) (base : Nat) (row : Option Nat) : Fresh W base row [] := ⟨by simp, by simp, by simp, by simp, by simp, List.nodup_nil, List.nodup_nil⟩
theorem Fresh.kept {W W' : World} {base : Nat} {row : Option Nat} {ts : List TW} (h : Fresh W base row ts) (f : Fr no W W') : Fresh W' base row ts :=
  ⟨fun t ht => Blk.kept0 (h.t t ht) f, fun t ht => Blk.kept0 (h.r t ht) f, h.k, h.bg, h.bh, h.dg, h.dh⟩
/-- A twin more, whose blocks are both newer than all that were there. -/
theorem Fresh.snoc {W : World} {base s : Nat} {row : Option Nat} {ts : List TW} {g h k : Nat} (H : Fresh W base row ts) (hs : ∀ t ∈ ts, t.g < s ∧ t.h < s) (hg : s ≤ g) (hh : s ≤ h) (hb : base ≤ s) (hrow : ∀ b, row = some b → b < s)
    (t : TrendAt W g k 0 0) (r : RefAt W h k 0 0) (hk : KeepIs k) : Fresh W base row (ts ++ [⟨g, h, k⟩]) := by
  have hne : ∀ x, s ≤ x → some x ≠ row := fun x hx e => by
    have := hrow x e.symm; omega
  refine ⟨?_, ?_, ?_, ?_, ?_, ?_, ?_⟩
  · intro u hu; rcases List.mem_append.1 hu with hu | hu
    · exact H.t u hu
    · obtain rfl := List.mem_singleton.1 hu; exact t
  · intro u hu; rcases List.mem_append.1 hu with hu | hu
    · exact H.r u hu
    · obtain rfl := List.mem_singleton.1 hu; exact r
  · intro u hu; rcases List.mem_append.1 hu with hu | hu
    · exact H.k u hu
    · obtain rfl := List.mem_singleton.1 hu; exact hk
  · intro u hu; rcases List.mem_append.1 hu with hu | hu
    · exact H.bg u hu
    · obtain rfl := List.mem_singleton.1 hu; exact ⟨Nat.le_trans hb hg, hne _ hg⟩
  · intro u hu; rcases List.mem_append.1 hu with hu | hu
    · exact H.bh u hu
    · obtain rfl := List.mem_singleton.1 hu; exact ⟨Nat.le_trans hb hh, hne _ hh⟩
  · rw [List.map_append, List.nodup_append]
    refine ⟨H.dg, by simp, ?_⟩
    intro a ha b hb' e
    obtain ⟨u, hu, rfl⟩ := List.mem_map.1 ha
    obtain rfl : b = g := by simpa using hb'
    have := hs u hu; omega
  · rw [List.map_append, List.nodup_append]
    refine ⟨H.dh, by simp, ?_⟩
    intro a ha b hb' e
    obtain ⟨u, hu, rfl⟩ := List.mem_map.1 ha
    obtain rfl : b = h := by simpa using hb'
    have := hs u hu; omega
/-- The row grows, in its block or in one that is new. -/
theorem Fresh.grown {W W' : World} {base : Nat} {row row' : Option Nat} {ts : List TW} (h : Fresh W base row ts) (f : Fr (fun k => some k = row) W W') (hr : row' = row ∨ row' = some W.heap.size) : Fresh W' base row' ts := by
  have ne : ∀ x, x < W.heap.size → some x ≠ row → some x ≠ row' := fun x hx hn => by
    rcases hr with rfl | rfl
    · exact hn
    · simp; omega
  exact ⟨fun t ht => Blk.kept (h.t t ht) f (h.bg t ht).2, fun t ht => Blk.kept (h.r t ht) f (h.bh t ht).2, h.k,
    fun t ht => ⟨(h.bg t ht).1, ne _ (Blk.lt (h.t t ht)) (h.bg t ht).2⟩, fun t ht => ⟨(h.bh t ht).1, ne _ (Blk.lt (h.r t ht)) (h.bh t ht).2⟩, h.dg, h.dh⟩
theorem ownsRow_kept {w w' : World} {base size n : Nat} {e : TypeId} {v : Value} {xs : List Value} (h : w.ownsRow base e size v n xs) (f : Fr no w w') : w'.ownsRow base e size v n xs := by
  refine ⟨h.1, ?_⟩
  rcases h.2 with h | ⟨g, cap, cur, h1, h2, h3, h4⟩
  · exact .inl h
  · exact .inr ⟨g, cap, cur, h1, h2, (f.block g (Array.getElem?_eq_some_iff.1 h3).1 (fun e => e)).trans h3, h4⟩
theorem cells_two (w : World) (x y : Value) (t : TypeId) : ∀ j u, [x, y][j]? = some u → (w.alloc (.cells #[x, y] t)).cell? ((⟨w.heap.size, 0, none⟩ : Addr).add j) = some u := by
  intro j u hj
  have b := Blk.new w t #[x, y]
  match j, hj with
  | 0, hj => simp at hj; subst hj; rw [Kd.addr_add]; exact b.cell 0
  | 1, hj => simp at hj; subst hj; rw [Kd.addr_add]; exact b.cell 1

/-- A weight's bits. -/
theorem div_lt {x y r : Nat} (h : dbl.div x y = some r) : r < NB := by
  unfold Ieee.Format.div at h
  obtain ⟨d, hd, rfl⟩ := Option.map_eq_some_iff.1 h
  have hw : ∀ s R, R ≤ inf → dbl.word s R < NB := fun s R hR => word_lt s (Nat.lt_of_le_of_lt hR (by decide))
  have e3 : dbl.infRung = inf := by decide
  cases d with
  | number s m e =>
    show dbl.nearest s m e < NB
    unfold Ieee.Format.nearest
    split
    · exact hw _ _ (by decide)
    · exact hw _ _ (by rw [← e3]; exact Nat.min_le_right _ _)
  | infinity s => exact hw _ _ (by rw [← e3]; exact Nat.le_refl _)
  | nan s t =>
    exfalso
    cases hx : dbl.read x <;> cases hy : dbl.read y <;> rw [hx, hy] at hd <;> simp only [Ieee.Datum.quotient] at hd <;> (try cases hd) <;> (try (split at hd <;> (try split at hd) <;> cases hd))
theorem val_keep {x : Wt} {b : Nat} (h : Val x b) (hx : 0 ≤ x.2.2.2 ∧ x.2.2.2 < 18446744073709551616) : (KeepOk b = true → b < NB) ∧ KeepOk b = decide (0 < b ∧ b ≤ One) := by
  unfold Val at h
  have key : b < NB → (KeepOk b = true → b < NB) ∧ KeepOk b = decide (0 < b ∧ b ≤ One) := fun hb => ⟨fun _ => hb, keep_iff hb⟩
  by_cases hr : x.2.2.1 = true
  · rw [if_pos hr] at h
    exact key (by rw [h]; unfold NB; omega)
  · rw [if_neg hr] at h
    cases e : dbl.div (cnv x.1) (cnv x.2.1) with
    | some r => rw [e] at h; exact key (by rw [show b = r from h]; exact div_lt e)
    | none =>
      rw [e] at h
      have h' : inf < rung b := h
      refine ⟨fun hk => (by rw [KeepOk_nan h'] at hk; cases hk), ?_⟩
      rw [KeepOk_nan h', decide_eq_false]
      rintro ⟨h1, h2⟩
      have : One = 4607182418800017408 := rfl
      unfold rung inf at h'; omega
end Go.Proofs.Ytljcncfipocnpaa
