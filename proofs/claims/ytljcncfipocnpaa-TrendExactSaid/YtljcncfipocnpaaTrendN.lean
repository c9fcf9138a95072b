/- A note in one contract, whichever it is. -/
import Derived.Test.YtljcncfipocnpaaTrendW
namespace Go.Proofs.Ytljcncfipocnpaa
open Go.RowKit Fl

theorem keep_fin {k : Nat} (h : KeepOk k = true) : Fnt k ∧ 0 < sv k := by
  have hn : Num k := by
    rcases Nat.lt_or_ge inf (rung k) with h' | h'
    · rw [KeepOk_nan h'] at h; cases h
    · exact h'
  unfold KeepOk at h
  simp only [Bool.and_eq_true] at h
  have z : Num 0 := by unfold Num; decide
  have o : Num One := by unfold Num; decide
  have h1 := h.1
  have h2 := h.2
  rw [show (dbl.order k 0 == some Ordering.gt) = _ from gt_b hn z] at h1
  rw [show (dbl.order k One == some Ordering.lt || dbl.order k One == some Ordering.eq) = _ from le_b hn o] at h2
  have h1 := of_decide_eq_true h1
  have h2 := of_decide_eq_true h2
  have z0 : sv 0 = 0 := by decide
  rw [z0] at h1
  have f1 := fin_sv (show Fnt One by unfold Fnt; decide)
  exact ⟨fin_of_sv hn (by omega), h1⟩
theorem noted_zero (k a : Nat) (x : Int) : noted k a 0 x = cnv x := rfl
/-- The three steps of a note behind the first. -/
theorem noted_steps {k a : Nat} {n x : Int} (hk : KeepOk k = true) (h0 : 0 < n) (ha : Fnt a) (hx : x.natAbs ≤ 9223372036854775808) :
    ∃ d s r, dbl.sub (cnv x) a = some d ∧ dbl.mul d k = some s ∧ dbl.add a s = some r ∧ Num r ∧ noted k a n x = upd r a (cnv x) := by
  have fx := fin_cnv x hx
  obtain ⟨d, hd, nd⟩ := sub_fin fx ha
  obtain ⟨s, hs, ns⟩ := mul_fin nd (keep_fin hk).1 (by have := (keep_fin hk).2; omega)
  obtain ⟨r, hr, nr⟩ := add_fin ha ns
  refine ⟨d, s, r, hd, hs, hr, nr, ?_⟩
  unfold noted
  rw [if_neg (by omega), hd]
  simp only
  rw [hs]
  simp only
  rw [hr]
theorem noted_spec {k a : Nat} {n x : Int} (hk : KeepOk k = true) (h0 : 0 < n) (ha : Fnt a) (hx : x.natAbs ≤ 9223372036854775808) :
    Fnt (noted k a n x) ∧ min (sv a) (sv (cnv x)) ≤ sv (noted k a n x) ∧ sv (noted k a n x) ≤ max (sv a) (sv (cnv x)) := by
  obtain ⟨d, s, r, _, _, _, nr, e⟩ := noted_steps hk h0 ha hx
  rw [e]
  exact upd_spec nr ha (fin_cnv x hx)
theorem trend_note_any (g k a : Nat) (n x : Int) (w : World) (h : TrendAt w g k a n) (hk : KeepOk k = true) (h0 : 0 ≤ n) (hn : n ≤ 9223372036854775806) (ha : n = 0 ∨ Fnt a) (hx : x.natAbs ≤ 9223372036854775808) :
    Calls Try.prog 20 #[.pointer (some ⟨g, 0, none⟩), .int .i64 x] w fun e w' => e = .returned (.tuple #[]) ∧ TrendAt w' g k (noted k a n x) (n + 1) ∧ Fr (fun k => k = g) w w' := by
  rcases Int.lt_or_eq_of_le h0 with h1 | h1
  · have ha' : Fnt a := ha.resolve_left (by omega)
    obtain ⟨d, s, r, hd, hs, hr, nr, e⟩ := noted_steps (n := n) hk h1 ha' hx
    rw [e]
    exact trend_note g k a d s r n x w h h1 hn hd hs hr ha'.num (fin_cnv x hx).num nr
  · subst h1
    exact trend_note1 g k a x w h
theorem trend_hull_n (xs : List Int) (n b o c a : Nat) (w : World) (hl : xs.length = n) (hc : ∀ j (h : j < xs.length), w.cell? ⟨b, o + j, none⟩ = some (.int .i64 xs[j])) (hx : ∀ x ∈ xs, x.natAbs ≤ 9223372036854775808) (hn : n ≤ 9223372036854775807)
    (ha : Num a) (hlo : ∃ x ∈ xs, sv (cnv x) ≤ sv a) (hhi : ∃ x ∈ xs, sv a ≤ sv (cnv x)) :
    Calls Try.prog 21 #[.slice (some ⟨b, o, none⟩) n c, .float .f64 a] w fun e w' => e = .returned (.bool true) ∧ w' = w := by
  subst hl
  exact trend_hull xs b o c a w hc hx hn ha hlo hhi
theorem order_self {a : Nat} (h : Num a) : FloatKind.f64.format.order a a = some .eq := by
  rw [show FloatKind.f64.format.order a a = _ from order_num a a h h, cmp_eq]
end Go.Proofs.Ytljcncfipocnpaa
