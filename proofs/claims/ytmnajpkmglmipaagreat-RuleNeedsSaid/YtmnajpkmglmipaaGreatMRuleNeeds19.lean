/- Ref9a Ref9b -/
import Derived.Test.YtmnajpkmglmipaaGreatMRuleNeeds05
import Derived.Test.YtmnajpkmglmipaaGreatMRuleNeeds02
import Derived.Deep.RegionHeld3
/- The document's needs. -/
namespace Go.Proofs.YtmnajpkmglmipaaGreat
open Go.RowKit

theorem ref_way (c : Int) (w : World) : Calls Tryz.prog 56 #[.int .i64 c] w fun e w' => e = .returned (.int .i64 (wayOf c)) ∧ w' = w := by
  by_cases h : c < 0
  · rw [show wayOf c = 0 by simp [wayOf, h]]
    go_enter Tryz.func56, Tryz.ntmps56
    go_wp2_with fail
    go_ret
    exact ⟨rfl, rfl⟩
  · rw [show wayOf c = 1 by simp [wayOf, h]]
    go_enter Tryz.func56, Tryz.ntmps56
    go_wp2_with fail
    go_ret
    exact ⟨rfl, rfl⟩
theorem ref_amount (c : Int) (hc : Wf64 c) (w : World) : Calls Tryz.prog 57 #[.int .i64 c] w fun e w' => e = .returned (.int .u64 c.natAbs) ∧ w' = w := by
  have hc' : -9223372036854775808 ≤ c ∧ c ≤ 9223372036854775807 := hc
  by_cases h : c < 0
  · go_enter Tryz.func57, Tryz.ntmps57
    go_wp2_with fail
    go_ret
    refine ⟨ret_i ?_, rfl⟩
    first | omega | (simp [IntKind.wrap, IntKind.bits, IntKind.signed]; omega)
  · go_enter Tryz.func57, Tryz.ntmps57
    go_wp2_with fail
    go_ret
    refine ⟨ret_i ?_, rfl⟩
    first | omega | (simp [IntKind.wrap, IntKind.bits, IntKind.signed]; omega)
theorem wr64_w (n : Int) : wr64 n = wrap64 n := by unfold wr64 wrap64; first | rw [IntKind.wrap_i64] | (rw [IntKind.wrap_i64]; omega) | (simp [IntKind.wrap, IntKind.bits, IntKind.signed]; omega)
/-- One step of the document's put. -/
def putS (r : RightD) (st : List RightD × Bool) (x : RightD) : List RightD × Bool :=
  if st.2 = false ∧ x.1 = r.1 ∧ x.2.1 = r.2.1 then (st.1 ++ [(x.1, x.2.1, wr64 (x.2.2 + r.2.2))], true)
  else if st.2 = false ∧ (r.1 < x.1 ∨ (x.1 = r.1 ∧ r.2.1 < x.2.1)) then (st.1 ++ [r] ++ [x], true)
  else (st.1 ++ [x], st.2)
def putE (r : RightD) (st : List RightD × Bool) : List RightD := if st.2 then st.1 else st.1 ++ [r]
theorem putS_done (r : RightD) (l out : List RightD) : l.foldl (putS r) (out, true) = (out ++ l, true) := by
  induction l generalizing out with
  | nil => simp
  | cons x l ih => simp [putS, ih]
theorem putS_all (r : RightD) (l out : List RightD) : putE r (l.foldl (putS r) (out, false)) = out ++ putR l r := by
  induction l generalizing out with
  | nil => simp [putE, putR]
  | cons x l ih =>
    unfold putR
    simp only [List.foldl_cons]
    by_cases h1 : x.1 = r.1 ∧ x.2.1 = r.2.1
    · have e : kOf x = kOf r := Prod.ext h1.1 h1.2
      rw [if_pos e, show putS r (out, false) x = (out ++ [(x.1, x.2.1, wr64 (x.2.2 + r.2.2))], true) by simp [putS, h1], putS_done]
      simp [putE]
    · have e : ¬ kOf x = kOf r := fun e => h1 ⟨congrArg (fun k : KindD => k.1) e, congrArg (fun k : KindD => k.2) e⟩
      rw [if_neg e]
      by_cases h2 : r.1 < x.1 ∨ (x.1 = r.1 ∧ r.2.1 < x.2.1)
      · have e2 : kLt (kOf r) (kOf x) := by unfold kLt kOf; rcases h2 with h | h; exact .inl h; exact .inr ⟨h.1.symm, h.2⟩
        rw [if_pos e2, show putS r (out, false) x = (out ++ [r] ++ [x], true) by simp [putS, h1, h2], putS_done]
        simp [putE]
      · have e2 : ¬ kLt (kOf r) (kOf x) := by unfold kLt kOf; rintro (h | h); exact h2 (.inl h); exact h2 (.inr ⟨h.1.symm, h.2⟩)
        rw [if_neg e2, show putS r (out, false) x = (out ++ [x], false) by simp [putS, h1, h2], ih]
        simp
theorem putS_len (r : RightD) (l : List RightD) : ∀ out : List RightD, (l.foldl (putS r) (out, false)).1.length ≤ out.length + l.length + 1 ∧ ((l.foldl (putS r) (out, false)).2 = false → (l.foldl (putS r) (out, false)).1.length ≤ out.length + l.length) := by
  induction l with
  | nil => intro out; simp
  | cons x l ih =>
    intro out
    simp only [List.foldl_cons, List.length_cons]
    by_cases h1 : x.1 = r.1 ∧ x.2.1 = r.2.1
    · rw [show putS r (out, false) x = (out ++ [(x.1, x.2.1, wr64 (x.2.2 + r.2.2))], true) by simp [putS, h1], putS_done]
      first | (simp; done) | (simp; omega)
    · by_cases h2 : r.1 < x.1 ∨ (x.1 = r.1 ∧ r.2.1 < x.2.1)
      · rw [show putS r (out, false) x = (out ++ [r] ++ [x], true) by simp [putS, h1, h2], putS_done]
        first | (simp; done) | (simp; omega)
      · rw [show putS r (out, false) x = (out ++ [x], false) by simp [putS, h1, h2]]
        have := ih (out ++ [x])
        rw [List.length_append, List.length_singleton] at this
        exact ⟨by omega, fun e => by have := this.2 e; omega⟩
/-- Where put stands: what it has laid, in the world wr. -/
structure PutW (w wr : World) (r1 r2 r3 : Int) (u : Value) (out : List RightD) : Prop where
  F : Fr no w wr
  B : Blk wr w.heap.size 86 #[.int .i64 r1, .int .i64 r2, .int .i64 r3]
  own : wr.ownsRow (w.heap.size + 1) 86 3 u out.length (fRight.all out)
  size : w.heap.size + 1 ≤ wr.heap.size
theorem PutW.alloc {w wr : World} {r1 r2 r3 : Int} {u : Value} {out : List RightD} (h : PutW w wr r1 r2 r3 u out) (o : Obj) : PutW w (wr.alloc o) r1 r2 r3 u out :=
  ⟨h.F.alloc o, h.B.alloc o, own_kept h.own ((Fr.refl no wr).alloc o), by have := h.size; simp; omega⟩
theorem PutW.grow {w wr w3 : World} {r1 r2 r3 : Int} {u v : Value} {out : List RightD} (h : PutW w wr r1 r2 r3 u out) (x : RightD) (own : w3.ownsRow (w.heap.size + 1) 86 3 v (out.length + 1) (fRight.all out ++ fRight.enc x)) (g : wr.grownBy w3 u.ownBlock) : PutW w w3 r1 r2 r3 v (out ++ [x]) := by
  have hb := own_base h.own
  have G := Fr.of_grown g
  have hs := h.size
  exact ⟨h.F.thru G (fun i hi e => by have := hb i e; omega), h.B.kept G (fun e => by have := hb _ e; omega), by rw [List.length_append, Flat.all_append]; simpa [Flat.all] using own, Nat.le_trans hs G.size⟩
set_option maxRecDepth 100000 in
set_option maxHeartbeats 8000000 in
theorem ref_put (A : Option Addr) (c : Nat) (l : List RightD) (r1 r2 r3 : Int) (hb : l.length * 24 + 24 ≤ 211106232532992) (w : World) (h : Sl fRight w A c l) :
    Calls Tryz.prog 58 #[.slice A l.length c, .agg #[.int .i64 r1, .int .i64 r2, .int .i64 r3]] w fun e w' => ∃ A' c', e = .returned (.slice A' (putR l (r1, r2, r3)).length c') ∧ Om fRight 86 w.heap.size w' A' c' (putR l (r1, r2, r3)) ∧ Fr no w w' := by
  obtain ⟨i0, hi, hz0, hz1, hz2⟩ := info_parts info_right
  have lt : l.length ≤ c ∧ l.length ≤ 9223372036854775807 := ⟨h.le, by have := h.le; have := h.top; simp only [maxLen] at this; omega⟩
  have H := hide h
  clear h
  go_enter Tryz.func58, Tryz.ntmps58
  go_wp2_with fail
  have B0 := hide (Blk.new w 86 #[.int .i64 r1, .int .i64 r2, .int .i64 r3])
  go_loopw [5, 6, 7] (fun u b i wr => ∃ (m : Nat) (st : List RightD × Bool), i = .int .i64 m ∧ m ≤ l.length ∧ st = (l.take m).foldl (putS (r1, r2, r3)) ([], false) ∧ b = .bool st.2 ∧ PutW w wr r1 r2 r3 u st.1) (fun _ _ i _ => l.length - (intOf i).toNat)
  case atStart => exact ⟨0, ([], false), rfl, Nat.zero_le _, rfl, rfl, (Fr.refl no w).alloc _, B0.out, World.ownsRow_nil _ _ _ _, by simp⟩
  case round =>
    obtain ⟨m, st, rfl, hm, hst, rfl, hp⟩ := hrel
    have hl := putS_len (r1, r2, r3) (l.take m) []
    rw [← hst] at hl
    have htk := List.length_take_le m l
    obtain ⟨out, lb⟩ := st
    have hl1 : out.length ≤ m + 1 := by have := hl.1; simp at this; omega
    have hl2 : lb = false → out.length ≤ m := fun e => by have := hl.2 e; simp at this; omega
    clear hl htk
    by_cases hlt : m < l.length
    · obtain ⟨g, o, rfl, hc⟩ := (H.out.below hp.F.below).cells (List.length_pos_iff.1 (by omega))
      obtain ⟨x1, x2, x3, hx⟩ : ∃ x1 x2 x3, l[m] = (x1, x2, x3) := ⟨_, _, _, rfl⟩
      have a0 : wr.cell? ⟨g, o + m * 3, none⟩ = some (.int .i64 x1) := by
        have := hc m hlt 0 (by decide)
        rw [hx] at this; exact this
      have a1 : wr.cell? ⟨g, o + m * 3 + 1, none⟩ = some (.int .i64 x2) := by
        have := hc m hlt 1 (by decide)
        rw [hx] at this; exact this
      have a2 : wr.cell? ⟨g, o + m * 3 + 2, none⟩ = some (.int .i64 x3) := by
        have := hc m hlt 2 (by decide)
        rw [hx] at this; exact this
      have q0 := fun ob => (hp.B.alloc ob).cell 0
      have q1 := fun ob => (hp.B.alloc ob).cell 1
      have q2 := fun ob => (hp.B.alloc ob).cell 2
      have HT : Hid ((l.take (m + 1)).foldl (putS (r1, r2, r3)) ([], false) = putS (r1, r2, r3) (out, lb) (x1, x2, x3)) := hide (by
        rw [show l.take (m + 1) = l.take m ++ [(x1, x2, x3)] by rw [← hx]; exact (List.take_append_getElem hlt).symm, List.foldl_append, ← hst]; rfl)
      have hi0 : (0 : Int) ≤ m := by omega
      have hi1 : (m : Int) < l.length := by omega
      have HP := hide hp
      have hsz := hp.size
      clear hc hx hst hp
      cases lb
      rotate_left
      · have hlb := hl1
        clear hl2
        have HT2 := hide (HT.out.trans (show putS (r1, r2, r3) (out, true) (x1, x2, x3) = (out ++ [(x1, x2, x3)], true) from by simp [putS]))
        go_wp2_with (at_builtin; (refine wpList_append_one _ rfl _ _ 59 rfl (w.heap.size + 1) 86 i0 (.agg #[.int .i64 0, .int .i64 0, .int .i64 0]) 3 24 Tryz.underlying59 hi hz0 hz1 hz2 rfl (by decide) (by decide) _ (out).length (fRight.all (out)) rfl ((HP.out.alloc _).alloc _).own ⟨wr.heap.size + 1, 0, none⟩ 1 [.int .i64 x1, .int .i64 x2, .int .i64 x3] rfl rfl (new_cells' (wr.alloc (.cells #[.int .i64 x1, .int .i64 x2, .int .i64 x3] 86)) (wr.heap.size + 1) (by simp) [.int .i64 x1, .int .i64 x2, .int .i64 x3] _) (fun u hu => by simp at hu; rcases hu with rfl | rfl | rfl <;> rfl) (by simp only [maxLen]; first | omega | (simp; omega)) (by first | omega | (simp; omega)) ((HP.out.alloc _).alloc _).size ?_))
        intro v' w3 own3 grow3
        have HP3 := hide (((HP.out.alloc _).alloc _).grow (x1, x2, x3) own3 grow3)
        have REL := hide (show ∃ (k : Nat) (st : List RightD × Bool), Value.int .i64 ((m : Int) + 1) = .int .i64 k ∧ k ≤ l.length ∧ st = (l.take k).foldl (putS (r1, r2, r3)) ([], false) ∧ Value.bool true = .bool st.2 ∧ PutW w w3 r1 r2 r3 v' st.1 from ⟨m + 1, (out ++ [(x1, x2, x3)], true), by simp, hlt, HT2.out.symm, rfl, HP3.out⟩)
        clear own3 grow3
        go_wp2_with fail
        exact ⟨REL.out, by simp [intOf]; omega⟩
      have hl3 := hl2 rfl
      clear hl2
      by_cases c1 : x1 = r1 ∧ x2 = r2
      · obtain ⟨e1, e2⟩ := c1
        have e1 := e1.symm
        have e2 := e2.symm
        subst e1
        subst e2
        have HT2 := hide (HT.out.trans (show putS (r1, r2, r3) (out, false) (r1, r2, x3) = (out ++ [(r1, r2, wrap64 (x3 + r3))], true) from by unfold putS; rw [if_pos ⟨rfl, rfl, rfl⟩, wr64_w]))
        go_wp2_with (at_builtin; (refine wpList_append_one _ rfl _ _ 59 rfl (w.heap.size + 1) 86 i0 (.agg #[.int .i64 0, .int .i64 0, .int .i64 0]) 3 24 Tryz.underlying59 hi hz0 hz1 hz2 rfl (by decide) (by decide) _ (out).length (fRight.all (out)) rfl ((HP.out.alloc _).alloc _).own ⟨wr.heap.size + 1, 0, none⟩ 1 [.int .i64 r1, .int .i64 r2, .int .i64 (wrap64 (x3 + r3))] rfl rfl (new_cells' (wr.alloc (.cells #[.int .i64 r1, .int .i64 r2, .int .i64 (wrap64 (x3 + r3))] 86)) (wr.heap.size + 1) (by simp) [.int .i64 r1, .int .i64 r2, .int .i64 (wrap64 (x3 + r3))] _) (fun u hu => by simp at hu; rcases hu with rfl | rfl | rfl <;> rfl) (by simp only [maxLen]; first | omega | (simp; omega)) (by first | omega | (simp; omega)) ((HP.out.alloc _).alloc _).size ?_))
        intro v' w3 own3 grow3
        have HP3 := hide (((HP.out.alloc _).alloc _).grow (r1, r2, wrap64 (x3 + r3)) own3 grow3)
        have REL := hide (show ∃ (k : Nat) (st : List RightD × Bool), Value.int .i64 ((m : Int) + 1) = .int .i64 k ∧ k ≤ l.length ∧ st = (l.take k).foldl (putS (r1, r2, r3)) ([], false) ∧ Value.bool true = .bool st.2 ∧ PutW w w3 r1 r2 r3 v' st.1 from ⟨m + 1, (out ++ [(r1, r2, wrap64 (x3 + r3))], true), by simp, hlt, HT2.out.symm, rfl, HP3.out⟩)
        clear own3 grow3
        go_wp2_with fail
        exact ⟨REL.out, by simp [intOf]; omega⟩
      by_cases c2 : r1 < x1
      · have c3 : (x1 == r1) = false := by simp; omega
        have c4 : decide (r1 < x1) = true := by simpa using c2
        clear c1
        have HT2 := hide (HT.out.trans (show putS (r1, r2, r3) (out, false) (x1, x2, x3) = (out ++ [(r1, r2, r3)] ++ [(x1, x2, x3)], true) from by unfold putS; rw [if_neg (by rintro ⟨-, h, -⟩; simp only at h; omega), if_pos ⟨rfl, .inl c2⟩]))
        go_wp2_with (at_builtin; (refine wpList_append_one _ rfl _ _ 59 rfl (w.heap.size + 1) 86 i0 (.agg #[.int .i64 0, .int .i64 0, .int .i64 0]) 3 24 Tryz.underlying59 hi hz0 hz1 hz2 rfl (by decide) (by decide) _ (out).length (fRight.all (out)) rfl ((HP.out.alloc _).alloc _).own ⟨wr.heap.size + 1, 0, none⟩ 1 [.int .i64 r1, .int .i64 r2, .int .i64 r3] rfl rfl (new_cells' (wr.alloc (.cells #[.int .i64 x1, .int .i64 x2, .int .i64 x3] 86)) (wr.heap.size + 1) (by simp) [.int .i64 r1, .int .i64 r2, .int .i64 r3] _) (fun u hu => by simp at hu; rcases hu with rfl | rfl | rfl <;> rfl) (by simp only [maxLen]; first | omega | (simp; omega)) (by first | omega | (simp; omega)) ((HP.out.alloc _).alloc _).size ?_))
        intro v' w3 own3 grow3
        have HP3 := hide (((HP.out.alloc _).alloc _).grow (r1, r2, r3) own3 grow3)
        have hob : ∀ i, some i = u5.ownBlock → i < wr.heap.size := fun i e => (HP.out.own.lt i e.symm).2
        have X3 : Blk w3 wr.heap.size 86 #[.int .i64 x1, .int .i64 x2, .int .i64 x3] := ((Blk.new wr _ _).alloc _).kept (Fr.of_grown grow3) (fun e => absurd (hob _ e) (Nat.lt_irrefl _))
        have y0 := X3.cell 0
        have y1 := X3.cell 1
        have y2 := X3.cell 2
        clear own3 grow3 X3 hob
        go_wp2_with (at_builtin; (refine wpList_append_one _ rfl _ _ 59 rfl (w.heap.size + 1) 86 i0 (.agg #[.int .i64 0, .int .i64 0, .int .i64 0]) 3 24 Tryz.underlying59 hi hz0 hz1 hz2 rfl (by decide) (by decide) _ (out ++ [(r1, r2, r3)]).length (fRight.all (out ++ [(r1, r2, r3)])) rfl (HP3.out.alloc _).own ⟨w3.heap.size, 0, none⟩ 1 [.int .i64 x1, .int .i64 x2, .int .i64 x3] rfl rfl (new_cells' w3 (w3.heap.size) (by simp) [.int .i64 x1, .int .i64 x2, .int .i64 x3] _) (fun u hu => by simp at hu; rcases hu with rfl | rfl | rfl <;> rfl) (by simp only [maxLen]; first | omega | (simp; omega)) (by first | omega | (simp; omega)) (HP3.out.alloc _).size ?_))
        intro v'' w4 own4 grow4
        have HP4 := hide ((HP3.out.alloc _).grow (x1, x2, x3) (by rw [List.length_append, List.length_singleton]; exact own4) grow4)
        have REL := hide (show ∃ (k : Nat) (st : List RightD × Bool), Value.int .i64 ((m : Int) + 1) = .int .i64 k ∧ k ≤ l.length ∧ st = (l.take k).foldl (putS (r1, r2, r3)) ([], false) ∧ Value.bool true = .bool st.2 ∧ PutW w w4 r1 r2 r3 v'' st.1 from ⟨m + 1, (out ++ [(r1, r2, r3)] ++ [(x1, x2, x3)], true), by simp, hlt, HT2.out.symm, rfl, HP4.out⟩)
        clear own4 grow4 y0 y1 y2
        go_wp2_with fail
        exact ⟨REL.out, by simp [intOf]; omega⟩
      by_cases c3 : x1 = r1
      · have c3 := c3.symm
        subst c3
        by_cases c4 : r2 < x2
        · have c5 : (x2 == r2) = false := by simp; omega
          have c6 : decide (r2 < x2) = true := by simpa using c4
          clear c1 c2
          have HT2 := hide (HT.out.trans (show putS (r1, r2, r3) (out, false) (r1, x2, x3) = (out ++ [(r1, r2, r3)] ++ [(r1, x2, x3)], true) from by unfold putS; rw [if_neg (by rintro ⟨-, -, h⟩; simp only at h; omega), if_pos ⟨rfl, .inr ⟨rfl, c4⟩⟩]))
          go_wp2_with (at_builtin; (refine wpList_append_one _ rfl _ _ 59 rfl (w.heap.size + 1) 86 i0 (.agg #[.int .i64 0, .int .i64 0, .int .i64 0]) 3 24 Tryz.underlying59 hi hz0 hz1 hz2 rfl (by decide) (by decide) _ (out).length (fRight.all (out)) rfl ((HP.out.alloc _).alloc _).own ⟨wr.heap.size + 1, 0, none⟩ 1 [.int .i64 r1, .int .i64 r2, .int .i64 r3] rfl rfl (new_cells' (wr.alloc (.cells #[.int .i64 r1, .int .i64 x2, .int .i64 x3] 86)) (wr.heap.size + 1) (by simp) [.int .i64 r1, .int .i64 r2, .int .i64 r3] _) (fun u hu => by simp at hu; rcases hu with rfl | rfl | rfl <;> rfl) (by simp only [maxLen]; first | omega | (simp; omega)) (by first | omega | (simp; omega)) ((HP.out.alloc _).alloc _).size ?_))
          intro v' w3 own3 grow3
          have HP3 := hide (((HP.out.alloc _).alloc _).grow (r1, r2, r3) own3 grow3)
          have hob : ∀ i, some i = u5.ownBlock → i < wr.heap.size := fun i e => (HP.out.own.lt i e.symm).2
          have X3 : Blk w3 wr.heap.size 86 #[.int .i64 r1, .int .i64 x2, .int .i64 x3] := ((Blk.new wr _ _).alloc _).kept (Fr.of_grown grow3) (fun e => absurd (hob _ e) (Nat.lt_irrefl _))
          have y0 := X3.cell 0
          have y1 := X3.cell 1
          have y2 := X3.cell 2
          clear own3 grow3 X3 hob
          go_wp2_with (at_builtin; (refine wpList_append_one _ rfl _ _ 59 rfl (w.heap.size + 1) 86 i0 (.agg #[.int .i64 0, .int .i64 0, .int .i64 0]) 3 24 Tryz.underlying59 hi hz0 hz1 hz2 rfl (by decide) (by decide) _ (out ++ [(r1, r2, r3)]).length (fRight.all (out ++ [(r1, r2, r3)])) rfl (HP3.out.alloc _).own ⟨w3.heap.size, 0, none⟩ 1 [.int .i64 r1, .int .i64 x2, .int .i64 x3] rfl rfl (new_cells' w3 (w3.heap.size) (by simp) [.int .i64 r1, .int .i64 x2, .int .i64 x3] _) (fun u hu => by simp at hu; rcases hu with rfl | rfl | rfl <;> rfl) (by simp only [maxLen]; first | omega | (simp; omega)) (by first | omega | (simp; omega)) (HP3.out.alloc _).size ?_))
          intro v'' w4 own4 grow4
          have HP4 := hide ((HP3.out.alloc _).grow (r1, x2, x3) (by rw [List.length_append, List.length_singleton]; exact own4) grow4)
          have REL := hide (show ∃ (k : Nat) (st : List RightD × Bool), Value.int .i64 ((m : Int) + 1) = .int .i64 k ∧ k ≤ l.length ∧ st = (l.take k).foldl (putS (r1, r2, r3)) ([], false) ∧ Value.bool true = .bool st.2 ∧ PutW w w4 r1 r2 r3 v'' st.1 from ⟨m + 1, (out ++ [(r1, r2, r3)] ++ [(r1, x2, x3)], true), by simp, hlt, HT2.out.symm, rfl, HP4.out⟩)
          clear own4 grow4 y0 y1 y2
          go_wp2_with fail
          exact ⟨REL.out, by simp [intOf]; omega⟩
        · have c5 : (x2 == r2) = false := by simp; intro e; exact c1 ⟨rfl, e⟩
          have c6 : decide (r2 < x2) = false := by simp; omega
          have c7 : ¬ x2 = r2 := fun e => c1 ⟨rfl, e⟩
          clear c1 c2
          have HT2 := hide (HT.out.trans (show putS (r1, r2, r3) (out, false) (r1, x2, x3) = (out ++ [(r1, x2, x3)], false) from by unfold putS; rw [if_neg (by rintro ⟨-, -, h⟩; exact c7 h), if_neg (by rintro ⟨-, h | ⟨-, h⟩⟩; exact absurd h (Int.lt_irrefl _); exact c4 h)]))
          go_wp2_with (at_builtin; (refine wpList_append_one _ rfl _ _ 59 rfl (w.heap.size + 1) 86 i0 (.agg #[.int .i64 0, .int .i64 0, .int .i64 0]) 3 24 Tryz.underlying59 hi hz0 hz1 hz2 rfl (by decide) (by decide) _ (out).length (fRight.all (out)) rfl ((HP.out.alloc _).alloc _).own ⟨wr.heap.size + 1, 0, none⟩ 1 [.int .i64 r1, .int .i64 x2, .int .i64 x3] rfl rfl (new_cells' (wr.alloc (.cells #[.int .i64 r1, .int .i64 x2, .int .i64 x3] 86)) (wr.heap.size + 1) (by simp) [.int .i64 r1, .int .i64 x2, .int .i64 x3] _) (fun u hu => by simp at hu; rcases hu with rfl | rfl | rfl <;> rfl) (by simp only [maxLen]; first | omega | (simp; omega)) (by first | omega | (simp; omega)) ((HP.out.alloc _).alloc _).size ?_))
          intro v' w3 own3 grow3
          have HP3 := hide (((HP.out.alloc _).alloc _).grow (r1, x2, x3) own3 grow3)
          have REL := hide (show ∃ (k : Nat) (st : List RightD × Bool), Value.int .i64 ((m : Int) + 1) = .int .i64 k ∧ k ≤ l.length ∧ st = (l.take k).foldl (putS (r1, r2, r3)) ([], false) ∧ Value.bool false = .bool st.2 ∧ PutW w w3 r1 r2 r3 v' st.1 from ⟨m + 1, (out ++ [(r1, x2, x3)], false), by simp, hlt, HT2.out.symm, rfl, HP3.out⟩)
          clear own3 grow3
          go_wp2_with fail
          exact ⟨REL.out, by simp [intOf]; omega⟩
      · have c4 : (x1 == r1) = false := by simp; exact c3
        have c5 : decide (r1 < x1) = false := by simp; omega
        clear c1
        have HT2 := hide (HT.out.trans (show putS (r1, r2, r3) (out, false) (x1, x2, x3) = (out ++ [(x1, x2, x3)], false) from by unfold putS; rw [if_neg (by rintro ⟨-, h, -⟩; exact c3 h), if_neg (by rintro ⟨-, h | ⟨h, -⟩⟩; exact c2 h; exact c3 h)]))
        go_wp2_with (at_builtin; (refine wpList_append_one _ rfl _ _ 59 rfl (w.heap.size + 1) 86 i0 (.agg #[.int .i64 0, .int .i64 0, .int .i64 0]) 3 24 Tryz.underlying59 hi hz0 hz1 hz2 rfl (by decide) (by decide) _ (out).length (fRight.all (out)) rfl ((HP.out.alloc _).alloc _).own ⟨wr.heap.size + 1, 0, none⟩ 1 [.int .i64 x1, .int .i64 x2, .int .i64 x3] rfl rfl (new_cells' (wr.alloc (.cells #[.int .i64 x1, .int .i64 x2, .int .i64 x3] 86)) (wr.heap.size + 1) (by simp) [.int .i64 x1, .int .i64 x2, .int .i64 x3] _) (fun u hu => by simp at hu; rcases hu with rfl | rfl | rfl <;> rfl) (by simp only [maxLen]; first | omega | (simp; omega)) (by first | omega | (simp; omega)) ((HP.out.alloc _).alloc _).size ?_))
        intro v' w3 own3 grow3
        have HP3 := hide (((HP.out.alloc _).alloc _).grow (x1, x2, x3) own3 grow3)
        have REL := hide (show ∃ (k : Nat) (st : List RightD × Bool), Value.int .i64 ((m : Int) + 1) = .int .i64 k ∧ k ≤ l.length ∧ st = (l.take k).foldl (putS (r1, r2, r3)) ([], false) ∧ Value.bool false = .bool st.2 ∧ PutW w w3 r1 r2 r3 v' st.1 from ⟨m + 1, (out ++ [(x1, x2, x3)], false), by simp, hlt, HT2.out.symm, rfl, HP3.out⟩)
        clear own3 grow3
        go_wp2_with fail
        exact ⟨REL.out, by simp [intOf]; omega⟩
    · obtain rfl : m = l.length := by omega
      rw [List.take_of_length_le (Nat.le_refl _)] at hst
      have HE := hide (putS_all (r1, r2, r3) l [])
      rw [← hst] at HE
      have q0 := hp.B.cell 0
      have q1 := hp.B.cell 1
      have q2 := hp.B.cell 2
      have HP := hide hp
      have hsz := hp.size
      clear hst hp
      cases lb
      · have hl3 := hl2 rfl
        clear hl2
        go_wp2_with (at_builtin; (refine wpList_append_one _ rfl _ _ 59 rfl (w.heap.size + 1) 86 i0 (.agg #[.int .i64 0, .int .i64 0, .int .i64 0]) 3 24 Tryz.underlying59 hi hz0 hz1 hz2 rfl (by decide) (by decide) _ (out).length (fRight.all (out)) rfl (HP.out.alloc _).own ⟨wr.heap.size, 0, none⟩ 1 [.int .i64 r1, .int .i64 r2, .int .i64 r3] rfl rfl (new_cells' wr (wr.heap.size) (by simp) [.int .i64 r1, .int .i64 r2, .int .i64 r3] _) (fun u hu => by simp at hu; rcases hu with rfl | rfl | rfl <;> rfl) (by simp only [maxLen]; first | omega | (simp; omega)) (by first | omega | (simp; omega)) (HP.out.alloc _).size ?_))
        intro v' w3 own3 grow3
        have HP3 := hide ((HP.out.alloc _).grow (r1, r2, r3) own3 grow3)
        clear own3 grow3
        go_wp2_with fail
        go_ret
        have e : putR l (r1, r2, r3) = out ++ [(r1, r2, r3)] := by have := HE.out; simpa [putE] using this.symm
        rw [e]
        obtain ⟨A', c', rfl, hs⟩ := om_of (f := fRight) (xs := out ++ [(r1, r2, r3)]) HP3.out.own
        exact ⟨A', c', rfl, hs.down (Nat.le_succ _), HP3.out.F⟩
      · go_wp2_with fail
        go_ret
        have e : putR l (r1, r2, r3) = out := by have := HE.out; simpa [putE] using this.symm
        rw [e]
        obtain ⟨A', c', rfl, hs⟩ := om_of (f := fRight) (xs := out) HP.out.own
        exact ⟨A', c', rfl, hs.down (Nat.le_succ _), HP.out.F⟩
end Go.Proofs.YtmnajpkmglmipaaGreat

/- The document's needs. -/
namespace Go.Proofs.YtmnajpkmglmipaaGreat
open Go.RowKit

theorem putR_len (l : List RightT) (r : RightT) : (putR l r).length ≤ l.length + 1 := by
  induction l with
  | nil => simp [putR]
  | cons x l ih => unfold putR; split; · simp
                   split <;> simp <;> omega
theorem needsD_snoc (xs : List LineD) (x : LineD) : needsD (xs ++ [x]) = putR (needsD xs) (x.1, wayOf x.2, amtOf x.2) := by
  simp [needsD, needL, List.foldl_append, rightOf]
theorem needsF_len (l : List (KindD × Int)) : ∀ acc : List RightT, (l.foldl (fun l p => putR l (rightOf p)) acc).length ≤ acc.length + l.length := by
  induction l with
  | nil => intro acc; simp
  | cons p l ih => intro acc; have := ih (putR acc (rightOf p)); have := putR_len acc (rightOf p); simp only [List.foldl_cons, List.length_cons]; omega
theorem needsD_len (xs : List LineD) : (needsD xs).length ≤ xs.length := by
  have := needsF_len (needL xs) []
  simpa [needsD, needL] using this
set_option maxRecDepth 100000 in
set_option maxHeartbeats 4000000 in
theorem ref_needs (A : Option Addr) (c : Nat) (xs : List LineD) (hx : ∀ x ∈ xs, WfL x) (hb : xs.length * 16 ≤ 140737488351232) (w : World) (hs : Sl fLine w A c xs) :
    Calls Tryz.prog 15 #[.slice A xs.length c] w fun e w' => ∃ A' c', e = .returned (.slice A' (needsD xs).length c') ∧ Om fRight 86 w.heap.size w' A' c' (needsD xs) ∧ Fr no w w' := by
  have H := hide hs
  have HX := hide hx
  clear hs hx
  go_enter Tryz.func15, Tryz.ntmps15
  go_wp2_with fail
  go_loopw [3, 4] (fun u i wr => ∃ (m : Nat) (A' : Option Addr) (c' : Nat), i = .int .i64 m ∧ m ≤ xs.length ∧ u = .slice A' (needsD (xs.take m)).length c' ∧ Om fRight 86 w.heap.size wr A' c' (needsD (xs.take m)) ∧ Fr no w wr) (fun _ i _ => xs.length - (intOf i).toNat)
  case atStart => exact ⟨0, none, 0, rfl, Nat.zero_le _, rfl, om_none _ _ _ _, Fr.refl _ _⟩
  case round =>
    obtain ⟨m, A', c', rfl, hm, rfl, om, F⟩ := hrel
    have hln := needsD_len (xs.take m)
    have htk := List.length_take_le m xs
    obtain ⟨nl, hnl⟩ : ∃ nl, nl = needsD (xs.take m) := ⟨_, rfl⟩
    rw [← hnl] at om hln ⊢
    by_cases hlt : m < xs.length
    · obtain ⟨g, o, rfl, hc⟩ := (H.out.below F.below).cells (List.length_pos_iff.1 (by omega))
      obtain ⟨x1, x2, hxm⟩ : ∃ x1 x2, xs[m] = (x1, x2) := ⟨_, _, rfl⟩
      have a0 : wr.cell? ⟨g, o + m * 2, none⟩ = some (.int .i64 x1) := by
        have := hc m hlt 0 (by decide)
        rw [hxm] at this; exact this
      have a1 : wr.cell? ⟨g, o + m * 2 + 1, none⟩ = some (.int .i64 x2) := by
        have := hc m hlt 1 (by decide)
        rw [hxm] at this; exact this
      have hw2 : Hid (Wf64 x2) := hide (by have := HX.out _ (List.getElem_mem hlt); rw [hxm] at this; exact this.2)
      have hi0 : (0 : Int) ≤ m := by omega
      have hi1 : (m : Int) < xs.length := by omega
      have HT := hide (show needsD (xs.take (m + 1)) = putR nl (x1, wayOf x2, amtOf x2) by
        rw [show xs.take (m + 1) = xs.take m ++ [(x1, x2)] by rw [← hxm]; exact (List.take_append_getElem hlt).symm, needsD_snoc, hnl])
      have HO := hide om
      have HF := hide F
      clear hc hxm hnl om F
      go_wp2_with fail
      go_region_held3 (fun W' => W'.cell? ⟨g, o + m * 2, none⟩ = some (.int .i64 x1) ∧ W'.cell? ⟨g, o + m * 2 + 1, none⟩ = some (.int .i64 x2)) (first | exact ⟨a0, a1⟩ | go_keep)
        (first | (go_at_call 56; refine (ref_way _ _).mono ?_; rintro e w1 ⟨rfl, rfl⟩) | (go_at_call 57; refine (ref_amount _ hw2.out _).mono ?_; rintro e w1 ⟨rfl, rfl⟩))
      all_goals
        simp only [natAbs_amt x2 hw2.out]
        generalize hWW : (wr.alloc (.cells #[.int .i64 x1, .int .i64 (wayOf x2), .int .i64 (amtOf x2)] 86)) = WW
        have FW : Fr no wr WW.drew := by rw [← hWW]; exact ((Fr.refl no wr).alloc _).drew
        have BW : Blk WW.drew wr.heap.size 86 #[.int .i64 x1, .int .i64 (wayOf x2), .int .i64 (amtOf x2)] := by rw [← hWW]; exact (Blk.new wr _ _)
        have w0 : WW.drew.cell? ⟨wr.heap.size, 0, none⟩ = _ := BW.cell 0
        have w1 : WW.drew.cell? ⟨wr.heap.size, 1, none⟩ = _ := BW.cell 1
        have w2 : WW.drew.cell? ⟨wr.heap.size, 2, none⟩ = _ := BW.cell 2
        have HFW := hide FW
        clear hWW BW FW a0 a1
        go_wp2_with fail
        refine (ref_put A' c' nl _ _ _ (by omega) _ ((HO.out.keep HFW.out).sl)).mono ?_
        rintro e W2 ⟨A2, c2, rfl, om2, F2⟩
        have REL := hide (show ∃ (k : Nat) (A' : Option Addr) (c' : Nat), Value.int .i64 ((m : Int) + 1) = .int .i64 k ∧ k ≤ xs.length ∧ Value.slice A2 (putR nl (x1, wayOf x2, amtOf x2)).length c2 = .slice A' (needsD (xs.take k)).length c' ∧ Om fRight 86 w.heap.size W2 A' c' (needsD (xs.take k)) ∧ Fr no w W2 from
          ⟨m + 1, A2, c2, by simp, hlt, by rw [HT.out], by rw [HT.out]; exact om2.down (HF.out.trans HFW.out).size, (HF.out.trans HFW.out).trans F2⟩)
        clear om2 F2
        go_wp2_with fail
        exact ⟨REL.out, by simp [intOf]; omega⟩
    · obtain rfl : m = xs.length := by omega
      rw [List.take_of_length_le (Nat.le_refl _)] at hnl
      subst hnl
      have HO := hide om
      have HF := hide F
      clear om F
      go_wp2_with fail
      go_ret
      exact ⟨A', c', rfl, HO.out, HF.out⟩
end Go.Proofs.YtmnajpkmglmipaaGreat
