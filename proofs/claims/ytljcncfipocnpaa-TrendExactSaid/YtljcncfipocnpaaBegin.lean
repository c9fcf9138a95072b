/- Contract of the law's begin. -/
import Derived.Test.YtljcncfipocnpaaBeginN
import Derived.Deep.DeepCutAuto
import Derived.Deep.LoopGhost
namespace Go.Proofs.Ytljcncfipocnpaa
open Go.RowKit Fl

theorem cells_two' {w : World} {n : Nat} (hn : w.heap.size = n) (x y : Value) (t : TypeId) : ∀ j u, [x, y][j]? = some u → (w.alloc (.cells #[x, y] t)).cell? ((⟨n, 0, none⟩ : Addr).add j) = some u := by
  subst hn; exact cells_two w x y t
theorem info_twin : (Try.prog.info? 62).map (fun i => (i.zero, i.size, i.bytes)) = some (some (.agg #[.pointer none, .pointer none]), 2, 16) := by kernel_rfl
set_option maxRecDepth 100000 in
set_option maxHeartbeats 4000000 in
theorem begin_walk (S : Option Addr) (c : Nat) (xs : List Wt) (w : World) (hS : Kd.Row kWt w S c xs) (hf : Hid (∀ x ∈ xs, 0 ≤ x.2.2.2 ∧ x.2.2.2 < 18446744073709551616)) :
    Calls Try.prog 22 #[.slice S xs.length c] w fun e w' => (∃ v ts, e = .returned (.tuple #[v, .bool true]) ∧ 0 < ts.length ∧ ts.length ≤ 41 ∧ w'.ownsRow w.heap.size 62 2 v ts.length (flat ts) ∧ Fresh w' w.heap.size v.ownBlock ts) ∧ Fr no w w' := by
  obtain ⟨i0, hi, hz0, hz1, hz2⟩ := info_parts info_twin
  have hln : xs.length ≤ 9223372036854775807 := by have := hS.1; have := hS.2.1; simp only [maxLen] at this; omega
  have hcap : xs.length ≤ c := hS.1
  have hat : ∀ W', Fr no w W' → ∀ j (hj : j < xs.length), ∃ b o, S = some ⟨b, o, none⟩ ∧ W'.cell? ⟨b, o + j * 4, none⟩ = some (.int .i64 xs[j].1) ∧ W'.cell? ⟨b, o + j * 4 + 1, none⟩ = some (.int .i64 xs[j].2.1) ∧ W'.cell? ⟨b, o + j * 4 + 2, none⟩ = some (.bool xs[j].2.2.1) ∧ W'.cell? ⟨b, o + j * 4 + 3, none⟩ = some (.int .u64 xs[j].2.2.2) := by
    intro W' f j hj
    obtain ⟨b, o, e, ha⟩ := hS.2.2 (List.length_pos_iff.1 (by omega))
    obtain ⟨cells, h1, h2⟩ := (ha.loc (fun k hk => f.block k hk (fun e => e))) j hj
    have h3 := kWt_cells h1
    rw [h3] at h2
    exact ⟨b, o, e, h2 0 (by decide), h2 1 (by decide), h2 2 (by decide), h2 3 (by decide)⟩
  have HAT := hide hat
  clear hat hS
  go_enter Try.func22, Try.ntmps22
  go_wp2_with fail
  go_loopw [4, 5, 6, 7, 8, 9] (fun v i _ _ _ _ wr => ∃ (m : Nat) (ts : List TW), i = .int .i64 m ∧ m ≤ xs.length ∧ m ≤ 40 ∧ ts.length ≤ m ∧ wr.ownsRow w.heap.size 62 2 v ts.length (flat ts) ∧ Fresh wr w.heap.size v.ownBlock ts ∧ Fr no w wr) (fun _ i _ _ _ _ _ => xs.length - (intOf i).toNat)
  case atStart => exact ⟨0, [], rfl, Nat.zero_le _, by decide, Nat.le_refl _, World.ownsRow_nil w _ _ _, Fresh.nil _ _ _, Fr.refl _ _⟩
  case round =>
    obtain ⟨m, ts, rfl, hm, hm40, hts, hown, hfr, F⟩ := hrel
    by_cases hlt : m < xs.length ∧ m < 40
    · obtain ⟨b, o, rfl, q0, q1, q2, q3⟩ := HAT.out wr F m hlt.1
      have hlt1 := hlt.1
      have hlt2 := hlt.2
      have hbits := hf.out _ (List.getElem_mem hlt1)
      go_wp2_with fail
      refine (weight_value xs[m] _).mono ?_
      rintro e W1 ⟨⟨b1, rfl, v1⟩, F1⟩
      have hv1 := hide (val_keep v1 hbits)
      go_wp2_with fail
      by_cases hk : KeepOk b1 = true
      · refine (trend_new_ok b1 _ hk).mono ?_
        rintro e W2 ⟨rfl, t1, F2⟩
        have G2 := (F.trans F1).trans F2
        have hq := HAT.out W2 G2 m hlt1
        obtain ⟨b', o', hbo, p0, p1, p2, p3⟩ := hq
        obtain ⟨rfl, rfl⟩ : b' = b ∧ o' = o := by simp at hbo; exact ⟨hbo.1.symm, hbo.2.symm⟩
        clear hbo q0 q1 q2 q3
        go_wp2_with fail
        refine (weight_value xs[m] _).mono ?_
        rintro e W3 ⟨⟨b2, rfl, v2⟩, F3⟩
        obtain rfl := (v1.alike v2).2 hk
        have hbits1 := fun W => run_bits b1 W
        go_wp2_with fail
        have hkk := hv1.out
        rw [hk] at hkk
        have hKI := hide (keep_is (hkk.1 rfl) hk)
        have hk1 := (of_decide_eq_true hkk.2.symm).1
        have hk2 := (of_decide_eq_true hkk.2.symm).2
        refine (ref_new_ok b1 _ hk1 hk2).mono ?_
        rintro e W4 ⟨rfl, r1, F4⟩
        have t3 : TrendAt W4 _ _ _ _ := Blk.kept0 (Blk.kept0 t1 F3) F4
        have l1 : wr.heap.size ≤ W1.heap.size := F1.size
        have l2 : wr.heap.size ≤ W3.heap.size := (F1.trans (F2.trans F3)).size
        have FF := ((F1.trans F2).trans F3).trans F4
        have own4 := ownsRow_kept hown FF
        have hlt4 := hown.lt
        have fr4 : Fresh W4 w.heap.size u4.ownBlock (ts ++ [⟨W1.heap.size, W3.heap.size, b1⟩]) := (hfr.kept FF).snoc (s := wr.heap.size) (fun t ht => ⟨Blk.lt (hfr.t t ht), Blk.lt (hfr.r t ht)⟩) l1 l2 F.size (fun b hb => (hlt4 b hb).2) t3 r1 hKI.out
        have F5 := F.trans FF
        clear hkk hk1 hk2 hKI t3 t1 r1 F1 F2 F3 F4 FF hown hfr hlt4 hv1 v1 v2 p0 p1 p2 p3 F hk hbits1 l1 l2
        generalize W1.heap.size = g at *
        generalize W3.heap.size = h at *
        have hw0 : w.heap.size ≤ W4.heap.size := F5.size
        have htl : ts.length ≤ 40 := by omega
        go_wp2_with (first
          | (go_at_call 17; refine (trend_num _ _).mono ?_; rintro e W' ⟨rfl, rfl⟩)
          | (at_builtin; refine wpList_append_own_at _ rfl _ _ 57 rfl w.heap.size 62 i0 (.agg #[.pointer none, .pointer none]) 2 16 Try.underlying57 hi hz0 hz1 hz2 rfl (by decide) _ _ _ rfl (ownsRow_kept own4 ((Fr.refl _ _).alloc _)) ⟨W4.heap.size, 0, none⟩ 1 1 (TW.cells ⟨g, h, b1⟩) rfl rfl (cells_two _ _ _ _) (by simp [TW.cells, Value.oneCell']) (by simp only [maxLen]; omega) (by omega) (by simp; omega) ?_))
        intro v' w1 hown1 hgrow _ hatt
        have hG := Fr.of_grown hgrow
        have fr5 := (fr4.kept ((Fr.refl no W4).alloc (.cells #[.pointer (some ⟨g, 0, none⟩), .pointer (some ⟨h, 0, none⟩)] 62))).grown hG (by simpa using hatt)
        have hob := own4.lt
        have F6 : Fr no w w1 := (F5.alloc (.cells #[.pointer (some ⟨g, 0, none⟩), .pointer (some ⟨h, 0, none⟩)] 62)).thru hG (fun i hi e => absurd hi (by have := (hob i e.symm).1; omega))
        rw [← flat_append] at hown1
        have hown2 : w1.ownsRow w.heap.size 62 2 v' (ts ++ [(⟨g, h, b1⟩ : TW)]).length (flat (ts ++ [(⟨g, h, b1⟩ : TW)])) := by rw [List.length_append]; exact hown1
        have REL := hide (⟨m + 1, ts ++ [(⟨g, h, b1⟩ : TW)], by simp, hlt1, by omega, by rw [List.length_append]; simp; omega, hown2, fr5, F6⟩ : ∃ (k : Nat) (us : List TW), Value.int .i64 ((m : Int) + 1) = .int .i64 k ∧ k ≤ xs.length ∧ k ≤ 40 ∧ us.length ≤ k ∧ w1.ownsRow w.heap.size 62 2 v' us.length (flat us) ∧ Fresh w1 w.heap.size v'.ownBlock us ∧ Fr no w w1)
        clear hown1 hgrow hatt hG fr5 hob F6 hown2 fr4 own4 F5 hw0
        go_wp2_with fail
        exact ⟨REL.out, by simp [intOf]; omega⟩
      · refine (trend_new_no b1 _ (by simpa using hk)).mono ?_
        rintro e W2 ⟨rfl, e2⟩
        subst e2
        have G2 := F.trans F1
        obtain ⟨b', o', hbo, p0, p1, p2, p3⟩ := HAT.out _ G2 m hlt1
        obtain ⟨rfl, rfl⟩ : b' = b ∧ o' = o := by simp at hbo; exact ⟨hbo.1.symm, hbo.2.symm⟩
        clear hbo q0 q1 q2 q3
        go_wp2_with fail
        refine (weight_value xs[m] _).mono ?_
        rintro e W3 ⟨⟨b2, rfl, v2⟩, F3⟩
        have hbits1 := fun W => run_bits b2 W
        have hv2 := hide (val_keep v2 hbits)
        have hkb : KeepOk b2 = false := by rw [← (v1.alike v2).1]; simpa using hk
        go_wp2_with fail
        have hkk := hv2.out.2
        rw [hkb] at hkk
        refine (ref_new_no b2 _ (of_decide_eq_false hkk.symm)).mono ?_
        rintro e W4 ⟨rfl, rfl⟩
        have F5 := G2.trans F3
        have own4 := ownsRow_kept hown (F1.trans F3)
        have fr4 := hfr.kept (F1.trans F3)
        clear hkk hkb hv2 hbits1 hv1 v1 v2 p0 p1 p2 p3 hown hfr F hk
        have REL := hide (⟨m + 1, ts, by simp, hlt1, by omega, by omega, own4, fr4, F5⟩ : ∃ (k : Nat) (us : List TW), Value.int .i64 ((m : Int) + 1) = .int .i64 k ∧ k ≤ xs.length ∧ k ≤ 40 ∧ us.length ≤ k ∧ W3.ownsRow w.heap.size 62 2 u4 us.length (flat us) ∧ Fresh W3 w.heap.size u4.ownBlock us ∧ Fr no w W3)
        clear own4 fr4 F5 F1 F3 G2
        go_wp2_with (go_at_call 17; refine (trend_num _ _).mono ?_; rintro e W' ⟨rfl, rfl⟩)
        exact ⟨REL.out, by simp [intOf]; omega⟩
    · have hkh : KeepOk 4602678819172646912 = true := by decide +kernel
      have hKI := hide (keep_is (by decide) hkh)
      have hc2 : (¬ (m : Int) < xs.length) ∨ ((m : Int) < xs.length ∧ ¬ (m : Int) < 40) := by omega
      have hbits1 := fun W => run_bits 4602678819172646912 W
      have htl : ts.length ≤ 40 := by omega
      clear hlt
      rcases hc2 with hlt | ⟨hlt1, hlt2⟩
      all_goals
        go_wp2_with fail
        refine (trend_new_ok 4602678819172646912 _ hkh).mono ?_
        rintro e W2 ⟨rfl, t1, F2⟩
        have own2 := ownsRow_kept hown F2
        have hlt2 := hown.lt
        have r1 : RefAt (W2.alloc (.cells #[.int .u64 4602678819172646912, .int .u64 0, .int .i64 0] 80)) W2.heap.size 4602678819172646912 0 0 := Blk.new _ _ _
        have fr3 : Fresh (W2.alloc (.cells #[.int .u64 4602678819172646912, .int .u64 0, .int .i64 0] 80)) w.heap.size u4.ownBlock (ts ++ [(⟨wr.heap.size, W2.heap.size, 4602678819172646912⟩ : TW)]) :=
          (hfr.kept (F2.alloc _)).snoc (s := wr.heap.size) (fun t ht => ⟨Blk.lt (hfr.t t ht), Blk.lt (hfr.r t ht)⟩) (Nat.le_refl _) F2.size F.size (fun b hb => (hlt2 b hb).2) (Blk.alloc t1 _) r1 hKI.out
        have F3 : Fr no w (W2.alloc (.cells #[.int .u64 4602678819172646912, .int .u64 0, .int .i64 0] 80)) := (F.trans F2).alloc _
        have hw0 : w.heap.size ≤ W2.heap.size := (F.trans F2).size
        clear hown hfr F F2 t1 r1 hKI hkh
        generalize wr.heap.size = g at *
        go_wp2_with (first
          | (go_at_call 17; refine (trend_num _ _).mono ?_; rintro e W' ⟨rfl, rfl⟩)
          | (at_builtin; refine wpList_append_own_at _ rfl _ _ 57 rfl w.heap.size 62 i0 (.agg #[.pointer none, .pointer none]) 2 16 Try.underlying57 hi hz0 hz1 hz2 rfl (by decide) _ _ _ rfl (ownsRow_kept own2 (((Fr.refl _ _).alloc _).alloc _)) ⟨W2.heap.size + 1, 0, none⟩ 1 1 (TW.cells ⟨g, W2.heap.size, 4602678819172646912⟩) rfl rfl (cells_two' (by simp) _ _ _) (by simp [TW.cells, Value.oneCell']) (by simp only [maxLen]; omega) (by omega) (by simp; omega) ?_))
        intro v' w1 hown1 hgrow _ hatt
        have hG := Fr.of_grown hgrow
        have fr5 := (fr3.kept ((Fr.refl no _).alloc (.cells #[.pointer (some ⟨g, 0, none⟩), .pointer (some ⟨W2.heap.size, 0, none⟩)] 62))).grown hG (by simpa using hatt)
        have hob := own2.lt
        have F6 : Fr no w w1 := (F3.alloc (.cells #[.pointer (some ⟨g, 0, none⟩), .pointer (some ⟨W2.heap.size, 0, none⟩)] 62)).thru hG (fun i hi e => absurd hi (by have := (hob i e.symm).1; omega))
        rw [← flat_append] at hown1
        have REL := hide (⟨v', ts ++ [(⟨g, W2.heap.size, 4602678819172646912⟩ : TW)], rfl, by simp, by simp; omega, by rw [List.length_append]; exact hown1, fr5⟩ : ∃ (v : Value) (us : List TW), Ending.returned (.tuple #[v', .bool true]) = .returned (.tuple #[v, .bool true]) ∧ 0 < us.length ∧ us.length ≤ 41 ∧ w1.ownsRow w.heap.size 62 2 v us.length (flat us) ∧ Fresh w1 w.heap.size v.ownBlock us)
        clear hown1 hgrow hatt hG fr5 hob fr3 own2 F3 hw0
        go_wp2_with fail
        go_ret2
        exact ⟨REL.out, F6⟩
end Go.Proofs.Ytljcncfipocnpaa
