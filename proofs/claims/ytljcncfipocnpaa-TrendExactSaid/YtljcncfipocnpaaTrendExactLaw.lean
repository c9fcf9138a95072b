/- The walk of TrendExact. -/
import Derived.Test.YtljcncfipocnpaaExactN
import Derived.Test.YtljcncfipocnpaaTrendLevelLaw
import Derived.Deep.RegionHeld3
import Derived.Deep.RegionWith
import Derived.Deep.DeepCutAuto
import Derived.Deep.LoopGhost
namespace Go.Proofs.Ytljcncfipocnpaa
open Go.RowKit Fl

abbrev OpD := Int × Int × Int
def kOp : Kd OpD := .pair (.int .i64) (.pair (.int .i64) (.int .i64))
theorem forOp : Kd.For Try.prog 64 kOp := .struct Try.underlying64 (by kernel_rfl) (.cons rfl forI (.cons rfl forI (.one rfl forI64)))
theorem kOp_cells {w : World} {x : OpD} {cs : List Value} (h : kOp.K w x cs) : cs = [.int .i64 x.1, .int .i64 x.2.1, .int .i64 x.2.2] := by
  obtain ⟨c1, c2, rfl, h1, c3, c4, rfl, h3, h4⟩ := h
  obtain rfl : c1 = _ := h1
  obtain rfl : c3 = _ := h3
  obtain rfl : c4 = _ := h4
  rfl

/-- Both advise alike. -/
theorem twin_advice (g h k a : Nat) (n : Nat) (x : Int) (ha : Avg n a) (hx0 : -9223372036854775808 ≤ x) (hx1 : x ≤ 9223372036854775807) :
    ∃ r : Int, (∀ W, TrendAt W g k a n → Calls Try.prog 24 #[.pointer (some ⟨g, 0, none⟩), .int .i64 x] W fun e w' => e = .returned (.int .i64 r) ∧ w' = W) ∧
      (∀ W, RefAt W h k a n → Calls Try.prog 25 #[.pointer (some ⟨h, 0, none⟩), .int .i64 x] W fun e w' => e = .returned (.int .i64 r) ∧ w' = W) := by
  rcases Nat.eq_zero_or_pos n with h0 | h0
  · subst h0
    exact ⟨0, fun W t => advice_zero g k a x W t, fun W t => ref_advice_zero h k a x W t⟩
  · have hi : AvgIs a := ha.resolve_left (by omega)
    have hc := ceil_bound hi
    have hci : -9223372036854775808 ≤ ceilInt a ∧ ceilInt a ≤ 9223372036854775808 := by unfold ceilInt; split <;> omega
    exact ⟨adv (ceilInt a) x, fun W t => advice_any g k a n x W t (by omega) hi.fin hc hci.1 hci.2 hx0 hx1, fun W t => (ref_advice h k a n x W t (by omega) hi hx0 hx1).mono (fun e w' ⟨h1, h2⟩ => ⟨h1, h2.symm⟩)⟩
set_option maxRecDepth 100000 in
set_option maxHeartbeats 4000000 in
theorem exact_law (S S2 : Option Addr) (c c2 : Nat) (xs : List Wt) (ops : List OpD) (w : World) (hS : Kd.Row kWt w S c xs) (hS2 : Kd.Row kOp w S2 c2 ops) (hf : Hid (∀ x ∈ xs, 0 ≤ x.2.2.2 ∧ x.2.2.2 < 18446744073709551616))
    (hf2 : Hid (∀ x ∈ ops, (-9223372036854775808 ≤ x.1 ∧ x.1 ≤ 9223372036854775807) ∧ -9223372036854775808 ≤ x.2.2 ∧ x.2.2 ≤ 9223372036854775807)) (hln : ops.length ≤ 9223372036854775805) :
    Calls Try.prog 5 #[.agg #[.slice S xs.length c, .slice S2 ops.length c2]] w fun e w' => e = .returned (.bool true) ∧ Below w.heap.size w w' := by
  have hcap : ops.length ≤ c2 := hS2.1
  have hat : ∀ W', Fr no w W' → ∀ j (hj : j < ops.length), ∃ b o, S2 = some ⟨b, o, none⟩ ∧ W'.cell? ⟨b, o + j * 3, none⟩ = some (.int .i64 ops[j].1) ∧ W'.cell? ⟨b, o + j * 3 + 1, none⟩ = some (.int .i64 ops[j].2.1) ∧ W'.cell? ⟨b, o + j * 3 + 2, none⟩ = some (.int .i64 ops[j].2.2) := by
    intro W' f j hj
    obtain ⟨b, o, e, ha⟩ := hS2.2.2 (List.length_pos_iff.1 (by omega))
    obtain ⟨cells, h1, h2⟩ := (ha.loc (fun k hk => f.block k hk (fun e => e))) j hj
    have h3 := kOp_cells h1
    rw [h3] at h2
    exact ⟨b, o, e, h2 0 (by decide), h2 1 (by decide), h2 2 (by decide)⟩
  have HAT := hide hat
  have cells : ∀ W, Fr no (w.alloc (.cells #[.slice S xs.length c, .slice S2 ops.length c2] 56)) W → W.cell? ⟨w.heap.size, 0, none⟩ = some (.slice S xs.length c) ∧ W.cell? ⟨w.heap.size, 1, none⟩ = some (.slice S2 ops.length c2) ∧ w.heap.size < W.heap.size := by
    intro W f
    have b := (Blk.new w 56 #[.slice S xs.length c, .slice S2 ops.length c2]).kept0 f
    exact ⟨b.cell 0, b.cell 1, b.lt⟩
  have HC := hide cells
  have HS := hide hS
  clear cells hat hS hS2
  go_enter Try.func5, Try.ntmps5
  go_wp2_with fail
  refine (begin_walk S c xs _ (HS.out.keep ((Fr.refl no w).alloc _)) hf).mono ?_
  rintro e W1 ⟨⟨v, ts, rfl, hn, hn41, own, fr⟩, F1⟩
  obtain ⟨b, cap, cur, rfl, hb, hcp, hcm, stay, st⟩ := stay_of hn own fr
  clear own fr HS
  have hbase : w.heap.size < (w.alloc (.cells #[.slice S xs.length c, .slice S2 ops.length c2] 56)).heap.size := by simp
  generalize hB : (w.alloc (.cells #[.slice S xs.length c, .slice S2 ops.length c2] 56)).heap.size = base at *
  have last : ts.length - 1 < ts.length := by omega
  have hlast : ((ts.length : Int) - 1) = ((ts.length - 1 : Nat) : Int) := by omega
  have p0 := st.row.cell ((ts.length - 1) * 2)
  rw [stay.c0 _ last] at p0
  go_wp2_with fail
  have ha7 := (ref_note _ _ _ _ 7 W1 (st.r _ last) (stay.k _ last) (by simp) (by simp) (.inl rfl) (by decide) (by decide)).1
  refine (trend_note_any _ _ _ _ 7 _ (st.t _ last) (stay.k _ last).ok (by simp) (by simp) (.inl rfl) (by decide)).mono ?_
  rintro e W2 ⟨rfl, t2, f2⟩
  have row2 := st.row.kept f2 (stay.gb _ last).2.symm
  have r2 : RefAt W2 _ _ _ _ := Blk.kept (st.r _ last) f2 (apart (st.t _ last) (st.r _ last)).symm
  have p1 := row2.cell ((ts.length - 1) * 2 + 1)
  rw [stay.c1 _ last] at p1
  go_wp2_with fail
  refine (ref_note _ _ _ _ 7 W2 r2 (stay.k _ last) (by simp) (by simp) (.inl rfl) (by decide) (by decide)).2.mono ?_
  rintro e W3 ⟨rfl, r3, f3⟩
  have st3 := St.note stay st _ last _ ha7 t2 f2 r3 f3
  have F3 : Fr no (w.alloc (.cells #[.slice S xs.length c, .slice S2 ops.length c2] 56)) W3 := (F1.thru f2 (fun i hi e => by have := (stay.gb _ last).1; omega)).thru f3 (fun i hi e => by have := (stay.hb _ last).1; omega)
  clear p0 p1 row2 r2 t2 f2 r3 f3 st ha7 F1
  have STAY := hide stay
  clear stay hlast
  go_wp2_with fail
  go_loopw [5, 6] (fun i _ wr => ∃ (m : Nat) (av cn : Nat → Nat), i = .int .i64 m ∧ m ≤ ops.length ∧ St wr b cur ts av cn (m + 1) ∧ Fr no (w.alloc (.cells #[.slice S xs.length c, .slice S2 ops.length c2] 56)) wr) (fun i _ _ => ops.length - (intOf i).toNat)
  case atStart => exact ⟨0, _, _, rfl, Nat.zero_le _, st3.more (by omega), F3⟩
  case round =>
    clear st3 F3
    obtain ⟨m, av, cn, rfl, hm, st, F⟩ := hrel
    obtain ⟨c0, c1, hwl⟩ := HC.out _ F
    clear c0
    by_cases hlt : m < ops.length
    · obtain ⟨bb, o, rfl, q0, q1, q2⟩ := HAT.out wr (((Fr.refl no w).alloc _).trans F) m hlt
      obtain ⟨⟨x0, x1⟩, y0, y1⟩ := hf2.out _ (List.getElem_mem hlt)
      have hbb : bb < w.heap.size := by
        obtain ⟨bb', o', e, z, _⟩ := HAT.out w (Fr.refl no w) m hlt
        have e' : bb' = bb := by simp at e; exact e.1.symm
        have := World.block_lt_of_cell? w _ z
        rw [e'] at this; exact this
      obtain ⟨j, hj, jq⟩ : ∃ j, j < ts.length ∧ (bits .and .i64 ops[m].1 65535).tmod (ts.length : Int) = (j : Int) := by
        have h2 := Int.emod_nonneg ops[m].1 (show (65536 : Int) ≠ 0 by decide)
        have h3 := Int.emod_lt_of_pos (ops[m].1 % 65536) (show (0 : Int) < ts.length by omega)
        have h4 := Int.emod_nonneg (ops[m].1 % 65536) (show (ts.length : Int) ≠ 0 by omega)
        refine ⟨((ops[m].1 % 65536) % (ts.length : Int)).toNat, by omega, ?_⟩
        rw [i64_and65535, Int.tmod_eq_emod_of_nonneg h2]; omega
      have k0 := st.row.cell (j * 2)
      have k1 := st.row.cell (j * 2 + 1)
      rw [STAY.out.c0 _ hj] at k0
      rw [STAY.out.c1 _ hj] at k1
      have lb := st.row.lt
      have lbb : bb < wr.heap.size := by omega
      have hjl : (j : Int) < ts.length := by omega
      have tj := st.t j hj
      have rj := st.r j hj
      have kj := STAY.out.k j hj
      have aj := st.a j hj
      have nj := st.n j hj
      have gj := STAY.out.gb j hj
      have hjb := STAY.out.hb j hj
      have lg := Blk.lt tj
      have lh := Blk.lt rj
      have hgh := apart tj rj
      have S1 := hide (fun (W1 W2 : World) (v : Nat) (hv : AvgIs v) t1 f1 r2 f2 => St.note (W1 := W1) (W2 := W2) STAY.out st j hj v hv t1 f1 r2 f2)
      have HST := hide st
      clear st
      have hx2 : ∃ X, ops[m].2.2 = X := ⟨_, rfl⟩
      obtain ⟨X, hX⟩ := hx2
      rw [hX] at q2 y0 y1
      have hk2 : ∃ K, ops[m].2.1 = K := ⟨_, rfl⟩
      obtain ⟨K, hK⟩ := hk2
      rw [hK] at q1
      go_upto_region 10 with fail
      have B := Blk.new wr 62 #[.pointer (some ⟨ts[j].g, 0, none⟩), .pointer (some ⟨ts[j].h, 0, none⟩)]
      have d0 := (World.cell?_of_block (w := wr) (w' := wr.alloc (.cells #[.pointer (some ⟨ts[j].g, 0, none⟩), .pointer (some ⟨ts[j].h, 0, none⟩)] 62)) (heap_alloc_old wr _ hwl)).trans c1
      have d1 := (World.cell?_of_block (w := wr) (w' := wr.alloc (.cells #[.pointer (some ⟨ts[j].g, 0, none⟩), .pointer (some ⟨ts[j].h, 0, none⟩)] 62)) (heap_alloc_old wr _ lbb)).trans q1
      have d2 := (World.cell?_of_block (w := wr) (w' := wr.alloc (.cells #[.pointer (some ⟨ts[j].g, 0, none⟩), .pointer (some ⟨ts[j].h, 0, none⟩)] 62)) (heap_alloc_old wr _ lbb)).trans q2
      have tj4 : TrendAt (wr.alloc (.cells #[.pointer (some ⟨ts[j].g, 0, none⟩), .pointer (some ⟨ts[j].h, 0, none⟩)] 62)) _ _ _ _ := Blk.alloc tj _
      have rj4 : RefAt (wr.alloc (.cells #[.pointer (some ⟨ts[j].g, 0, none⟩), .pointer (some ⟨ts[j].h, 0, none⟩)] 62)) _ _ _ _ := Blk.alloc rj _
      have A4 := (Fr.refl no wr).alloc (.cells #[.pointer (some ⟨ts[j].g, 0, none⟩), .pointer (some ⟨ts[j].h, 0, none⟩)] 62)
      clear c1 q0 q1 q2 k0 k1 tj rj jq
      obtain ⟨W4, hW4⟩ : ∃ W4, wr.alloc (.cells #[.pointer (some ⟨ts[j].g, 0, none⟩), .pointer (some ⟨ts[j].h, 0, none⟩)] 62) = W4 := ⟨_, rfl⟩
      rw [hW4] at B d0 d1 d2 tj4 rj4 A4 ⊢
      clear hW4
      have hgw : ts[j].g < wr.heap.size ∧ ts[j].h < wr.heap.size := ⟨lg, lh⟩
      generalize wr.heap.size = gw at *
      have HK := hide (fun (W' : World) (f : Fr (fun k => k = ts[j].g ∨ k = ts[j].h) W4 W') =>
        (⟨(B.kept f (by omega)).cell 0, (B.kept f (by omega)).cell 1,
          (World.cell?_of_block (f.block _ (World.block_lt_of_cell? W4 _ d0) (by simp only []; omega))).trans d0,
          (World.cell?_of_block (f.block _ (World.block_lt_of_cell? W4 _ d1) (by simp only []; omega))).trans d1,
          (World.cell?_of_block (f.block _ (World.block_lt_of_cell? W4 _ d2) (by simp only []; omega))).trans d2⟩ :
        W'.cell? ⟨gw, 0, none⟩ = some (.pointer (some ⟨ts[j].g, 0, none⟩)) ∧ W'.cell? ⟨gw, 1, none⟩ = some (.pointer (some ⟨ts[j].h, 0, none⟩)) ∧ W'.cell? ⟨w.heap.size, 1, none⟩ = some (.slice (some ⟨bb, o, none⟩) ops.length c2) ∧ W'.cell? ⟨bb, o + m * 3 + 1, none⟩ = some (.int .i64 K) ∧ W'.cell? ⟨bb, o + m * 3 + 2, none⟩ = some (.int .i64 X)))
      have v1 := (ref_note _ _ _ _ X W4 rj4 kj (by omega) (by omega) (aj.elim (fun h => .inl (by omega)) .inr) y0 y1).1
      obtain ⟨e0, e1, e2, e3, e4⟩ := HK.out W4 (Fr.refl _ _)
      have HF := hide (fun (W' : World) (f : Fr (fun k => k = ts[j].g ∨ k = ts[j].h) W4 W') => (F.trans0 A4).thru f (fun i hi e => by have := hbase; have := gj.1; have := hjb.1; omega))
      by_cases hK1 : K = 1
      · subst hK1
        go_upto_region 12 with fail
        go_region_held3 (fun W' => W'.cell? ⟨gw, 0, none⟩ = some (.pointer (some ⟨ts[j].g, 0, none⟩)) ∧ W'.cell? ⟨gw, 1, none⟩ = some (.pointer (some ⟨ts[j].h, 0, none⟩)) ∧ W'.cell? ⟨w.heap.size, 1, none⟩ = some (.slice (some ⟨bb, o, none⟩) ops.length c2) ∧ W'.cell? ⟨bb, o + m * 3 + 1, none⟩ = some (.int .i64 1) ∧ W'.cell? ⟨bb, o + m * 3 + 2, none⟩ = some (.int .i64 X))
          (first | exact HK.out _ (Fr.refl _ _).drew | exact HK.out _ ‹_›)
          (first
            | (go_at_call 20; refine (trend_note_any _ _ _ _ X _ (Blk.drew tj4) kj.ok (by omega) (by omega) (aj.elim (fun h => .inl (by omega)) (fun h => .inr h.fin)) (by omega)).mono ?_; rintro e w' ⟨rfl, t5, f5⟩; have G5 : Fr (fun k => k = ts[j].g ∨ k = ts[j].h) W4 w' := (Fr.refl _ W4).drew.thru f5 (fun _ _ e => .inl e)))
        all_goals
          go_upto_region 13 with fail
          have r5 : RefAt _ _ _ _ _ := Blk.kept (Blk.drew rj4) f5 hgh.symm
          obtain ⟨u0, u1, u2, u3, u4⟩ := HK.out _ G5
          go_region_held3 (fun W' => W'.cell? ⟨gw, 0, none⟩ = some (.pointer (some ⟨ts[j].g, 0, none⟩)) ∧ W'.cell? ⟨gw, 1, none⟩ = some (.pointer (some ⟨ts[j].h, 0, none⟩)) ∧ W'.cell? ⟨w.heap.size, 1, none⟩ = some (.slice (some ⟨bb, o, none⟩) ops.length c2) ∧ W'.cell? ⟨bb, o + m * 3 + 1, none⟩ = some (.int .i64 1) ∧ W'.cell? ⟨bb, o + m * 3 + 2, none⟩ = some (.int .i64 X))
            (first | exact HK.out _ G5.drew | exact HK.out _ ‹_›)
            (first
              | (go_at_call 23; refine (ref_note _ _ _ _ X _ (Blk.drew r5) kj (by omega) (by omega) (aj.elim (fun h => .inl (by omega)) .inr) y0 y1).2.mono ?_; rintro e w2 ⟨rfl, r6, f6⟩; have G6 := Fr.thru (Fr.drew G5) f6 (fun _ _ e => .inr e)))
          all_goals
            have STF := S1.out _ _ _ v1 t5 ((Fr.mono (Fr.drew A4) (fun _ _ e => e.elim)).trans f5) r6 ((Fr.refl _ _).drew.trans f6)
            have FALL := HF.out _ G6
            have GALL := G6
            obtain ⟨z0, z1, z2, z3, z4⟩ := HK.out _ GALL
            have tF := STF.t j hj
            have rF := STF.r j hj
            have aF := STF.a j hj
            clear e0 e1 e2 e3 e4
            go_wp2_with fail
            refine (twin_same _ _ _ _ _ _ tF rF aF).mono ?_
            rintro e w9 ⟨rfl, f9⟩
            have REL := hide (⟨m + 1, _, _, rfl, hlt, STF.kept f9, FALL.trans f9⟩ : ∃ (k : Nat) (av cn : Nat → Nat), Value.int .i64 (((m + 1 : Nat) : Int)) = .int .i64 k ∧ k ≤ ops.length ∧ St w9 b cur ts av cn (k + 1) ∧ Fr no (w.alloc (.cells #[.slice S xs.length c, .slice (some ⟨bb, o, none⟩) ops.length c2] 56)) w9)
            clear STF FALL tF rF aF f9 z0 z1 z2 z3 z4
            go_wp2_with fail
            exact ⟨REL.out, by simp [intOf]; omega⟩
      · by_cases hK2 : K = 2
        · subst hK2
          obtain ⟨rr, P1, P2⟩ := twin_advice ts[j].g ts[j].h ts[j].k (av j) (cn j) X aj y0 y1
          have P1 := hide P1
          have P2 := hide P2
          go_upto_region 15 with fail
          go_region_held3 (fun W' => W'.cell? ⟨gw, 0, none⟩ = some (.pointer (some ⟨ts[j].g, 0, none⟩)) ∧ W'.cell? ⟨gw, 1, none⟩ = some (.pointer (some ⟨ts[j].h, 0, none⟩)) ∧ W'.cell? ⟨w.heap.size, 1, none⟩ = some (.slice (some ⟨bb, o, none⟩) ops.length c2) ∧ W'.cell? ⟨bb, o + m * 3 + 1, none⟩ = some (.int .i64 2) ∧ W'.cell? ⟨bb, o + m * 3 + 2, none⟩ = some (.int .i64 X))
            (first | exact HK.out _ (Fr.refl _ _).drew | assumption)
            (first
              | (go_at_call 24; refine (P1.out _ (Blk.drew tj4)).mono ?_; rintro e w' ⟨rfl, rfl⟩)
              | (go_at_call 25; refine (P2.out _ (Blk.drew rj4)).mono ?_; rintro e w' ⟨rfl, rfl⟩))
          all_goals
            have STF := ((HST.out.kept A4).kept (Fr.refl no W4).drew).more (Nat.le_succ (m + 1))
            have FALL := (F.trans0 A4).drew
            have GALL : Fr (fun k => k = ts[j].g ∨ k = ts[j].h) W4 W4.drew := (Fr.refl _ _).drew
            obtain ⟨z0, z1, z2, z3, z4⟩ := HK.out _ GALL
            have tF := STF.t j hj
            have rF := STF.r j hj
            have aF := STF.a j hj
            clear e0 e1 e2 e3 e4
            go_wp2_with fail
            refine (twin_same _ _ _ _ _ _ tF rF aF).mono ?_
            rintro e w9 ⟨rfl, f9⟩
            have REL := hide (⟨m + 1, _, _, rfl, hlt, STF.kept f9, FALL.trans f9⟩ : ∃ (k : Nat) (av cn : Nat → Nat), Value.int .i64 (((m + 1 : Nat) : Int)) = .int .i64 k ∧ k ≤ ops.length ∧ St w9 b cur ts av cn (k + 1) ∧ Fr no (w.alloc (.cells #[.slice S xs.length c, .slice (some ⟨bb, o, none⟩) ops.length c2] 56)) w9)
            clear STF FALL tF rF aF f9 z0 z1 z2 z3 z4
            go_wp2_with fail
            exact ⟨REL.out, by simp [intOf]; omega⟩
        · have K1 : (K == 1) = false := by simpa using hK1
          have K2 : (K == 2) = false := by simpa using hK2
          have STF := (HST.out.kept A4).more (Nat.le_succ (m + 1))
          have FALL := F.trans0 A4
          have GALL : Fr (fun k => k = ts[j].g ∨ k = ts[j].h) W4 W4 := Fr.refl _ _
          clear hK1 hK2
          obtain ⟨z0, z1, z2, z3, z4⟩ := HK.out _ GALL
          have tF := STF.t j hj
          have rF := STF.r j hj
          have aF := STF.a j hj
          clear e0 e1 e2 e3 e4
          go_wp2_with fail
          refine (twin_same _ _ _ _ _ _ tF rF aF).mono ?_
          rintro e w9 ⟨rfl, f9⟩
          have REL := hide (⟨m + 1, _, _, rfl, hlt, STF.kept f9, FALL.trans f9⟩ : ∃ (k : Nat) (av cn : Nat → Nat), Value.int .i64 (((m + 1 : Nat) : Int)) = .int .i64 k ∧ k ≤ ops.length ∧ St w9 b cur ts av cn (k + 1) ∧ Fr no (w.alloc (.cells #[.slice S xs.length c, .slice (some ⟨bb, o, none⟩) ops.length c2] 56)) w9)
          clear STF FALL tF rF aF f9 z0 z1 z2 z3 z4
          go_wp2_with fail
          exact ⟨REL.out, by simp [intOf]; omega⟩
    · have st0 := hide st
      have F0 := hide F
      clear st F hwl
      have hlt' : ¬ (m : Int) < ops.length := by omega
      go_wp2_with fail
      clear c1 hlt'
      go_loopw [7] (fun i wy => ∃ k : Nat, i = .int .i64 k ∧ k ≤ ts.length ∧ St wy b cur ts av cn (m + 1) ∧ Fr no (w.alloc (.cells #[.slice S xs.length c, .slice S2 ops.length c2] 56)) wy) (fun i _ => ts.length - (intOf i).toNat)
      case atStart => exact ⟨0, rfl, Nat.zero_le _, st0.out, F0.out⟩
      case round =>
        obtain ⟨k, rfl, hk, st, F⟩ := hrel
        by_cases hkl : k < ts.length
        · have k0 := st.row.cell (k * 2)
          have k1 := st.row.cell (k * 2 + 1)
          rw [STAY.out.c0 _ hkl] at k0
          rw [STAY.out.c1 _ hkl] at k1
          have tF := st.t k hkl
          have rF := st.r k hkl
          have aF := st.a k hkl
          have HST := hide st
          clear st st0 F0
          go_wp2_with fail
          refine (twin_same _ _ _ _ _ _ tF rF aF).mono ?_
          rintro e w9 ⟨rfl, f9⟩
          have REL := hide (⟨k + 1, rfl, hkl, HST.out.kept f9, F.trans f9⟩ : ∃ (q : Nat), Value.int .i64 (((k + 1 : Nat) : Int)) = .int .i64 q ∧ q ≤ ts.length ∧ St w9 b cur ts av cn (m + 1) ∧ Fr no (w.alloc (.cells #[.slice S xs.length c, .slice S2 ops.length c2] 56)) w9)
          clear HST F tF rF aF f9 k0 k1
          go_wp2_with fail
          exact ⟨REL.out, by simp [intOf]; omega⟩
        · have FF := (((Fr.refl no w).alloc _).trans F).below
          clear st F st0 F0
          go_wp2_with fail
          go_ret
          exact ⟨rfl, FF⟩
end Go.Proofs.Ytljcncfipocnpaa
