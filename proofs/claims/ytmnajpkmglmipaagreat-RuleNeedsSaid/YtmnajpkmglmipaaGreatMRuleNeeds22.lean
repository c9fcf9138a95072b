/- RuleL LawN LawNW -/
import Derived.Test.YtmnajpkmglmipaaGreatMRuleNeeds21
import Derived.Test.YtmnajpkmglmipaaGreatMRuleNeeds18
import Derived.Test.YtmnajpkmglmipaaGreatMRuleNeeds19
import Derived.Test.YtmnajpkmglmipaaGreatMRuleNeeds20
/- States and acts as data; RuleRaw's walk. -/
namespace Go.Proofs.YtmnajpkmglmipaaGreat
open Go.RowKit

abbrev StateT := Int × List PoolD × List PricedD × List NumD × List NumD × List OweD
def kState : Kd StateT := .pair (.int .u64) (.pair (.slice 48 kPool) (.pair (.slice 16 kPriced) (.pair (.slice 8 kNum) (.pair (.slice 8 kNum) (.slice 1 kOwe)))))
def stL (x : StateT) : StL := ⟨x.2.1, x.2.2.1, x.2.2.2.1, x.2.2.2.2.1, x.2.2.2.2.2⟩
theorem st_of {w : World} {x : StateT} {cs : List Value} (h : kState.K w x cs) : ∃ s : StV, cs = [.int .u64 s.q, .slice s.P s.np s.cp, .slice s.R s.nr s.cr, .slice s.L s.nl s.cl, .slice s.G s.ng s.cg, .slice s.O s.no s.co] ∧ StOk w s (stL x) := by
  obtain ⟨c0, d0, rfl, h0, c1, d1, rfl, ⟨P, cp, rfl, hP⟩, c2, d2, rfl, ⟨R, cr, rfl, hR⟩, c3, d3, rfl, ⟨L, cl, rfl, hL⟩, c4, d4, rfl, ⟨G, cg, rfl, hG⟩, O, co, rfl, hO⟩ := h
  obtain rfl : c0 = _ := h0
  exact ⟨⟨x.1, P, x.2.1.length, cp, R, x.2.2.1.length, cr, L, x.2.2.2.1.length, cl, G, x.2.2.2.2.1.length, cg, O, x.2.2.2.2.2.length, co⟩, rfl, rfl, rfl, rfl, rfl, rfl, hP, .of_row rPriced hR, .of_row rNum hL, .of_row rNum hG, .of_row rOwe hO⟩
theorem st_fit {x : StateT} (h : kState.Fit x) : StFit (stL x) := by
  obtain ⟨-, ⟨h1, h2⟩, ⟨h3, -⟩, ⟨h4, -⟩, ⟨h5, -⟩, ⟨h6, -⟩⟩ := h
  exact ⟨h1, fun p hp => (h2 p hp).2.2.1, h3, h4, h5, h6⟩
abbrev ActT := (Int × Int) × Int × Bool × List LineD × List GuardD × List SetD × (Int × List LineD) × RightD × Int × Int × List RightD
def kAct : Kd ActT := .pair (.pair (.int .i64) (.int .u64)) (.pair (.int .i64) (.pair .bool (.pair (.slice 16 kLine) (.pair (.slice 24 kGuard) (.pair (.slice 24 kSet) (.pair (.pair (.int .i64) (.slice 16 kLine)) (.pair kRight (.pair (.int .i64) (.pair (.int .u64) (.slice 24 kRight))))))))))
def actL (x : ActT) : ActL := ⟨x.2.2.2.1, x.2.2.2.2.1, x.2.2.2.2.2.1, x.2.2.2.2.2.2.1.2, x.2.2.2.2.2.2.2.2.2.2⟩
theorem line_wf {x : LineD} (h : kLine.Fit x) : WfL x := ⟨h.1, h.2⟩
theorem act_of {w : World} {x : ActT} {cs : List Value} (h : kAct.K w x cs) (hf : kAct.Fit x) : ∃ a : ActV, cs = [.int .i64 a.t, .int .u64 a.n, .int .i64 a.k, .bool a.sure, .slice a.lA a.ln a.lc, .slice a.gA a.gn a.gc, .slice a.sA a.sn a.sc, .int .i64 a.mq, .slice a.oA a.on a.oc, .int .i64 a.r1, .int .i64 a.r2, .int .i64 a.r3, .int .i64 a.tu, .int .u64 a.gen, .slice a.hA a.hn a.hc] ∧ ActOk w a (actL x) := by
  obtain ⟨c0, d0, rfl, ⟨e0, e1, rfl, h0, h1⟩, c2, d2, rfl, h2, c3, d3, rfl, h3, c4, d4, rfl, ⟨lA, lc, rfl, hl⟩, c5, d5, rfl, ⟨gA, gc, rfl, hg⟩, c6, d6, rfl, ⟨sA, sc, rfl, hs⟩, c7, d7, rfl, ⟨e2, e3, rfl, h7, oA, oc, rfl, ho⟩, c8, d8, rfl, h8, c9, d9, rfl, h9, c10, d10, rfl, h10, hA, hc, rfl, hh⟩ := h
  obtain rfl : e0 = _ := h0
  obtain rfl : e1 = _ := h1
  obtain rfl : c2 = _ := h2
  obtain rfl : c3 = _ := h3
  obtain rfl : e2 = _ := h7
  obtain rfl : c9 = _ := h9
  obtain rfl : c10 = _ := h10
  have e8 := rRight.2 _ _ _ h8
  subst e8
  obtain ⟨-, -, -, ⟨f1, f2⟩, ⟨f3, -⟩, ⟨f4, -⟩, ⟨-, f5, f6⟩, -, -, -, f7, -⟩ := hf
  exact ⟨{ t := x.1.1, n := x.1.2, k := x.2.1, sure := x.2.2.1, lA := lA, ln := x.2.2.2.1.length, lc := lc, gA := gA, gn := x.2.2.2.2.1.length, gc := gc, sA := sA, sn := x.2.2.2.2.2.1.length, sc := sc, mq := x.2.2.2.2.2.2.1.1, oA := oA, on := x.2.2.2.2.2.2.1.2.length, oc := oc, r1 := x.2.2.2.2.2.2.2.1.1, r2 := x.2.2.2.2.2.2.2.1.2.1, r3 := x.2.2.2.2.2.2.2.1.2.2, tu := x.2.2.2.2.2.2.2.2.1, gen := x.2.2.2.2.2.2.2.2.2.1, hA := hA, hn := x.2.2.2.2.2.2.2.2.2.2.length, hc := hc },
    rfl, rfl, rfl, rfl, rfl, rfl, fun y hy => line_wf (f2 y hy), fun y hy => line_wf (f6 y hy), f1, f4, f5, .of_row rLine hl, .of_row rGuard hg, .of_row rSet hs, .of_row rLine ho, .of_row rRight hh⟩
theorem act_fit {x : ActT} (h : kAct.Fit x) : (actL x).gs.length * 24 ≤ 140737488351232 ∧ (actL x).rs.length * 24 ≤ 140737488351232 := by
  obtain ⟨-, -, -, -, ⟨f3, -⟩, -, -, -, -, -, f7, -⟩ := h
  exact ⟨f3, f7⟩
theorem forInt64 : Kd.For Tryz.prog 2 (.int .i64) := .int Tryz.underlying2 (by kernel_rfl)
theorem forInt : Kd.For Tryz.prog 3 (.int .i64) := .int Tryz.underlying3 (by kernel_rfl)
theorem forU64 : Kd.For Tryz.prog 71 (.int .u64) := .int Tryz.underlying71 (by kernel_rfl)
theorem forBool : Kd.For Tryz.prog 4 .bool := .bool Tryz.underlying4 (by kernel_rfl)
theorem forTwo : Kd.For Tryz.prog 141 kHeld := .two Tryz.underlying141 (by kernel_rfl) forInt64
theorem forHelds : Kd.For Tryz.prog 142 (.slice 16 kHeld) := .slice Tryz.underlying142 (by kernel_rfl) (by kernel_rfl) forTwo (by decide)
theorem forPool : Kd.For Tryz.prog 144 kPool := .struct Tryz.underlying144 (by kernel_rfl) (.cons rfl forInt64 (.cons rfl forTwo (.one rfl forHelds)))
theorem forPools : Kd.For Tryz.prog 72 (.slice 48 kPool) := .slice Tryz.underlying72 (by kernel_rfl) (by kernel_rfl) forPool (by decide)
theorem forPriced : Kd.For Tryz.prog 154 kPriced := .struct Tryz.underlying154 (by kernel_rfl) (.cons rfl forInt64 (.one rfl forInt64))
theorem forPriceds : Kd.For Tryz.prog 73 (.slice 16 kPriced) := .slice Tryz.underlying73 (by kernel_rfl) (by kernel_rfl) forPriced (by decide)
theorem forNums : Kd.For Tryz.prog 74 (.slice 8 kNum) := .slice Tryz.underlying74 (by kernel_rfl) (by kernel_rfl) forU64 (by decide)
theorem forBools : Kd.For Tryz.prog 75 (.slice 1 kOwe) := .slice Tryz.underlying75 (by kernel_rfl) (by kernel_rfl) forBool (by decide)
theorem forState : Kd.For Tryz.prog 77 kState := .struct Tryz.underlying77 (by kernel_rfl) (.cons rfl forU64 (.cons rfl forPools (.cons rfl forPriceds (.cons rfl forNums (.cons rfl forNums (.one rfl forBools))))))
theorem forLine : Kd.For Tryz.prog 57 kLine := .struct Tryz.underlying57 (by kernel_rfl) (.cons rfl forInt (.one rfl forInt64))
theorem forLines : Kd.For Tryz.prog 55 (.slice 16 kLine) := .slice Tryz.underlying55 (by kernel_rfl) (by kernel_rfl) forLine (by decide)
theorem forGuard : Kd.For Tryz.prog 105 kGuard := .struct Tryz.underlying105 (by kernel_rfl) (.cons rfl forInt (.cons rfl forInt (.one rfl forInt64)))
theorem forGuards : Kd.For Tryz.prog 81 (.slice 24 kGuard) := .slice Tryz.underlying81 (by kernel_rfl) (by kernel_rfl) forGuard (by decide)
theorem forSet : Kd.For Tryz.prog 108 kSet := .struct Tryz.underlying108 (by kernel_rfl) (.cons rfl forInt (.cons rfl forInt (.one rfl forInt64)))
theorem forSets : Kd.For Tryz.prog 82 (.slice 24 kSet) := .slice Tryz.underlying82 (by kernel_rfl) (by kernel_rfl) forSet (by decide)
theorem forRight : Kd.For Tryz.prog 86 kRight := .struct Tryz.underlying86 (by kernel_rfl) (.cons rfl forInt (.cons rfl forInt (.one rfl forInt64)))
theorem forRights : Kd.For Tryz.prog 59 (.slice 24 kRight) := .slice Tryz.underlying59 (by kernel_rfl) (by kernel_rfl) forRight (by decide)
theorem forHead : Kd.For Tryz.prog 80 (.pair (.int .i64) (.int .u64)) := .struct Tryz.underlying80 (by kernel_rfl) (.cons rfl forInt (.one rfl forU64))
theorem forMerge : Kd.For Tryz.prog 84 (.pair (.int .i64) (.slice 16 kLine)) := .struct Tryz.underlying84 (by kernel_rfl) (.cons rfl forInt (.one rfl forLines))
theorem forAct : Kd.For Tryz.prog 88 kAct := .struct Tryz.underlying88 (by kernel_rfl) (.cons rfl forHead (.cons rfl forInt (.cons rfl forBool (.cons rfl forLines (.cons rfl forGuards (.cons rfl forSets (.cons rfl forMerge (.cons rfl forRight (.cons rfl forInt (.cons rfl forU64 (.one rfl forRights)))))))))))
end Go.Proofs.YtmnajpkmglmipaaGreat

/- RuleNeeds: the book at its start; what its blocks are; negated lines. -/
namespace Go.Proofs.YtmnajpkmglmipaaGreat
open Go.RowKit

theorem oper_wp_value {P : Program} {o : Oper} {a : Act} {w : World} {next : Act → World → Prop} {Q : Exit → Act → World → Prop} (v : Value) (h : (execOp a.eval o).run P w = .ok (.value v) w) (k : next (a.put o.dst v) w) : Oper.wp P o a w next Q := by
  unfold Oper.wp
  rw [h]
  exact k
def bookZ : BookV := ⟨.none, .none, .none, .none, 0, 0, 0⟩
theorem book_new {W : World} {base B : Nat} (hB : Blk W B 54 (cellsOf bookZ)) (hl : base ≤ B) : BookOk W base B bookZ where
  blk := hB
  lo := hl
  L := keptOk_none _ _ _ _ _ _ _
  G := keptOk_none _ _ _ _ _ _ _
  S := keptOk_none _ _ _ _ _ _ _
  R := keptOk_none _ _ _ _ _ _ _
  dLG := fun a a' h => by cases h
  dLS := fun a a' h => by cases h
  dLR := fun a a' h => by cases h
  dGS := fun a a' h => by cases h
  dGR := fun a a' h => by cases h
  dSR := fun a a' h => by cases h
  room := by decide
theorem own_in {w : World} {base size n c : Nat} {A : Option Addr} {e : TypeId} {xs : List Value} (h : w.ownsRow base e size (.slice A n c) n xs) {i : Nat} (hi : some i = A.map (·.block)) : base ≤ i ∧ i < w.heap.size := by
  cases A with
  | none => cases hi
  | some a =>
    have e : i = a.block := by simpa using hi
    rw [e]
    exact h.lt a.block rfl
theorem ks_in {α : Type} {f : Flat α} {T TT TI : TypeId} {mk : Int → α} {base : Nat} {W : World} {k : KeptV} (h : KeptOk f T TT TI mk base W k) {i : Nat} (hi : KS k i) : base ≤ i ∧ i < W.heap.size := by
  rcases hi with hi | hi | ⟨e, he, hi⟩
  · exact own_in h.outer hi
  · exact own_in h.of hi
  · exact own_in (h.ent e he) hi
theorem BookOk.blocks {W : World} {base B : Nat} {b : BookV} (h : BookOk W base B b) {i : Nat} (hi : BS b B i) : base ≤ i ∧ i < W.heap.size := by
  rcases hi with rfl | hi | hi | hi | hi
  · exact ⟨h.lo, h.blk.lt⟩
  · exact ks_in h.L hi
  · exact ks_in h.G hi
  · exact ks_in h.S hi
  · exact ks_in h.R hi
/-- The lines that the law lets in. -/
def Fine (x : LineD) : Prop := 0 ≤ x.1 ∧ x.1 < 64 ∧ x.2 ≠ 0 ∧ -1099511627776 ≤ x.2 ∧ x.2 ≤ 1099511627776
theorem Fine.wf {x : LineD} (h : Fine x) : WfL x := by
  obtain ⟨h1, h2, h3, h4, h5⟩ := h
  exact ⟨(show -9223372036854775808 ≤ x.1 ∧ x.1 ≤ 9223372036854775807 by omega), (show -9223372036854775808 ≤ x.2 ∧ x.2 ≤ 9223372036854775807 by omega)⟩
def negL (x : LineD) : LineD := (x.1, -x.2)
theorem Fine.neg {x : LineD} (h : Fine x) : Fine (negL x) := by
  obtain ⟨h1, h2, h3, h4, h5⟩ := h
  refine ⟨h1, h2, ?_, ?_, ?_⟩ <;> simp only [negL] <;> omega
theorem needs_len (xs : List LineD) (h : xs.length ≤ 8796093022208) : (needsD xs).length ≤ 8796093022208 := by
  have := needsD_len xs
  omega
theorem neg_step (xs : List LineD) (m : Nat) (h : m < xs.length) (zs : List LineD) : ((xs.take m).map negL ++ xs.drop m ++ zs).set m (negL xs[m]) = (xs.take (m + 1)).map negL ++ xs.drop (m + 1) ++ zs := by
  have e : xs.take (m + 1) = xs.take m ++ [xs[m]] := (List.take_append_getElem h).symm
  rw [List.append_assoc, List.set_append_right _ _ (by simp; omega), e, List.map_append, List.drop_eq_getElem_cons h]
  simp only [List.length_map, List.length_take, Nat.min_eq_left (Nat.le_of_lt h), Nat.sub_self, List.cons_append, List.set_cons_zero, List.map_cons, List.map_nil, List.append_assoc, List.nil_append]
end Go.Proofs.YtmnajpkmglmipaaGreat

/- RuleNeeds: its walk. -/
namespace Go.Proofs.YtmnajpkmglmipaaGreat
open Go.RowKit

abbrev kLines : Kd (List LineD) := .slice 16 kLine
set_option maxRecDepth 100000 in
set_option maxHeartbeats 40000000 in
theorem needs_law (HJ : JudgeSaid) (w : World) (LA : Option Addr) (lc : Nat) (xs : List (List LineD)) (h : kLines.Row w LA lc xs) :
    Calls Tryz.prog 5 #[.agg #[.slice LA xs.length lc]] w fun e w' => e = .returned (.bool true) ∧ Fr no w w' := by
  obtain ⟨i0, hi, hz0, hz1, hz2⟩ := info_parts info_line
  have lt := Row.le_top h
  have H := hide h
  clear h
  go_enter Tryz.func5, Tryz.ntmps5
  go_wp2_with fail
  obtain ⟨zs, hzs⟩ : ∃ zs, zs = cellsOf bookZ := ⟨_, rfl⟩
  refine oper_wp_value (.agg zs) (by rw [hzs]; kernel_rfl) ?_
  have HZ := hide hzs
  clear hzs
  go_wp2_with fail
  obtain ⟨V0, hV0⟩ : ∃ V0, ((w.alloc (.cells #[.slice LA xs.length lc] 33)).alloc (.cells zs 54)) = V0 := ⟨_, rfl⟩
  have F0 : Fr no w V0 := by rw [← hV0]; exact ((Fr.refl no w).alloc _).alloc _
  have B0 : Blk V0 w.heap.size 33 #[.slice LA xs.length lc] := by rw [← hV0]; exact (Blk.new w _ _).alloc _
  have B1 : Blk V0 (w.heap.size + 1) 54 zs := by rw [← hV0]; exact blk_at _ _ _ _ (by simp)
  rw [hV0]
  rw [HZ.out] at B1
  have HB := hide (book_new (base := w.heap.size + 1) B1 (Nat.le_refl _))
  clear hV0 B1 HZ
  go_loopw [4, 5] (fun all i wr => ∃ (m N : Nat) (b : BookV), i = .int .i64 m ∧ m ≤ xs.length ∧ all = .int .i64 N ∧ N ≤ 20000 ∧ BookOk wr (w.heap.size + 1) (w.heap.size + 1) b ∧ b.G = .none ∧ Fr no w wr ∧ Blk wr w.heap.size 33 #[.slice LA xs.length lc]) (fun _ i _ => xs.length - (intOf i).toNat)
  case atStart => exact ⟨0, 0, bookZ, rfl, Nat.zero_le _, rfl, by decide, HB.out, rfl, F0, B0⟩
  case round =>
    clear HB F0 B0
    obtain ⟨m, N, b, rfl, hm, rfl, hN, hbk, hG, F, BX⟩ := hrel
    have HB := hide hbk
    have HG := hide hG
    have HF := hide F
    have HX := hide BX
    clear hbk hG F BX
    have bx : ∀ p : FrBy wr, p.w.cell? ⟨w.heap.size, 0, none⟩ = some (.slice LA xs.length lc) := fun p => (HX.out.kept0 p.fr).cell 0
    obtain ⟨wh, hwh⟩ : ∃ wh : World, wh = wr := ⟨_, rfl⟩
    obtain ⟨p, hp⟩ : ∃ p : FrBy wr, p.w = wr := ⟨⟨wr, Fr.refl _ _⟩, rfl⟩
    rw [← hp]
    clear hp hwh
    by_cases hlt : m < xs.length
    · have hm0 : (0 : Int) ≤ m := by omega
      have hm1 : (m : Int) < xs.length := by omega
      obtain ⟨g, o, rfl, hat⟩ := H.out.2.2.1 (List.length_pos_iff.1 (by omega))
      obtain ⟨cells, ⟨rA, rc, rfl, hrow⟩, hc⟩ := hat m hlt
      have hc0 : w.cell? ⟨g, o + m, none⟩ = some (.slice rA xs[m].length rc) := by have := hc 0 (by decide); simpa [Kd.slice] using this
      obtain ⟨ys, hys⟩ : ∃ ys, ys = xs[m] := ⟨_, rfl⟩
      rw [← hys] at hc0 hrow
      have r0 : ∀ p : FrBy wr, p.w.cell? ⟨g, o + m, none⟩ = some (.slice rA ys.length rc) := fun p => fr_cell (HF.out.trans p.fr) hc0
      have HY := hide (Flat.Reads.row rLine hrow)
      have HYL := hide (Sl.of_row rLine hrow)
      have lty := Row.le_top hrow
      clear hc hc0 hat hys hrow
      go_wp2_with fail
      go_loopw [4, 6, 7] (fun all l k wq => ∃ (k0 N' : Nat) (ls : List LineD), k = .int .i64 k0 ∧ k0 ≤ ys.length ∧ all = .int .i64 N' ∧ N' ≤ 20000 ∧ wq.ownsRow wr.heap.size 57 2 l ls.length (fLine.all ls) ∧ ls.length ≤ 8192 ∧ (∀ x ∈ ls, Fine x) ∧ ∃ p : FrBy wr, wq = p.w) (fun _ _ k _ => ys.length - (intOf k).toNat)
      case atStart => exact ⟨0, N, [], rfl, Nat.zero_le _, rfl, hN, World.ownsRow_nil _ _ _ _, by simp, by simp, p, rfl⟩
      case round =>
        clear p
        obtain ⟨k0, N', ls, rfl, hk0, rfl, hN', own, hls, hfine, p, rfl⟩ := hrel
        have HO := hide own
        have HFN := hide hfine
        clear own hfine
        obtain ⟨lA, lcap, rfl, hsl⟩ := own_sl fLine HO.out
        have HSL := hide hsl
        clear hsl
        by_cases hgo : k0 < ys.length ∧ N' < 20000 ∧ ls.length < 8192
        · obtain ⟨hk1, hN1, hl1⟩ := hgo
          have hN2 : (N' : Int) < 20000 := by omega
          have hl2 : (ls.length : Int) < 8192 := by omega
          have HF0 := HF
          skip
          obtain ⟨ag, ao, rfl, ac⟩ := (HYL.out).cells (List.length_pos_iff.1 (by omega))
          obtain ⟨ax1, ax2, hax⟩ : ∃ ax1 ax2, ys[k0] = (ax1, ax2) := ⟨_, _, rfl⟩
          have a0 : ∀ p : FrBy wr, p.w.cell? ⟨ag, ao + k0 * 2, none⟩ = some (.int .i64 ax1) := fun p => fr_cell (HF0.out.trans p.fr) (by have := ac k0 hk1 0 (by decide); rw [hax] at this; first | exact this | simpa using this)
          have a1 : ∀ p : FrBy wr, p.w.cell? ⟨ag, ao + k0 * 2 + 1, none⟩ = some (.int .i64 ax2) := fun p => fr_cell (HF0.out.trans p.fr) (by have := ac k0 hk1 1 (by decide); rw [hax] at this; first | exact this | simpa using this)
          have am0 : (0 : Int) ≤ k0 := by omega
          have am1 : (k0 : Int) < ys.length := by omega
          have aM := hide (show (ax1, ax2) ∈ ys by rw [← hax]; exact List.getElem_mem hk1)
          have aT := hide (show ys.take (k0 + 1) = ys.take k0 ++ [(ax1, ax2)] by rw [← hax]; exact (List.take_append_getElem hk1).symm)
          have aE := hide hax
          clear ac hax
          have hps := p.fr.size
          by_cases hf : Fine (ax1, ax2)
          · have HFX := hide hf
            obtain ⟨f1, f2, f3, f4, f5⟩ := hf
            dsimp only at f1 f2 f3 f4 f5
            have f6 : (ax2 == 0) = false := by simpa using f3
            have f7 : (ax2 != 0) = true := by simpa using f3
            go_wp2_with (at_builtin; (refine wpList_append_one _ rfl _ _ 55 rfl wr.heap.size 57 i0 (.agg #[.int .i64 0, .int .i64 0]) 2 16 Tryz.underlying55 hi hz0 hz1 hz2 rfl (by decide) (by decide) _ ls.length (fLine.all ls) rfl (own_kept HO.out (((Fr.refl no _).alloc _).alloc _)) ⟨p.w.heap.size + 1, 0, none⟩ 1 [.int .i64 ax1, .int .i64 ax2] rfl rfl (new_cells' (p.w.alloc (.cells #[.int .i64 ax1, .int .i64 ax2] 57)) (p.w.heap.size + 1) (by simp) [.int .i64 ax1, .int .i64 ax2] _) (fun u hu => by simp at hu; rcases hu with rfl | rfl <;> rfl) (by simp only [maxLen]; omega) (by omega) (by simp; omega) ?_))
            intro v' w3 own3 grow3
            have F3 := hide (((p.fr.alloc _).alloc _).thru (Fr.of_grown grow3) (fun i hi e => by have := own_base HO.out i e; omega))
            have R1 : Hid (w3.ownsRow wr.heap.size 57 2 v' (ls ++ [(ax1, ax2)]).length (fLine.all (ls ++ [(ax1, ax2)]))) := hide (by rw [List.length_append, Flat.snoc]; exact own3)
            clear own3 grow3
            go_wp2_with fail
            exact ⟨⟨k0 + 1, N' + 1, ls ++ [(ax1, ax2)], by simp, hk1, by simp, by omega, R1.out, by simp; omega, fun x hx => by
              rcases List.mem_append.1 hx with hx | hx
              · exact HFN.out x hx
              · rw [List.mem_singleton.1 hx]; exact HFX.out, ⟨w3, F3.out⟩, rfl⟩, by simp [intOf]; omega⟩
          · have HNF := hide hf
            clear hf
            go_wp2_with fail
            all_goals first
              | exact ⟨⟨k0 + 1, N', ls, by simp, hk1, rfl, hN', own_kept HO.out ((Fr.refl no _).alloc _), hls, HFN.out, ⟨_, p.fr.alloc _⟩, rfl⟩, by simp [intOf]; omega⟩
              | (exfalso; refine HNF.out ⟨?_, ?_, ?_, ?_, ?_⟩ <;> dsimp only <;> first | assumption | omega | grind)
        · have hex : (¬ k0 < ys.length) ∨ (k0 < ys.length ∧ ¬ N' < 20000) ∨ (k0 < ys.length ∧ N' < 20000 ∧ ¬ ls.length < 8192) := by omega
          clear hgo
          rcases hex with hx | ⟨hx, hx2⟩ | ⟨hx, hx2, hx3⟩
          all_goals
            (try have e1 : (k0 : Int) < ys.length := by omega)
            (try have e1 : ¬ (k0 : Int) < ys.length := by omega)
            (try have e2 : (N' : Int) < 20000 := by omega)
            (try have e2 : ¬ (N' : Int) < 20000 := by omega)
            (try have e3 : ¬ (ls.length : Int) < 8192 := by omega)
            go_wp2_with fail
            refine (lend_lines lA lcap ls _ (HSL.out.to_row rfl eLine) (by omega)).mono ?_
            rintro e X1 ⟨⟨yg, rfl, hyg, ownY⟩, F1⟩
            have hY1 := (ownY.lt yg rfl).2
            have HF1 := hide F1
            have HOY := hide ownY
            have slY : Sl fLine X1 (some ⟨yg, 0, none⟩) (ls.length + 9) (ls ++ List.replicate 9 (777, 7)) := own_sl0 fLine (by simp) ownY
            have HSY := hide slY
            have htop := slY.top
            have HX1 := hide (HSL.out.below F1.below)
            clear ownY F1 slY
            go_wp2_with fail
            refine (Needs_o _ _ ls (fun x hx => (HFN.out x hx).wf) (by omega) X1 (HSY.out.take (by omega) htop (fun e => by cases e))).mono ?_
            rintro e X2 ⟨nA, nc, rfl, ownN, F2⟩
            have HON := hide ownN
            have HF2 := hide (HF1.out.trans F2)
            have HX2 := hide (HX1.out.below F2.below)
            have HSY2 := hide (HSY.out.below F2.below)
            have HOY2 := hide (own_kept HOY.out F2)
            clear ownN F2
            go_wp2_with fail
            refine (ref_needs lA lcap ls (fun x hx => (HFN.out x hx).wf) (by omega) X2 HX2.out).mono ?_
            rintro e X3 ⟨wA, wc, rfl, omW, F3⟩
            have HOW := hide omW.sl
            have HF3 := hide (HF2.out.trans F3)
            have HX3 := hide (HX2.out.below F3.below)
            have HSY3 := hide (HSY2.out.below F3.below)
            have HOY3 := hide (own_kept HOY2.out F3)
            have HON3 := hide (own_kept HON.out F3)
            have hX1 := HF1.out.size
            have hX2 := HF2.out.size
            clear omW F3
            go_wp2_with fail
            refine (eqx_rights nA wA nc wc (needsD ls) (needsD ls) X3 (own_sl0 fRight rfl HON3.out) HOW.out).mono ?_
            rw [decide_eq_true (rfl : needsD ls = needsD ls)]
            rintro e X4 ⟨rfl, F4⟩
            have HF4 := hide (HF3.out.trans F4)
            have HX4 := hide (HX3.out.below F4.below)
            have HSY4 := hide (HSY3.out.below F4.below)
            have HOY4 := hide (own_kept HOY3.out F4)
            have HON4 := hide (own_kept HON3.out F4)
            clear F4
            go_wp2_with fail
            refine (back_lines lA yg lcap ls X4 HSY4.out HX4.out).mono ?_
            rintro e X5 ⟨rfl, F5⟩
            have HF5 := hide (HF4.out.trans F5)
            have HOY5 := hide (own_kept HOY4.out F5)
            have HON5 := hide (own_kept HON4.out F5)
            have HOL5 := hide (own_kept HO.out HF5.out)
            clear F5
            go_wp2_with fail
            go_loopw [11] (fun i wq => ∃ (j : Nat) (q : World), q = wq ∧ i = .int .i64 j ∧ j ≤ ls.length ∧ wq.ownsRow p.w.heap.size 57 2 (.slice (some ⟨yg, 0, none⟩) (ls.length + 9) (ls.length + 9)) (ls.length + 9) (fLine.all ((ls.take j).map negL ++ ls.drop j ++ List.replicate 9 (777, 7))) ∧ Fr (fun k => k = yg) X5 wq) (fun i _ => ls.length - (intOf i).toNat)
            case atStart => exact ⟨0, _, rfl, rfl, Nat.zero_le _, by simpa using HOY5.out, Fr.refl _ _⟩
            case round =>
              obtain ⟨j, q, rfl, rfl, hj, own, F⟩ := hrel
              by_cases hlj : j < ls.length
              · obtain ⟨x, hx⟩ : ∃ x, ls[j] = x := ⟨_, rfl⟩
                obtain ⟨x1, x2⟩ := x
                have hfx := HFN.out _ (List.getElem_mem hlj)
                rw [hx] at hfx
                have HNS := hide (neg_step ls j hlj (List.replicate 9 (777, 7)))
                have hlen : j < ((ls.take j).map negL ++ ls.drop j ++ List.replicate 9 ((777, 7) : LineD)).length := by simp; omega
                have hel : ((ls.take j).map negL ++ ls.drop j ++ List.replicate 9 ((777, 7) : LineD))[j] = (x1, x2) := by
                  rw [← hx, List.getElem_append_left (by simp; omega), List.getElem_append_right (by simp; omega)]
                  simp [Nat.min_eq_left (Nat.le_of_lt hlj)]
                have c1 : q.cell? ⟨yg, j * 2 + 1, none⟩ = some (.int .i64 x2) := by have := own_at fLine own j 1 hlen (by decide); rw [hel] at this; exact this
                have f1 := own_free own (j * 2 + 1)
                have o1 := own_setc (f := fLine) own j 1 (negL (x1, x2)) (.int .i64 (-x2)) hlen (by decide) (by rw [hel]; rfl)
                rw [← hx] at o1
                have e2 := HNS.out
                rw [e2] at o1
                have R1 := hide o1
                have FN := hide (F.trans (Fr.setCell _ yg (j * 2 + 1) (.int .i64 (-x2))))
                obtain ⟨q1, q2, q3, q4, q5⟩ := hfx
                dsimp only at q4 q5
                have hj0 : (0 : Int) ≤ j := by omega
                have hj1 : (j : Int) < ls.length := by omega
                clear o1 own F hel hx hlen e2
                go_wp2_with fail
                exact ⟨⟨j + 1, _, rfl, by simp, hlj, R1.out, FN.out⟩, by simp [intOf]; omega⟩
              · obtain rfl : j = ls.length := by omega
                have e0 : (ls.take ls.length).map negL ++ ls.drop ls.length ++ List.replicate 9 ((777, 7) : LineD) = ls.map negL ++ List.replicate 9 (777, 7) := by simp
                rw [e0] at own
                have HOYq := hide own
                have HFq := hide (HF5.out.thru F (fun i hi e => by have e' : i = yg := e; omega))
                have HONq := hide (own_kept2 HON5.out F (fun i hi e => by have e' : i = yg := e; omega))
                have HXq := hide (HSL.out.below HFq.out.below)
                obtain ⟨ms, hms⟩ : ∃ ms, ms = ls.map negL := ⟨_, rfl⟩
                rw [← hms] at HOYq
                have hml : ms.length = ls.length := by rw [hms, List.length_map]
                have HMF : Hid (∀ x ∈ ms, WfL x) := hide (fun x hx => by
                  rw [hms] at hx
                  obtain ⟨y, hy, rfl⟩ := List.mem_map.1 hx
                  exact (HFN.out y hy).neg.wf)
                have slq : Sl fLine q (some ⟨yg, 0, none⟩) (ls.length + 9) (ms ++ List.replicate 9 (777, 7)) := own_sl0 fLine (by simp [hml]) HOYq.out
                have htq := slq.top
                have HSq := hide (slq.take (by omega) htq (fun e => by cases e))
                have CN : Hid _ := hide (Needs_o (some ⟨yg, 0, none⟩) (ls.length + 9) ms HMF.out (by omega) q HSq.out)
                rw [hml] at CN
                have hqs := HFq.out.size
                clear own F e0 slq hms
                go_wp2_with fail
                refine CN.out.mono ?_
                rintro e X6 ⟨mA, mc, rfl, ownM, F6⟩
                have HOM6 := hide ownM
                have HF6 := hide (HFq.out.trans F6)
                have HON6 := hide (own_kept HONq.out F6)
                have HS6 := hide (HSq.out.below F6.below)
                have HX6 := hide (HXq.out.below F6.below)
                clear ownM F6 CN
                have CR : Hid _ := hide (ref_needs (some ⟨yg, 0, none⟩) (ls.length + 9) ms HMF.out (by omega) X6 HS6.out)
                rw [hml] at CR
                go_wp2_with fail
                refine CR.out.mono ?_
                rintro e X7 ⟨vA, vc, rfl, omV, F7⟩
                have HOV := hide omV.sl
                have HOM7 := hide (own_kept HOM6.out F7)
                have HF7 := hide (HF6.out.trans F7)
                have HON7 := hide (own_kept HON6.out F7)
                have HX7 := hide (HX6.out.below F7.below)
                clear omV F7 CR
                go_wp2_with fail
                refine (eqx_rights mA vA mc vc (needsD ms) (needsD ms) X7 (own_sl0 fRight rfl HOM7.out) HOV.out).mono ?_
                rw [decide_eq_true (rfl : needsD ms = needsD ms)]
                rintro e X8 ⟨rfl, F8⟩
                have HOM8 := hide (own_kept HOM7.out F8)
                have HF8 := hide (HF7.out.trans F8)
                have HON8 := hide (own_kept HON7.out F8)
                have HX8 := hide (HX7.out.below F8.below)
                clear F8
                go_wp2_with fail
                refine (ref_needs lA lcap ls (fun x hx => (HFN.out x hx).wf) (by omega) X8 HX8.out).mono ?_
                rintro e X9 ⟨uA, uc, rfl, omU, F9⟩
                have HOU := hide omU.sl
                have HOM9 := hide (own_kept HOM8.out F9)
                have HF9 := hide (HF8.out.trans F9)
                have HON9 := hide (own_kept HON8.out F9)
                clear omU F9
                go_wp2_with fail
                refine (eqx_rights nA uA nc uc (needsD ls) (needsD ls) X9 (own_sl0 fRight rfl HON9.out) HOU.out).mono ?_
                rw [decide_eq_true (rfl : needsD ls = needsD ls)]
                rintro e Xa ⟨rfl, Fa⟩
                have HOMa := hide (own_kept HOM9.out Fa)
                have HFa := hide (p.fr.trans (HF9.out.trans Fa))
                have HONa := hide (own_kept HON9.out Fa)
                have hps' := p.fr.size
                have hwr := HF.out.size
                have hBs := (HB.out.blocks (i := w.heap.size + 1) (.inl rfl)).2
                clear Fa
                go_wp2_with fail
                refine (take_rights Xa (w.heap.size + 1) (w.heap.size + 1) b nA nc (needsD ls) (HB.out.keep HFa.out) ⟨own_down HONa.out (by omega)⟩ (needs_len ls (by omega)) (fun e he => by
                  rcases hbe : blkOf e with _ | i
                  · exact .inl rfl
                  · right
                    intro h2
                    have h3 := HB.out.blocks (i := i) (.inr (.inr (.inr (.inr (.inr (.inr ⟨e, he, hbe.symm⟩))))))
                    have h4 := own_in HONa.out h2
                    omega)).mono ?_
                rintro e Xb ⟨rfl, ⟨b1, hb1, hbL, hbG, hbS, hbR⟩, Fb⟩
                have HB1 := hide hb1
                have HBG := hide (hbG.trans HG.out)
                have HBR := hide hbR
                have FT := hide ((HFa.out.mono (S' := fun i => w.heap.size + 1 ≤ i) (fun i hi e => e.elim)).thru Fb (fun i hi e => by
                  show w.heap.size + 1 ≤ i
                  rcases e with e | e | e | e
                  · omega
                  · have := own_in HONa.out e; omega
                  · exact (HB.out.blocks (i := i) (.inr (.inr (.inr (.inr (.inl e)))))).1
                  · exact (HB.out.blocks (i := i) (.inr (.inr (.inr (.inr (.inr (.inl e))))))).1))
                have HOMb := hide (own_kept2 HOMa.out Fb (fun i hi e => by
                  rcases e with e | e | e | e
                  · omega
                  · have := own_in HONq.out e; omega
                  · have := (HB.out.blocks (i := i) (.inr (.inr (.inr (.inr (.inl e)))))).2; omega
                  · have := (HB.out.blocks (i := i) (.inr (.inr (.inr (.inr (.inr (.inl e))))))).2; omega))
                clear hb1 hbL hbG hbS hbR Fb
                go_wp2_with fail
                refine (take_rights Xb (w.heap.size + 1) (w.heap.size + 1) b1 mA mc (needsD ms) HB1.out ⟨own_down HOMb.out (by omega)⟩ (needs_len ms (by omega)) (fun e he => by
                  rcases hbe : blkOf e with _ | i
                  · exact .inl rfl
                  · right
                    intro h2
                    have h4 := own_in HOMb.out h2
                    rcases HBR.out e he with h3 | h3
                    · have h5 := HB.out.blocks (i := i) (.inr (.inr (.inr (.inr (.inr (.inr ⟨e, h3, hbe.symm⟩))))))
                      omega
                    · have h5 := own_in HONq.out (hbe.symm.trans h3)
                      omega)).mono ?_
                rintro e Xc ⟨rfl, ⟨b2, hb2, hcL, hcG, hcS, -⟩, Fc⟩
                have HB2 := hide hb2
                have HCG := hide (hcG.trans HBG.out)
                have FU := hide (FT.out.thru Fc (fun i hi e => by
                  show w.heap.size + 1 ≤ i
                  rcases e with e | e | e | e
                  · omega
                  · have := own_in HOMa.out e; omega
                  · exact (HB1.out.blocks (i := i) (.inr (.inr (.inr (.inr (.inl e)))))).1
                  · exact (HB1.out.blocks (i := i) (.inr (.inr (.inr (.inr (.inr (.inl e))))))).1))
                clear hb2 hcL hcG hcS Fc
                go_wp2_with fail
                exact ⟨⟨m + 1, N', b2, by simp, hlt, rfl, hN', HB2.out, HCG.out, HF.out.thru FU.out (fun i hi e => by have e' : w.heap.size + 1 ≤ i := e; omega), HX.out.kept FU.out (fun e => by have e' : w.heap.size + 1 ≤ w.heap.size := e; omega)⟩, by simp [intOf]; omega⟩
    · obtain rfl : m = xs.length := by omega
      go_wp2_with fail
      refine (look_c _ _ _ b (HB.out.keep p.fr) HG.out).mono ?_
      rintro e w2 ⟨rfl, -, F2⟩
      have hsz := HF.out.size
      have FX := hide ((HF.out.trans p.fr).thru F2 (fun i hi e => by have := (HB.out.blocks e).1; omega))
      clear F2
      go_wp2_with fail
      refine (wakes_c HJ _).mono ?_
      rintro e w3 ⟨rfl, F3⟩
      have F4 := hide (FX.out.trans F3)
      clear F3
      go_wp2_with fail
      go_ret
      exact ⟨rfl, F4.out⟩
end Go.Proofs.YtmnajpkmglmipaaGreat
