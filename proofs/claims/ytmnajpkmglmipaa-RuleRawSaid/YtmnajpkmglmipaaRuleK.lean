/- Contracts of tilllaw9's judge and wakes. -/
import Derived.Test.YtmnajpkmglmipaaRuleJd
import Derived.Test.YtmnajpkmglmipaaBackT
namespace Go.Proofs.Ytmnajpkmglmipaa
open Go.RowKit

theorem Om.but {α : Type} {f : Flat α} {T : TypeId} {base : Nat} {w w' : World} {A : Option Addr} {c : Nat} {xs : List α} {S : Nat → Prop} (h : Om f T base w A c xs) (F : Fr S w w') (hS : ∀ k, base ≤ k → ¬ S k) : Om f T base w' A c xs := by
  refine ⟨h.own.1, ?_⟩
  rcases h.own.2 with e | ⟨g, cap, cur, e, h2, h3, h4⟩
  · exact .inl e
  · exact .inr ⟨g, cap, cur, e, h2, (F.block g (Array.getElem?_eq_some_iff.1 h3).1 (hS g h2)).trans h3, h4⟩
theorem WriteR.but {base : Nat} {w w' : World} {A1 A2 : Option Addr} {n1 c1 n2 c2 : Nat} {r : List LineD × List SetD} {S : Nat → Prop} (h : WriteR base w A1 n1 c1 A2 n2 c2 r) (F : Fr S w w') (hS : ∀ k, base ≤ k → ¬ S k) : WriteR base w' A1 n1 c1 A2 n2 c2 r :=
  ⟨h.1, h.2.1, h.2.2.1.but F hS, h.2.2.2.but F hS⟩
set_option maxRecDepth 100000 in
set_option maxHeartbeats 8000000 in
theorem judge_c (HJ : JudgeSaid) (s : StV) (d : StL) (a : ActV) (l : ActL) (w : World) (hs : StOk w s d) (ha : ActOk w a l) :
    Calls Try.prog 44 #[.agg #[.int .u64 s.q, .slice s.P s.np s.cp, .slice s.R s.nr s.cr, .slice s.L s.nl s.cl, .slice s.G s.ng s.cg, .slice s.O s.no s.co], .agg #[.int .i64 a.t, .int .u64 a.n, .int .i64 a.k, .bool a.sure, .slice a.lA a.ln a.lc, .slice a.gA a.gn a.gc, .slice a.sA a.sn a.sc, .int .i64 a.mq, .slice a.oA a.on a.oc, .int .i64 a.r1, .int .i64 a.r2, .int .i64 a.r3, .int .i64 a.tu, .int .u64 a.gen, .slice a.hA a.hn a.hc]] w fun e w' => ∃ A1 n1 c1 A2 n2 c2, e = .returned (.agg #[.int .i64 (judgeD d a l).1, .slice A1 n1 c1, .slice A2 n2 c2, .int .i64 (judgeD d a l).2.2]) ∧ WriteR w.heap.size w' A1 n1 c1 A2 n2 c2 (judgeD d a l).2.1 ∧ Fr no w w' := by
  have HS := hide hs
  have HA := hide ha
  obtain ⟨jd, hjd⟩ : ∃ jd, jd = judgeD d a l := ⟨_, rfl⟩
  have hc : Hid (∀ W, Fr no w W → Calls Try.prog 11 #[.agg #[.int .u64 s.q, .slice s.P s.np s.cp, .slice s.R s.nr s.cr, .slice s.L s.nl s.cl, .slice s.G s.ng s.cg, .slice s.O s.no s.co], .agg #[.int .i64 a.t, .int .u64 a.n, .int .i64 a.k, .bool a.sure, .slice a.lA a.ln a.lc, .slice a.gA a.gn a.gc, .slice a.sA a.sn a.sc, .int .i64 a.mq, .slice a.oA a.on a.oc, .int .i64 a.r1, .int .i64 a.r2, .int .i64 a.r3, .int .i64 a.tu, .int .u64 a.gen, .slice a.hA a.hn a.hc]] W fun e w' => ∃ A1 n1 c1 A2 n2 c2, e = .returned (.tuple #[.int .i64 jd.1, .slice A1 n1 c1, .slice A2 n2 c2, .int .i64 jd.2.2]) ∧ WriteR W.heap.size w' A1 n1 c1 A2 n2 c2 jd.2.1 ∧ Fr no W w') := hide (fun W F => by rw [hjd]; exact HJ s d a l W (hs.keep F) (ha.keep F))
  rw [← hjd]
  clear hs ha hjd
  go_enter Try.func44, Try.ntmps44
  go_wp2_with fail
  obtain ⟨W0, hW0⟩ : ∃ W0, (((w.alloc (.cells #[.int .u64 s.q, .slice s.P s.np s.cp, .slice s.R s.nr s.cr, .slice s.L s.nl s.cl, .slice s.G s.ng s.cg, .slice s.O s.no s.co] 32)).alloc (.cells #[.int .i64 a.t, .int .u64 a.n, .int .i64 a.k, .bool a.sure, .slice a.lA a.ln a.lc, .slice a.gA a.gn a.gc, .slice a.sA a.sn a.sc, .int .i64 a.mq, .slice a.oA a.on a.oc, .int .i64 a.r1, .int .i64 a.r2, .int .i64 a.r3, .int .i64 a.tu, .int .u64 a.gen, .slice a.hA a.hn a.hc] 45)).alloc (.cells #[.int .i64 0, .slice none 0 0, .slice none 0 0, .int .i64 0] 106)) = W0 := ⟨_, rfl⟩
  have F0 : Fr no w W0 := by rw [← hW0]; exact (((Fr.refl no w).alloc _).alloc _).alloc _
  have B0 : Blk W0 (w.heap.size + 1 + 1) 106 #[.int .i64 0, .slice none 0 0, .slice none 0 0, .int .i64 0] := by rw [← hW0]; exact blk_at _ _ _ _ (by simp)
  rw [hW0]
  clear hW0
  refine (hc.out _ F0).mono ?_
  rintro e W1 ⟨A1, n1, c1, A2, n2, c2, rfl, hr, F1⟩
  have B1 := B0.kept0 F1
  have k0 := B1.cell 0
  have k1 := B1.cell 1
  have k2 := B1.cell 2
  have k3 := B1.cell 3
  have f0 := B1.free 0
  have f1 := B1.free 1
  have f2 := B1.free 2
  have f3 := B1.free 3
  have FS : Fr (fun k => k = w.heap.size + 1 + 1) W1 ((((W1.setCell ⟨w.heap.size + 1 + 1, 0, none⟩ (.int .i64 jd.1)).setCell ⟨w.heap.size + 1 + 1, 1, none⟩ (.slice A1 n1 c1)).setCell ⟨w.heap.size + 1 + 1, 2, none⟩ (.slice A2 n2 c2)).setCell ⟨w.heap.size + 1 + 1, 3, none⟩ (.int .i64 jd.2.2)) :=
    (((Fr.setCell _ _ _ _).trans (Fr.setCell _ _ _ _)).trans (Fr.setCell _ _ _ _)).trans (Fr.setCell _ _ _ _)
  have HR := hide hr
  have HF := hide (F0.trans F1)
  have HFS := hide FS
  have HB := hide B0.lt
  have HB1 := hide F1
  clear hr F0 F1 FS B0 B1
  go_wp2_with fail
  refine bodyPost_ret (v := .agg #[.int .i64 jd.1, .slice A1 n1 c1, .slice A2 n2 c2, .int .i64 jd.2.2]) (by simp [results, Try.results44, go_sem, k0, k1, k2, k3]) rfl ⟨A1, n1, c1, A2, n2, c2, rfl, ?_, ?_⟩
  · have hb := HB.out
    exact (HR.out.but HFS.out (fun k hk e => by omega)).down (by omega)
  · exact HF.out.thru HFS.out (fun i hi e => absurd hi (by omega))
/-- The state and the acts of wakes. -/
def wakeD : StL := ⟨[(6, (5, 4), [(1, 0)])], [], [0], [0], [false]⟩
def wakeL (c : Int) : ActL := ⟨[(0, c)], [], [], [], []⟩
def wakeA (g : Nat) : ActV := { t := 0, n := 1, k := 1, sure := true, lA := some ⟨g, 0, none⟩, ln := 1, lc := 1, gA := none, gn := 0, gc := 0, sA := none, sn := 0, sc := 0, mq := 0, oA := none, on := 0, oc := 0, r1 := 0, r2 := 0, r3 := 0, tu := 0, gen := 0, hA := none, hn := 0, hc := 0 }
theorem wake1 (g : Nat) : judgeD wakeD (wakeA g) (wakeL (-1)) = (1, ([(0, -1)], []), 0) := by
  kernel_rfl
theorem wake2 (g : Nat) : judgeD wakeD (wakeA g) (wakeL (-2)) = (3, ([], []), 0) := by
  kernel_rfl
theorem sl_blk {α : Type} {f : Flat α} {W : World} {g : Nat} {T : TypeId} {x : α} (B : Blk W g T (f.enc x).toArray) : Sl f W (some ⟨g, 0, none⟩) 1 [x] :=
  ⟨Nat.le_refl _, by simp [maxLen], fun _ => ⟨g, 0, rfl, fun i hi r hr => by
    obtain rfl : i = 0 := by simpa using hi
    rw [B.cell]; simp⟩, fun e => by cases e⟩
theorem wake_st {W : World} {g0 g1 g2 g3 g4 : Nat} (B0 : Blk W g0 99 #[.int .i64 1, .int .i64 0]) (B1 : Blk W g1 102 #[.int .i64 6, .int .i64 5, .int .i64 4, .slice (some ⟨g0, 0, none⟩) 1 1])
    (B2 : Blk W g2 26 #[.int .u64 0]) (B3 : Blk W g3 26 #[.int .u64 0]) (B4 : Blk W g4 4 #[.bool false]) :
    StOk W ⟨0, some ⟨g1, 0, none⟩, 1, 1, none, 0, 0, some ⟨g2, 0, none⟩, 1, 1, some ⟨g3, 0, none⟩, 1, 1, some ⟨g4, 0, none⟩, 1, 1⟩ wakeD where
  np := rfl
  nr := rfl
  nl := rfl
  ng := rfl
  nw := rfl
  pools := by
    refine ⟨Nat.le_refl _, by simp [maxLen], fun _ => ⟨g1, 0, rfl, fun i hi => ?_⟩, fun e => by cases e⟩
    obtain rfl : i = 0 := by simpa [wakeD] using hi
    refine ⟨[.int .i64 6, .int .i64 5, .int .i64 4, .slice (some ⟨g0, 0, none⟩) 1 1], ⟨_, _, rfl, rfl, _, _, rfl, ⟨_, _, rfl, rfl, rfl⟩, some ⟨g0, 0, none⟩, 1, rfl, ?_⟩, fun j hj => ?_⟩
    · exact (sl_blk (f := fHeld) (x := (1, 0)) B0).to_row rfl eHeld
    · have hj' : j < 4 := hj
      rw [show 0 + 0 * kPool.sz + j = j by omega, B1.cell]
      match j, hj' with
      | 0, _ => rfl
      | 1, _ => rfl
      | 2, _ => rfl
      | 3, _ => rfl
  prices := sl_none _ _
  lasts := sl_blk (f := fNum) (x := 0) B2
  gens := sl_blk (f := fNum) (x := 0) B3
  owed := sl_blk (f := fOwe) (x := false) B4
theorem wake_act {W : World} {g : Nat} {c : Int} (hc : Wf64 c) (B : Blk W g 104 #[.int .i64 0, .int .i64 c]) : ActOk W (wakeA g) (wakeL c) where
  ln := rfl
  gn := rfl
  sn := rfl
  on := rfl
  hn := rfl
  wx := by intro x hx; have e : x = (0, c) := (by simpa [wakeL] using hx); rw [e]; exact ⟨(by decide : -9223372036854775808 ≤ (0 : Int) ∧ (0 : Int) ≤ 9223372036854775807), hc⟩
  wo := by intro x hx; simp [wakeL] at hx
  bx := by simp [wakeL]
  bs := by simp [wakeL]
  bo := by simp [wakeL]
  lines := sl_blk (f := fLine) (x := (0, c)) B
  guards := sl_none _ _
  sets := sl_none _ _
  other := sl_none _ _
  rights := sl_none _ _
set_option maxRecDepth 100000 in
set_option maxHeartbeats 8000000 in
theorem wakes_c (HJ : JudgeSaid) (w : World) : Calls Try.prog 14 #[] w fun e w' => e = .returned (.bool true) ∧ Fr no w w' := by
  go_enter Try.func14, Try.ntmps14
  go_wp2_with fail
  obtain ⟨W0, hW0⟩ : ∃ W0, ((((((((w.alloc (.cells #[.int .i64 1, .int .i64 0] 99)).alloc (.cells #[.int .i64 6, .int .i64 5, .int .i64 4, .slice (some ⟨w.heap.size, 0, none⟩) 1 1] 102)).alloc (.cells #[.int .u64 0] 26)).alloc (.cells #[.int .u64 0] 26)).alloc (.cells #[.bool false] 4)).alloc (.cells #[.int .u64 0, .slice (some ⟨w.heap.size + 1, 0, none⟩) 1 1, .slice none 0 0, .slice (some ⟨w.heap.size + 1 + 1, 0, none⟩) 1 1, .slice (some ⟨w.heap.size + 1 + 1 + 1, 0, none⟩) 1 1, .slice (some ⟨w.heap.size + 1 + 1 + 1 + 1, 0, none⟩) 1 1] 32)).alloc (.cells #[.int .i64 0, .int .i64 (-1)] 104)).alloc (.cells #[.int .i64 0, .int .u64 1, .int .i64 1, .bool true, .slice (some ⟨w.heap.size + 1 + 1 + 1 + 1 + 1 + 1, 0, none⟩) 1 1, .slice none 0 0, .slice none 0 0, .int .i64 0, .slice none 0 0, .int .i64 0, .int .i64 0, .int .i64 0, .int .i64 0, .int .u64 0, .slice none 0 0] 45)) = W0 := ⟨_, rfl⟩
  have F0 : Fr no w W0 := by rw [← hW0]; exact (((((((((Fr.refl no w).alloc _).alloc _).alloc _).alloc _).alloc _).alloc _).alloc _).alloc _)
  have B0 : Blk W0 (w.heap.size) 99 #[.int .i64 1, .int .i64 0] := by rw [← hW0]; exact (((((((blk_at _ _ _ _ (by simp)).alloc _).alloc _).alloc _).alloc _).alloc _).alloc _).alloc _
  have B1 : Blk W0 (w.heap.size + 1) 102 #[.int .i64 6, .int .i64 5, .int .i64 4, .slice (some ⟨w.heap.size, 0, none⟩) 1 1] := by rw [← hW0]; exact ((((((blk_at _ _ _ _ (by simp)).alloc _).alloc _).alloc _).alloc _).alloc _).alloc _
  have B2 : Blk W0 (w.heap.size + 1 + 1) 26 #[.int .u64 0] := by rw [← hW0]; exact (((((blk_at _ _ _ _ (by simp)).alloc _).alloc _).alloc _).alloc _).alloc _
  have B3 : Blk W0 (w.heap.size + 1 + 1 + 1) 26 #[.int .u64 0] := by rw [← hW0]; exact ((((blk_at _ _ _ _ (by simp)).alloc _).alloc _).alloc _).alloc _
  have B4 : Blk W0 (w.heap.size + 1 + 1 + 1 + 1) 4 #[.bool false] := by rw [← hW0]; exact (((blk_at _ _ _ _ (by simp)).alloc _).alloc _).alloc _
  have B5 : Blk W0 (w.heap.size + 1 + 1 + 1 + 1 + 1) 32 #[.int .u64 0, .slice (some ⟨w.heap.size + 1, 0, none⟩) 1 1, .slice none 0 0, .slice (some ⟨w.heap.size + 1 + 1, 0, none⟩) 1 1, .slice (some ⟨w.heap.size + 1 + 1 + 1, 0, none⟩) 1 1, .slice (some ⟨w.heap.size + 1 + 1 + 1 + 1, 0, none⟩) 1 1] := by rw [← hW0]; exact ((blk_at _ _ _ _ (by simp)).alloc _).alloc _
  have B6 : Blk W0 (w.heap.size + 1 + 1 + 1 + 1 + 1 + 1) 104 #[.int .i64 0, .int .i64 (-1)] := by rw [← hW0]; exact (blk_at _ _ _ _ (by simp)).alloc _
  have B7 : Blk W0 (w.heap.size + 1 + 1 + 1 + 1 + 1 + 1 + 1) 45 #[.int .i64 0, .int .u64 1, .int .i64 1, .bool true, .slice (some ⟨w.heap.size + 1 + 1 + 1 + 1 + 1 + 1, 0, none⟩) 1 1, .slice none 0 0, .slice none 0 0, .int .i64 0, .slice none 0 0, .int .i64 0, .int .i64 0, .int .i64 0, .int .i64 0, .int .u64 0, .slice none 0 0] := by rw [← hW0]; exact blk_at _ _ _ _ (by simp)
  rw [hW0]
  have hz : W0.heap.size = w.heap.size + 1 + 1 + 1 + 1 + 1 + 1 + 1 + 1 := by rw [← hW0]; simp
  clear hW0
  refine (judge_c HJ _ wakeD (wakeA (w.heap.size + 1 + 1 + 1 + 1 + 1 + 1)) (wakeL (-1)) W0 (wake_st B0 B1 B2 B3 B4) (wake_act (by unfold Wf64; decide) B6)).mono ?_
  rw [wake1]
  rintro e W1 ⟨A1, n1, c1, A2, n2, c2, rfl, hr, F1⟩
  obtain ⟨rfl, rfl, m1, m2⟩ := hr
  obtain ⟨g, o, hg, hc⟩ := m1.sl.cells (by simp)
  subst hg
  have hgb : W0.heap.size ≤ g := (m1.own.lt g rfl).1
  have q1 : W1.cell? ⟨g, o + 1, none⟩ = some (.int .i64 (-1)) := by have := hc 0 (by simp) 1 (by decide); simpa [fLine] using this
  have C5 := B5.kept0 F1
  have C7 := B7.kept0 F1
  have hz1 : w.heap.size + 1 + 1 + 1 + 1 + 1 + 1 + 1 + 1 ≤ W1.heap.size := by have := F1.size; omega
  have s0 := fun o1 o2 => ((C5.alloc o1).alloc o2).cell 0
  have s1 := fun o1 o2 => ((C5.alloc o1).alloc o2).cell 1
  have s2 := fun o1 o2 => ((C5.alloc o1).alloc o2).cell 2
  have s3 := fun o1 o2 => ((C5.alloc o1).alloc o2).cell 3
  have s4 := fun o1 o2 => ((C5.alloc o1).alloc o2).cell 4
  have s5 := fun o1 o2 => ((C5.alloc o1).alloc o2).cell 5
  have a0 := fun o1 o2 => ((C7.alloc o1).alloc o2).cell 0
  have a1 := fun o1 o2 => ((C7.alloc o1).alloc o2).cell 1
  have a2 := fun o1 o2 => ((C7.alloc o1).alloc o2).cell 2
  have a3 := fun o1 o2 => ((C7.alloc o1).alloc o2).cell 3
  have a4 := fun o1 o2 => ((C7.alloc o1).alloc o2).cell 4
  have a5 := fun o1 o2 => ((C7.alloc o1).alloc o2).cell 5
  have a6 := fun o1 o2 => ((C7.alloc o1).alloc o2).cell 6
  have a7 := fun o1 o2 => ((C7.alloc o1).alloc o2).cell 7
  have a8 := fun o1 o2 => ((C7.alloc o1).alloc o2).cell 8
  have a9 := fun o1 o2 => ((C7.alloc o1).alloc o2).cell 9
  have a10 := fun o1 o2 => ((C7.alloc o1).alloc o2).cell 10
  have a11 := fun o1 o2 => ((C7.alloc o1).alloc o2).cell 11
  have a12 := fun o1 o2 => ((C7.alloc o1).alloc o2).cell 12
  have a13 := fun o1 o2 => ((C7.alloc o1).alloc o2).cell 13
  have a14 := fun o1 o2 => ((C7.alloc o1).alloc o2).cell 14
  have f4 := fun o1 o2 => ((C7.alloc o1).alloc o2).free 4
  have HQ1 := hide q1
  have HC := hide (And.intro B0 (And.intro B1 (And.intro B2 (And.intro B3 (And.intro B4 (And.intro C5 C7))))))
  have HF1 := hide F1
  have HF0 := hide F0
  clear q1 hc m1 m2 C5 C7 B0 B1 B2 B3 B4 B5 B6 B7 F1 F0
  dsimp only
  go_wp2_with fail
  obtain ⟨D0, D1, D2, D3, D4, C5, C7⟩ := HC.out
  obtain ⟨W2, hW2⟩ : ∃ W2, (((W1.alloc (.cells #[.int .i64 1, .slice (some ⟨g, o, none⟩) 1 c1, .slice A2 0 c2, .int .i64 0] 106)).alloc (.cells #[.int .i64 0, .int .i64 (-2)] 104)).setCell ⟨w.heap.size + 1 + 1 + 1 + 1 + 1 + 1 + 1, 4, none⟩ (.slice (some ⟨W1.heap.size + 1, 0, none⟩) 1 1)) = W2 := ⟨_, rfl⟩
  have F2 : Fr (fun k => k = w.heap.size + 1 + 1 + 1 + 1 + 1 + 1 + 1) W1 W2 := by rw [← hW2]; exact (((Fr.refl _ W1).alloc _).alloc _).trans (Fr.setCell _ _ _ _)
  have G0 := (D0.kept0 HF1.out).kept F2 (by omega)
  have G1 := (D1.kept0 HF1.out).kept F2 (by omega)
  have G2 := (D2.kept0 HF1.out).kept F2 (by omega)
  have G3 := (D3.kept0 HF1.out).kept F2 (by omega)
  have G4 := (D4.kept0 HF1.out).kept F2 (by omega)
  have T1 : Blk W2 W1.heap.size 106 #[.int .i64 1, .slice (some ⟨g, o, none⟩) 1 c1, .slice A2 0 c2, .int .i64 0] := by rw [← hW2]; exact ((Blk.new W1 _ _).alloc _).setOther (by omega) _ _
  have T2 : Blk W2 (W1.heap.size + 1) 104 #[.int .i64 0, .int .i64 (-2)] := by rw [← hW2]; exact (blk_at _ _ _ _ (by simp)).setOther (by omega) _ _
  have hgne : g ≠ w.heap.size + 1 + 1 + 1 + 1 + 1 + 1 + 1 := by omega
  have q2 : W2.cell? ⟨g, o + 1, none⟩ = some (.int .i64 (-1)) := by rw [World.cell?_of_block (w := W1) (F2.block g (World.block_lt_of_cell? W1 _ HQ1.out) hgne)]; exact HQ1.out
  rw [hW2]
  clear hW2
  refine (judge_c HJ _ wakeD (wakeA (W1.heap.size + 1)) (wakeL (-2)) W2 (wake_st G0 G1 G2 G3 G4) (wake_act (by unfold Wf64; decide) T2)).mono ?_
  rw [wake2]
  rintro e W3 ⟨A3, n3, c3, A4, n4, c4, rfl, hr, F3⟩
  obtain ⟨rfl, rfl, m3, m4⟩ := hr
  have T3 := T1.kept0 F3
  have t0 := fun ob => (T3.alloc ob).cell 0
  have t1 := fun ob => (T3.alloc ob).cell 1
  have q3 := fun ob => cell_any (fr_cell F3 q2) ob
  have hz3 : W1.heap.size + 1 < W3.heap.size := Nat.lt_of_lt_of_le T2.lt F3.size
  have HE := hide ((HF0.out.trans HF1.out).thru (F2.trans0 F3) (fun i hi e => absurd hi (by omega)))
  clear HQ1 HC HF1 HF0 D0 D1 D2 D3 D4 C5 C7 F2 G0 G1 G2 G3 G4 T1 T2 T3 q2 F3 m3 m4 f4 s0 s1 s2 s3 s4 s5 a0 a1 a2 a3 a4 a5 a6 a7 a8 a9 a10 a11 a12 a13 a14
  dsimp only
  go_wp2_with fail
  go_ret
  exact ⟨rfl, HE.out.alloc _⟩
end Go.Proofs.Ytmnajpkmglmipaa
