/- LendQ -/
import Derived.Test.YtmnajpkmglmipaaGreatMRuleNeeds05
import Derived.Test.YtmnajpkmglmipaaGreatMRuleNeeds10
import Derived.Laws.ResultCell
/- Contracts of package tilllaw1's lending of states and acts. -/
namespace Go.Proofs.YtmnajpkmglmipaaGreat
open Go.RowKit

theorem Sl.to_row {α : Type} {f : Flat α} {d : Kd α} (hs : d.sz = f.sz) (R : ∀ w x, d.K w x (f.enc x)) {w : World} {A : Option Addr} {c : Nat} {xs : List α} (h : Sl f w A c xs) : d.Row w A c xs :=
  ⟨h.le, h.top, fun hn => by
    obtain ⟨g, o, e, hc⟩ := h.cells hn
    exact ⟨g, o, e, fun i hi => ⟨f.enc xs[i], R _ _, fun j hj => by rw [hs] at hj ⊢; exact hc i hi j hj⟩⟩, h.none⟩
theorem eNum : ∀ (w : World) (x : NumD), kNum.K w x (fNum.enc x) := fun _ _ => rfl
theorem eOwe : ∀ (w : World) (x : OweD), kOwe.K w x (fOwe.enc x) := fun _ _ => rfl
theorem ePriced : ∀ (w : World) (x : PricedD), kPriced.K w x (fPriced.enc x) := fun _ _ => ⟨_, _, rfl, rfl, rfl⟩
theorem eLine : ∀ (w : World) (x : LineD), kLine.K w x (fLine.enc x) := fun _ _ => ⟨_, _, rfl, rfl, rfl⟩
theorem eGuard : ∀ (w : World) (x : GuardD), kGuard.K w x (fGuard.enc x) := fun _ _ => ⟨_, _, rfl, rfl, _, _, rfl, rfl, rfl⟩
theorem eSet : ∀ (w : World) (x : SetD), kSet.K w x (fSet.enc x) := fun _ _ => ⟨_, _, rfl, rfl, _, _, rfl, rfl, rfl⟩
theorem eRight : ∀ (w : World) (x : RightD), kRight.K w x (fRight.enc x) := fun _ _ => ⟨_, _, rfl, rfl, _, _, rfl, rfl, rfl⟩
/-- How much a state's lists take. -/
structure StFit (d : StL) : Prop where
  ps : d.ps.length * 48 ≤ 140737488351232
  hs : ∀ p ∈ d.ps, p.2.2.length * 16 ≤ 140737488351232
  vs : d.vs.length * 16 ≤ 140737488351232
  ls : d.ls.length * 8 ≤ 140737488351232
  gs : d.gs.length * 8 ≤ 140737488351232
  os : d.os.length * 1 ≤ 140737488351232
/-- Where a lent state's lists lie. -/
structure LentZ where
  gL : Nat
  gG : Nat
  gP : Nat
  gR : Nat
  gO : Nat
  rs : List PoolR
def stLent (q : Int) (d : StL) (z : LentZ) : StV :=
  ⟨q, some ⟨z.gP, 0, none⟩, d.ps.length, d.ps.length + 9, some ⟨z.gR, 0, none⟩, d.vs.length, d.vs.length + 9, some ⟨z.gL, 0, none⟩, d.ls.length, d.ls.length + 9, some ⟨z.gG, 0, none⟩, d.gs.length, d.gs.length + 9, some ⟨z.gO, 0, none⟩, d.os.length, d.os.length + 9⟩
structure LentState (W : World) (base : Nat) (z : LentZ) (d : StL) : Prop where
  lo : base ≤ z.gL
  lg : z.gL < z.gG
  gp : z.gG < z.gP
  pr : z.gP < z.gR
  ro : z.gR < z.gO
  hr : ∀ r ∈ z.rs, ∀ a, r.2.2.1 = some a → a.block ≠ z.gP ∧ z.gG < a.block ∧ a.block < z.gR
  lasts : W.ownsRow base 71 1 (.slice (some ⟨z.gL, 0, none⟩) (d.ls.length + 9) (d.ls.length + 9)) (d.ls.length + 9) (fNum.all (d.ls ++ List.replicate 9 777))
  gens : W.ownsRow base 71 1 (.slice (some ⟨z.gG, 0, none⟩) (d.gs.length + 9) (d.gs.length + 9)) (d.gs.length + 9) (fNum.all (d.gs ++ List.replicate 9 777))
  pools : W.ownsRow base 144 4 (.slice (some ⟨z.gP, 0, none⟩) (d.ps.length + 9) (d.ps.length + 9)) (d.ps.length + 9) (fPoolR.all (z.rs ++ List.replicate 9 (777, (0, 0), (none, 0, 0))))
  helds : LentTo W base z.gP z.rs d.ps d.ps.length
  prices : W.ownsRow base 154 2 (.slice (some ⟨z.gR, 0, none⟩) (d.vs.length + 9) (d.vs.length + 9)) (d.vs.length + 9) (fPriced.all (d.vs ++ List.replicate 9 (777, 0)))
  owed : W.ownsRow base 4 1 (.slice (some ⟨z.gO, 0, none⟩) (d.os.length + 9) (d.os.length + 9)) (d.os.length + 9) (fOwe.all (d.os ++ oweMarks 9))
/-- Where a lent act's lists lie. -/
structure LentY where
  gl : Nat
  gg : Nat
  gs : Nat
  go : Nat
  gr : Nat
def actLent (a : ActV) (l : ActL) (z : LentY) : ActV :=
  { a with lA := some ⟨z.gl, 0, none⟩, ln := l.xs.length, lc := l.xs.length + 9, gA := some ⟨z.gg, 0, none⟩, gn := l.gs.length, gc := l.gs.length + 9, sA := some ⟨z.gs, 0, none⟩, sn := l.ss.length, sc := l.ss.length + 9, oA := some ⟨z.go, 0, none⟩, on := l.os.length, oc := l.os.length + 9, hA := some ⟨z.gr, 0, none⟩, hn := l.rs.length, hc := l.rs.length + 9 }
structure LentAct (W : World) (base : Nat) (z : LentY) (l : ActL) : Prop where
  lo : base ≤ z.gl
  lg : z.gl < z.gg
  gs : z.gg < z.gs
  so : z.gs < z.go
  or' : z.go < z.gr
  lines : W.ownsRow base 57 2 (.slice (some ⟨z.gl, 0, none⟩) (l.xs.length + 9) (l.xs.length + 9)) (l.xs.length + 9) (fLine.all (l.xs ++ List.replicate 9 (777, 7)))
  guards : W.ownsRow base 105 3 (.slice (some ⟨z.gg, 0, none⟩) (l.gs.length + 9) (l.gs.length + 9)) (l.gs.length + 9) (fGuard.all (l.gs ++ List.replicate 9 (777, 0, 0)))
  sets : W.ownsRow base 108 3 (.slice (some ⟨z.gs, 0, none⟩) (l.ss.length + 9) (l.ss.length + 9)) (l.ss.length + 9) (fSet.all (l.ss ++ List.replicate 9 (777, 0, 0)))
  other : W.ownsRow base 57 2 (.slice (some ⟨z.go, 0, none⟩) (l.os.length + 9) (l.os.length + 9)) (l.os.length + 9) (fLine.all (l.os ++ List.replicate 9 (777, 7)))
  rights : W.ownsRow base 86 3 (.slice (some ⟨z.gr, 0, none⟩) (l.rs.length + 9) (l.rs.length + 9)) (l.rs.length + 9) (fRight.all (l.rs ++ List.replicate 9 (777, 0, 0)))
set_option maxRecDepth 100000 in
set_option maxHeartbeats 2000000 in
theorem lend_state (s : StV) (d : StL) (w : World) (h : StOk w s d) (hf : StFit d) :
    Calls Tryz.prog 92 #[.agg #[.int .u64 s.q, .slice s.P s.np s.cp, .slice s.R s.nr s.cr, .slice s.L s.nl s.cl, .slice s.G s.ng s.cg, .slice s.O s.no s.co]] w fun e w' => (∃ z, e = .returned (.agg #[.int .u64 (stLent s.q d z).q, .slice (stLent s.q d z).P (stLent s.q d z).np (stLent s.q d z).cp, .slice (stLent s.q d z).R (stLent s.q d z).nr (stLent s.q d z).cr, .slice (stLent s.q d z).L (stLent s.q d z).nl (stLent s.q d z).cl, .slice (stLent s.q d z).G (stLent s.q d z).ng (stLent s.q d z).cg, .slice (stLent s.q d z).O (stLent s.q d z).no (stLent s.q d z).co]) ∧ LentState w' w.heap.size z d) ∧ Fr no w w' := by
  rw [h.np, h.nr, h.nl, h.ng, h.nw]
  have H := hide h
  have HF := hide hf
  clear h hf
  go_enter Tryz.func92, Tryz.ntmps92
  go_wp2_with fail
  obtain ⟨W0, hW0⟩ : ∃ W0, (((w.alloc (.cells #[.int .u64 s.q, .slice s.P d.ps.length s.cp, .slice s.R d.vs.length s.cr, .slice s.L d.ls.length s.cl, .slice s.G d.gs.length s.cg, .slice s.O d.os.length s.co] 77)).alloc (.cells #[.int .u64 0, .slice none 0 0, .slice none 0 0, .slice none 0 0, .slice none 0 0, .slice none 0 0] 77)).alloc (.cells #[.int .u64 s.q, .slice s.P d.ps.length s.cp, .slice s.R d.vs.length s.cr, .slice s.L d.ls.length s.cl, .slice s.G d.gs.length s.cg, .slice s.O d.os.length s.co] 77)) = W0 := ⟨_, rfl⟩
  have F0 : Fr no w W0 := by rw [← hW0]; exact (((Fr.refl no w).alloc _).alloc _).alloc _
  have A0 : Blk W0 (w.heap.size) 77 #[.int .u64 s.q, .slice s.P d.ps.length s.cp, .slice s.R d.vs.length s.cr, .slice s.L d.ls.length s.cl, .slice s.G d.gs.length s.cg, .slice s.O d.os.length s.co] := by rw [← hW0]; exact ((Blk.new w _ _).alloc _).alloc _
  have B0 : Blk W0 (w.heap.size + 1) 77 #[.int .u64 0, .slice none 0 0, .slice none 0 0, .slice none 0 0, .slice none 0 0, .slice none 0 0] := by rw [← hW0]; exact (blk_at _ _ _ _ (by simp)).alloc _
  have C0 : Blk W0 (w.heap.size + 1 + 1) 77 #[.int .u64 s.q, .slice s.P d.ps.length s.cp, .slice s.R d.vs.length s.cr, .slice s.L d.ls.length s.cl, .slice s.G d.gs.length s.cg, .slice s.O d.os.length s.co] := by rw [← hW0]; exact blk_at _ _ _ _ (by simp)
  have Z0 : W0.heap.size = w.heap.size + 1 + 1 + 1 := by rw [← hW0]; simp
  have U0 := hide (Fr.refl no W0)
  rw [hW0]
  clear hW0
  have HZ := hide Z0
  have X1 : Fr no w W0 := F0
  have HA0 := hide A0
  have HB0 := hide B0
  have HC0 := hide C0
  have a0 := A0.cell 3
  clear A0 B0 C0 F0 Z0
  go_wp2_with fail
  refine (lend_num s.L s.cl d.ls _ (((H.out.keep X1).lasts).to_row rfl eNum) HF.out.ls).mono ?_
  rintro e W1 ⟨⟨gL, rfl, hg1, own1⟩, F1⟩
  have S1 : w.heap.size + 1 + 1 < W1.heap.size := Nat.lt_of_lt_of_le HC0.out.lt F1.size
  have A1 := HA0.out.kept0 F1
  have B1 := HB0.out.kept0 F1
  have C1 := HC0.out.kept0 F1
  have L1 : w.heap.size + 1 + 1 < gL := Nat.lt_of_lt_of_le HC0.out.lt hg1
  have P1 : Fr (fun k => k = w.heap.size + 1 + 1) W1 (W1.setCell ⟨w.heap.size + 1 + 1, 3, none⟩ (.slice (some ⟨gL, 0, none⟩) d.ls.length (d.ls.length + 9))) := Fr.setCell _ _ _ _
  have XX1 : Fr no w (W1.setCell ⟨w.heap.size + 1 + 1, 3, none⟩ (.slice (some ⟨gL, 0, none⟩) d.ls.length (d.ls.length + 9))) := ((X1.trans F1).thru P1 (fun i hi e => absurd hi (by omega)))
  have HO1 := hide own1
  clear own1
  have c1 := C1.cell 3
  have d1 := C1.free 3
  have a1 := A1.cell 4
  have AA : Blk (W1.setCell ⟨w.heap.size + 1 + 1, 3, none⟩ (.slice (some ⟨gL, 0, none⟩) d.ls.length (d.ls.length + 9))) (w.heap.size) 77 #[.int .u64 s.q, .slice s.P d.ps.length s.cp, .slice s.R d.vs.length s.cr, .slice s.L d.ls.length s.cl, .slice s.G d.gs.length s.cg, .slice s.O d.os.length s.co] := A1.setOther (by omega) _ _
  have BB : Blk (W1.setCell ⟨w.heap.size + 1 + 1, 3, none⟩ (.slice (some ⟨gL, 0, none⟩) d.ls.length (d.ls.length + 9))) (w.heap.size + 1) 77 #[.int .u64 0, .slice none 0 0, .slice none 0 0, .slice none 0 0, .slice none 0 0, .slice none 0 0] := B1.setOther (by omega) _ _
  have CC : Blk (W1.setCell ⟨w.heap.size + 1 + 1, 3, none⟩ (.slice (some ⟨gL, 0, none⟩) d.ls.length (d.ls.length + 9))) (w.heap.size + 1 + 1) 77 #[.int .u64 s.q, .slice s.P d.ps.length s.cp, .slice s.R d.vs.length s.cr, .slice (some ⟨gL, 0, none⟩) d.ls.length (d.ls.length + 9), .slice s.G d.gs.length s.cg, .slice s.O d.os.length s.co] := C1.set _ _
  have HAA1 := hide AA
  have HBB1 := hide BB
  have HCC1 := hide CC
  have HF1 := hide F1
  have HP1 := hide P1
  clear AA BB CC A1 B1 C1 F1 P1
  go_wp2_with fail
  have A1 := HAA1.out
  have B1 := HBB1.out
  have C1 := HCC1.out
  have X2 : Fr no w (W1.setCell ⟨w.heap.size + 1 + 1, 3, none⟩ (.slice (some ⟨gL, 0, none⟩) d.ls.length (d.ls.length + 9))) := XX1
  have HA1 := hide A1
  have HB1 := hide B1
  have HC1 := hide C1
  refine (lend_num s.G s.cg d.gs _ (((H.out.keep X2).gens).to_row rfl eNum) HF.out.gs).mono ?_
  rintro e W2 ⟨⟨gG, rfl, hg2, own2⟩, F2⟩
  have S2 : w.heap.size + 1 + 1 < W2.heap.size := Nat.lt_of_lt_of_le HC1.out.lt F2.size
  have A2 := HA1.out.kept0 F2
  have B2 := HB1.out.kept0 F2
  have C2 := HC1.out.kept0 F2
  have L2 : w.heap.size + 1 + 1 < gG := Nat.lt_of_lt_of_le HC1.out.lt hg2
  have P2 : Fr (fun k => k = w.heap.size + 1 + 1) W2 (W2.setCell ⟨w.heap.size + 1 + 1, 4, none⟩ (.slice (some ⟨gG, 0, none⟩) d.gs.length (d.gs.length + 9))) := Fr.setCell _ _ _ _
  have XX2 : Fr no w (W2.setCell ⟨w.heap.size + 1 + 1, 4, none⟩ (.slice (some ⟨gG, 0, none⟩) d.gs.length (d.gs.length + 9))) := ((X2.trans F2).thru P2 (fun i hi e => absurd hi (by omega)))
  have HO2 := hide own2
  clear own2
  have c2 := C2.cell 4
  have d2 := C2.free 4
  have a2 := A2.cell 1
  have AA : Blk (W2.setCell ⟨w.heap.size + 1 + 1, 4, none⟩ (.slice (some ⟨gG, 0, none⟩) d.gs.length (d.gs.length + 9))) (w.heap.size) 77 #[.int .u64 s.q, .slice s.P d.ps.length s.cp, .slice s.R d.vs.length s.cr, .slice s.L d.ls.length s.cl, .slice s.G d.gs.length s.cg, .slice s.O d.os.length s.co] := A2.setOther (by omega) _ _
  have BB : Blk (W2.setCell ⟨w.heap.size + 1 + 1, 4, none⟩ (.slice (some ⟨gG, 0, none⟩) d.gs.length (d.gs.length + 9))) (w.heap.size + 1) 77 #[.int .u64 0, .slice none 0 0, .slice none 0 0, .slice none 0 0, .slice none 0 0, .slice none 0 0] := B2.setOther (by omega) _ _
  have CC : Blk (W2.setCell ⟨w.heap.size + 1 + 1, 4, none⟩ (.slice (some ⟨gG, 0, none⟩) d.gs.length (d.gs.length + 9))) (w.heap.size + 1 + 1) 77 #[.int .u64 s.q, .slice s.P d.ps.length s.cp, .slice s.R d.vs.length s.cr, .slice (some ⟨gL, 0, none⟩) d.ls.length (d.ls.length + 9), .slice (some ⟨gG, 0, none⟩) d.gs.length (d.gs.length + 9), .slice s.O d.os.length s.co] := C2.set _ _
  have HAA2 := hide AA
  have HBB2 := hide BB
  have HCC2 := hide CC
  have HF2 := hide F2
  have HP2 := hide P2
  clear AA BB CC A2 B2 C2 F2 P2
  go_wp2_with fail
  have A2 := HAA2.out
  have B2 := HBB2.out
  have C2 := HCC2.out
  have X3 : Fr no w (W2.setCell ⟨w.heap.size + 1 + 1, 4, none⟩ (.slice (some ⟨gG, 0, none⟩) d.gs.length (d.gs.length + 9))) := XX2
  have HA2 := hide A2
  have HB2 := hide B2
  have HC2 := hide C2
  refine (lend_pools s.P s.cp d.ps _ (H.out.keep X3).pools HF.out.ps HF.out.hs).mono ?_
  rintro e W3 ⟨⟨gP, rs, rfl, hg3, lt, own3⟩, F3⟩
  have S3 : w.heap.size + 1 + 1 < W3.heap.size := Nat.lt_of_lt_of_le HC2.out.lt F3.size
  have A3 := HA2.out.kept0 F3
  have B3 := HB2.out.kept0 F3
  have C3 := HC2.out.kept0 F3
  have L3 : w.heap.size + 1 + 1 < gP := Nat.lt_of_lt_of_le HC2.out.lt hg3
  have P3 : Fr (fun k => k = w.heap.size + 1 + 1) W3 (W3.setCell ⟨w.heap.size + 1 + 1, 1, none⟩ (.slice (some ⟨gP, 0, none⟩) d.ps.length (d.ps.length + 9))) := Fr.setCell _ _ _ _
  have XX3 : Fr no w (W3.setCell ⟨w.heap.size + 1 + 1, 1, none⟩ (.slice (some ⟨gP, 0, none⟩) d.ps.length (d.ps.length + 9))) := ((X3.trans F3).thru P3 (fun i hi e => absurd hi (by omega)))
  have HO3 := hide own3
  clear own3
  have c3 := C3.cell 1
  have d3 := C3.free 1
  have a3 := A3.cell 2
  have AA : Blk (W3.setCell ⟨w.heap.size + 1 + 1, 1, none⟩ (.slice (some ⟨gP, 0, none⟩) d.ps.length (d.ps.length + 9))) (w.heap.size) 77 #[.int .u64 s.q, .slice s.P d.ps.length s.cp, .slice s.R d.vs.length s.cr, .slice s.L d.ls.length s.cl, .slice s.G d.gs.length s.cg, .slice s.O d.os.length s.co] := A3.setOther (by omega) _ _
  have BB : Blk (W3.setCell ⟨w.heap.size + 1 + 1, 1, none⟩ (.slice (some ⟨gP, 0, none⟩) d.ps.length (d.ps.length + 9))) (w.heap.size + 1) 77 #[.int .u64 0, .slice none 0 0, .slice none 0 0, .slice none 0 0, .slice none 0 0, .slice none 0 0] := B3.setOther (by omega) _ _
  have CC : Blk (W3.setCell ⟨w.heap.size + 1 + 1, 1, none⟩ (.slice (some ⟨gP, 0, none⟩) d.ps.length (d.ps.length + 9))) (w.heap.size + 1 + 1) 77 #[.int .u64 s.q, .slice (some ⟨gP, 0, none⟩) d.ps.length (d.ps.length + 9), .slice s.R d.vs.length s.cr, .slice (some ⟨gL, 0, none⟩) d.ls.length (d.ls.length + 9), .slice (some ⟨gG, 0, none⟩) d.gs.length (d.gs.length + 9), .slice s.O d.os.length s.co] := C3.set _ _
  have HAA3 := hide AA
  have HBB3 := hide BB
  have HCC3 := hide CC
  have HF3 := hide F3
  have HP3 := hide P3
  clear AA BB CC A3 B3 C3 F3 P3
  go_wp2_with fail
  have A3 := HAA3.out
  have B3 := HBB3.out
  have C3 := HCC3.out
  have X4 : Fr no w (W3.setCell ⟨w.heap.size + 1 + 1, 1, none⟩ (.slice (some ⟨gP, 0, none⟩) d.ps.length (d.ps.length + 9))) := XX3
  have HA3 := hide A3
  have HB3 := hide B3
  have HC3 := hide C3
  refine (lend_priced s.R s.cr d.vs _ (((H.out.keep X4).prices).to_row rfl ePriced) HF.out.vs).mono ?_
  rintro e W4 ⟨⟨gR, rfl, hg4, own4⟩, F4⟩
  have S4 : w.heap.size + 1 + 1 < W4.heap.size := Nat.lt_of_lt_of_le HC3.out.lt F4.size
  have A4 := HA3.out.kept0 F4
  have B4 := HB3.out.kept0 F4
  have C4 := HC3.out.kept0 F4
  have L4 : w.heap.size + 1 + 1 < gR := Nat.lt_of_lt_of_le HC3.out.lt hg4
  have P4 : Fr (fun k => k = w.heap.size + 1 + 1) W4 (W4.setCell ⟨w.heap.size + 1 + 1, 2, none⟩ (.slice (some ⟨gR, 0, none⟩) d.vs.length (d.vs.length + 9))) := Fr.setCell _ _ _ _
  have XX4 : Fr no w (W4.setCell ⟨w.heap.size + 1 + 1, 2, none⟩ (.slice (some ⟨gR, 0, none⟩) d.vs.length (d.vs.length + 9))) := ((X4.trans F4).thru P4 (fun i hi e => absurd hi (by omega)))
  have HO4 := hide own4
  clear own4
  have c4 := C4.cell 2
  have d4 := C4.free 2
  have a4 := A4.cell 5
  have AA : Blk (W4.setCell ⟨w.heap.size + 1 + 1, 2, none⟩ (.slice (some ⟨gR, 0, none⟩) d.vs.length (d.vs.length + 9))) (w.heap.size) 77 #[.int .u64 s.q, .slice s.P d.ps.length s.cp, .slice s.R d.vs.length s.cr, .slice s.L d.ls.length s.cl, .slice s.G d.gs.length s.cg, .slice s.O d.os.length s.co] := A4.setOther (by omega) _ _
  have BB : Blk (W4.setCell ⟨w.heap.size + 1 + 1, 2, none⟩ (.slice (some ⟨gR, 0, none⟩) d.vs.length (d.vs.length + 9))) (w.heap.size + 1) 77 #[.int .u64 0, .slice none 0 0, .slice none 0 0, .slice none 0 0, .slice none 0 0, .slice none 0 0] := B4.setOther (by omega) _ _
  have CC : Blk (W4.setCell ⟨w.heap.size + 1 + 1, 2, none⟩ (.slice (some ⟨gR, 0, none⟩) d.vs.length (d.vs.length + 9))) (w.heap.size + 1 + 1) 77 #[.int .u64 s.q, .slice (some ⟨gP, 0, none⟩) d.ps.length (d.ps.length + 9), .slice (some ⟨gR, 0, none⟩) d.vs.length (d.vs.length + 9), .slice (some ⟨gL, 0, none⟩) d.ls.length (d.ls.length + 9), .slice (some ⟨gG, 0, none⟩) d.gs.length (d.gs.length + 9), .slice s.O d.os.length s.co] := C4.set _ _
  have HAA4 := hide AA
  have HBB4 := hide BB
  have HCC4 := hide CC
  have HF4 := hide F4
  have HP4 := hide P4
  clear AA BB CC A4 B4 C4 F4 P4
  go_wp2_with fail
  have A4 := HAA4.out
  have B4 := HBB4.out
  have C4 := HCC4.out
  have X5 : Fr no w (W4.setCell ⟨w.heap.size + 1 + 1, 2, none⟩ (.slice (some ⟨gR, 0, none⟩) d.vs.length (d.vs.length + 9))) := XX4
  have HA4 := hide A4
  have HB4 := hide B4
  have HC4 := hide C4
  refine (lend_owe s.O s.co d.os _ (((H.out.keep X5).owed).to_row rfl eOwe) HF.out.os).mono ?_
  rintro e W5 ⟨⟨gO, rfl, hg5, own5⟩, F5⟩
  have S5 : w.heap.size + 1 + 1 < W5.heap.size := Nat.lt_of_lt_of_le HC4.out.lt F5.size
  have A5 := HA4.out.kept0 F5
  have B5 := HB4.out.kept0 F5
  have C5 := HC4.out.kept0 F5
  have L5 : w.heap.size + 1 + 1 < gO := Nat.lt_of_lt_of_le HC4.out.lt hg5
  have P5 : Fr (fun k => k = w.heap.size + 1 + 1) W5 (W5.setCell ⟨w.heap.size + 1 + 1, 5, none⟩ (.slice (some ⟨gO, 0, none⟩) d.os.length (d.os.length + 9))) := Fr.setCell _ _ _ _
  have XX5 : Fr no w (W5.setCell ⟨w.heap.size + 1 + 1, 5, none⟩ (.slice (some ⟨gO, 0, none⟩) d.os.length (d.os.length + 9))) := ((X5.trans F5).thru P5 (fun i hi e => absurd hi (by omega)))
  have HO5 := hide own5
  clear own5
  have c5 := C5.cell 5
  have d5 := C5.free 5
  have e0 := C5.cell 0
  have f0 := B5.cell 0
  have h0 := B5.free 0
  have e1 := C5.cell 1
  have f1 := B5.cell 1
  have h1 := B5.free 1
  have e2 := C5.cell 2
  have f2 := B5.cell 2
  have h2 := B5.free 2
  have e3 := C5.cell 3
  have f3 := B5.cell 3
  have h3 := B5.free 3
  have e4 := C5.cell 4
  have f4 := B5.cell 4
  have h4 := B5.free 4
  have f5 := B5.cell 5
  have h5 := B5.free 5
  have AA : Blk (W5.setCell ⟨w.heap.size + 1 + 1, 5, none⟩ (.slice (some ⟨gO, 0, none⟩) d.os.length (d.os.length + 9))) (w.heap.size) 77 #[.int .u64 s.q, .slice s.P d.ps.length s.cp, .slice s.R d.vs.length s.cr, .slice s.L d.ls.length s.cl, .slice s.G d.gs.length s.cg, .slice s.O d.os.length s.co] := A5.setOther (by omega) _ _
  have BB : Blk (W5.setCell ⟨w.heap.size + 1 + 1, 5, none⟩ (.slice (some ⟨gO, 0, none⟩) d.os.length (d.os.length + 9))) (w.heap.size + 1) 77 #[.int .u64 0, .slice none 0 0, .slice none 0 0, .slice none 0 0, .slice none 0 0, .slice none 0 0] := B5.setOther (by omega) _ _
  have CC : Blk (W5.setCell ⟨w.heap.size + 1 + 1, 5, none⟩ (.slice (some ⟨gO, 0, none⟩) d.os.length (d.os.length + 9))) (w.heap.size + 1 + 1) 77 #[.int .u64 s.q, .slice (some ⟨gP, 0, none⟩) d.ps.length (d.ps.length + 9), .slice (some ⟨gR, 0, none⟩) d.vs.length (d.vs.length + 9), .slice (some ⟨gL, 0, none⟩) d.ls.length (d.ls.length + 9), .slice (some ⟨gG, 0, none⟩) d.gs.length (d.gs.length + 9), .slice (some ⟨gO, 0, none⟩) d.os.length (d.os.length + 9)] := C5.set _ _
  have HAA5 := hide AA
  have HBB5 := hide BB
  have HCC5 := hide CC
  have HF5 := hide F5
  have HP5 := hide P5
  clear AA BB CC A5 B5 C5 F5 P5
  go_wp2_with fail
  have FF : Fr no w (((((((W5.setCell ⟨w.heap.size + 1 + 1, 5, none⟩ (.slice (some ⟨gO, 0, none⟩) d.os.length (d.os.length + 9))).setCell ⟨w.heap.size + 1, 0, none⟩ (.int .u64 s.q)).setCell ⟨w.heap.size + 1, 1, none⟩ (.slice (some ⟨gP, 0, none⟩) d.ps.length (d.ps.length + 9))).setCell ⟨w.heap.size + 1, 2, none⟩ (.slice (some ⟨gR, 0, none⟩) d.vs.length (d.vs.length + 9))).setCell ⟨w.heap.size + 1, 3, none⟩ (.slice (some ⟨gL, 0, none⟩) d.ls.length (d.ls.length + 9))).setCell ⟨w.heap.size + 1, 4, none⟩ (.slice (some ⟨gG, 0, none⟩) d.gs.length (d.gs.length + 9))).setCell ⟨w.heap.size + 1, 5, none⟩ (.slice (some ⟨gO, 0, none⟩) d.os.length (d.os.length + 9))) := ((((((XX5.thru (Fr.setCell _ _ _ _) (fun i hi e => absurd hi (by omega))).thru (Fr.setCell _ _ _ _) (fun i hi e => absurd hi (by omega))).thru (Fr.setCell _ _ _ _) (fun i hi e => absurd hi (by omega))).thru (Fr.setCell _ _ _ _) (fun i hi e => absurd hi (by omega))).thru (Fr.setCell _ _ _ _) (fun i hi e => absurd hi (by omega))).thru (Fr.setCell _ _ _ _) (fun i hi e => absurd hi (by omega)))
  have G5 : Fr (fun k => k = w.heap.size + 1 ∨ k = w.heap.size + 1 + 1) W5 (((((((W5.setCell ⟨w.heap.size + 1 + 1, 5, none⟩ (.slice (some ⟨gO, 0, none⟩) d.os.length (d.os.length + 9))).setCell ⟨w.heap.size + 1, 0, none⟩ (.int .u64 s.q)).setCell ⟨w.heap.size + 1, 1, none⟩ (.slice (some ⟨gP, 0, none⟩) d.ps.length (d.ps.length + 9))).setCell ⟨w.heap.size + 1, 2, none⟩ (.slice (some ⟨gR, 0, none⟩) d.vs.length (d.vs.length + 9))).setCell ⟨w.heap.size + 1, 3, none⟩ (.slice (some ⟨gL, 0, none⟩) d.ls.length (d.ls.length + 9))).setCell ⟨w.heap.size + 1, 4, none⟩ (.slice (some ⟨gG, 0, none⟩) d.gs.length (d.gs.length + 9))).setCell ⟨w.heap.size + 1, 5, none⟩ (.slice (some ⟨gO, 0, none⟩) d.os.length (d.os.length + 9))) := ((((((((Fr.setCell _ _ _ _).mono (fun _ _ e => .inr e)).trans ((Fr.setCell _ _ _ _).mono (fun _ _ e => .inl e))).trans ((Fr.setCell _ _ _ _).mono (fun _ _ e => .inl e))).trans ((Fr.setCell _ _ _ _).mono (fun _ _ e => .inl e))).trans ((Fr.setCell _ _ _ _).mono (fun _ _ e => .inl e))).trans ((Fr.setCell _ _ _ _).mono (fun _ _ e => .inl e))).trans ((Fr.setCell _ _ _ _).mono (fun _ _ e => .inl e)))
  have G4 : Fr (fun k => k = w.heap.size + 1 ∨ k = w.heap.size + 1 + 1) W4 (((((((W5.setCell ⟨w.heap.size + 1 + 1, 5, none⟩ (.slice (some ⟨gO, 0, none⟩) d.os.length (d.os.length + 9))).setCell ⟨w.heap.size + 1, 0, none⟩ (.int .u64 s.q)).setCell ⟨w.heap.size + 1, 1, none⟩ (.slice (some ⟨gP, 0, none⟩) d.ps.length (d.ps.length + 9))).setCell ⟨w.heap.size + 1, 2, none⟩ (.slice (some ⟨gR, 0, none⟩) d.vs.length (d.vs.length + 9))).setCell ⟨w.heap.size + 1, 3, none⟩ (.slice (some ⟨gL, 0, none⟩) d.ls.length (d.ls.length + 9))).setCell ⟨w.heap.size + 1, 4, none⟩ (.slice (some ⟨gG, 0, none⟩) d.gs.length (d.gs.length + 9))).setCell ⟨w.heap.size + 1, 5, none⟩ (.slice (some ⟨gO, 0, none⟩) d.os.length (d.os.length + 9))) := ((HP4.out.mono (fun _ _ e => .inr e)).trans0 HF5.out).trans G5
  have G3 : Fr (fun k => k = w.heap.size + 1 ∨ k = w.heap.size + 1 + 1) W3 (((((((W5.setCell ⟨w.heap.size + 1 + 1, 5, none⟩ (.slice (some ⟨gO, 0, none⟩) d.os.length (d.os.length + 9))).setCell ⟨w.heap.size + 1, 0, none⟩ (.int .u64 s.q)).setCell ⟨w.heap.size + 1, 1, none⟩ (.slice (some ⟨gP, 0, none⟩) d.ps.length (d.ps.length + 9))).setCell ⟨w.heap.size + 1, 2, none⟩ (.slice (some ⟨gR, 0, none⟩) d.vs.length (d.vs.length + 9))).setCell ⟨w.heap.size + 1, 3, none⟩ (.slice (some ⟨gL, 0, none⟩) d.ls.length (d.ls.length + 9))).setCell ⟨w.heap.size + 1, 4, none⟩ (.slice (some ⟨gG, 0, none⟩) d.gs.length (d.gs.length + 9))).setCell ⟨w.heap.size + 1, 5, none⟩ (.slice (some ⟨gO, 0, none⟩) d.os.length (d.os.length + 9))) := ((HP3.out.mono (fun _ _ e => .inr e)).trans0 HF4.out).trans G4
  have G2 : Fr (fun k => k = w.heap.size + 1 ∨ k = w.heap.size + 1 + 1) W2 (((((((W5.setCell ⟨w.heap.size + 1 + 1, 5, none⟩ (.slice (some ⟨gO, 0, none⟩) d.os.length (d.os.length + 9))).setCell ⟨w.heap.size + 1, 0, none⟩ (.int .u64 s.q)).setCell ⟨w.heap.size + 1, 1, none⟩ (.slice (some ⟨gP, 0, none⟩) d.ps.length (d.ps.length + 9))).setCell ⟨w.heap.size + 1, 2, none⟩ (.slice (some ⟨gR, 0, none⟩) d.vs.length (d.vs.length + 9))).setCell ⟨w.heap.size + 1, 3, none⟩ (.slice (some ⟨gL, 0, none⟩) d.ls.length (d.ls.length + 9))).setCell ⟨w.heap.size + 1, 4, none⟩ (.slice (some ⟨gG, 0, none⟩) d.gs.length (d.gs.length + 9))).setCell ⟨w.heap.size + 1, 5, none⟩ (.slice (some ⟨gO, 0, none⟩) d.os.length (d.os.length + 9))) := ((HP2.out.mono (fun _ _ e => .inr e)).trans0 HF3.out).trans G3
  have G1 : Fr (fun k => k = w.heap.size + 1 ∨ k = w.heap.size + 1 + 1) W1 (((((((W5.setCell ⟨w.heap.size + 1 + 1, 5, none⟩ (.slice (some ⟨gO, 0, none⟩) d.os.length (d.os.length + 9))).setCell ⟨w.heap.size + 1, 0, none⟩ (.int .u64 s.q)).setCell ⟨w.heap.size + 1, 1, none⟩ (.slice (some ⟨gP, 0, none⟩) d.ps.length (d.ps.length + 9))).setCell ⟨w.heap.size + 1, 2, none⟩ (.slice (some ⟨gR, 0, none⟩) d.vs.length (d.vs.length + 9))).setCell ⟨w.heap.size + 1, 3, none⟩ (.slice (some ⟨gL, 0, none⟩) d.ls.length (d.ls.length + 9))).setCell ⟨w.heap.size + 1, 4, none⟩ (.slice (some ⟨gG, 0, none⟩) d.gs.length (d.gs.length + 9))).setCell ⟨w.heap.size + 1, 5, none⟩ (.slice (some ⟨gO, 0, none⟩) d.os.length (d.os.length + 9))) := ((HP1.out.mono (fun _ _ e => .inr e)).trans0 HF2.out).trans G2
  have O1 := own_down (own_but HO1.out G1 (by omega)) (show w.heap.size ≤ _ by first | exact X1.size | exact Nat.le_of_lt (Nat.lt_of_lt_of_le (by omega) X1.size))
  have O2 := own_down (own_but HO2.out G2 (by omega)) (show w.heap.size ≤ _ by first | exact X2.size | exact Nat.le_of_lt (Nat.lt_of_lt_of_le (by omega) X2.size))
  have O3 := own_down (own_but HO3.out G3 (by omega)) (show w.heap.size ≤ _ by first | exact X3.size | exact Nat.le_of_lt (Nat.lt_of_lt_of_le (by omega) X3.size))
  have LT := lt.and G3 (fun i hi e => by have := (Nat.lt_of_lt_of_le HC2.out.lt (Nat.le_refl _) : w.heap.size + 1 + 1 < _); omega) (show w.heap.size ≤ _ from X3.size)
  have O4 := own_down (own_but HO4.out G4 (by omega)) (show w.heap.size ≤ _ by first | exact X4.size | exact Nat.le_of_lt (Nat.lt_of_lt_of_le (by omega) X4.size))
  have O5 := own_down (own_but HO5.out G5 (by omega)) (show w.heap.size ≤ _ by first | exact X5.size | exact Nat.le_of_lt (Nat.lt_of_lt_of_le (by omega) X5.size))
  have low : w.heap.size + 1 + 1 < gL := L1
  have q1 : gL < W1.heap.size := (HO1.out.lt gL rfl).2
  have q2 : gG < W2.heap.size := (HO2.out.lt gG rfl).2
  have q3 : gP < W3.heap.size := (HO3.out.lt gP rfl).2
  have q4 : gR < W4.heap.size := (HO4.out.lt gR rfl).2
  have y1 : gL < gG := Nat.lt_of_lt_of_le q1 (by simpa [World.setCell] using hg2)
  have y2 : gG < gP := Nat.lt_of_lt_of_le q2 (by simpa [World.setCell] using hg3)
  have y3 : gP < gR := Nat.lt_of_lt_of_le q3 (by simpa [World.setCell] using hg4)
  have y4 : gR < gO := Nat.lt_of_lt_of_le q4 (by simpa [World.setCell] using hg5)
  have hh : ∀ r ∈ rs, ∀ a, r.2.2.1 = some a → a.block ≠ gP ∧ gG < a.block ∧ a.block < gR := fun r hr a ha => by have t := lt.upto r hr a ha; exact ⟨t.2.1, Nat.lt_of_lt_of_le q2 (by simpa [World.setCell] using t.1), Nat.lt_of_lt_of_le t.2.2 (by simpa [World.setCell] using hg4)⟩
  refine bodyPost_ret (v := .agg #[.int .u64 s.q, .slice (some ⟨gP, 0, none⟩) d.ps.length (d.ps.length + 9), .slice (some ⟨gR, 0, none⟩) d.vs.length (d.vs.length + 9), .slice (some ⟨gL, 0, none⟩) d.ls.length (d.ls.length + 9), .slice (some ⟨gG, 0, none⟩) d.gs.length (d.gs.length + 9), .slice (some ⟨gO, 0, none⟩) d.os.length (d.os.length + 9)]) (by simp [results, Tryz.results92, go_sem, f0, f1, f2, f3, f4, f5]) rfl ⟨⟨⟨gL, gG, gP, gR, gO, rs⟩, rfl, ⟨(show w.heap.size ≤ gL by omega), y1, y2, y3, y4, hh, O1, O2, O3, LT, O4, O5⟩⟩, FF⟩
set_option maxRecDepth 100000 in
set_option maxHeartbeats 4000000 in
theorem lend_act (a : ActV) (l : ActL) (w : World) (h : ActOk w a l) (hg : l.gs.length * 24 ≤ 140737488351232) (hr : l.rs.length * 24 ≤ 140737488351232) :
    Calls Tryz.prog 100 #[.agg #[.int .i64 a.t, .int .u64 a.n, .int .i64 a.k, .bool a.sure, .slice a.lA a.ln a.lc, .slice a.gA a.gn a.gc, .slice a.sA a.sn a.sc, .int .i64 a.mq, .slice a.oA a.on a.oc, .int .i64 a.r1, .int .i64 a.r2, .int .i64 a.r3, .int .i64 a.tu, .int .u64 a.gen, .slice a.hA a.hn a.hc]] w fun e w' => (∃ z, e = .returned (.agg #[.int .i64 (actLent a l z).t, .int .u64 (actLent a l z).n, .int .i64 (actLent a l z).k, .bool (actLent a l z).sure, .slice (actLent a l z).lA (actLent a l z).ln (actLent a l z).lc, .slice (actLent a l z).gA (actLent a l z).gn (actLent a l z).gc, .slice (actLent a l z).sA (actLent a l z).sn (actLent a l z).sc, .int .i64 (actLent a l z).mq, .slice (actLent a l z).oA (actLent a l z).on (actLent a l z).oc, .int .i64 (actLent a l z).r1, .int .i64 (actLent a l z).r2, .int .i64 (actLent a l z).r3, .int .i64 (actLent a l z).tu, .int .u64 (actLent a l z).gen, .slice (actLent a l z).hA (actLent a l z).hn (actLent a l z).hc]) ∧ LentAct w' w.heap.size z l) ∧ Fr no w w' := by
  rw [h.ln, h.gn, h.sn, h.on, h.hn]
  have H := hide h
  have HG := hide hg
  have HR := hide hr
  clear h hg hr
  go_enter Tryz.func100, Tryz.ntmps100
  go_wp2_with fail
  obtain ⟨W0, hW0⟩ : ∃ W0, (((w.alloc (.cells #[.int .i64 a.t, .int .u64 a.n, .int .i64 a.k, .bool a.sure, .slice a.lA l.xs.length a.lc, .slice a.gA l.gs.length a.gc, .slice a.sA l.ss.length a.sc, .int .i64 a.mq, .slice a.oA l.os.length a.oc, .int .i64 a.r1, .int .i64 a.r2, .int .i64 a.r3, .int .i64 a.tu, .int .u64 a.gen, .slice a.hA l.rs.length a.hc] 88)).alloc (.cells #[.int .i64 0, .int .u64 0, .int .i64 0, .bool false, .slice none 0 0, .slice none 0 0, .slice none 0 0, .int .i64 0, .slice none 0 0, .int .i64 0, .int .i64 0, .int .i64 0, .int .i64 0, .int .u64 0, .slice none 0 0] 88)).alloc (.cells #[.int .i64 a.t, .int .u64 a.n, .int .i64 a.k, .bool a.sure, .slice a.lA l.xs.length a.lc, .slice a.gA l.gs.length a.gc, .slice a.sA l.ss.length a.sc, .int .i64 a.mq, .slice a.oA l.os.length a.oc, .int .i64 a.r1, .int .i64 a.r2, .int .i64 a.r3, .int .i64 a.tu, .int .u64 a.gen, .slice a.hA l.rs.length a.hc] 88)) = W0 := ⟨_, rfl⟩
  have F0 : Fr no w W0 := by rw [← hW0]; exact (((Fr.refl no w).alloc _).alloc _).alloc _
  have A0 : Blk W0 (w.heap.size) 88 #[.int .i64 a.t, .int .u64 a.n, .int .i64 a.k, .bool a.sure, .slice a.lA l.xs.length a.lc, .slice a.gA l.gs.length a.gc, .slice a.sA l.ss.length a.sc, .int .i64 a.mq, .slice a.oA l.os.length a.oc, .int .i64 a.r1, .int .i64 a.r2, .int .i64 a.r3, .int .i64 a.tu, .int .u64 a.gen, .slice a.hA l.rs.length a.hc] := by rw [← hW0]; exact ((Blk.new w _ _).alloc _).alloc _
  have B0 : Blk W0 (w.heap.size + 1) 88 #[.int .i64 0, .int .u64 0, .int .i64 0, .bool false, .slice none 0 0, .slice none 0 0, .slice none 0 0, .int .i64 0, .slice none 0 0, .int .i64 0, .int .i64 0, .int .i64 0, .int .i64 0, .int .u64 0, .slice none 0 0] := by rw [← hW0]; exact (blk_at _ _ _ _ (by simp)).alloc _
  have C0 : Blk W0 (w.heap.size + 1 + 1) 88 #[.int .i64 a.t, .int .u64 a.n, .int .i64 a.k, .bool a.sure, .slice a.lA l.xs.length a.lc, .slice a.gA l.gs.length a.gc, .slice a.sA l.ss.length a.sc, .int .i64 a.mq, .slice a.oA l.os.length a.oc, .int .i64 a.r1, .int .i64 a.r2, .int .i64 a.r3, .int .i64 a.tu, .int .u64 a.gen, .slice a.hA l.rs.length a.hc] := by rw [← hW0]; exact blk_at _ _ _ _ (by simp)
  have Z0 : W0.heap.size = w.heap.size + 1 + 1 + 1 := by rw [← hW0]; simp
  have U0 := hide (Fr.refl no W0)
  rw [hW0]
  clear hW0
  have HZ := hide Z0
  have X1 : Fr no w W0 := F0
  have HA0 := hide A0
  have HB0 := hide B0
  have HC0 := hide C0
  have a0 := A0.cell 4
  clear A0 B0 C0 F0 Z0
  go_wp2_with fail
  refine (lend_lines a.lA a.lc l.xs _ (((H.out.keep X1).lines).to_row rfl eLine) H.out.bx).mono ?_
  rintro e W1 ⟨⟨gl, rfl, hg1, own1⟩, F1⟩
  have S1 : w.heap.size + 1 + 1 < W1.heap.size := Nat.lt_of_lt_of_le HC0.out.lt F1.size
  have A1 := HA0.out.kept0 F1
  have B1 := HB0.out.kept0 F1
  have C1 := HC0.out.kept0 F1
  have L1 : w.heap.size + 1 + 1 < gl := Nat.lt_of_lt_of_le HC0.out.lt hg1
  have P1 : Fr (fun k => k = w.heap.size + 1 + 1) W1 (W1.setCell ⟨w.heap.size + 1 + 1, 4, none⟩ (.slice (some ⟨gl, 0, none⟩) l.xs.length (l.xs.length + 9))) := Fr.setCell _ _ _ _
  have XX1 : Fr no w (W1.setCell ⟨w.heap.size + 1 + 1, 4, none⟩ (.slice (some ⟨gl, 0, none⟩) l.xs.length (l.xs.length + 9))) := ((X1.trans F1).thru P1 (fun i hi e => absurd hi (by omega)))
  have HO1 := hide own1
  clear own1
  have c1 := C1.cell 4
  have d1 := C1.free 4
  have a1 := A1.cell 5
  have AA : Blk (W1.setCell ⟨w.heap.size + 1 + 1, 4, none⟩ (.slice (some ⟨gl, 0, none⟩) l.xs.length (l.xs.length + 9))) (w.heap.size) 88 #[.int .i64 a.t, .int .u64 a.n, .int .i64 a.k, .bool a.sure, .slice a.lA l.xs.length a.lc, .slice a.gA l.gs.length a.gc, .slice a.sA l.ss.length a.sc, .int .i64 a.mq, .slice a.oA l.os.length a.oc, .int .i64 a.r1, .int .i64 a.r2, .int .i64 a.r3, .int .i64 a.tu, .int .u64 a.gen, .slice a.hA l.rs.length a.hc] := A1.setOther (by omega) _ _
  have BB : Blk (W1.setCell ⟨w.heap.size + 1 + 1, 4, none⟩ (.slice (some ⟨gl, 0, none⟩) l.xs.length (l.xs.length + 9))) (w.heap.size + 1) 88 #[.int .i64 0, .int .u64 0, .int .i64 0, .bool false, .slice none 0 0, .slice none 0 0, .slice none 0 0, .int .i64 0, .slice none 0 0, .int .i64 0, .int .i64 0, .int .i64 0, .int .i64 0, .int .u64 0, .slice none 0 0] := B1.setOther (by omega) _ _
  have CC : Blk (W1.setCell ⟨w.heap.size + 1 + 1, 4, none⟩ (.slice (some ⟨gl, 0, none⟩) l.xs.length (l.xs.length + 9))) (w.heap.size + 1 + 1) 88 #[.int .i64 a.t, .int .u64 a.n, .int .i64 a.k, .bool a.sure, .slice (some ⟨gl, 0, none⟩) l.xs.length (l.xs.length + 9), .slice a.gA l.gs.length a.gc, .slice a.sA l.ss.length a.sc, .int .i64 a.mq, .slice a.oA l.os.length a.oc, .int .i64 a.r1, .int .i64 a.r2, .int .i64 a.r3, .int .i64 a.tu, .int .u64 a.gen, .slice a.hA l.rs.length a.hc] := C1.set _ _
  have HAA1 := hide AA
  have HBB1 := hide BB
  have HCC1 := hide CC
  have HF1 := hide F1
  have HP1 := hide P1
  clear AA BB CC A1 B1 C1 F1 P1
  go_wp2_with fail
  have A1 := HAA1.out
  have B1 := HBB1.out
  have C1 := HCC1.out
  have X2 : Fr no w (W1.setCell ⟨w.heap.size + 1 + 1, 4, none⟩ (.slice (some ⟨gl, 0, none⟩) l.xs.length (l.xs.length + 9))) := XX1
  have HA1 := hide A1
  have HB1 := hide B1
  have HC1 := hide C1
  refine (lend_guards a.gA a.gc l.gs _ (((H.out.keep X2).guards).to_row rfl eGuard) HG.out).mono ?_
  rintro e W2 ⟨⟨gg, rfl, hg2, own2⟩, F2⟩
  have S2 : w.heap.size + 1 + 1 < W2.heap.size := Nat.lt_of_lt_of_le HC1.out.lt F2.size
  have A2 := HA1.out.kept0 F2
  have B2 := HB1.out.kept0 F2
  have C2 := HC1.out.kept0 F2
  have L2 : w.heap.size + 1 + 1 < gg := Nat.lt_of_lt_of_le HC1.out.lt hg2
  have P2 : Fr (fun k => k = w.heap.size + 1 + 1) W2 (W2.setCell ⟨w.heap.size + 1 + 1, 5, none⟩ (.slice (some ⟨gg, 0, none⟩) l.gs.length (l.gs.length + 9))) := Fr.setCell _ _ _ _
  have XX2 : Fr no w (W2.setCell ⟨w.heap.size + 1 + 1, 5, none⟩ (.slice (some ⟨gg, 0, none⟩) l.gs.length (l.gs.length + 9))) := ((X2.trans F2).thru P2 (fun i hi e => absurd hi (by omega)))
  have HO2 := hide own2
  clear own2
  have c2 := C2.cell 5
  have d2 := C2.free 5
  have a2 := A2.cell 6
  have AA : Blk (W2.setCell ⟨w.heap.size + 1 + 1, 5, none⟩ (.slice (some ⟨gg, 0, none⟩) l.gs.length (l.gs.length + 9))) (w.heap.size) 88 #[.int .i64 a.t, .int .u64 a.n, .int .i64 a.k, .bool a.sure, .slice a.lA l.xs.length a.lc, .slice a.gA l.gs.length a.gc, .slice a.sA l.ss.length a.sc, .int .i64 a.mq, .slice a.oA l.os.length a.oc, .int .i64 a.r1, .int .i64 a.r2, .int .i64 a.r3, .int .i64 a.tu, .int .u64 a.gen, .slice a.hA l.rs.length a.hc] := A2.setOther (by omega) _ _
  have BB : Blk (W2.setCell ⟨w.heap.size + 1 + 1, 5, none⟩ (.slice (some ⟨gg, 0, none⟩) l.gs.length (l.gs.length + 9))) (w.heap.size + 1) 88 #[.int .i64 0, .int .u64 0, .int .i64 0, .bool false, .slice none 0 0, .slice none 0 0, .slice none 0 0, .int .i64 0, .slice none 0 0, .int .i64 0, .int .i64 0, .int .i64 0, .int .i64 0, .int .u64 0, .slice none 0 0] := B2.setOther (by omega) _ _
  have CC : Blk (W2.setCell ⟨w.heap.size + 1 + 1, 5, none⟩ (.slice (some ⟨gg, 0, none⟩) l.gs.length (l.gs.length + 9))) (w.heap.size + 1 + 1) 88 #[.int .i64 a.t, .int .u64 a.n, .int .i64 a.k, .bool a.sure, .slice (some ⟨gl, 0, none⟩) l.xs.length (l.xs.length + 9), .slice (some ⟨gg, 0, none⟩) l.gs.length (l.gs.length + 9), .slice a.sA l.ss.length a.sc, .int .i64 a.mq, .slice a.oA l.os.length a.oc, .int .i64 a.r1, .int .i64 a.r2, .int .i64 a.r3, .int .i64 a.tu, .int .u64 a.gen, .slice a.hA l.rs.length a.hc] := C2.set _ _
  have HAA2 := hide AA
  have HBB2 := hide BB
  have HCC2 := hide CC
  have HF2 := hide F2
  have HP2 := hide P2
  clear AA BB CC A2 B2 C2 F2 P2
  go_wp2_with fail
  have A2 := HAA2.out
  have B2 := HBB2.out
  have C2 := HCC2.out
  have X3 : Fr no w (W2.setCell ⟨w.heap.size + 1 + 1, 5, none⟩ (.slice (some ⟨gg, 0, none⟩) l.gs.length (l.gs.length + 9))) := XX2
  have HA2 := hide A2
  have HB2 := hide B2
  have HC2 := hide C2
  refine (lend_sets a.sA a.sc l.ss _ (((H.out.keep X3).sets).to_row rfl eSet) H.out.bs).mono ?_
  rintro e W3 ⟨⟨gs, rfl, hg3, own3⟩, F3⟩
  have S3 : w.heap.size + 1 + 1 < W3.heap.size := Nat.lt_of_lt_of_le HC2.out.lt F3.size
  have A3 := HA2.out.kept0 F3
  have B3 := HB2.out.kept0 F3
  have C3 := HC2.out.kept0 F3
  have L3 : w.heap.size + 1 + 1 < gs := Nat.lt_of_lt_of_le HC2.out.lt hg3
  have P3 : Fr (fun k => k = w.heap.size + 1 + 1) W3 (W3.setCell ⟨w.heap.size + 1 + 1, 6, none⟩ (.slice (some ⟨gs, 0, none⟩) l.ss.length (l.ss.length + 9))) := Fr.setCell _ _ _ _
  have XX3 : Fr no w (W3.setCell ⟨w.heap.size + 1 + 1, 6, none⟩ (.slice (some ⟨gs, 0, none⟩) l.ss.length (l.ss.length + 9))) := ((X3.trans F3).thru P3 (fun i hi e => absurd hi (by omega)))
  have HO3 := hide own3
  clear own3
  have c3 := C3.cell 6
  have d3 := C3.free 6
  have a3 := A3.cell 8
  have AA : Blk (W3.setCell ⟨w.heap.size + 1 + 1, 6, none⟩ (.slice (some ⟨gs, 0, none⟩) l.ss.length (l.ss.length + 9))) (w.heap.size) 88 #[.int .i64 a.t, .int .u64 a.n, .int .i64 a.k, .bool a.sure, .slice a.lA l.xs.length a.lc, .slice a.gA l.gs.length a.gc, .slice a.sA l.ss.length a.sc, .int .i64 a.mq, .slice a.oA l.os.length a.oc, .int .i64 a.r1, .int .i64 a.r2, .int .i64 a.r3, .int .i64 a.tu, .int .u64 a.gen, .slice a.hA l.rs.length a.hc] := A3.setOther (by omega) _ _
  have BB : Blk (W3.setCell ⟨w.heap.size + 1 + 1, 6, none⟩ (.slice (some ⟨gs, 0, none⟩) l.ss.length (l.ss.length + 9))) (w.heap.size + 1) 88 #[.int .i64 0, .int .u64 0, .int .i64 0, .bool false, .slice none 0 0, .slice none 0 0, .slice none 0 0, .int .i64 0, .slice none 0 0, .int .i64 0, .int .i64 0, .int .i64 0, .int .i64 0, .int .u64 0, .slice none 0 0] := B3.setOther (by omega) _ _
  have CC : Blk (W3.setCell ⟨w.heap.size + 1 + 1, 6, none⟩ (.slice (some ⟨gs, 0, none⟩) l.ss.length (l.ss.length + 9))) (w.heap.size + 1 + 1) 88 #[.int .i64 a.t, .int .u64 a.n, .int .i64 a.k, .bool a.sure, .slice (some ⟨gl, 0, none⟩) l.xs.length (l.xs.length + 9), .slice (some ⟨gg, 0, none⟩) l.gs.length (l.gs.length + 9), .slice (some ⟨gs, 0, none⟩) l.ss.length (l.ss.length + 9), .int .i64 a.mq, .slice a.oA l.os.length a.oc, .int .i64 a.r1, .int .i64 a.r2, .int .i64 a.r3, .int .i64 a.tu, .int .u64 a.gen, .slice a.hA l.rs.length a.hc] := C3.set _ _
  have HAA3 := hide AA
  have HBB3 := hide BB
  have HCC3 := hide CC
  have HF3 := hide F3
  have HP3 := hide P3
  clear AA BB CC A3 B3 C3 F3 P3
  go_wp2_with fail
  have A3 := HAA3.out
  have B3 := HBB3.out
  have C3 := HCC3.out
  have X4 : Fr no w (W3.setCell ⟨w.heap.size + 1 + 1, 6, none⟩ (.slice (some ⟨gs, 0, none⟩) l.ss.length (l.ss.length + 9))) := XX3
  have HA3 := hide A3
  have HB3 := hide B3
  have HC3 := hide C3
  refine (lend_lines a.oA a.oc l.os _ (((H.out.keep X4).other).to_row rfl eLine) H.out.bo).mono ?_
  rintro e W4 ⟨⟨go, rfl, hg4, own4⟩, F4⟩
  have S4 : w.heap.size + 1 + 1 < W4.heap.size := Nat.lt_of_lt_of_le HC3.out.lt F4.size
  have A4 := HA3.out.kept0 F4
  have B4 := HB3.out.kept0 F4
  have C4 := HC3.out.kept0 F4
  have L4 : w.heap.size + 1 + 1 < go := Nat.lt_of_lt_of_le HC3.out.lt hg4
  have P4 : Fr (fun k => k = w.heap.size + 1 + 1) W4 (W4.setCell ⟨w.heap.size + 1 + 1, 8, none⟩ (.slice (some ⟨go, 0, none⟩) l.os.length (l.os.length + 9))) := Fr.setCell _ _ _ _
  have XX4 : Fr no w (W4.setCell ⟨w.heap.size + 1 + 1, 8, none⟩ (.slice (some ⟨go, 0, none⟩) l.os.length (l.os.length + 9))) := ((X4.trans F4).thru P4 (fun i hi e => absurd hi (by omega)))
  have HO4 := hide own4
  clear own4
  have c4 := C4.cell 8
  have d4 := C4.free 8
  have a4 := A4.cell 14
  have AA : Blk (W4.setCell ⟨w.heap.size + 1 + 1, 8, none⟩ (.slice (some ⟨go, 0, none⟩) l.os.length (l.os.length + 9))) (w.heap.size) 88 #[.int .i64 a.t, .int .u64 a.n, .int .i64 a.k, .bool a.sure, .slice a.lA l.xs.length a.lc, .slice a.gA l.gs.length a.gc, .slice a.sA l.ss.length a.sc, .int .i64 a.mq, .slice a.oA l.os.length a.oc, .int .i64 a.r1, .int .i64 a.r2, .int .i64 a.r3, .int .i64 a.tu, .int .u64 a.gen, .slice a.hA l.rs.length a.hc] := A4.setOther (by omega) _ _
  have BB : Blk (W4.setCell ⟨w.heap.size + 1 + 1, 8, none⟩ (.slice (some ⟨go, 0, none⟩) l.os.length (l.os.length + 9))) (w.heap.size + 1) 88 #[.int .i64 0, .int .u64 0, .int .i64 0, .bool false, .slice none 0 0, .slice none 0 0, .slice none 0 0, .int .i64 0, .slice none 0 0, .int .i64 0, .int .i64 0, .int .i64 0, .int .i64 0, .int .u64 0, .slice none 0 0] := B4.setOther (by omega) _ _
  have CC : Blk (W4.setCell ⟨w.heap.size + 1 + 1, 8, none⟩ (.slice (some ⟨go, 0, none⟩) l.os.length (l.os.length + 9))) (w.heap.size + 1 + 1) 88 #[.int .i64 a.t, .int .u64 a.n, .int .i64 a.k, .bool a.sure, .slice (some ⟨gl, 0, none⟩) l.xs.length (l.xs.length + 9), .slice (some ⟨gg, 0, none⟩) l.gs.length (l.gs.length + 9), .slice (some ⟨gs, 0, none⟩) l.ss.length (l.ss.length + 9), .int .i64 a.mq, .slice (some ⟨go, 0, none⟩) l.os.length (l.os.length + 9), .int .i64 a.r1, .int .i64 a.r2, .int .i64 a.r3, .int .i64 a.tu, .int .u64 a.gen, .slice a.hA l.rs.length a.hc] := C4.set _ _
  have HAA4 := hide AA
  have HBB4 := hide BB
  have HCC4 := hide CC
  have HF4 := hide F4
  have HP4 := hide P4
  clear AA BB CC A4 B4 C4 F4 P4
  go_wp2_with fail
  have A4 := HAA4.out
  have B4 := HBB4.out
  have C4 := HCC4.out
  have X5 : Fr no w (W4.setCell ⟨w.heap.size + 1 + 1, 8, none⟩ (.slice (some ⟨go, 0, none⟩) l.os.length (l.os.length + 9))) := XX4
  have HA4 := hide A4
  have HB4 := hide B4
  have HC4 := hide C4
  refine (lend_rights a.hA a.hc l.rs _ (((H.out.keep X5).rights).to_row rfl eRight) HR.out).mono ?_
  rintro e W5 ⟨⟨gr, rfl, hg5, own5⟩, F5⟩
  have S5 : w.heap.size + 1 + 1 < W5.heap.size := Nat.lt_of_lt_of_le HC4.out.lt F5.size
  have A5 := HA4.out.kept0 F5
  have B5 := HB4.out.kept0 F5
  have C5 := HC4.out.kept0 F5
  have L5 : w.heap.size + 1 + 1 < gr := Nat.lt_of_lt_of_le HC4.out.lt hg5
  have P5 : Fr (fun k => k = w.heap.size + 1 + 1) W5 (W5.setCell ⟨w.heap.size + 1 + 1, 14, none⟩ (.slice (some ⟨gr, 0, none⟩) l.rs.length (l.rs.length + 9))) := Fr.setCell _ _ _ _
  have XX5 : Fr no w (W5.setCell ⟨w.heap.size + 1 + 1, 14, none⟩ (.slice (some ⟨gr, 0, none⟩) l.rs.length (l.rs.length + 9))) := ((X5.trans F5).thru P5 (fun i hi e => absurd hi (by omega)))
  have HO5 := hide own5
  clear own5
  have c5 := C5.cell 14
  have d5 := C5.free 14
  have e0 := C5.cell 0
  have f0 := B5.cell 0
  have h0 := B5.free 0
  have e1 := C5.cell 1
  have f1 := B5.cell 1
  have h1 := B5.free 1
  have e2 := C5.cell 2
  have f2 := B5.cell 2
  have h2 := B5.free 2
  have e3 := C5.cell 3
  have f3 := B5.cell 3
  have h3 := B5.free 3
  have e4 := C5.cell 4
  have f4 := B5.cell 4
  have h4 := B5.free 4
  have e5 := C5.cell 5
  have f5 := B5.cell 5
  have h5 := B5.free 5
  have e6 := C5.cell 6
  have f6 := B5.cell 6
  have h6 := B5.free 6
  have e7 := C5.cell 7
  have f7 := B5.cell 7
  have h7 := B5.free 7
  have e8 := C5.cell 8
  have f8 := B5.cell 8
  have h8 := B5.free 8
  have e9 := C5.cell 9
  have f9 := B5.cell 9
  have h9 := B5.free 9
  have e10 := C5.cell 10
  have f10 := B5.cell 10
  have h10 := B5.free 10
  have e11 := C5.cell 11
  have f11 := B5.cell 11
  have h11 := B5.free 11
  have e12 := C5.cell 12
  have f12 := B5.cell 12
  have h12 := B5.free 12
  have e13 := C5.cell 13
  have f13 := B5.cell 13
  have h13 := B5.free 13
  have f14 := B5.cell 14
  have h14 := B5.free 14
  have AA : Blk (W5.setCell ⟨w.heap.size + 1 + 1, 14, none⟩ (.slice (some ⟨gr, 0, none⟩) l.rs.length (l.rs.length + 9))) (w.heap.size) 88 #[.int .i64 a.t, .int .u64 a.n, .int .i64 a.k, .bool a.sure, .slice a.lA l.xs.length a.lc, .slice a.gA l.gs.length a.gc, .slice a.sA l.ss.length a.sc, .int .i64 a.mq, .slice a.oA l.os.length a.oc, .int .i64 a.r1, .int .i64 a.r2, .int .i64 a.r3, .int .i64 a.tu, .int .u64 a.gen, .slice a.hA l.rs.length a.hc] := A5.setOther (by omega) _ _
  have BB : Blk (W5.setCell ⟨w.heap.size + 1 + 1, 14, none⟩ (.slice (some ⟨gr, 0, none⟩) l.rs.length (l.rs.length + 9))) (w.heap.size + 1) 88 #[.int .i64 0, .int .u64 0, .int .i64 0, .bool false, .slice none 0 0, .slice none 0 0, .slice none 0 0, .int .i64 0, .slice none 0 0, .int .i64 0, .int .i64 0, .int .i64 0, .int .i64 0, .int .u64 0, .slice none 0 0] := B5.setOther (by omega) _ _
  have CC : Blk (W5.setCell ⟨w.heap.size + 1 + 1, 14, none⟩ (.slice (some ⟨gr, 0, none⟩) l.rs.length (l.rs.length + 9))) (w.heap.size + 1 + 1) 88 #[.int .i64 a.t, .int .u64 a.n, .int .i64 a.k, .bool a.sure, .slice (some ⟨gl, 0, none⟩) l.xs.length (l.xs.length + 9), .slice (some ⟨gg, 0, none⟩) l.gs.length (l.gs.length + 9), .slice (some ⟨gs, 0, none⟩) l.ss.length (l.ss.length + 9), .int .i64 a.mq, .slice (some ⟨go, 0, none⟩) l.os.length (l.os.length + 9), .int .i64 a.r1, .int .i64 a.r2, .int .i64 a.r3, .int .i64 a.tu, .int .u64 a.gen, .slice (some ⟨gr, 0, none⟩) l.rs.length (l.rs.length + 9)] := C5.set _ _
  have HAA5 := hide AA
  have HBB5 := hide BB
  have HCC5 := hide CC
  have HF5 := hide F5
  have HP5 := hide P5
  clear AA BB CC A5 B5 C5 F5 P5
  go_wp2_with fail
  have FF : Fr no w ((((((((((((((((W5.setCell ⟨w.heap.size + 1 + 1, 14, none⟩ (.slice (some ⟨gr, 0, none⟩) l.rs.length (l.rs.length + 9))).setCell ⟨w.heap.size + 1, 0, none⟩ (.int .i64 a.t)).setCell ⟨w.heap.size + 1, 1, none⟩ (.int .u64 a.n)).setCell ⟨w.heap.size + 1, 2, none⟩ (.int .i64 a.k)).setCell ⟨w.heap.size + 1, 3, none⟩ (.bool a.sure)).setCell ⟨w.heap.size + 1, 4, none⟩ (.slice (some ⟨gl, 0, none⟩) l.xs.length (l.xs.length + 9))).setCell ⟨w.heap.size + 1, 5, none⟩ (.slice (some ⟨gg, 0, none⟩) l.gs.length (l.gs.length + 9))).setCell ⟨w.heap.size + 1, 6, none⟩ (.slice (some ⟨gs, 0, none⟩) l.ss.length (l.ss.length + 9))).setCell ⟨w.heap.size + 1, 7, none⟩ (.int .i64 a.mq)).setCell ⟨w.heap.size + 1, 8, none⟩ (.slice (some ⟨go, 0, none⟩) l.os.length (l.os.length + 9))).setCell ⟨w.heap.size + 1, 9, none⟩ (.int .i64 a.r1)).setCell ⟨w.heap.size + 1, 10, none⟩ (.int .i64 a.r2)).setCell ⟨w.heap.size + 1, 11, none⟩ (.int .i64 a.r3)).setCell ⟨w.heap.size + 1, 12, none⟩ (.int .i64 a.tu)).setCell ⟨w.heap.size + 1, 13, none⟩ (.int .u64 a.gen)).setCell ⟨w.heap.size + 1, 14, none⟩ (.slice (some ⟨gr, 0, none⟩) l.rs.length (l.rs.length + 9))) := (((((((((((((((XX5.thru (Fr.setCell _ _ _ _) (fun i hi e => absurd hi (by omega))).thru (Fr.setCell _ _ _ _) (fun i hi e => absurd hi (by omega))).thru (Fr.setCell _ _ _ _) (fun i hi e => absurd hi (by omega))).thru (Fr.setCell _ _ _ _) (fun i hi e => absurd hi (by omega))).thru (Fr.setCell _ _ _ _) (fun i hi e => absurd hi (by omega))).thru (Fr.setCell _ _ _ _) (fun i hi e => absurd hi (by omega))).thru (Fr.setCell _ _ _ _) (fun i hi e => absurd hi (by omega))).thru (Fr.setCell _ _ _ _) (fun i hi e => absurd hi (by omega))).thru (Fr.setCell _ _ _ _) (fun i hi e => absurd hi (by omega))).thru (Fr.setCell _ _ _ _) (fun i hi e => absurd hi (by omega))).thru (Fr.setCell _ _ _ _) (fun i hi e => absurd hi (by omega))).thru (Fr.setCell _ _ _ _) (fun i hi e => absurd hi (by omega))).thru (Fr.setCell _ _ _ _) (fun i hi e => absurd hi (by omega))).thru (Fr.setCell _ _ _ _) (fun i hi e => absurd hi (by omega))).thru (Fr.setCell _ _ _ _) (fun i hi e => absurd hi (by omega)))
  have G5 : Fr (fun k => k = w.heap.size + 1 ∨ k = w.heap.size + 1 + 1) W5 ((((((((((((((((W5.setCell ⟨w.heap.size + 1 + 1, 14, none⟩ (.slice (some ⟨gr, 0, none⟩) l.rs.length (l.rs.length + 9))).setCell ⟨w.heap.size + 1, 0, none⟩ (.int .i64 a.t)).setCell ⟨w.heap.size + 1, 1, none⟩ (.int .u64 a.n)).setCell ⟨w.heap.size + 1, 2, none⟩ (.int .i64 a.k)).setCell ⟨w.heap.size + 1, 3, none⟩ (.bool a.sure)).setCell ⟨w.heap.size + 1, 4, none⟩ (.slice (some ⟨gl, 0, none⟩) l.xs.length (l.xs.length + 9))).setCell ⟨w.heap.size + 1, 5, none⟩ (.slice (some ⟨gg, 0, none⟩) l.gs.length (l.gs.length + 9))).setCell ⟨w.heap.size + 1, 6, none⟩ (.slice (some ⟨gs, 0, none⟩) l.ss.length (l.ss.length + 9))).setCell ⟨w.heap.size + 1, 7, none⟩ (.int .i64 a.mq)).setCell ⟨w.heap.size + 1, 8, none⟩ (.slice (some ⟨go, 0, none⟩) l.os.length (l.os.length + 9))).setCell ⟨w.heap.size + 1, 9, none⟩ (.int .i64 a.r1)).setCell ⟨w.heap.size + 1, 10, none⟩ (.int .i64 a.r2)).setCell ⟨w.heap.size + 1, 11, none⟩ (.int .i64 a.r3)).setCell ⟨w.heap.size + 1, 12, none⟩ (.int .i64 a.tu)).setCell ⟨w.heap.size + 1, 13, none⟩ (.int .u64 a.gen)).setCell ⟨w.heap.size + 1, 14, none⟩ (.slice (some ⟨gr, 0, none⟩) l.rs.length (l.rs.length + 9))) := (((((((((((((((((Fr.setCell _ _ _ _).mono (fun _ _ e => .inr e)).trans ((Fr.setCell _ _ _ _).mono (fun _ _ e => .inl e))).trans ((Fr.setCell _ _ _ _).mono (fun _ _ e => .inl e))).trans ((Fr.setCell _ _ _ _).mono (fun _ _ e => .inl e))).trans ((Fr.setCell _ _ _ _).mono (fun _ _ e => .inl e))).trans ((Fr.setCell _ _ _ _).mono (fun _ _ e => .inl e))).trans ((Fr.setCell _ _ _ _).mono (fun _ _ e => .inl e))).trans ((Fr.setCell _ _ _ _).mono (fun _ _ e => .inl e))).trans ((Fr.setCell _ _ _ _).mono (fun _ _ e => .inl e))).trans ((Fr.setCell _ _ _ _).mono (fun _ _ e => .inl e))).trans ((Fr.setCell _ _ _ _).mono (fun _ _ e => .inl e))).trans ((Fr.setCell _ _ _ _).mono (fun _ _ e => .inl e))).trans ((Fr.setCell _ _ _ _).mono (fun _ _ e => .inl e))).trans ((Fr.setCell _ _ _ _).mono (fun _ _ e => .inl e))).trans ((Fr.setCell _ _ _ _).mono (fun _ _ e => .inl e))).trans ((Fr.setCell _ _ _ _).mono (fun _ _ e => .inl e)))
  have G4 : Fr (fun k => k = w.heap.size + 1 ∨ k = w.heap.size + 1 + 1) W4 ((((((((((((((((W5.setCell ⟨w.heap.size + 1 + 1, 14, none⟩ (.slice (some ⟨gr, 0, none⟩) l.rs.length (l.rs.length + 9))).setCell ⟨w.heap.size + 1, 0, none⟩ (.int .i64 a.t)).setCell ⟨w.heap.size + 1, 1, none⟩ (.int .u64 a.n)).setCell ⟨w.heap.size + 1, 2, none⟩ (.int .i64 a.k)).setCell ⟨w.heap.size + 1, 3, none⟩ (.bool a.sure)).setCell ⟨w.heap.size + 1, 4, none⟩ (.slice (some ⟨gl, 0, none⟩) l.xs.length (l.xs.length + 9))).setCell ⟨w.heap.size + 1, 5, none⟩ (.slice (some ⟨gg, 0, none⟩) l.gs.length (l.gs.length + 9))).setCell ⟨w.heap.size + 1, 6, none⟩ (.slice (some ⟨gs, 0, none⟩) l.ss.length (l.ss.length + 9))).setCell ⟨w.heap.size + 1, 7, none⟩ (.int .i64 a.mq)).setCell ⟨w.heap.size + 1, 8, none⟩ (.slice (some ⟨go, 0, none⟩) l.os.length (l.os.length + 9))).setCell ⟨w.heap.size + 1, 9, none⟩ (.int .i64 a.r1)).setCell ⟨w.heap.size + 1, 10, none⟩ (.int .i64 a.r2)).setCell ⟨w.heap.size + 1, 11, none⟩ (.int .i64 a.r3)).setCell ⟨w.heap.size + 1, 12, none⟩ (.int .i64 a.tu)).setCell ⟨w.heap.size + 1, 13, none⟩ (.int .u64 a.gen)).setCell ⟨w.heap.size + 1, 14, none⟩ (.slice (some ⟨gr, 0, none⟩) l.rs.length (l.rs.length + 9))) := ((HP4.out.mono (fun _ _ e => .inr e)).trans0 HF5.out).trans G5
  have G3 : Fr (fun k => k = w.heap.size + 1 ∨ k = w.heap.size + 1 + 1) W3 ((((((((((((((((W5.setCell ⟨w.heap.size + 1 + 1, 14, none⟩ (.slice (some ⟨gr, 0, none⟩) l.rs.length (l.rs.length + 9))).setCell ⟨w.heap.size + 1, 0, none⟩ (.int .i64 a.t)).setCell ⟨w.heap.size + 1, 1, none⟩ (.int .u64 a.n)).setCell ⟨w.heap.size + 1, 2, none⟩ (.int .i64 a.k)).setCell ⟨w.heap.size + 1, 3, none⟩ (.bool a.sure)).setCell ⟨w.heap.size + 1, 4, none⟩ (.slice (some ⟨gl, 0, none⟩) l.xs.length (l.xs.length + 9))).setCell ⟨w.heap.size + 1, 5, none⟩ (.slice (some ⟨gg, 0, none⟩) l.gs.length (l.gs.length + 9))).setCell ⟨w.heap.size + 1, 6, none⟩ (.slice (some ⟨gs, 0, none⟩) l.ss.length (l.ss.length + 9))).setCell ⟨w.heap.size + 1, 7, none⟩ (.int .i64 a.mq)).setCell ⟨w.heap.size + 1, 8, none⟩ (.slice (some ⟨go, 0, none⟩) l.os.length (l.os.length + 9))).setCell ⟨w.heap.size + 1, 9, none⟩ (.int .i64 a.r1)).setCell ⟨w.heap.size + 1, 10, none⟩ (.int .i64 a.r2)).setCell ⟨w.heap.size + 1, 11, none⟩ (.int .i64 a.r3)).setCell ⟨w.heap.size + 1, 12, none⟩ (.int .i64 a.tu)).setCell ⟨w.heap.size + 1, 13, none⟩ (.int .u64 a.gen)).setCell ⟨w.heap.size + 1, 14, none⟩ (.slice (some ⟨gr, 0, none⟩) l.rs.length (l.rs.length + 9))) := ((HP3.out.mono (fun _ _ e => .inr e)).trans0 HF4.out).trans G4
  have G2 : Fr (fun k => k = w.heap.size + 1 ∨ k = w.heap.size + 1 + 1) W2 ((((((((((((((((W5.setCell ⟨w.heap.size + 1 + 1, 14, none⟩ (.slice (some ⟨gr, 0, none⟩) l.rs.length (l.rs.length + 9))).setCell ⟨w.heap.size + 1, 0, none⟩ (.int .i64 a.t)).setCell ⟨w.heap.size + 1, 1, none⟩ (.int .u64 a.n)).setCell ⟨w.heap.size + 1, 2, none⟩ (.int .i64 a.k)).setCell ⟨w.heap.size + 1, 3, none⟩ (.bool a.sure)).setCell ⟨w.heap.size + 1, 4, none⟩ (.slice (some ⟨gl, 0, none⟩) l.xs.length (l.xs.length + 9))).setCell ⟨w.heap.size + 1, 5, none⟩ (.slice (some ⟨gg, 0, none⟩) l.gs.length (l.gs.length + 9))).setCell ⟨w.heap.size + 1, 6, none⟩ (.slice (some ⟨gs, 0, none⟩) l.ss.length (l.ss.length + 9))).setCell ⟨w.heap.size + 1, 7, none⟩ (.int .i64 a.mq)).setCell ⟨w.heap.size + 1, 8, none⟩ (.slice (some ⟨go, 0, none⟩) l.os.length (l.os.length + 9))).setCell ⟨w.heap.size + 1, 9, none⟩ (.int .i64 a.r1)).setCell ⟨w.heap.size + 1, 10, none⟩ (.int .i64 a.r2)).setCell ⟨w.heap.size + 1, 11, none⟩ (.int .i64 a.r3)).setCell ⟨w.heap.size + 1, 12, none⟩ (.int .i64 a.tu)).setCell ⟨w.heap.size + 1, 13, none⟩ (.int .u64 a.gen)).setCell ⟨w.heap.size + 1, 14, none⟩ (.slice (some ⟨gr, 0, none⟩) l.rs.length (l.rs.length + 9))) := ((HP2.out.mono (fun _ _ e => .inr e)).trans0 HF3.out).trans G3
  have G1 : Fr (fun k => k = w.heap.size + 1 ∨ k = w.heap.size + 1 + 1) W1 ((((((((((((((((W5.setCell ⟨w.heap.size + 1 + 1, 14, none⟩ (.slice (some ⟨gr, 0, none⟩) l.rs.length (l.rs.length + 9))).setCell ⟨w.heap.size + 1, 0, none⟩ (.int .i64 a.t)).setCell ⟨w.heap.size + 1, 1, none⟩ (.int .u64 a.n)).setCell ⟨w.heap.size + 1, 2, none⟩ (.int .i64 a.k)).setCell ⟨w.heap.size + 1, 3, none⟩ (.bool a.sure)).setCell ⟨w.heap.size + 1, 4, none⟩ (.slice (some ⟨gl, 0, none⟩) l.xs.length (l.xs.length + 9))).setCell ⟨w.heap.size + 1, 5, none⟩ (.slice (some ⟨gg, 0, none⟩) l.gs.length (l.gs.length + 9))).setCell ⟨w.heap.size + 1, 6, none⟩ (.slice (some ⟨gs, 0, none⟩) l.ss.length (l.ss.length + 9))).setCell ⟨w.heap.size + 1, 7, none⟩ (.int .i64 a.mq)).setCell ⟨w.heap.size + 1, 8, none⟩ (.slice (some ⟨go, 0, none⟩) l.os.length (l.os.length + 9))).setCell ⟨w.heap.size + 1, 9, none⟩ (.int .i64 a.r1)).setCell ⟨w.heap.size + 1, 10, none⟩ (.int .i64 a.r2)).setCell ⟨w.heap.size + 1, 11, none⟩ (.int .i64 a.r3)).setCell ⟨w.heap.size + 1, 12, none⟩ (.int .i64 a.tu)).setCell ⟨w.heap.size + 1, 13, none⟩ (.int .u64 a.gen)).setCell ⟨w.heap.size + 1, 14, none⟩ (.slice (some ⟨gr, 0, none⟩) l.rs.length (l.rs.length + 9))) := ((HP1.out.mono (fun _ _ e => .inr e)).trans0 HF2.out).trans G2
  have O1 := own_down (own_but HO1.out G1 (by omega)) (show w.heap.size ≤ _ by first | exact X1.size | exact Nat.le_of_lt (Nat.lt_of_lt_of_le (by omega) X1.size))
  have O2 := own_down (own_but HO2.out G2 (by omega)) (show w.heap.size ≤ _ by first | exact X2.size | exact Nat.le_of_lt (Nat.lt_of_lt_of_le (by omega) X2.size))
  have O3 := own_down (own_but HO3.out G3 (by omega)) (show w.heap.size ≤ _ by first | exact X3.size | exact Nat.le_of_lt (Nat.lt_of_lt_of_le (by omega) X3.size))
  have O4 := own_down (own_but HO4.out G4 (by omega)) (show w.heap.size ≤ _ by first | exact X4.size | exact Nat.le_of_lt (Nat.lt_of_lt_of_le (by omega) X4.size))
  have O5 := own_down (own_but HO5.out G5 (by omega)) (show w.heap.size ≤ _ by first | exact X5.size | exact Nat.le_of_lt (Nat.lt_of_lt_of_le (by omega) X5.size))
  have q1 : gl < W1.heap.size := (HO1.out.lt gl rfl).2
  have y1 : gl < gg := Nat.lt_of_lt_of_le q1 (by simpa [World.setCell] using hg2)
  have q2 : gg < W2.heap.size := (HO2.out.lt gg rfl).2
  have y2 : gg < gs := Nat.lt_of_lt_of_le q2 (by simpa [World.setCell] using hg3)
  have q3 : gs < W3.heap.size := (HO3.out.lt gs rfl).2
  have y3 : gs < go := Nat.lt_of_lt_of_le q3 (by simpa [World.setCell] using hg4)
  have q4 : go < W4.heap.size := (HO4.out.lt go rfl).2
  have y4 : go < gr := Nat.lt_of_lt_of_le q4 (by simpa [World.setCell] using hg5)
  refine bodyPost_ret (v := .agg #[.int .i64 a.t, .int .u64 a.n, .int .i64 a.k, .bool a.sure, .slice (some ⟨gl, 0, none⟩) l.xs.length (l.xs.length + 9), .slice (some ⟨gg, 0, none⟩) l.gs.length (l.gs.length + 9), .slice (some ⟨gs, 0, none⟩) l.ss.length (l.ss.length + 9), .int .i64 a.mq, .slice (some ⟨go, 0, none⟩) l.os.length (l.os.length + 9), .int .i64 a.r1, .int .i64 a.r2, .int .i64 a.r3, .int .i64 a.tu, .int .u64 a.gen, .slice (some ⟨gr, 0, none⟩) l.rs.length (l.rs.length + 9)]) (by simp [results, Tryz.results100, go_sem, f0, f1, f2, f3, f4, f5, f6, f7, f8, f9, f10, f11, f12, f13, f14]) rfl ⟨⟨⟨gl, gg, gs, go, gr⟩, rfl, ⟨(show w.heap.size ≤ gl by omega), y1, y2, y3, y4, O1, O2, O3, O4, O5⟩⟩, FF⟩
end Go.Proofs.YtmnajpkmglmipaaGreat
