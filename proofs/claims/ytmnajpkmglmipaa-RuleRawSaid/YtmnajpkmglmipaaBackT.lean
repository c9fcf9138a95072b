/- Contracts of tilllaw1's BackState, BackAct at what is as it was. -/
import Derived.Test.YtmnajpkmglmipaaBackS
namespace Go.Proofs.Ytmnajpkmglmipaa
open Go.RowKit

theorem LentTo.fr {W W' : World} {base g m : Nat} {rs : List PoolR} {ps : List PoolD} (h : LentTo W base g rs ps m) (f : Fr no W W') : LentTo W' base g rs ps m := h.kept (f.mono (fun _ _ e => e.elim))
theorem LentState.keep {W W' : World} {base : Nat} {z : LentZ} {d : StL} (h : LentState W base z d) (f : Fr no W W') : LentState W' base z d :=
  ⟨h.lo, h.lg, h.gp, h.pr, h.ro, h.hr, own_kept h.lasts f, own_kept h.gens f, own_kept h.pools f, h.helds.fr f, own_kept h.prices f, own_kept h.owed f⟩
theorem LentAct.keep {W W' : World} {base : Nat} {z : LentY} {l : ActL} (h : LentAct W base z l) (f : Fr no W W') : LentAct W' base z l :=
  ⟨h.lo, h.lg, h.gs, h.so, h.or', own_kept h.lines f, own_kept h.guards f, own_kept h.sets f, own_kept h.other f, own_kept h.rights f⟩
theorem LentTo.down {W : World} {base b g m : Nat} {rs : List PoolR} {ps : List PoolD} (h : LentTo W base g rs ps m) (hb : b ≤ base) : LentTo W b g rs ps m := ⟨h.1, h.2.1, fun i hi hi' => (h.2.2 i hi hi').base hb⟩
theorem LentState.down {W : World} {base b : Nat} {z : LentZ} {d : StL} (h : LentState W base z d) (hb : b ≤ base) : LentState W b z d :=
  ⟨Nat.le_trans hb h.lo, h.lg, h.gp, h.pr, h.ro, h.hr, own_down h.lasts hb, own_down h.gens hb, own_down h.pools hb, h.helds.down hb, own_down h.prices hb, own_down h.owed hb⟩
theorem LentAct.down {W : World} {base b : Nat} {z : LentY} {l : ActL} (h : LentAct W base z l) (hb : b ≤ base) : LentAct W b z l :=
  ⟨Nat.le_trans hb h.lo, h.lg, h.gs, h.so, h.or', own_down h.lines hb, own_down h.guards hb, own_down h.sets hb, own_down h.other hb, own_down h.rights hb⟩
theorem oweMarks_get (m : Nat) (i : Nat) (h : i < (oweMarks m).length) : (oweMarks m)[i] = ((i : Int) % 2 == 0) := by simp [oweMarks]
set_option maxRecDepth 100000 in
set_option maxHeartbeats 8000000 in
theorem back_state (s : StV) (d : StL) (z : LentZ) (base : Nat) (w : World) (hs : StOk w s d) (h : LentState w base z d) :
    Calls Try.prog 12 #[.agg #[.int .u64 (stLent s.q d z).q, .slice (stLent s.q d z).P (stLent s.q d z).np (stLent s.q d z).cp, .slice (stLent s.q d z).R (stLent s.q d z).nr (stLent s.q d z).cr, .slice (stLent s.q d z).L (stLent s.q d z).nl (stLent s.q d z).cl, .slice (stLent s.q d z).G (stLent s.q d z).ng (stLent s.q d z).cg, .slice (stLent s.q d z).O (stLent s.q d z).no (stLent s.q d z).co], .agg #[.int .u64 s.q, .slice s.P s.np s.cp, .slice s.R s.nr s.cr, .slice s.L s.nl s.cl, .slice s.G s.ng s.cg, .slice s.O s.no s.co]] w fun e w' => e = .returned (.bool true) ∧ Fr no w w' := by
  rw [hs.np, hs.nr, hs.nl, hs.ng, hs.nw]
  show Calls Try.prog 12 #[.agg #[.int .u64 s.q, .slice (some ⟨z.gP, 0, none⟩) d.ps.length (d.ps.length + 9), .slice (some ⟨z.gR, 0, none⟩) d.vs.length (d.vs.length + 9), .slice (some ⟨z.gL, 0, none⟩) d.ls.length (d.ls.length + 9), .slice (some ⟨z.gG, 0, none⟩) d.gs.length (d.gs.length + 9), .slice (some ⟨z.gO, 0, none⟩) d.os.length (d.os.length + 9)], .agg #[.int .u64 s.q, .slice s.P d.ps.length s.cp, .slice s.R d.vs.length s.cr, .slice s.L d.ls.length s.cl, .slice s.G d.gs.length s.cg, .slice s.O d.os.length s.co]] w fun e w' => e = .returned (.bool true) ∧ Fr no w w'
  have tv : d.vs.length + 9 ≤ 9223372036854775807 := by have := own_cap h.prices; simp only [maxLen] at this; omega
  have tow : d.os.length + 9 ≤ 9223372036854775807 := by have := own_cap h.owed; simp only [maxLen] at this; omega
  have H := hide h
  have HS := hide hs
  have he := hide (eq_state (stLent s.q d z) s d)
  clear h hs
  go_enter Try.func12, Try.ntmps12
  go_wp2_with fail
  obtain ⟨W0, hW0⟩ : ∃ W0, ((w.alloc (.cells #[.int .u64 s.q, .slice (some ⟨z.gP, 0, none⟩) d.ps.length (d.ps.length + 9), .slice (some ⟨z.gR, 0, none⟩) d.vs.length (d.vs.length + 9), .slice (some ⟨z.gL, 0, none⟩) d.ls.length (d.ls.length + 9), .slice (some ⟨z.gG, 0, none⟩) d.gs.length (d.gs.length + 9), .slice (some ⟨z.gO, 0, none⟩) d.os.length (d.os.length + 9)] 32)).alloc (.cells #[.int .u64 s.q, .slice s.P d.ps.length s.cp, .slice s.R d.vs.length s.cr, .slice s.L d.ls.length s.cl, .slice s.G d.gs.length s.cg, .slice s.O d.os.length s.co] 32)) = W0 := ⟨_, rfl⟩
  have F0 : Fr no w W0 := by rw [← hW0]; exact ((Fr.refl no w).alloc _).alloc _
  have B0 : Blk W0 w.heap.size 32 #[.int .u64 s.q, .slice (some ⟨z.gP, 0, none⟩) d.ps.length (d.ps.length + 9), .slice (some ⟨z.gR, 0, none⟩) d.vs.length (d.vs.length + 9), .slice (some ⟨z.gL, 0, none⟩) d.ls.length (d.ls.length + 9), .slice (some ⟨z.gG, 0, none⟩) d.gs.length (d.gs.length + 9), .slice (some ⟨z.gO, 0, none⟩) d.os.length (d.os.length + 9)] := by rw [← hW0]; exact (Blk.new w _ _).alloc _
  have B1 : Blk W0 (w.heap.size + 1) 32 #[.int .u64 s.q, .slice s.P d.ps.length s.cp, .slice s.R d.vs.length s.cr, .slice s.L d.ls.length s.cl, .slice s.G d.gs.length s.cg, .slice s.O d.os.length s.co] := by rw [← hW0]; exact blk_at _ _ _ _ (by simp)
  have b0 : ∀ p : FrBy W0, p.w.cell? ⟨w.heap.size, 0, none⟩ = some (.int .u64 s.q) := fun p => (B0.kept0 p.fr).cell 0
  have b1 : ∀ p : FrBy W0, p.w.cell? ⟨w.heap.size, 1, none⟩ = some (.slice (some ⟨z.gP, 0, none⟩) d.ps.length (d.ps.length + 9)) := fun p => (B0.kept0 p.fr).cell 1
  have b2 : ∀ p : FrBy W0, p.w.cell? ⟨w.heap.size, 2, none⟩ = some (.slice (some ⟨z.gR, 0, none⟩) d.vs.length (d.vs.length + 9)) := fun p => (B0.kept0 p.fr).cell 2
  have b3 : ∀ p : FrBy W0, p.w.cell? ⟨w.heap.size, 3, none⟩ = some (.slice (some ⟨z.gL, 0, none⟩) d.ls.length (d.ls.length + 9)) := fun p => (B0.kept0 p.fr).cell 3
  have b4 : ∀ p : FrBy W0, p.w.cell? ⟨w.heap.size, 4, none⟩ = some (.slice (some ⟨z.gG, 0, none⟩) d.gs.length (d.gs.length + 9)) := fun p => (B0.kept0 p.fr).cell 4
  have b5 : ∀ p : FrBy W0, p.w.cell? ⟨w.heap.size, 5, none⟩ = some (.slice (some ⟨z.gO, 0, none⟩) d.os.length (d.os.length + 9)) := fun p => (B0.kept0 p.fr).cell 5
  have c0 : ∀ p : FrBy W0, p.w.cell? ⟨w.heap.size + 1, 0, none⟩ = some (.int .u64 s.q) := fun p => (B1.kept0 p.fr).cell 0
  have c1 : ∀ p : FrBy W0, p.w.cell? ⟨w.heap.size + 1, 1, none⟩ = some (.slice s.P d.ps.length s.cp) := fun p => (B1.kept0 p.fr).cell 1
  have c2 : ∀ p : FrBy W0, p.w.cell? ⟨w.heap.size + 1, 2, none⟩ = some (.slice s.R d.vs.length s.cr) := fun p => (B1.kept0 p.fr).cell 2
  have c3 : ∀ p : FrBy W0, p.w.cell? ⟨w.heap.size + 1, 3, none⟩ = some (.slice s.L d.ls.length s.cl) := fun p => (B1.kept0 p.fr).cell 3
  have c4 : ∀ p : FrBy W0, p.w.cell? ⟨w.heap.size + 1, 4, none⟩ = some (.slice s.G d.gs.length s.cg) := fun p => (B1.kept0 p.fr).cell 4
  have c5 : ∀ p : FrBy W0, p.w.cell? ⟨w.heap.size + 1, 5, none⟩ = some (.slice s.O d.os.length s.co) := fun p => (B1.kept0 p.fr).cell 5
  have HF0 := hide F0
  have Ce : Hid (∀ p : FrBy W0, Calls Try.prog 37 #[.agg #[.int .u64 s.q, .slice (some ⟨z.gP, 0, none⟩) d.ps.length (d.ps.length + 9), .slice (some ⟨z.gR, 0, none⟩) d.vs.length (d.vs.length + 9), .slice (some ⟨z.gL, 0, none⟩) d.ls.length (d.ls.length + 9), .slice (some ⟨z.gG, 0, none⟩) d.gs.length (d.gs.length + 9), .slice (some ⟨z.gO, 0, none⟩) d.os.length (d.os.length + 9)], .agg #[.int .u64 s.q, .slice s.P d.ps.length s.cp, .slice s.R d.vs.length s.cr, .slice s.L d.ls.length s.cl, .slice s.G d.gs.length s.cg, .slice s.O d.os.length s.co]] p.w fun e w' => e = .returned (.bool true) ∧ ∃ q : FrBy W0, w' = q.w) := hide (fun p => calls_fr (by
    have hS := HS.out.keep (HF0.out.trans p.fr)
    have := he.out p.w rfl ((H.out.keep (HF0.out.trans p.fr)).ok s.q) hS
    rw [hS.np, hS.nr, hS.nl, hS.ng, hS.nw] at this
    exact this))
  have Cn1 : Hid (∀ p : FrBy W0, Calls Try.prog 38 #[.slice (some ⟨z.gL, 0, none⟩) d.ls.length (d.ls.length + 9), .slice s.L d.ls.length s.cl] p.w fun e w' => e = .returned (.bool true) ∧ ∃ q : FrBy W0, w' = q.w) := hide (fun p => calls_fr (back_num _ _ _ _ _ (by have := (H.out.keep (HF0.out.trans p.fr)).lasts; exact own_sl' fNum this (by simp) (own_cap this)) (HS.out.keep (HF0.out.trans p.fr)).lasts))
  have Cn2 : Hid (∀ p : FrBy W0, Calls Try.prog 38 #[.slice (some ⟨z.gG, 0, none⟩) d.gs.length (d.gs.length + 9), .slice s.G d.gs.length s.cg] p.w fun e w' => e = .returned (.bool true) ∧ ∃ q : FrBy W0, w' = q.w) := hide (fun p => calls_fr (back_num _ _ _ _ _ (by have := (H.out.keep (HF0.out.trans p.fr)).gens; exact own_sl' fNum this (by simp) (own_cap this)) (HS.out.keep (HF0.out.trans p.fr)).gens))
  have Cp : Hid (∀ p : FrBy W0, Calls Try.prog 39 #[.slice (some ⟨z.gP, 0, none⟩) d.ps.length (d.ps.length + 9)] p.w fun e w' => e = .returned (.bool true) ∧ ∃ q : FrBy W0, w' = q.w) := hide (fun p => calls_fr (back_pools base _ z.rs _ _ (H.out.keep (HF0.out.trans p.fr)).helds (H.out.keep (HF0.out.trans p.fr)).pools))
  have HQ : Hid (∀ i, d.vs.length ≤ i → i < d.vs.length + 9 → (∀ p : FrBy W0, p.w.cell? ⟨z.gR, i * 2, none⟩ = some (.int .i64 777)) ∧ ∀ p : FrBy W0, p.w.cell? ⟨z.gR, i * 2 + 1, none⟩ = some (.int .i64 0)) := hide (by
    intro i h1 h2
    have hi : i < (d.vs ++ List.replicate 9 ((777, 0) : PricedD)).length := by simp; omega
    have hv : (d.vs ++ List.replicate 9 ((777, 0) : PricedD))[i] = (777, 0) := by rw [List.getElem_append_right h1, List.getElem_replicate]
    have k0 := own_at fPriced H.out.prices i 0 hi (by decide)
    have k1 := own_at fPriced H.out.prices i 1 hi (by decide)
    rw [hv] at k0 k1
    exact ⟨fun p => fr_cell (HF0.out.trans p.fr) k0, fun p => fr_cell (HF0.out.trans p.fr) k1⟩)
  have HQO : Hid (∀ i, d.os.length ≤ i → i < d.os.length + 9 → ∀ p : FrBy W0, p.w.cell? ⟨z.gO, i, none⟩ = some (.bool (((i : Int) - d.os.length) % 2 == 0))) := hide (by
    intro i h1 h2 p
    have hi : i < (d.os ++ oweMarks 9).length := by simp [oweMarks]; omega
    have hv : (d.os ++ oweMarks 9)[i] = (((i : Int) - d.os.length) % 2 == 0) := by rw [List.getElem_append_right h1, oweMarks_get]; rw [show ((i - d.os.length : Nat) : Int) = (i : Int) - d.os.length by omega]
    have k0 := own_at fOwe H.out.owed i 0 hi (by decide)
    rw [hv] at k0
    refine fr_cell (HF0.out.trans p.fr) ?_
    simpa [fOwe] using k0)
  obtain ⟨p, hp⟩ : ∃ p : FrBy W0, p.w = W0 := ⟨⟨W0, Fr.refl _ _⟩, rfl⟩
  rw [hW0, ← hp]
  clear hW0 hp B0 B1 F0 he
  refine (Ce.out _).mono ?_
  rintro e w1 ⟨rfl, p, rfl⟩
  go_wp2_with fail
  refine (Cn1.out _).mono ?_
  rintro e w1 ⟨rfl, p, rfl⟩
  go_wp2_with fail
  refine (Cn2.out _).mono ?_
  rintro e w1 ⟨rfl, p, rfl⟩
  go_wp2_with fail
  refine (Cp.out _).mono ?_
  rintro e w1 ⟨rfl, p, rfl⟩
  go_wp2_with fail
  go_loopw [6] (fun i wr => ∃ j : Nat, i = .int .i64 j ∧ d.vs.length ≤ j ∧ j ≤ d.vs.length + 9 ∧ ∃ p : FrBy W0, wr = p.w) (fun i _ => d.vs.length + 9 - (intOf i).toNat)
  case atStart => exact ⟨d.vs.length, rfl, Nat.le_refl _, by omega, p, rfl⟩
  case round =>
    clear p
    obtain ⟨j, rfl, hj0, hj, p, rfl⟩ := hrel
    by_cases hjt : j < d.vs.length + 9
    · obtain ⟨k0, k1⟩ := HQ.out j hj0 hjt
      have hj2 : (0 : Int) ≤ j := by omega
      have hj1 : (j : Int) < d.vs.length + 9 := by omega
      go_wp2_with fail
      exact ⟨⟨j + 1, by simp, by omega, hjt, p, rfl⟩, by simp [intOf]; omega⟩
    · have hjn : ¬ (j : Int) < d.vs.length + 9 := by omega
      go_wp2_with fail
      go_loopw [8] (fun i wr => ∃ j : Nat, i = .int .i64 j ∧ d.os.length ≤ j ∧ j ≤ d.os.length + 9 ∧ ∃ p : FrBy W0, wr = p.w) (fun i _ => d.os.length + 9 - (intOf i).toNat)
      case atStart => exact ⟨d.os.length, rfl, Nat.le_refl _, by omega, p, rfl⟩
      case round =>
        clear p
        obtain ⟨j, rfl, hj0, hj, p, rfl⟩ := hrel
        by_cases hjt : j < d.os.length + 9
        · have k0 := HQO.out j hj0 hjt
          have hj2 : (0 : Int) ≤ j := by omega
          have hj1 : (j : Int) < d.os.length + 9 := by omega
          have t2 : ((j : Int) - d.os.length).tmod 2 = ((j : Int) - d.os.length) % 2 := Int.tmod_eq_emod_of_nonneg (by omega)
          have s1 : IntKind.i64.wrap ((j : Int) - d.os.length) = (j : Int) - d.os.length := IntWalk.i64_in _ (by omega)
          have s2 : 0 ≤ (j : Int) - d.os.length := by clear s1 t2; omega
          go_wp2_with fail
          (refine wp_region_fr W0 (by kernel_rfl) (by kernel_rfl) p.fr ?_; (repeat (quiet_step (fail))); refine wpQuiet_nil ?_; intro wz hw'; obtain ⟨p, rfl⟩ := hw')
          clear s1 s2 t2
          go_wp2_with fail
          exact ⟨⟨j + 1, by simp, by omega, hjt, p, rfl⟩, by simp [intOf]; omega⟩
        · have hjn : ¬ (j : Int) < d.os.length + 9 := by omega
          go_wp2_with fail
          go_ret
          exact ⟨rfl, HF0.out.trans p.fr⟩
set_option maxRecDepth 100000 in
set_option maxHeartbeats 8000000 in
theorem back_act (a : ActV) (l : ActL) (z : LentY) (base : Nat) (w : World) (ha : ActOk w a l) (h : LentAct w base z l) :
    Calls Try.prog 13 #[.agg #[.int .i64 (actLent a l z).t, .int .u64 (actLent a l z).n, .int .i64 (actLent a l z).k, .bool (actLent a l z).sure, .slice (actLent a l z).lA (actLent a l z).ln (actLent a l z).lc, .slice (actLent a l z).gA (actLent a l z).gn (actLent a l z).gc, .slice (actLent a l z).sA (actLent a l z).sn (actLent a l z).sc, .int .i64 (actLent a l z).mq, .slice (actLent a l z).oA (actLent a l z).on (actLent a l z).oc, .int .i64 (actLent a l z).r1, .int .i64 (actLent a l z).r2, .int .i64 (actLent a l z).r3, .int .i64 (actLent a l z).tu, .int .u64 (actLent a l z).gen, .slice (actLent a l z).hA (actLent a l z).hn (actLent a l z).hc], .agg #[.int .i64 a.t, .int .u64 a.n, .int .i64 a.k, .bool a.sure, .slice a.lA a.ln a.lc, .slice a.gA a.gn a.gc, .slice a.sA a.sn a.sc, .int .i64 a.mq, .slice a.oA a.on a.oc, .int .i64 a.r1, .int .i64 a.r2, .int .i64 a.r3, .int .i64 a.tu, .int .u64 a.gen, .slice a.hA a.hn a.hc]] w fun e w' => e = .returned (.bool true) ∧ Fr no w w' := by
  rw [ha.ln, ha.gn, ha.sn, ha.on, ha.hn]
  show Calls Try.prog 13 #[.agg #[.int .i64 a.t, .int .u64 a.n, .int .i64 a.k, .bool a.sure, .slice (some ⟨z.gl, 0, none⟩) l.xs.length (l.xs.length + 9), .slice (some ⟨z.gg, 0, none⟩) l.gs.length (l.gs.length + 9), .slice (some ⟨z.gs, 0, none⟩) l.ss.length (l.ss.length + 9), .int .i64 a.mq, .slice (some ⟨z.go, 0, none⟩) l.os.length (l.os.length + 9), .int .i64 a.r1, .int .i64 a.r2, .int .i64 a.r3, .int .i64 a.tu, .int .u64 a.gen, .slice (some ⟨z.gr, 0, none⟩) l.rs.length (l.rs.length + 9)], .agg #[.int .i64 a.t, .int .u64 a.n, .int .i64 a.k, .bool a.sure, .slice a.lA l.xs.length a.lc, .slice a.gA l.gs.length a.gc, .slice a.sA l.ss.length a.sc, .int .i64 a.mq, .slice a.oA l.os.length a.oc, .int .i64 a.r1, .int .i64 a.r2, .int .i64 a.r3, .int .i64 a.tu, .int .u64 a.gen, .slice a.hA l.rs.length a.hc]] w fun e w' => e = .returned (.bool true) ∧ Fr no w w'
  have H := hide h
  have HA := hide ha
  clear h ha
  go_enter Try.func13, Try.ntmps13
  go_wp2_with fail
  obtain ⟨W0, hW0⟩ : ∃ W0, ((w.alloc (.cells #[.int .i64 a.t, .int .u64 a.n, .int .i64 a.k, .bool a.sure, .slice (some ⟨z.gl, 0, none⟩) l.xs.length (l.xs.length + 9), .slice (some ⟨z.gg, 0, none⟩) l.gs.length (l.gs.length + 9), .slice (some ⟨z.gs, 0, none⟩) l.ss.length (l.ss.length + 9), .int .i64 a.mq, .slice (some ⟨z.go, 0, none⟩) l.os.length (l.os.length + 9), .int .i64 a.r1, .int .i64 a.r2, .int .i64 a.r3, .int .i64 a.tu, .int .u64 a.gen, .slice (some ⟨z.gr, 0, none⟩) l.rs.length (l.rs.length + 9)] 45)).alloc (.cells #[.int .i64 a.t, .int .u64 a.n, .int .i64 a.k, .bool a.sure, .slice a.lA l.xs.length a.lc, .slice a.gA l.gs.length a.gc, .slice a.sA l.ss.length a.sc, .int .i64 a.mq, .slice a.oA l.os.length a.oc, .int .i64 a.r1, .int .i64 a.r2, .int .i64 a.r3, .int .i64 a.tu, .int .u64 a.gen, .slice a.hA l.rs.length a.hc] 45)) = W0 := ⟨_, rfl⟩
  have F0 : Fr no w W0 := by rw [← hW0]; exact ((Fr.refl no w).alloc _).alloc _
  have B0 : Blk W0 w.heap.size 45 #[.int .i64 a.t, .int .u64 a.n, .int .i64 a.k, .bool a.sure, .slice (some ⟨z.gl, 0, none⟩) l.xs.length (l.xs.length + 9), .slice (some ⟨z.gg, 0, none⟩) l.gs.length (l.gs.length + 9), .slice (some ⟨z.gs, 0, none⟩) l.ss.length (l.ss.length + 9), .int .i64 a.mq, .slice (some ⟨z.go, 0, none⟩) l.os.length (l.os.length + 9), .int .i64 a.r1, .int .i64 a.r2, .int .i64 a.r3, .int .i64 a.tu, .int .u64 a.gen, .slice (some ⟨z.gr, 0, none⟩) l.rs.length (l.rs.length + 9)] := by rw [← hW0]; exact (Blk.new w _ _).alloc _
  have B1 : Blk W0 (w.heap.size + 1) 45 #[.int .i64 a.t, .int .u64 a.n, .int .i64 a.k, .bool a.sure, .slice a.lA l.xs.length a.lc, .slice a.gA l.gs.length a.gc, .slice a.sA l.ss.length a.sc, .int .i64 a.mq, .slice a.oA l.os.length a.oc, .int .i64 a.r1, .int .i64 a.r2, .int .i64 a.r3, .int .i64 a.tu, .int .u64 a.gen, .slice a.hA l.rs.length a.hc] := by rw [← hW0]; exact blk_at _ _ _ _ (by simp)
  have b4 : ∀ p : FrBy W0, p.w.cell? ⟨w.heap.size, 4, none⟩ = some (.slice (some ⟨z.gl, 0, none⟩) l.xs.length (l.xs.length + 9)) := fun p => (B0.kept0 p.fr).cell 4
  have c4 : ∀ p : FrBy W0, p.w.cell? ⟨w.heap.size + 1, 4, none⟩ = some (.slice a.lA l.xs.length a.lc) := fun p => (B1.kept0 p.fr).cell 4
  have b5 : ∀ p : FrBy W0, p.w.cell? ⟨w.heap.size, 5, none⟩ = some (.slice (some ⟨z.gg, 0, none⟩) l.gs.length (l.gs.length + 9)) := fun p => (B0.kept0 p.fr).cell 5
  have c5 : ∀ p : FrBy W0, p.w.cell? ⟨w.heap.size + 1, 5, none⟩ = some (.slice a.gA l.gs.length a.gc) := fun p => (B1.kept0 p.fr).cell 5
  have b6 : ∀ p : FrBy W0, p.w.cell? ⟨w.heap.size, 6, none⟩ = some (.slice (some ⟨z.gs, 0, none⟩) l.ss.length (l.ss.length + 9)) := fun p => (B0.kept0 p.fr).cell 6
  have c6 : ∀ p : FrBy W0, p.w.cell? ⟨w.heap.size + 1, 6, none⟩ = some (.slice a.sA l.ss.length a.sc) := fun p => (B1.kept0 p.fr).cell 6
  have b8 : ∀ p : FrBy W0, p.w.cell? ⟨w.heap.size, 8, none⟩ = some (.slice (some ⟨z.go, 0, none⟩) l.os.length (l.os.length + 9)) := fun p => (B0.kept0 p.fr).cell 8
  have c8 : ∀ p : FrBy W0, p.w.cell? ⟨w.heap.size + 1, 8, none⟩ = some (.slice a.oA l.os.length a.oc) := fun p => (B1.kept0 p.fr).cell 8
  have b14 : ∀ p : FrBy W0, p.w.cell? ⟨w.heap.size, 14, none⟩ = some (.slice (some ⟨z.gr, 0, none⟩) l.rs.length (l.rs.length + 9)) := fun p => (B0.kept0 p.fr).cell 14
  have c14 : ∀ p : FrBy W0, p.w.cell? ⟨w.heap.size + 1, 14, none⟩ = some (.slice a.hA l.rs.length a.hc) := fun p => (B1.kept0 p.fr).cell 14
  have HF0 := hide F0
  have C4 : Hid (∀ p : FrBy W0, Calls Try.prog 40 #[.slice (some ⟨z.gl, 0, none⟩) l.xs.length (l.xs.length + 9), .slice a.lA l.xs.length a.lc] p.w fun e w' => e = .returned (.bool true) ∧ ∃ q : FrBy W0, w' = q.w) := hide (fun p => calls_fr (back_lines _ _ _ _ _ (by have := (H.out.keep (HF0.out.trans p.fr)).lines; exact own_sl' fLine this (by simp) (own_cap this)) (HA.out.keep (HF0.out.trans p.fr)).lines))
  have C5 : Hid (∀ p : FrBy W0, Calls Try.prog 41 #[.slice (some ⟨z.gg, 0, none⟩) l.gs.length (l.gs.length + 9), .slice a.gA l.gs.length a.gc] p.w fun e w' => e = .returned (.bool true) ∧ ∃ q : FrBy W0, w' = q.w) := hide (fun p => calls_fr (back_guards _ _ _ _ _ (by have := (H.out.keep (HF0.out.trans p.fr)).guards; exact own_sl' fGuard this (by simp) (own_cap this)) (HA.out.keep (HF0.out.trans p.fr)).guards))
  have C6 : Hid (∀ p : FrBy W0, Calls Try.prog 42 #[.slice (some ⟨z.gs, 0, none⟩) l.ss.length (l.ss.length + 9), .slice a.sA l.ss.length a.sc] p.w fun e w' => e = .returned (.bool true) ∧ ∃ q : FrBy W0, w' = q.w) := hide (fun p => calls_fr (back_sets _ _ _ _ _ (by have := (H.out.keep (HF0.out.trans p.fr)).sets; exact own_sl' fSet this (by simp) (own_cap this)) (HA.out.keep (HF0.out.trans p.fr)).sets))
  have C8 : Hid (∀ p : FrBy W0, Calls Try.prog 40 #[.slice (some ⟨z.go, 0, none⟩) l.os.length (l.os.length + 9), .slice a.oA l.os.length a.oc] p.w fun e w' => e = .returned (.bool true) ∧ ∃ q : FrBy W0, w' = q.w) := hide (fun p => calls_fr (back_lines _ _ _ _ _ (by have := (H.out.keep (HF0.out.trans p.fr)).other; exact own_sl' fLine this (by simp) (own_cap this)) (HA.out.keep (HF0.out.trans p.fr)).other))
  have C14 : Hid (∀ p : FrBy W0, Calls Try.prog 43 #[.slice (some ⟨z.gr, 0, none⟩) l.rs.length (l.rs.length + 9), .slice a.hA l.rs.length a.hc] p.w fun e w' => e = .returned (.bool true) ∧ ∃ q : FrBy W0, w' = q.w) := hide (fun p => calls_fr (back_rights _ _ _ _ _ (by have := (H.out.keep (HF0.out.trans p.fr)).rights; exact own_sl' fRight this (by simp) (own_cap this)) (HA.out.keep (HF0.out.trans p.fr)).rights))
  obtain ⟨p, hp⟩ : ∃ p : FrBy W0, p.w = W0 := ⟨⟨W0, Fr.refl _ _⟩, rfl⟩
  rw [hW0, ← hp]
  clear hW0 hp B0 B1 F0
  refine (C4.out _).mono ?_
  rintro e w1 ⟨rfl, p, rfl⟩
  go_wp2_with fail
  refine (C5.out _).mono ?_
  rintro e w1 ⟨rfl, p, rfl⟩
  go_wp2_with fail
  refine (C6.out _).mono ?_
  rintro e w1 ⟨rfl, p, rfl⟩
  go_wp2_with fail
  refine (C8.out _).mono ?_
  rintro e w1 ⟨rfl, p, rfl⟩
  go_wp2_with fail
  refine (C14.out _).mono ?_
  rintro e w1 ⟨rfl, p, rfl⟩
  go_wp2_with fail
  go_ret
  exact ⟨rfl, HF0.out.trans p.fr⟩
end Go.Proofs.Ytmnajpkmglmipaa
