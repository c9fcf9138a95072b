/- BackT RuleK -/
import Derived.Test.YtmnajpkmglmipaaGreatMRuleNeeds13
import Derived.Test.YtmnajpkmglmipaaGreatMRuleNeeds20
/- Contracts of tilllaw1's BackState, BackAct at what is as it was. -/
namespace Go.Proofs.YtmnajpkmglmipaaGreat
open Go.RowKit

theorem LentTo.fr {W W' : World} {base g m : Nat} {rs : List PoolR} {ps : List PoolD} (h : LentTo W base g rs ps m) (f : Fr no W W') : LentTo W' base g rs ps m := h.kept (f.mono (fun _ _ e => e.elim))
theorem LentState.keep {W W' : World} {base : Nat} {z : LentZ} {d : StL} (h : LentState W base z d) (f : Fr no W W') : LentState W' base z d :=
  ⟨h.lo, h.lg, h.gp, h.pr, h.ro, h.hr, own_kept h.lasts f, own_kept h.gens f, own_kept h.pools f, h.helds.fr f, own_kept h.prices f, own_kept h.owed f⟩
theorem LentAct.keep {W W' : World} {base : Nat} {z : LentY} {l : ActL} (h : LentAct W base z l) (f : Fr no W W') : LentAct W' base z l :=
  ⟨h.lo, h.lg, h.gs, h.so, h.or', own_kept h.lines f, own_kept h.guards f, own_kept h.sets f, own_kept h.other f, own_kept h.rights f⟩
theorem LentTo.down {W : World} {base b g m : Nat} {rs : List PoolR} {ps : List PoolD} (h : LentTo W base g rs ps m) (hb : b ≤ base) : LentTo W b g rs ps m := ⟨h.1, h.2.1, fun i hi hi' => (h.2.2 i hi hi').base hb⟩
theorem LentState.down {W : World} {base b : Nat} {z : LentZ} {d : StL} (h : LentState W base z d) (hb : b ≤ base) : LentState W b z d :=
  ⟨Nat.le_trans hb h.lo, h.lg, h.gp, h.pr, h.ro, h.hr, own_down h.lasts hb, own_down h.gens hb, own_down h.pools hb, h.helds.down hb, own_down h.prices hb, own_down h.owed hb⟩
theorem LentAct.down {W : World} {base b : Nat} {z : LentY} {l : ActL} (h : LentAct W base z l) (hb : b ≤ base) : LentAct W b z l :=
  ⟨Nat.le_trans hb h.lo, h.lg, h.gs, h.so, h.or', own_down h.lines hb, own_down h.guards hb, own_down h.sets hb, own_down h.other hb, own_down h.rights hb⟩
theorem oweMarks_get (m : Nat) (i : Nat) (h : i < (oweMarks m).length) : (oweMarks m)[i] = ((i : Int) % 2 == 0) := by simp [oweMarks]
set_option maxRecDepth 100000 in
set_option maxHeartbeats 8000000 in
theorem back_state (s : StV) (d : StL) (z : LentZ) (base : Nat) (w : World) (hs : StOk w s d) (h : LentState w base z d) :
    Calls Tryz.prog 93 #[.agg #[.int .u64 (stLent s.q d z).q, .slice (stLent s.q d z).P (stLent s.q d z).np (stLent s.q d z).cp, .slice (stLent s.q d z).R (stLent s.q d z).nr (stLent s.q d z).cr, .slice (stLent s.q d z).L (stLent s.q d z).nl (stLent s.q d z).cl, .slice (stLent s.q d z).G (stLent s.q d z).ng (stLent s.q d z).cg, .slice (stLent s.q d z).O (stLent s.q d z).no (stLent s.q d z).co], .agg #[.int .u64 s.q, .slice s.P s.np s.cp, .slice s.R s.nr s.cr, .slice s.L s.nl s.cl, .slice s.G s.ng s.cg, .slice s.O s.no s.co]] w fun e w' => e = .returned (.bool true) ∧ Fr no w w' := by
  rw [hs.np, hs.nr, hs.nl, hs.ng, hs.nw]
  show Calls Tryz.prog 93 #[.agg #[.int .u64 s.q, .slice (some ⟨z.gP, 0, none⟩) d.ps.length (d.ps.length + 9), .slice (some ⟨z.gR, 0, none⟩) d.vs.length (d.vs.length + 9), .slice (some ⟨z.gL, 0, none⟩) d.ls.length (d.ls.length + 9), .slice (some ⟨z.gG, 0, none⟩) d.gs.length (d.gs.length + 9), .slice (some ⟨z.gO, 0, none⟩) d.os.length (d.os.length + 9)], .agg #[.int .u64 s.q, .slice s.P d.ps.length s.cp, .slice s.R d.vs.length s.cr, .slice s.L d.ls.length s.cl, .slice s.G d.gs.length s.cg, .slice s.O d.os.length s.co]] w fun e w' => e = .returned (.bool true) ∧ Fr no w w'
  have tv : d.vs.length + 9 ≤ 9223372036854775807 := by have := own_cap h.prices; simp only [maxLen] at this; omega
  have tow : d.os.length + 9 ≤ 9223372036854775807 := by have := own_cap h.owed; simp only [maxLen] at this; omega
  have H := hide h
  have HS := hide hs
  have he := hide (eq_state (stLent s.q d z) s d)
  clear h hs
  go_enter Tryz.func93, Tryz.ntmps93
  go_wp2_with fail
  obtain ⟨W0, hW0⟩ : ∃ W0, ((w.alloc (.cells #[.int .u64 s.q, .slice (some ⟨z.gP, 0, none⟩) d.ps.length (d.ps.length + 9), .slice (some ⟨z.gR, 0, none⟩) d.vs.length (d.vs.length + 9), .slice (some ⟨z.gL, 0, none⟩) d.ls.length (d.ls.length + 9), .slice (some ⟨z.gG, 0, none⟩) d.gs.length (d.gs.length + 9), .slice (some ⟨z.gO, 0, none⟩) d.os.length (d.os.length + 9)] 77)).alloc (.cells #[.int .u64 s.q, .slice s.P d.ps.length s.cp, .slice s.R d.vs.length s.cr, .slice s.L d.ls.length s.cl, .slice s.G d.gs.length s.cg, .slice s.O d.os.length s.co] 77)) = W0 := ⟨_, rfl⟩
  have F0 : Fr no w W0 := by rw [← hW0]; exact ((Fr.refl no w).alloc _).alloc _
  have B0 : Blk W0 w.heap.size 77 #[.int .u64 s.q, .slice (some ⟨z.gP, 0, none⟩) d.ps.length (d.ps.length + 9), .slice (some ⟨z.gR, 0, none⟩) d.vs.length (d.vs.length + 9), .slice (some ⟨z.gL, 0, none⟩) d.ls.length (d.ls.length + 9), .slice (some ⟨z.gG, 0, none⟩) d.gs.length (d.gs.length + 9), .slice (some ⟨z.gO, 0, none⟩) d.os.length (d.os.length + 9)] := by rw [← hW0]; exact (Blk.new w _ _).alloc _
  have B1 : Blk W0 (w.heap.size + 1) 77 #[.int .u64 s.q, .slice s.P d.ps.length s.cp, .slice s.R d.vs.length s.cr, .slice s.L d.ls.length s.cl, .slice s.G d.gs.length s.cg, .slice s.O d.os.length s.co] := by rw [← hW0]; exact blk_at _ _ _ _ (by simp)
  have b0 : ∀ p : FrBy W0, p.w.cell? ⟨w.heap.size, 0, none⟩ = some (.int .u64 s.q) := fun p => (B0.kept0 p.fr).cell 0
  have b1 : ∀ p : FrBy W0, p.w.cell? ⟨w.heap.size, 1, none⟩ = some (.slice (some ⟨z.gP, 0, none⟩) d.ps.length (d.ps.length + 9)) := fun p => (B0.kept0 p.fr).cell 1
  have b2 : ∀ p : FrBy W0, p.w.cell? ⟨w.heap.size, 2, none⟩ = some (.slice (some ⟨z.gR, 0, none⟩) d.vs.length (d.vs.length + 9)) := fun p => (B0.kept0 p.fr).cell 2
  have b3 : ∀ p : FrBy W0, p.w.cell? ⟨w.heap.size, 3, none⟩ = some (.slice (some ⟨z.gL, 0, none⟩) d.ls.length (d.ls.length + 9)) := fun p => (B0.kept0 p.fr).cell 3
  have b4 : ∀ p : FrBy W0, p.w.cell? ⟨w.heap.size, 4, none⟩ = some (.slice (some ⟨z.gG, 0, none⟩) d.gs.length (d.gs.length + 9)) := fun p => (B0.kept0 p.fr).cell 4
  have b5 : ∀ p : FrBy W0, p.w.cell? ⟨w.heap.size, 5, none⟩ = some (.slice (some ⟨z.gO, 0, none⟩) d.os.length (d.os.length + 9)) := fun p => (B0.kept0 p.fr).cell 5
  have c0 : ∀ p : FrBy W0, p.w.cell? ⟨w.heap.size + 1, 0, none⟩ = some (.int .u64 s.q) := fun p => (B1.kept0 p.fr).cell 0
  have c1 : ∀ p : FrBy W0, p.w.cell? ⟨w.heap.size + 1, 1, none⟩ = some (.slice s.P d.ps.length s.cp) := fun p => (B1.kept0 p.fr).cell 1
  have c2 : ∀ p : FrBy W0, p.w.cell? ⟨w.heap.size + 1, 2, none⟩ = some (.slice s.R d.vs.length s.cr) := fun p => (B1.kept0 p.fr).cell 2
  have c3 : ∀ p : FrBy W0, p.w.cell? ⟨w.heap.size + 1, 3, none⟩ = some (.slice s.L d.ls.length s.cl) := fun p => (B1.kept0 p.fr).cell 3
  have c4 : ∀ p : FrBy W0, p.w.cell? ⟨w.heap.size + 1, 4, none⟩ = some (.slice s.G d.gs.length s.cg) := fun p => (B1.kept0 p.fr).cell 4
  have c5 : ∀ p : FrBy W0, p.w.cell? ⟨w.heap.size + 1, 5, none⟩ = some (.slice s.O d.os.length s.co) := fun p => (B1.kept0 p.fr).cell 5
  have HF0 := hide F0
  have Ce : Hid (∀ p : FrBy W0, Calls Tryz.prog 155 #[.agg #[.int .u64 s.q, .slice (some ⟨z.gP, 0, none⟩) d.ps.length (d.ps.length + 9), .slice (some ⟨z.gR, 0, none⟩) d.vs.length (d.vs.length + 9), .slice (some ⟨z.gL, 0, none⟩) d.ls.length (d.ls.length + 9), .slice (some ⟨z.gG, 0, none⟩) d.gs.length (d.gs.length + 9), .slice (some ⟨z.gO, 0, none⟩) d.os.length (d.os.length + 9)], .agg #[.int .u64 s.q, .slice s.P d.ps.length s.cp, .slice s.R d.vs.length s.cr, .slice s.L d.ls.length s.cl, .slice s.G d.gs.length s.cg, .slice s.O d.os.length s.co]] p.w fun e w' => e = .returned (.bool true) ∧ ∃ q : FrBy W0, w' = q.w) := hide (fun p => calls_fr (by
    have hS := HS.out.keep (HF0.out.trans p.fr)
    have := he.out p.w rfl ((H.out.keep (HF0.out.trans p.fr)).ok s.q) hS
    rw [hS.np, hS.nr, hS.nl, hS.ng, hS.nw] at this
    exact this))
  have Cn1 : Hid (∀ p : FrBy W0, Calls Tryz.prog 156 #[.slice (some ⟨z.gL, 0, none⟩) d.ls.length (d.ls.length + 9), .slice s.L d.ls.length s.cl] p.w fun e w' => e = .returned (.bool true) ∧ ∃ q : FrBy W0, w' = q.w) := hide (fun p => calls_fr (back_num _ _ _ _ _ (by have := (H.out.keep (HF0.out.trans p.fr)).lasts; exact own_sl' fNum this (by simp) (own_cap this)) (HS.out.keep (HF0.out.trans p.fr)).lasts))
  have Cn2 : Hid (∀ p : FrBy W0, Calls Tryz.prog 156 #[.slice (some ⟨z.gG, 0, none⟩) d.gs.length (d.gs.length + 9), .slice s.G d.gs.length s.cg] p.w fun e w' => e = .returned (.bool true) ∧ ∃ q : FrBy W0, w' = q.w) := hide (fun p => calls_fr (back_num _ _ _ _ _ (by have := (H.out.keep (HF0.out.trans p.fr)).gens; exact own_sl' fNum this (by simp) (own_cap this)) (HS.out.keep (HF0.out.trans p.fr)).gens))
  have Cp : Hid (∀ p : FrBy W0, Calls Tryz.prog 157 #[.slice (some ⟨z.gP, 0, none⟩) d.ps.length (d.ps.length + 9)] p.w fun e w' => e = .returned (.bool true) ∧ ∃ q : FrBy W0, w' = q.w) := hide (fun p => calls_fr (back_pools base _ z.rs _ _ (H.out.keep (HF0.out.trans p.fr)).helds (H.out.keep (HF0.out.trans p.fr)).pools))
  have HQ : Hid (∀ i, d.vs.length ≤ i → i < d.vs.length + 9 → (∀ p : FrBy W0, p.w.cell? ⟨z.gR, i * 2, none⟩ = some (.int .i64 777)) ∧ ∀ p : FrBy W0, p.w.cell? ⟨z.gR, i * 2 + 1, none⟩ = some (.int .i64 0)) := hide (by
    intro i h1 h2
    have hi : i < (d.vs ++ List.replicate 9 ((777, 0) : PricedD)).length := by simp; omega
    have hv : (d.vs ++ List.replicate 9 ((777, 0) : PricedD))[i] = (777, 0) := by rw [List.getElem_append_right h1, List.getElem_replicate]
    have k0 := own_at fPriced H.out.prices i 0 hi (by decide)
    have k1 := own_at fPriced H.out.prices i 1 hi (by decide)
    rw [hv] at k0 k1
    exact ⟨fun p => fr_cell (HF0.out.trans p.fr) k0, fun p => fr_cell (HF0.out.trans p.fr) k1⟩)
  have HQO : Hid (∀ i, d.os.length ≤ i → i < d.os.length + 9 → ∀ p : FrBy W0, p.w.cell? ⟨z.gO, i, none⟩ = some (.bool (((i : Int) - d.os.length) % 2 == 0))) := hide (by
    intro i h1 h2 p
    have hi : i < (d.os ++ oweMarks 9).length := by simp [oweMarks]; omega
    have hv : (d.os ++ oweMarks 9)[i] = (((i : Int) - d.os.length) % 2 == 0) := by rw [List.getElem_append_right h1, oweMarks_get]; rw [show ((i - d.os.length : Nat) : Int) = (i : Int) - d.os.length by omega]
    have k0 := own_at fOwe H.out.owed i 0 hi (by decide)
    rw [hv] at k0
    refine fr_cell (HF0.out.trans p.fr) ?_
    simpa [fOwe] using k0)
  obtain ⟨p, hp⟩ : ∃ p : FrBy W0, p.w = W0 := ⟨⟨W0, Fr.refl _ _⟩, rfl⟩
  rw [hW0, ← hp]
  clear hW0 hp B0 B1 F0 he
  refine (Ce.out _).mono ?_
  rintro e w1 ⟨rfl, p, rfl⟩
  go_wp2_with fail
  refine (Cn1.out _).mono ?_
  rintro e w1 ⟨rfl, p, rfl⟩
  go_wp2_with fail
  refine (Cn2.out _).mono ?_
  rintro e w1 ⟨rfl, p, rfl⟩
  go_wp2_with fail
  refine (Cp.out _).mono ?_
  rintro e w1 ⟨rfl, p, rfl⟩
  go_wp2_with fail
  go_loopw [6] (fun i wr => ∃ j : Nat, i = .int .i64 j ∧ d.vs.length ≤ j ∧ j ≤ d.vs.length + 9 ∧ ∃ p : FrBy W0, wr = p.w) (fun i _ => d.vs.length + 9 - (intOf i).toNat)
  case atStart => exact ⟨d.vs.length, rfl, Nat.le_refl _, by omega, p, rfl⟩
  case round =>
    clear p
    obtain ⟨j, rfl, hj0, hj, p, rfl⟩ := hrel
    by_cases hjt : j < d.vs.length + 9
    · obtain ⟨k0, k1⟩ := HQ.out j hj0 hjt
      have hj2 : (0 : Int) ≤ j := by omega
      have hj1 : (j : Int) < d.vs.length + 9 := by omega
      go_wp2_with fail
      exact ⟨⟨j + 1, by simp, by omega, hjt, p, rfl⟩, by simp [intOf]; omega⟩
    · have hjn : ¬ (j : Int) < d.vs.length + 9 := by omega
      go_wp2_with fail
      go_loopw [8] (fun i wr => ∃ j : Nat, i = .int .i64 j ∧ d.os.length ≤ j ∧ j ≤ d.os.length + 9 ∧ ∃ p : FrBy W0, wr = p.w) (fun i _ => d.os.length + 9 - (intOf i).toNat)
      case atStart => exact ⟨d.os.length, rfl, Nat.le_refl _, by omega, p, rfl⟩
      case round =>
        clear p
        obtain ⟨j, rfl, hj0, hj, p, rfl⟩ := hrel
        by_cases hjt : j < d.os.length + 9
        · have k0 := HQO.out j hj0 hjt
          have hj2 : (0 : Int) ≤ j := by omega
          have hj1 : (j : Int) < d.os.length + 9 := by omega
          have t2 : ((j : Int) - d.os.length).tmod 2 = ((j : Int) - d.os.length) % 2 := Int.tmod_eq_emod_of_nonneg (by omega)
          have s1 : IntKind.i64.wrap ((j : Int) - d.os.length) = (j : Int) - d.os.length := IntWalk.i64_in _ (by omega)
          have s2 : 0 ≤ (j : Int) - d.os.length := by clear s1 t2; omega
          go_wp2_with fail
          (refine wp_region_fr W0 (by kernel_rfl) (by kernel_rfl) p.fr ?_; (repeat (quiet_step (fail))); refine wpQuiet_nil ?_; intro wz hw'; obtain ⟨p, rfl⟩ := hw')
          clear s1 s2 t2
          go_wp2_with fail
          exact ⟨⟨j + 1, by simp, by omega, hjt, p, rfl⟩, by simp [intOf]; omega⟩
        · have hjn : ¬ (j : Int) < d.os.length + 9 := by omega
          go_wp2_with fail
          go_ret
          exact ⟨rfl, HF0.out.trans p.fr⟩
set_option maxRecDepth 100000 in
set_option maxHeartbeats 8000000 in
theorem back_act (a : ActV) (l : ActL) (z : LentY) (base : Nat) (w : World) (ha : ActOk w a l) (h : LentAct w base z l) :
    Calls Tryz.prog 101 #[.agg #[.int .i64 (actLent a l z).t, .int .u64 (actLent a l z).n, .int .i64 (actLent a l z).k, .bool (actLent a l z).sure, .slice (actLent a l z).lA (actLent a l z).ln (actLent a l z).lc, .slice (actLent a l z).gA (actLent a l z).gn (actLent a l z).gc, .slice (actLent a l z).sA (actLent a l z).sn (actLent a l z).sc, .int .i64 (actLent a l z).mq, .slice (actLent a l z).oA (actLent a l z).on (actLent a l z).oc, .int .i64 (actLent a l z).r1, .int .i64 (actLent a l z).r2, .int .i64 (actLent a l z).r3, .int .i64 (actLent a l z).tu, .int .u64 (actLent a l z).gen, .slice (actLent a l z).hA (actLent a l z).hn (actLent a l z).hc], .agg #[.int .i64 a.t, .int .u64 a.n, .int .i64 a.k, .bool a.sure, .slice a.lA a.ln a.lc, .slice a.gA a.gn a.gc, .slice a.sA a.sn a.sc, .int .i64 a.mq, .slice a.oA a.on a.oc, .int .i64 a.r1, .int .i64 a.r2, .int .i64 a.r3, .int .i64 a.tu, .int .u64 a.gen, .slice a.hA a.hn a.hc]] w fun e w' => e = .returned (.bool true) ∧ Fr no w w' := by
  rw [ha.ln, ha.gn, ha.sn, ha.on, ha.hn]
  show Calls Tryz.prog 101 #[.agg #[.int .i64 a.t, .int .u64 a.n, .int .i64 a.k, .bool a.sure, .slice (some ⟨z.gl, 0, none⟩) l.xs.length (l.xs.length + 9), .slice (some ⟨z.gg, 0, none⟩) l.gs.length (l.gs.length + 9), .slice (some ⟨z.gs, 0, none⟩) l.ss.length (l.ss.length + 9), .int .i64 a.mq, .slice (some ⟨z.go, 0, none⟩) l.os.length (l.os.length + 9), .int .i64 a.r1, .int .i64 a.r2, .int .i64 a.r3, .int .i64 a.tu, .int .u64 a.gen, .slice (some ⟨z.gr, 0, none⟩) l.rs.length (l.rs.length + 9)], .agg #[.int .i64 a.t, .int .u64 a.n, .int .i64 a.k, .bool a.sure, .slice a.lA l.xs.length a.lc, .slice a.gA l.gs.length a.gc, .slice a.sA l.ss.length a.sc, .int .i64 a.mq, .slice a.oA l.os.length a.oc, .int .i64 a.r1, .int .i64 a.r2, .int .i64 a.r3, .int .i64 a.tu, .int .u64 a.gen, .slice a.hA l.rs.length a.hc]] w fun e w' => e = .returned (.bool true) ∧ Fr no w w'
  have H := hide h
  have HA := hide ha
  clear h ha
  go_enter Tryz.func101, Tryz.ntmps101
  go_wp2_with fail
  obtain ⟨W0, hW0⟩ : ∃ W0, ((w.alloc (.cells #[.int .i64 a.t, .int .u64 a.n, .int .i64 a.k, .bool a.sure, .slice (some ⟨z.gl, 0, none⟩) l.xs.length (l.xs.length + 9), .slice (some ⟨z.gg, 0, none⟩) l.gs.length (l.gs.length + 9), .slice (some ⟨z.gs, 0, none⟩) l.ss.length (l.ss.length + 9), .int .i64 a.mq, .slice (some ⟨z.go, 0, none⟩) l.os.length (l.os.length + 9), .int .i64 a.r1, .int .i64 a.r2, .int .i64 a.r3, .int .i64 a.tu, .int .u64 a.gen, .slice (some ⟨z.gr, 0, none⟩) l.rs.length (l.rs.length + 9)] 88)).alloc (.cells #[.int .i64 a.t, .int .u64 a.n, .int .i64 a.k, .bool a.sure, .slice a.lA l.xs.length a.lc, .slice a.gA l.gs.length a.gc, .slice a.sA l.ss.length a.sc, .int .i64 a.mq, .slice a.oA l.os.length a.oc, .int .i64 a.r1, .int .i64 a.r2, .int .i64 a.r3, .int .i64 a.tu, .int .u64 a.gen, .slice a.hA l.rs.length a.hc] 88)) = W0 := ⟨_, rfl⟩
  have F0 : Fr no w W0 := by rw [← hW0]; exact ((Fr.refl no w).alloc _).alloc _
  have B0 : Blk W0 w.heap.size 88 #[.int .i64 a.t, .int .u64 a.n, .int .i64 a.k, .bool a.sure, .slice (some ⟨z.gl, 0, none⟩) l.xs.length (l.xs.length + 9), .slice (some ⟨z.gg, 0, none⟩) l.gs.length (l.gs.length + 9), .slice (some ⟨z.gs, 0, none⟩) l.ss.length (l.ss.length + 9), .int .i64 a.mq, .slice (some ⟨z.go, 0, none⟩) l.os.length (l.os.length + 9), .int .i64 a.r1, .int .i64 a.r2, .int .i64 a.r3, .int .i64 a.tu, .int .u64 a.gen, .slice (some ⟨z.gr, 0, none⟩) l.rs.length (l.rs.length + 9)] := by rw [← hW0]; exact (Blk.new w _ _).alloc _
  have B1 : Blk W0 (w.heap.size + 1) 88 #[.int .i64 a.t, .int .u64 a.n, .int .i64 a.k, .bool a.sure, .slice a.lA l.xs.length a.lc, .slice a.gA l.gs.length a.gc, .slice a.sA l.ss.length a.sc, .int .i64 a.mq, .slice a.oA l.os.length a.oc, .int .i64 a.r1, .int .i64 a.r2, .int .i64 a.r3, .int .i64 a.tu, .int .u64 a.gen, .slice a.hA l.rs.length a.hc] := by rw [← hW0]; exact blk_at _ _ _ _ (by simp)
  have b4 : ∀ p : FrBy W0, p.w.cell? ⟨w.heap.size, 4, none⟩ = some (.slice (some ⟨z.gl, 0, none⟩) l.xs.length (l.xs.length + 9)) := fun p => (B0.kept0 p.fr).cell 4
  have c4 : ∀ p : FrBy W0, p.w.cell? ⟨w.heap.size + 1, 4, none⟩ = some (.slice a.lA l.xs.length a.lc) := fun p => (B1.kept0 p.fr).cell 4
  have b5 : ∀ p : FrBy W0, p.w.cell? ⟨w.heap.size, 5, none⟩ = some (.slice (some ⟨z.gg, 0, none⟩) l.gs.length (l.gs.length + 9)) := fun p => (B0.kept0 p.fr).cell 5
  have c5 : ∀ p : FrBy W0, p.w.cell? ⟨w.heap.size + 1, 5, none⟩ = some (.slice a.gA l.gs.length a.gc) := fun p => (B1.kept0 p.fr).cell 5
  have b6 : ∀ p : FrBy W0, p.w.cell? ⟨w.heap.size, 6, none⟩ = some (.slice (some ⟨z.gs, 0, none⟩) l.ss.length (l.ss.length + 9)) := fun p => (B0.kept0 p.fr).cell 6
  have c6 : ∀ p : FrBy W0, p.w.cell? ⟨w.heap.size + 1, 6, none⟩ = some (.slice a.sA l.ss.length a.sc) := fun p => (B1.kept0 p.fr).cell 6
  have b8 : ∀ p : FrBy W0, p.w.cell? ⟨w.heap.size, 8, none⟩ = some (.slice (some ⟨z.go, 0, none⟩) l.os.length (l.os.length + 9)) := fun p => (B0.kept0 p.fr).cell 8
  have c8 : ∀ p : FrBy W0, p.w.cell? ⟨w.heap.size + 1, 8, none⟩ = some (.slice a.oA l.os.length a.oc) := fun p => (B1.kept0 p.fr).cell 8
  have b14 : ∀ p : FrBy W0, p.w.cell? ⟨w.heap.size, 14, none⟩ = some (.slice (some ⟨z.gr, 0, none⟩) l.rs.length (l.rs.length + 9)) := fun p => (B0.kept0 p.fr).cell 14
  have c14 : ∀ p : FrBy W0, p.w.cell? ⟨w.heap.size + 1, 14, none⟩ = some (.slice a.hA l.rs.length a.hc) := fun p => (B1.kept0 p.fr).cell 14
  have HF0 := hide F0
  have C4 : Hid (∀ p : FrBy W0, Calls Tryz.prog 16 #[.slice (some ⟨z.gl, 0, none⟩) l.xs.length (l.xs.length + 9), .slice a.lA l.xs.length a.lc] p.w fun e w' => e = .returned (.bool true) ∧ ∃ q : FrBy W0, w' = q.w) := hide (fun p => calls_fr (back_lines _ _ _ _ _ (by have := (H.out.keep (HF0.out.trans p.fr)).lines; exact own_sl' fLine this (by simp) (own_cap this)) (HA.out.keep (HF0.out.trans p.fr)).lines))
  have C5 : Hid (∀ p : FrBy W0, Calls Tryz.prog 98 #[.slice (some ⟨z.gg, 0, none⟩) l.gs.length (l.gs.length + 9), .slice a.gA l.gs.length a.gc] p.w fun e w' => e = .returned (.bool true) ∧ ∃ q : FrBy W0, w' = q.w) := hide (fun p => calls_fr (back_guards _ _ _ _ _ (by have := (H.out.keep (HF0.out.trans p.fr)).guards; exact own_sl' fGuard this (by simp) (own_cap this)) (HA.out.keep (HF0.out.trans p.fr)).guards))
  have C6 : Hid (∀ p : FrBy W0, Calls Tryz.prog 99 #[.slice (some ⟨z.gs, 0, none⟩) l.ss.length (l.ss.length + 9), .slice a.sA l.ss.length a.sc] p.w fun e w' => e = .returned (.bool true) ∧ ∃ q : FrBy W0, w' = q.w) := hide (fun p => calls_fr (back_sets _ _ _ _ _ (by have := (H.out.keep (HF0.out.trans p.fr)).sets; exact own_sl' fSet this (by simp) (own_cap this)) (HA.out.keep (HF0.out.trans p.fr)).sets))
  have C8 : Hid (∀ p : FrBy W0, Calls Tryz.prog 16 #[.slice (some ⟨z.go, 0, none⟩) l.os.length (l.os.length + 9), .slice a.oA l.os.length a.oc] p.w fun e w' => e = .returned (.bool true) ∧ ∃ q : FrBy W0, w' = q.w) := hide (fun p => calls_fr (back_lines _ _ _ _ _ (by have := (H.out.keep (HF0.out.trans p.fr)).other; exact own_sl' fLine this (by simp) (own_cap this)) (HA.out.keep (HF0.out.trans p.fr)).other))
  have C14 : Hid (∀ p : FrBy W0, Calls Tryz.prog 160 #[.slice (some ⟨z.gr, 0, none⟩) l.rs.length (l.rs.length + 9), .slice a.hA l.rs.length a.hc] p.w fun e w' => e = .returned (.bool true) ∧ ∃ q : FrBy W0, w' = q.w) := hide (fun p => calls_fr (back_rights _ _ _ _ _ (by have := (H.out.keep (HF0.out.trans p.fr)).rights; exact own_sl' fRight this (by simp) (own_cap this)) (HA.out.keep (HF0.out.trans p.fr)).rights))
  obtain ⟨p, hp⟩ : ∃ p : FrBy W0, p.w = W0 := ⟨⟨W0, Fr.refl _ _⟩, rfl⟩
  rw [hW0, ← hp]
  clear hW0 hp B0 B1 F0
  refine (C4.out _).mono ?_
  rintro e w1 ⟨rfl, p, rfl⟩
  go_wp2_with fail
  refine (C5.out _).mono ?_
  rintro e w1 ⟨rfl, p, rfl⟩
  go_wp2_with fail
  refine (C6.out _).mono ?_
  rintro e w1 ⟨rfl, p, rfl⟩
  go_wp2_with fail
  refine (C8.out _).mono ?_
  rintro e w1 ⟨rfl, p, rfl⟩
  go_wp2_with fail
  refine (C14.out _).mono ?_
  rintro e w1 ⟨rfl, p, rfl⟩
  go_wp2_with fail
  go_ret
  exact ⟨rfl, HF0.out.trans p.fr⟩
end Go.Proofs.YtmnajpkmglmipaaGreat

/- Contracts of tilllaw9's judge and wakes. -/
namespace Go.Proofs.YtmnajpkmglmipaaGreat
open Go.RowKit

theorem Om.but {α : Type} {f : Flat α} {T : TypeId} {base : Nat} {w w' : World} {A : Option Addr} {c : Nat} {xs : List α} {S : Nat → Prop} (h : Om f T base w A c xs) (F : Fr S w w') (hS : ∀ k, base ≤ k → ¬ S k) : Om f T base w' A c xs := by
  refine ⟨h.own.1, ?_⟩
  rcases h.own.2 with e | ⟨g, cap, cur, e, h2, h3, h4⟩
  · exact .inl e
  · exact .inr ⟨g, cap, cur, e, h2, (F.block g (Array.getElem?_eq_some_iff.1 h3).1 (hS g h2)).trans h3, h4⟩
theorem WriteR.but {base : Nat} {w w' : World} {A1 A2 : Option Addr} {n1 c1 n2 c2 : Nat} {r : List LineD × List SetD} {S : Nat → Prop} (h : WriteR base w A1 n1 c1 A2 n2 c2 r) (F : Fr S w w') (hS : ∀ k, base ≤ k → ¬ S k) : WriteR base w' A1 n1 c1 A2 n2 c2 r :=
  ⟨h.1, h.2.1, h.2.2.1.but F hS, h.2.2.2.but F hS⟩
set_option maxRecDepth 100000 in
set_option maxHeartbeats 8000000 in
theorem judge_c (HJ : JudgeSaid) (s : StV) (d : StL) (a : ActV) (l : ActL) (w : World) (hs : StOk w s d) (ha : ActOk w a l) :
    Calls Tryz.prog 24 #[.agg #[.int .u64 s.q, .slice s.P s.np s.cp, .slice s.R s.nr s.cr, .slice s.L s.nl s.cl, .slice s.G s.ng s.cg, .slice s.O s.no s.co], .agg #[.int .i64 a.t, .int .u64 a.n, .int .i64 a.k, .bool a.sure, .slice a.lA a.ln a.lc, .slice a.gA a.gn a.gc, .slice a.sA a.sn a.sc, .int .i64 a.mq, .slice a.oA a.on a.oc, .int .i64 a.r1, .int .i64 a.r2, .int .i64 a.r3, .int .i64 a.tu, .int .u64 a.gen, .slice a.hA a.hn a.hc]] w fun e w' => ∃ A1 n1 c1 A2 n2 c2, e = .returned (.agg #[.int .i64 (judgeD d a l).1, .slice A1 n1 c1, .slice A2 n2 c2, .int .i64 (judgeD d a l).2.2]) ∧ WriteR w.heap.size w' A1 n1 c1 A2 n2 c2 (judgeD d a l).2.1 ∧ Fr no w w' := by
  have HS := hide hs
  have HA := hide ha
  obtain ⟨jd, hjd⟩ : ∃ jd, jd = judgeD d a l := ⟨_, rfl⟩
  have hc : Hid (∀ W, Fr no w W → Calls Tryz.prog 71 #[.agg #[.int .u64 s.q, .slice s.P s.np s.cp, .slice s.R s.nr s.cr, .slice s.L s.nl s.cl, .slice s.G s.ng s.cg, .slice s.O s.no s.co], .agg #[.int .i64 a.t, .int .u64 a.n, .int .i64 a.k, .bool a.sure, .slice a.lA a.ln a.lc, .slice a.gA a.gn a.gc, .slice a.sA a.sn a.sc, .int .i64 a.mq, .slice a.oA a.on a.oc, .int .i64 a.r1, .int .i64 a.r2, .int .i64 a.r3, .int .i64 a.tu, .int .u64 a.gen, .slice a.hA a.hn a.hc]] W fun e w' => ∃ A1 n1 c1 A2 n2 c2, e = .returned (.tuple #[.int .i64 jd.1, .slice A1 n1 c1, .slice A2 n2 c2, .int .i64 jd.2.2]) ∧ WriteR W.heap.size w' A1 n1 c1 A2 n2 c2 jd.2.1 ∧ Fr no W w') := hide (fun W F => by rw [hjd]; exact HJ s d a l W (hs.keep F) (ha.keep F))
  rw [← hjd]
  clear hs ha hjd
  go_enter Tryz.func24, Tryz.ntmps24
  go_wp2_with fail
  obtain ⟨W0, hW0⟩ : ∃ W0, (((w.alloc (.cells #[.int .u64 s.q, .slice s.P s.np s.cp, .slice s.R s.nr s.cr, .slice s.L s.nl s.cl, .slice s.G s.ng s.cg, .slice s.O s.no s.co] 77)).alloc (.cells #[.int .i64 a.t, .int .u64 a.n, .int .i64 a.k, .bool a.sure, .slice a.lA a.ln a.lc, .slice a.gA a.gn a.gc, .slice a.sA a.sn a.sc, .int .i64 a.mq, .slice a.oA a.on a.oc, .int .i64 a.r1, .int .i64 a.r2, .int .i64 a.r3, .int .i64 a.tu, .int .u64 a.gen, .slice a.hA a.hn a.hc] 88)).alloc (.cells #[.int .i64 0, .slice none 0 0, .slice none 0 0, .int .i64 0] 94)) = W0 := ⟨_, rfl⟩
  have F0 : Fr no w W0 := by rw [← hW0]; exact (((Fr.refl no w).alloc _).alloc _).alloc _
  have B0 : Blk W0 (w.heap.size + 1 + 1) 94 #[.int .i64 0, .slice none 0 0, .slice none 0 0, .int .i64 0] := by rw [← hW0]; exact blk_at _ _ _ _ (by simp)
  rw [hW0]
  clear hW0
  refine (hc.out _ F0).mono ?_
  rintro e W1 ⟨A1, n1, c1, A2, n2, c2, rfl, hr, F1⟩
  have B1 := B0.kept0 F1
  have k0 := B1.cell 0
  have k1 := B1.cell 1
  have k2 := B1.cell 2
  have k3 := B1.cell 3
  have f0 := B1.free 0
  have f1 := B1.free 1
  have f2 := B1.free 2
  have f3 := B1.free 3
  have FS : Fr (fun k => k = w.heap.size + 1 + 1) W1 ((((W1.setCell ⟨w.heap.size + 1 + 1, 0, none⟩ (.int .i64 jd.1)).setCell ⟨w.heap.size + 1 + 1, 1, none⟩ (.slice A1 n1 c1)).setCell ⟨w.heap.size + 1 + 1, 2, none⟩ (.slice A2 n2 c2)).setCell ⟨w.heap.size + 1 + 1, 3, none⟩ (.int .i64 jd.2.2)) :=
    (((Fr.setCell _ _ _ _).trans (Fr.setCell _ _ _ _)).trans (Fr.setCell _ _ _ _)).trans (Fr.setCell _ _ _ _)
  have HR := hide hr
  have HF := hide (F0.trans F1)
  have HFS := hide FS
  have HB := hide B0.lt
  have HB1 := hide F1
  clear hr F0 F1 FS B0 B1
  go_wp2_with fail
  refine bodyPost_ret (v := .agg #[.int .i64 jd.1, .slice A1 n1 c1, .slice A2 n2 c2, .int .i64 jd.2.2]) (by simp [results, Tryz.results24, go_sem, k0, k1, k2, k3]) rfl ⟨A1, n1, c1, A2, n2, c2, rfl, ?_, ?_⟩
  · have hb := HB.out
    exact (HR.out.but HFS.out (fun k hk e => by omega)).down (by omega)
  · exact HF.out.thru HFS.out (fun i hi e => absurd hi (by omega))
/-- The state and the acts of wakes. -/
def wakeD : StL := ⟨[(6, (5, 4), [(1, 0)])], [], [0], [0], [false]⟩
def wakeL (c : Int) : ActL := ⟨[(0, c)], [], [], [], []⟩
def wakeA (g : Nat) : ActV := { t := 0, n := 1, k := 1, sure := true, lA := some ⟨g, 0, none⟩, ln := 1, lc := 1, gA := none, gn := 0, gc := 0, sA := none, sn := 0, sc := 0, mq := 0, oA := none, on := 0, oc := 0, r1 := 0, r2 := 0, r3 := 0, tu := 0, gen := 0, hA := none, hn := 0, hc := 0 }
theorem wake1 (g : Nat) : judgeD wakeD (wakeA g) (wakeL (-1)) = (1, ([(0, -1)], []), 0) := by
  kernel_rfl
theorem wake2 (g : Nat) : judgeD wakeD (wakeA g) (wakeL (-2)) = (3, ([], []), 0) := by
  kernel_rfl
theorem sl_blk {α : Type} {f : Flat α} {W : World} {g : Nat} {T : TypeId} {x : α} (B : Blk W g T (f.enc x).toArray) : Sl f W (some ⟨g, 0, none⟩) 1 [x] :=
  ⟨Nat.le_refl _, by simp [maxLen], fun _ => ⟨g, 0, rfl, fun i hi r hr => by
    obtain rfl : i = 0 := by simpa using hi
    rw [B.cell]; simp⟩, fun e => by cases e⟩
theorem wake_st {W : World} {g0 g1 g2 g3 g4 : Nat} (B0 : Blk W g0 141 #[.int .i64 1, .int .i64 0]) (B1 : Blk W g1 144 #[.int .i64 6, .int .i64 5, .int .i64 4, .slice (some ⟨g0, 0, none⟩) 1 1])
    (B2 : Blk W g2 71 #[.int .u64 0]) (B3 : Blk W g3 71 #[.int .u64 0]) (B4 : Blk W g4 4 #[.bool false]) :
    StOk W ⟨0, some ⟨g1, 0, none⟩, 1, 1, none, 0, 0, some ⟨g2, 0, none⟩, 1, 1, some ⟨g3, 0, none⟩, 1, 1, some ⟨g4, 0, none⟩, 1, 1⟩ wakeD where
  np := rfl
  nr := rfl
  nl := rfl
  ng := rfl
  nw := rfl
  pools := by
    refine ⟨Nat.le_refl _, by simp [maxLen], fun _ => ⟨g1, 0, rfl, fun i hi => ?_⟩, fun e => by cases e⟩
    obtain rfl : i = 0 := by simpa [wakeD] using hi
    refine ⟨[.int .i64 6, .int .i64 5, .int .i64 4, .slice (some ⟨g0, 0, none⟩) 1 1], ⟨_, _, rfl, rfl, _, _, rfl, ⟨_, _, rfl, rfl, rfl⟩, some ⟨g0, 0, none⟩, 1, rfl, ?_⟩, fun j hj => ?_⟩
    · exact (sl_blk (f := fHeld) (x := (1, 0)) B0).to_row rfl eHeld
    · have hj' : j < 4 := hj
      rw [show 0 + 0 * kPool.sz + j = j by omega, B1.cell]
      match j, hj' with
      | 0, _ => rfl
      | 1, _ => rfl
      | 2, _ => rfl
      | 3, _ => rfl
  prices := sl_none _ _
  lasts := sl_blk (f := fNum) (x := 0) B2
  gens := sl_blk (f := fNum) (x := 0) B3
  owed := sl_blk (f := fOwe) (x := false) B4
theorem wake_act {W : World} {g : Nat} {c : Int} (hc : Wf64 c) (B : Blk W g 57 #[.int .i64 0, .int .i64 c]) : ActOk W (wakeA g) (wakeL c) where
  ln := rfl
  gn := rfl
  sn := rfl
  on := rfl
  hn := rfl
  wx := by intro x hx; have e : x = (0, c) := (by simpa [wakeL] using hx); rw [e]; exact ⟨(by decide : -9223372036854775808 ≤ (0 : Int) ∧ (0 : Int) ≤ 9223372036854775807), hc⟩
  wo := by intro x hx; simp [wakeL] at hx
  bx := by simp [wakeL]
  bs := by simp [wakeL]
  bo := by simp [wakeL]
  lines := sl_blk (f := fLine) (x := (0, c)) B
  guards := sl_none _ _
  sets := sl_none _ _
  other := sl_none _ _
  rights := sl_none _ _
set_option maxRecDepth 100000 in
set_option maxHeartbeats 8000000 in
theorem wakes_c (HJ : JudgeSaid) (w : World) : Calls Tryz.prog 19 #[] w fun e w' => e = .returned (.bool true) ∧ Fr no w w' := by
  go_enter Tryz.func19, Tryz.ntmps19
  go_wp2_with fail
  obtain ⟨W0, hW0⟩ : ∃ W0, ((((((((w.alloc (.cells #[.int .i64 1, .int .i64 0] 141)).alloc (.cells #[.int .i64 6, .int .i64 5, .int .i64 4, .slice (some ⟨w.heap.size, 0, none⟩) 1 1] 144)).alloc (.cells #[.int .u64 0] 71)).alloc (.cells #[.int .u64 0] 71)).alloc (.cells #[.bool false] 4)).alloc (.cells #[.int .u64 0, .slice (some ⟨w.heap.size + 1, 0, none⟩) 1 1, .slice none 0 0, .slice (some ⟨w.heap.size + 1 + 1, 0, none⟩) 1 1, .slice (some ⟨w.heap.size + 1 + 1 + 1, 0, none⟩) 1 1, .slice (some ⟨w.heap.size + 1 + 1 + 1 + 1, 0, none⟩) 1 1] 77)).alloc (.cells #[.int .i64 0, .int .i64 (-1)] 57)).alloc (.cells #[.int .i64 0, .int .u64 1, .int .i64 1, .bool true, .slice (some ⟨w.heap.size + 1 + 1 + 1 + 1 + 1 + 1, 0, none⟩) 1 1, .slice none 0 0, .slice none 0 0, .int .i64 0, .slice none 0 0, .int .i64 0, .int .i64 0, .int .i64 0, .int .i64 0, .int .u64 0, .slice none 0 0] 88)) = W0 := ⟨_, rfl⟩
  have F0 : Fr no w W0 := by rw [← hW0]; exact (((((((((Fr.refl no w).alloc _).alloc _).alloc _).alloc _).alloc _).alloc _).alloc _).alloc _)
  have B0 : Blk W0 (w.heap.size) 141 #[.int .i64 1, .int .i64 0] := by rw [← hW0]; exact (((((((blk_at _ _ _ _ (by simp)).alloc _).alloc _).alloc _).alloc _).alloc _).alloc _).alloc _
  have B1 : Blk W0 (w.heap.size + 1) 144 #[.int .i64 6, .int .i64 5, .int .i64 4, .slice (some ⟨w.heap.size, 0, none⟩) 1 1] := by rw [← hW0]; exact ((((((blk_at _ _ _ _ (by simp)).alloc _).alloc _).alloc _).alloc _).alloc _).alloc _
  have B2 : Blk W0 (w.heap.size + 1 + 1) 71 #[.int .u64 0] := by rw [← hW0]; exact (((((blk_at _ _ _ _ (by simp)).alloc _).alloc _).alloc _).alloc _).alloc _
  have B3 : Blk W0 (w.heap.size + 1 + 1 + 1) 71 #[.int .u64 0] := by rw [← hW0]; exact ((((blk_at _ _ _ _ (by simp)).alloc _).alloc _).alloc _).alloc _
  have B4 : Blk W0 (w.heap.size + 1 + 1 + 1 + 1) 4 #[.bool false] := by rw [← hW0]; exact (((blk_at _ _ _ _ (by simp)).alloc _).alloc _).alloc _
  have B5 : Blk W0 (w.heap.size + 1 + 1 + 1 + 1 + 1) 77 #[.int .u64 0, .slice (some ⟨w.heap.size + 1, 0, none⟩) 1 1, .slice none 0 0, .slice (some ⟨w.heap.size + 1 + 1, 0, none⟩) 1 1, .slice (some ⟨w.heap.size + 1 + 1 + 1, 0, none⟩) 1 1, .slice (some ⟨w.heap.size + 1 + 1 + 1 + 1, 0, none⟩) 1 1] := by rw [← hW0]; exact ((blk_at _ _ _ _ (by simp)).alloc _).alloc _
  have B6 : Blk W0 (w.heap.size + 1 + 1 + 1 + 1 + 1 + 1) 57 #[.int .i64 0, .int .i64 (-1)] := by rw [← hW0]; exact (blk_at _ _ _ _ (by simp)).alloc _
  have B7 : Blk W0 (w.heap.size + 1 + 1 + 1 + 1 + 1 + 1 + 1) 88 #[.int .i64 0, .int .u64 1, .int .i64 1, .bool true, .slice (some ⟨w.heap.size + 1 + 1 + 1 + 1 + 1 + 1, 0, none⟩) 1 1, .slice none 0 0, .slice none 0 0, .int .i64 0, .slice none 0 0, .int .i64 0, .int .i64 0, .int .i64 0, .int .i64 0, .int .u64 0, .slice none 0 0] := by rw [← hW0]; exact blk_at _ _ _ _ (by simp)
  rw [hW0]
  have hz : W0.heap.size = w.heap.size + 1 + 1 + 1 + 1 + 1 + 1 + 1 + 1 := by rw [← hW0]; simp
  clear hW0
  refine (judge_c HJ _ wakeD (wakeA (w.heap.size + 1 + 1 + 1 + 1 + 1 + 1)) (wakeL (-1)) W0 (wake_st B0 B1 B2 B3 B4) (wake_act (by unfold Wf64; decide) B6)).mono ?_
  rw [wake1]
  rintro e W1 ⟨A1, n1, c1, A2, n2, c2, rfl, hr, F1⟩
  obtain ⟨rfl, rfl, m1, m2⟩ := hr
  obtain ⟨g, o, hg, hc⟩ := m1.sl.cells (by simp)
  subst hg
  have hgb : W0.heap.size ≤ g := (m1.own.lt g rfl).1
  have q1 : W1.cell? ⟨g, o + 1, none⟩ = some (.int .i64 (-1)) := by have := hc 0 (by simp) 1 (by decide); simpa [fLine] using this
  have C5 := B5.kept0 F1
  have C7 := B7.kept0 F1
  have hz1 : w.heap.size + 1 + 1 + 1 + 1 + 1 + 1 + 1 + 1 ≤ W1.heap.size := by have := F1.size; omega
  have s0 := fun o1 o2 => ((C5.alloc o1).alloc o2).cell 0
  have s1 := fun o1 o2 => ((C5.alloc o1).alloc o2).cell 1
  have s2 := fun o1 o2 => ((C5.alloc o1).alloc o2).cell 2
  have s3 := fun o1 o2 => ((C5.alloc o1).alloc o2).cell 3
  have s4 := fun o1 o2 => ((C5.alloc o1).alloc o2).cell 4
  have s5 := fun o1 o2 => ((C5.alloc o1).alloc o2).cell 5
  have a0 := fun o1 o2 => ((C7.alloc o1).alloc o2).cell 0
  have a1 := fun o1 o2 => ((C7.alloc o1).alloc o2).cell 1
  have a2 := fun o1 o2 => ((C7.alloc o1).alloc o2).cell 2
  have a3 := fun o1 o2 => ((C7.alloc o1).alloc o2).cell 3
  have a4 := fun o1 o2 => ((C7.alloc o1).alloc o2).cell 4
  have a5 := fun o1 o2 => ((C7.alloc o1).alloc o2).cell 5
  have a6 := fun o1 o2 => ((C7.alloc o1).alloc o2).cell 6
  have a7 := fun o1 o2 => ((C7.alloc o1).alloc o2).cell 7
  have a8 := fun o1 o2 => ((C7.alloc o1).alloc o2).cell 8
  have a9 := fun o1 o2 => ((C7.alloc o1).alloc o2).cell 9
  have a10 := fun o1 o2 => ((C7.alloc o1).alloc o2).cell 10
  have a11 := fun o1 o2 => ((C7.alloc o1).alloc o2).cell 11
  have a12 := fun o1 o2 => ((C7.alloc o1).alloc o2).cell 12
  have a13 := fun o1 o2 => ((C7.alloc o1).alloc o2).cell 13
  have a14 := fun o1 o2 => ((C7.alloc o1).alloc o2).cell 14
  have f4 := fun o1 o2 => ((C7.alloc o1).alloc o2).free 4
  have HQ1 := hide q1
  have HC := hide (And.intro B0 (And.intro B1 (And.intro B2 (And.intro B3 (And.intro B4 (And.intro C5 C7))))))
  have HF1 := hide F1
  have HF0 := hide F0
  clear q1 hc m1 m2 C5 C7 B0 B1 B2 B3 B4 B5 B6 B7 F1 F0
  dsimp only
  go_wp2_with fail
  obtain ⟨D0, D1, D2, D3, D4, C5, C7⟩ := HC.out
  obtain ⟨W2, hW2⟩ : ∃ W2, (((W1.alloc (.cells #[.int .i64 1, .slice (some ⟨g, o, none⟩) 1 c1, .slice A2 0 c2, .int .i64 0] 94)).alloc (.cells #[.int .i64 0, .int .i64 (-2)] 57)).setCell ⟨w.heap.size + 1 + 1 + 1 + 1 + 1 + 1 + 1, 4, none⟩ (.slice (some ⟨W1.heap.size + 1, 0, none⟩) 1 1)) = W2 := ⟨_, rfl⟩
  have F2 : Fr (fun k => k = w.heap.size + 1 + 1 + 1 + 1 + 1 + 1 + 1) W1 W2 := by rw [← hW2]; exact (((Fr.refl _ W1).alloc _).alloc _).trans (Fr.setCell _ _ _ _)
  have G0 := (D0.kept0 HF1.out).kept F2 (by omega)
  have G1 := (D1.kept0 HF1.out).kept F2 (by omega)
  have G2 := (D2.kept0 HF1.out).kept F2 (by omega)
  have G3 := (D3.kept0 HF1.out).kept F2 (by omega)
  have G4 := (D4.kept0 HF1.out).kept F2 (by omega)
  have T1 : Blk W2 W1.heap.size 94 #[.int .i64 1, .slice (some ⟨g, o, none⟩) 1 c1, .slice A2 0 c2, .int .i64 0] := by rw [← hW2]; exact ((Blk.new W1 _ _).alloc _).setOther (by omega) _ _
  have T2 : Blk W2 (W1.heap.size + 1) 57 #[.int .i64 0, .int .i64 (-2)] := by rw [← hW2]; exact (blk_at _ _ _ _ (by simp)).setOther (by omega) _ _
  have hgne : g ≠ w.heap.size + 1 + 1 + 1 + 1 + 1 + 1 + 1 := by omega
  have q2 : W2.cell? ⟨g, o + 1, none⟩ = some (.int .i64 (-1)) := by rw [World.cell?_of_block (w := W1) (F2.block g (World.block_lt_of_cell? W1 _ HQ1.out) hgne)]; exact HQ1.out
  rw [hW2]
  clear hW2
  refine (judge_c HJ _ wakeD (wakeA (W1.heap.size + 1)) (wakeL (-2)) W2 (wake_st G0 G1 G2 G3 G4) (wake_act (by unfold Wf64; decide) T2)).mono ?_
  rw [wake2]
  rintro e W3 ⟨A3, n3, c3, A4, n4, c4, rfl, hr, F3⟩
  obtain ⟨rfl, rfl, m3, m4⟩ := hr
  have T3 := T1.kept0 F3
  have t0 := fun ob => (T3.alloc ob).cell 0
  have t1 := fun ob => (T3.alloc ob).cell 1
  have q3 := fun ob => cell_any (fr_cell F3 q2) ob
  have hz3 : W1.heap.size + 1 < W3.heap.size := Nat.lt_of_lt_of_le T2.lt F3.size
  have HE := hide ((HF0.out.trans HF1.out).thru (F2.trans0 F3) (fun i hi e => absurd hi (by omega)))
  clear HQ1 HC HF1 HF0 D0 D1 D2 D3 D4 C5 C7 F2 G0 G1 G2 G3 G4 T1 T2 T3 q2 F3 m3 m4 f4 s0 s1 s2 s3 s4 s5 a0 a1 a2 a3 a4 a5 a6 a7 a8 a9 a10 a11 a12 a13 a14
  dsimp only
  go_wp2_with fail
  go_ret
  exact ⟨rfl, HE.out.alloc _⟩
end Go.Proofs.YtmnajpkmglmipaaGreat
