/- RuleI -/
import Derived.Test.YtmnajpkmglmipaaGreatMRuleNeeds09
import Derived.Test.YtmnajpkmglmipaaGreatMRuleNeeds06
import Derived.Deep.RegionWith
/- Contract of rule's 'write'. -/
namespace Go.Proofs.YtmnajpkmglmipaaGreat
open Go.RowKit Go.Shelf Go.Maps

/-- What a state holds. -/
structure StL where
  ps : List PoolD
  vs : List PricedD
  ls : List Int
  gs : List Int
  os : List Bool
structure StOk (w : World) (s : StV) (d : StL) : Prop where
  np : s.np = d.ps.length
  nr : s.nr = d.vs.length
  nl : s.nl = d.ls.length
  ng : s.ng = d.gs.length
  nw : s.no = d.os.length
  pools : kPool.Row w s.P s.cp d.ps
  prices : Sl fPriced w s.R s.cr d.vs
  lasts : Sl fNum w s.L s.cl d.ls
  gens : Sl fNum w s.G s.cg d.gs
  owed : Sl fOwe w s.O s.co d.os
theorem StOk.keep {w w' : World} {s : StV} {d : StL} (h : StOk w s d) (F : Fr no w w') : StOk w' s d :=
  ⟨h.np, h.nr, h.nl, h.ng, h.nw, h.pools.keep F, h.prices.below F.below, h.lasts.below F.below, h.gens.below F.below, h.owed.below F.below⟩
/-- What an act holds. -/
structure ActL where
  xs : List LineD
  gs : List GuardD
  ss : List SetD
  os : List LineD
  rs : List RightD
structure ActOk (w : World) (a : ActV) (l : ActL) : Prop where
  ln : a.ln = l.xs.length
  gn : a.gn = l.gs.length
  sn : a.sn = l.ss.length
  on : a.on = l.os.length
  hn : a.hn = l.rs.length
  wx : ∀ x ∈ l.xs, WfL x
  wo : ∀ x ∈ l.os, WfL x
  bx : l.xs.length * 16 ≤ 140737488351232
  bs : l.ss.length * 24 ≤ 140737488351232
  bo : l.os.length * 16 ≤ 140737488351232
  lines : Sl fLine w a.lA a.lc l.xs
  guards : Sl fGuard w a.gA a.gc l.gs
  sets : Sl fSet w a.sA a.sc l.ss
  other : Sl fLine w a.oA a.oc l.os
  rights : Sl fRight w a.hA a.hc l.rs
theorem ActOk.keep {w w' : World} {a : ActV} {l : ActL} (h : ActOk w a l) (F : Fr no w w') : ActOk w' a l :=
  ⟨h.ln, h.gn, h.sn, h.on, h.hn, h.wx, h.wo, h.bx, h.bs, h.bo, h.lines.below F.below, h.guards.below F.below, h.sets.below F.below, h.other.below F.below, h.rights.below F.below⟩
/-- What becomes of a write. -/
def writeD (d : StL) (a : ActV) (l : ActL) : Int × List LineD × List SetD :=
  if a.sure then if holdsL d.ps a.t l.xs then (1, l.xs, []) else (3, [], []) else
  if (freeL d.ps l.xs && openD d.vs l.ss) && l.gs.all (guardD d.ps d.vs) then (1, l.xs, l.ss.map (renewD d.vs)) else
  if a.mq = 1 then if 0 < (clampMade d.ps l.xs).length + (clampSets d.vs l.ss).length then (2, clampMade d.ps l.xs, clampSets d.vs l.ss) else (3, [], []) else
  if a.mq = 2 then if freeL d.ps l.os then (2, l.os, []) else (3, [], []) else
  if a.mq = 3 then if freeL d.ps l.xs && openD d.vs l.ss then (2, l.xs, l.ss.map (renewD d.vs)) else (3, [], []) else (3, [], [])
theorem clampSt_len (ps : List PoolD) (l : List (KindD × LineD)) : ∀ st, (l.foldl (clampStep ps) st).2.length ≤ st.2.length + l.length := by
  induction l with
  | nil => intro st; exact Nat.le_refl _
  | cons p l ih =>
    intro st
    refine Nat.le_trans (ih _) ?_
    unfold clampStep
    split <;> simp <;> omega
theorem clampMade_le (ps : List PoolD) (xs : List LineD) : (clampMade ps xs).length ≤ xs.length := by
  refine Nat.le_trans (clampSt_len ps _ _) ?_
  simp; omega
theorem clampSets_le (vs : List PricedD) (ss : List SetD) : (clampSets vs ss).length ≤ ss.length := by
  unfold clampSets
  rw [List.length_map]
  exact List.length_filter_le _ _
theorem calls_fr2 {P : Program} {f : FuncId} {args : Array Value} {W0 W' : World} (F : Fr no W0 W') {v : Value} (h : Calls P f args W' fun e w' => e = .returned v ∧ Fr no W' w') : Calls P f args W' fun e w'' => e = .returned v ∧ ∃ q : FrBy W0, w'' = q.w :=
  h.mono fun _ w' ⟨he, hF⟩ => ⟨he, ⟨w', F.trans hF⟩, rfl⟩
theorem sl_none {α : Type} (f : Flat α) (w : World) : Sl f w none 0 [] := ⟨Nat.le_refl _, Nat.zero_le _, fun e => absurd rfl e, fun _ => rfl⟩
/-- What is told of the result's parts. -/
def WriteR (base : Nat) (w' : World) (A1 : Option Addr) (n1 c1 : Nat) (A2 : Option Addr) (n2 c2 : Nat) (r : List LineD × List SetD) : Prop := n1 = r.1.length ∧ n2 = r.2.length ∧ Om fLine 57 base w' A1 c1 r.1 ∧ Om fSet 108 base w' A2 c2 r.2
theorem WriteR.down {b base : Nat} {w : World} {A1 A2 : Option Addr} {n1 c1 n2 c2 : Nat} {r : List LineD × List SetD} (h : WriteR base w A1 n1 c1 A2 n2 c2 r) (hb : b ≤ base) : WriteR b w A1 n1 c1 A2 n2 c2 r :=
  ⟨h.1, h.2.1, h.2.2.1.down hb, h.2.2.2.down hb⟩
theorem WriteR.keep {base : Nat} {w w' : World} {A1 A2 : Option Addr} {n1 c1 n2 c2 : Nat} {r : List LineD × List SetD} (h : WriteR base w A1 n1 c1 A2 n2 c2 r) (F : Fr no w w') : WriteR base w' A1 n1 c1 A2 n2 c2 r :=
  ⟨h.1, h.2.1, h.2.2.1.keep F, h.2.2.2.keep F⟩
set_option maxRecDepth 100000 in
set_option maxHeartbeats 8000000 in
theorem write_c (s : StV) (d : StL) (a : ActV) (l : ActL) (w : World) (hs : StOk w s d) (ha : ActOk w a l) :
    Calls Tryz.prog 138 #[.agg #[.int .u64 s.q, .slice s.P s.np s.cp, .slice s.R s.nr s.cr, .slice s.L s.nl s.cl, .slice s.G s.ng s.cg, .slice s.O s.no s.co], .agg #[.int .i64 a.t, .int .u64 a.n, .int .i64 a.k, .bool a.sure, .slice a.lA a.ln a.lc, .slice a.gA a.gn a.gc, .slice a.sA a.sn a.sc, .int .i64 a.mq, .slice a.oA a.on a.oc, .int .i64 a.r1, .int .i64 a.r2, .int .i64 a.r3, .int .i64 a.tu, .int .u64 a.gen, .slice a.hA a.hn a.hc]] w fun e w' => ∃ A1 n1 c1 A2 n2 c2, e = .returned (.tuple #[.int .i64 (writeD d a l).1, .slice A1 n1 c1, .slice A2 n2 c2]) ∧ WriteR w.heap.size w' A1 n1 c1 A2 n2 c2 (writeD d a l).2 ∧ Fr no w w' := by
  have hLN := hide ha.ln
  have hGN := hide ha.gn
  have hSN := hide ha.sn
  have hON := hide ha.on
  have HS : Hid (∀ W, Fr no w W → StOk W s d) := hide (fun W F => hs.keep F)
  have HA : Hid (∀ W, Fr no w W → ActOk W a l) := hide (fun W F => ha.keep F)
  clear hs ha
  go_enter Tryz.func138, Tryz.ntmps138
  go_upto_region 1 with fail
  have hln := hLN.out
  have hgn := hGN.out
  have hsn := hSN.out
  have hon := hON.out
  obtain ⟨W0, hW0⟩ : ∃ W0, ((w.alloc (.cells #[.int .u64 s.q, .slice s.P s.np s.cp, .slice s.R s.nr s.cr, .slice s.L s.nl s.cl, .slice s.G s.ng s.cg, .slice s.O s.no s.co] 77)).alloc (.cells #[.int .i64 a.t, .int .u64 a.n, .int .i64 a.k, .bool a.sure, .slice a.lA a.ln a.lc, .slice a.gA a.gn a.gc, .slice a.sA a.sn a.sc, .int .i64 a.mq, .slice a.oA a.on a.oc, .int .i64 a.r1, .int .i64 a.r2, .int .i64 a.r3, .int .i64 a.tu, .int .u64 a.gen, .slice a.hA a.hn a.hc] 88)) = W0 := ⟨_, rfl⟩
  have F0 : Fr no w W0 := by rw [← hW0]; exact ((Fr.refl no w).alloc _).alloc _
  have B0 : Blk W0 w.heap.size 77 #[.int .u64 s.q, .slice s.P s.np s.cp, .slice s.R s.nr s.cr, .slice s.L s.nl s.cl, .slice s.G s.ng s.cg, .slice s.O s.no s.co] := by rw [← hW0]; exact (Blk.new w _ _).alloc _
  have B1 : Blk W0 (w.heap.size + 1) 88 #[.int .i64 a.t, .int .u64 a.n, .int .i64 a.k, .bool a.sure, .slice a.lA a.ln a.lc, .slice a.gA a.gn a.gc, .slice a.sA a.sn a.sc, .int .i64 a.mq, .slice a.oA a.on a.oc, .int .i64 a.r1, .int .i64 a.r2, .int .i64 a.r3, .int .i64 a.tu, .int .u64 a.gen, .slice a.hA a.hn a.hc] := by rw [← hW0]; exact blk_at _ _ _ _ (by simp)
  have b0 : ∀ p : FrBy W0, p.w.cell? ⟨w.heap.size, 0, none⟩ = some (.int .u64 s.q) := fun p => (B0.kept0 p.fr).cell 0
  have b1 : ∀ p : FrBy W0, p.w.cell? ⟨w.heap.size, 1, none⟩ = some (.slice s.P s.np s.cp) := fun p => (B0.kept0 p.fr).cell 1
  have b2 : ∀ p : FrBy W0, p.w.cell? ⟨w.heap.size, 2, none⟩ = some (.slice s.R s.nr s.cr) := fun p => (B0.kept0 p.fr).cell 2
  have b3 : ∀ p : FrBy W0, p.w.cell? ⟨w.heap.size, 3, none⟩ = some (.slice s.L s.nl s.cl) := fun p => (B0.kept0 p.fr).cell 3
  have b4 : ∀ p : FrBy W0, p.w.cell? ⟨w.heap.size, 4, none⟩ = some (.slice s.G s.ng s.cg) := fun p => (B0.kept0 p.fr).cell 4
  have b5 : ∀ p : FrBy W0, p.w.cell? ⟨w.heap.size, 5, none⟩ = some (.slice s.O s.no s.co) := fun p => (B0.kept0 p.fr).cell 5
  have c0 : ∀ p : FrBy W0, p.w.cell? ⟨w.heap.size + 1, 0, none⟩ = some (.int .i64 a.t) := fun p => (B1.kept0 p.fr).cell 0
  have c1 : ∀ p : FrBy W0, p.w.cell? ⟨w.heap.size + 1, 1, none⟩ = some (.int .u64 a.n) := fun p => (B1.kept0 p.fr).cell 1
  have c2 : ∀ p : FrBy W0, p.w.cell? ⟨w.heap.size + 1, 2, none⟩ = some (.int .i64 a.k) := fun p => (B1.kept0 p.fr).cell 2
  have c3 : ∀ p : FrBy W0, p.w.cell? ⟨w.heap.size + 1, 3, none⟩ = some (.bool a.sure) := fun p => (B1.kept0 p.fr).cell 3
  have c4 : ∀ p : FrBy W0, p.w.cell? ⟨w.heap.size + 1, 4, none⟩ = some (.slice a.lA a.ln a.lc) := fun p => (B1.kept0 p.fr).cell 4
  have c5 : ∀ p : FrBy W0, p.w.cell? ⟨w.heap.size + 1, 5, none⟩ = some (.slice a.gA a.gn a.gc) := fun p => (B1.kept0 p.fr).cell 5
  have c6 : ∀ p : FrBy W0, p.w.cell? ⟨w.heap.size + 1, 6, none⟩ = some (.slice a.sA a.sn a.sc) := fun p => (B1.kept0 p.fr).cell 6
  have c7 : ∀ p : FrBy W0, p.w.cell? ⟨w.heap.size + 1, 7, none⟩ = some (.int .i64 a.mq) := fun p => (B1.kept0 p.fr).cell 7
  have c8 : ∀ p : FrBy W0, p.w.cell? ⟨w.heap.size + 1, 8, none⟩ = some (.slice a.oA a.on a.oc) := fun p => (B1.kept0 p.fr).cell 8
  have c9 : ∀ p : FrBy W0, p.w.cell? ⟨w.heap.size + 1, 9, none⟩ = some (.int .i64 a.r1) := fun p => (B1.kept0 p.fr).cell 9
  have c10 : ∀ p : FrBy W0, p.w.cell? ⟨w.heap.size + 1, 10, none⟩ = some (.int .i64 a.r2) := fun p => (B1.kept0 p.fr).cell 10
  have c11 : ∀ p : FrBy W0, p.w.cell? ⟨w.heap.size + 1, 11, none⟩ = some (.int .i64 a.r3) := fun p => (B1.kept0 p.fr).cell 11
  have c12 : ∀ p : FrBy W0, p.w.cell? ⟨w.heap.size + 1, 12, none⟩ = some (.int .i64 a.tu) := fun p => (B1.kept0 p.fr).cell 12
  have c13 : ∀ p : FrBy W0, p.w.cell? ⟨w.heap.size + 1, 13, none⟩ = some (.int .u64 a.gen) := fun p => (B1.kept0 p.fr).cell 13
  have c14 : ∀ p : FrBy W0, p.w.cell? ⟨w.heap.size + 1, 14, none⟩ = some (.slice a.hA a.hn a.hc) := fun p => (B1.kept0 p.fr).cell 14
  obtain ⟨vfree, hvfree⟩ : ∃ v, v = freeL d.ps l.xs := ⟨_, rfl⟩
  have Cfree : Hid (∀ W', Fr no W0 W' → Calls Tryz.prog 42 #[.agg #[.int .u64 s.q, .slice s.P s.np s.cp, .slice s.R s.nr s.cr, .slice s.L s.nl s.cl, .slice s.G s.ng s.cg, .slice s.O s.no s.co], .slice a.lA l.xs.length a.lc] W' fun e w'' => e = .returned (.bool vfree) ∧ ∃ q : FrBy W0, w'' = q.w) := hide (fun W' F' => by
    rw [hvfree]
    exact calls_fr2 F' (Free_c s d.ps (HS.out _ (F0.trans F')).np a.lA a.lc l.xs (HA.out _ (F0.trans F')).wx (HA.out _ (F0.trans F')).bx W' (HS.out _ (F0.trans F')).pools (HA.out _ (F0.trans F')).lines))
  obtain ⟨vopen, hvopen⟩ : ∃ v, v = openD d.vs l.ss := ⟨_, rfl⟩
  have Copen : Hid (∀ W', Fr no W0 W' → Calls Tryz.prog 47 #[.agg #[.int .u64 s.q, .slice s.P s.np s.cp, .slice s.R s.nr s.cr, .slice s.L s.nl s.cl, .slice s.G s.ng s.cg, .slice s.O s.no s.co], .slice a.sA l.ss.length a.sc] W' fun e w'' => e = .returned (.bool vopen) ∧ ∃ q : FrBy W0, w'' = q.w) := hide (fun W' F' => by
    rw [hvopen]
    exact calls_fr2 F' (Open_c s d.vs (HS.out _ (F0.trans F')).nr a.sA a.sc l.ss W' (HS.out _ (F0.trans F')).prices (HA.out _ (F0.trans F')).sets))
  obtain ⟨vholds, hvholds⟩ : ∃ v, v = holdsL d.ps a.t l.xs := ⟨_, rfl⟩
  have Cholds : Hid (∀ W', Fr no W0 W' → Calls Tryz.prog 44 #[.agg #[.int .u64 s.q, .slice s.P s.np s.cp, .slice s.R s.nr s.cr, .slice s.L s.nl s.cl, .slice s.G s.ng s.cg, .slice s.O s.no s.co], .int .i64 a.t, .slice a.lA l.xs.length a.lc] W' fun e w'' => e = .returned (.bool vholds) ∧ ∃ q : FrBy W0, w'' = q.w) := hide (fun W' F' => by
    rw [hvholds]
    exact calls_fr2 F' (Holds_c s d.ps (HS.out _ (F0.trans F')).np a.t a.lA a.lc l.xs (HA.out _ (F0.trans F')).wx (HA.out _ (F0.trans F')).bx W' (HS.out _ (F0.trans F')).pools (HA.out _ (F0.trans F')).lines))
  obtain ⟨vguard, hvguard⟩ : ∃ v, v = l.gs.all (guardD d.ps d.vs) := ⟨_, rfl⟩
  have Cguard : Hid (∀ W', Fr no W0 W' → Calls Tryz.prog 33 #[.agg #[.int .u64 s.q, .slice s.P s.np s.cp, .slice s.R s.nr s.cr, .slice s.L s.nl s.cl, .slice s.G s.ng s.cg, .slice s.O s.no s.co], .slice a.gA l.gs.length a.gc] W' fun e w'' => e = .returned (.bool vguard) ∧ ∃ q : FrBy W0, w'' = q.w) := hide (fun W' F' => by
    rw [hvguard]
    exact calls_fr2 F' (Guarded_c s d.ps d.vs (HS.out _ (F0.trans F')).np (HS.out _ (F0.trans F')).nr a.gA a.gc l.gs W' (HS.out _ (F0.trans F')).pools (HS.out _ (F0.trans F')).prices (HA.out _ (F0.trans F')).guards))
  obtain ⟨vother, hvother⟩ : ∃ v, v = freeL d.ps l.os := ⟨_, rfl⟩
  have Cother : Hid (∀ W', Fr no W0 W' → Calls Tryz.prog 42 #[.agg #[.int .u64 s.q, .slice s.P s.np s.cp, .slice s.R s.nr s.cr, .slice s.L s.nl s.cl, .slice s.G s.ng s.cg, .slice s.O s.no s.co], .slice a.oA l.os.length a.oc] W' fun e w'' => e = .returned (.bool vother) ∧ ∃ q : FrBy W0, w'' = q.w) := hide (fun W' F' => by
    rw [hvother]
    exact calls_fr2 F' (Free_c s d.ps (HS.out _ (F0.trans F')).np a.oA a.oc l.os (HA.out _ (F0.trans F')).wo (HA.out _ (F0.trans F')).bo W' (HS.out _ (F0.trans F')).pools (HA.out _ (F0.trans F')).other))
  have Cclone : Hid (∀ W', Fr no W0 W' → Calls Tryz.prog 191 #[.slice a.lA l.xs.length a.lc] W' fun e w'' => ∃ A' c', ∃ q : FrBy W0, e = .returned (.slice A' l.xs.length c') ∧ w'' = q.w ∧ Fr no W' q.w ∧ Om fLine 57 w.heap.size q.w A' c' l.xs) := hide (fun W' F' => (clone_c a.lA a.lc l.xs (HA.out _ (F0.trans F')).bx W' (HA.out _ (F0.trans F')).lines).mono (by
    rintro e w'' ⟨A', c', he, h1, h2⟩
    exact ⟨A', c', ⟨w'', F'.trans h2⟩, he, rfl, h2, h1.down (F0.trans F').size⟩))
  have Cclono : Hid (∀ W', Fr no W0 W' → Calls Tryz.prog 191 #[.slice a.oA l.os.length a.oc] W' fun e w'' => ∃ A' c', ∃ q : FrBy W0, e = .returned (.slice A' l.os.length c') ∧ w'' = q.w ∧ Fr no W' q.w ∧ Om fLine 57 w.heap.size q.w A' c' l.os) := hide (fun W' F' => (clone_c a.oA a.oc l.os (HA.out _ (F0.trans F')).bo W' (HA.out _ (F0.trans F')).other).mono (by
    rintro e w'' ⟨A', c', he, h1, h2⟩
    exact ⟨A', c', ⟨w'', F'.trans h2⟩, he, rfl, h2, h1.down (F0.trans F').size⟩))
  have Crenew : Hid (∀ W', Fr no W0 W' → Calls Tryz.prog 192 #[.agg #[.int .u64 s.q, .slice s.P s.np s.cp, .slice s.R s.nr s.cr, .slice s.L s.nl s.cl, .slice s.G s.ng s.cg, .slice s.O s.no s.co], .slice a.sA l.ss.length a.sc] W' fun e w'' => ∃ A' c', ∃ q : FrBy W0, e = .returned (.slice A' l.ss.length c') ∧ w'' = q.w ∧ Fr no W' q.w ∧ Om fSet 108 w.heap.size q.w A' c' (l.ss.map (renewD d.vs))) := hide (fun W' F' => (renewed_c s d.vs (HS.out _ (F0.trans F')).nr a.sA a.sc l.ss (HA.out _ (F0.trans F')).bs W' (HS.out _ (F0.trans F')).prices (HA.out _ (F0.trans F')).sets).mono (by
    rintro e w'' ⟨A', c', he, h1, h2⟩
    exact ⟨A', c', ⟨w'', F'.trans h2⟩, he, rfl, h2, h1.down (F0.trans F').size⟩))
  obtain ⟨m1, hm1⟩ : ∃ m, m = (clampMade d.ps l.xs).length := ⟨_, rfl⟩
  obtain ⟨m2, hm2⟩ : ∃ m, m = (clampSets d.vs l.ss).length := ⟨_, rfl⟩
  have Cclamp : Hid (∀ W', Fr no W0 W' → Calls Tryz.prog 193 #[.agg #[.int .u64 s.q, .slice s.P s.np s.cp, .slice s.R s.nr s.cr, .slice s.L s.nl s.cl, .slice s.G s.ng s.cg, .slice s.O s.no s.co], .agg #[.int .i64 a.t, .int .u64 a.n, .int .i64 a.k, .bool a.sure, .slice a.lA a.ln a.lc, .slice a.gA a.gn a.gc, .slice a.sA a.sn a.sc, .int .i64 a.mq, .slice a.oA a.on a.oc, .int .i64 a.r1, .int .i64 a.r2, .int .i64 a.r3, .int .i64 a.tu, .int .u64 a.gen, .slice a.hA a.hn a.hc]] W' fun e w'' => ∃ A1 c1 A2 c2, ∃ q : FrBy W0, e = .returned (.tuple #[.slice A1 m1 c1, .slice A2 m2 c2]) ∧ w'' = q.w ∧ Om fLine 57 w.heap.size q.w A1 c1 (clampMade d.ps l.xs) ∧ Om fSet 108 w.heap.size q.w A2 c2 (clampSets d.vs l.ss) ) := hide (fun W' F' => by
    rw [hm1, hm2]
    refine (clamped_c s a d.ps d.vs l.xs l.ss (HS.out _ (F0.trans F')).np (HS.out _ (F0.trans F')).nr hln hsn (HA.out _ (F0.trans F')).wx (HA.out _ (F0.trans F')).bx (HA.out _ (F0.trans F')).bs W' (HS.out _ (F0.trans F')).pools (HS.out _ (F0.trans F')).prices (HA.out _ (F0.trans F')).lines (HA.out _ (F0.trans F')).sets).mono ?_
    rintro e w'' ⟨A1, c1, A2, c2, he, h1, h2, h3⟩
    exact ⟨A1, c1, A2, c2, ⟨w'', F'.trans h3⟩, he, rfl, h1.down (F0.trans F').size, h2.down (F0.trans F').size⟩)
  have HR := hide (show writeD d a l = if a.sure then if vholds then (1, l.xs, []) else (3, [], []) else
    if (vfree && vopen) && vguard then (1, l.xs, l.ss.map (renewD d.vs)) else
    if a.mq = 1 then if 0 < m1 + m2 then (2, clampMade d.ps l.xs, clampSets d.vs l.ss) else (3, [], []) else
    if a.mq = 2 then if vother then (2, l.os, []) else (3, [], []) else
    if a.mq = 3 then if vfree && vopen then (2, l.xs, l.ss.map (renewD d.vs)) else (3, [], []) else (3, [], []) by rw [hvfree, hvopen, hvholds, hvguard, hvother, hm1, hm2]; rfl)
  have HF0 := hide F0
  have hb1 : m1 ≤ 140737488351232 := by rw [hm1]; have := clampMade_le d.ps l.xs; have := (HA.out w (Fr.refl _ _)).bx; omega
  have hb2 : m2 ≤ 140737488351232 := by rw [hm2]; have := clampSets_le d.vs l.ss; have := (HA.out w (Fr.refl _ _)).bs; omega
  obtain ⟨p0, hp0⟩ : ∃ p : FrBy W0, p.w = W0 := ⟨⟨W0, Fr.refl _ _⟩, rfl⟩
  rw [hW0, ← hp0]
  obtain ⟨p, hp⟩ : ∃ p : FrBy W0, p.w = p0.w := ⟨p0, rfl⟩
  rw [← hp]
  have hM1 := hide hm1
  have hM2 := hide hm2
  have HK : Hid (∀ W', Fr no W0 W' → W'.cell? ⟨w.heap.size, 0, none⟩ = some (.int .u64 s.q) ∧ W'.cell? ⟨w.heap.size, 1, none⟩ = some (.slice s.P s.np s.cp) ∧ W'.cell? ⟨w.heap.size, 2, none⟩ = some (.slice s.R s.nr s.cr) ∧ W'.cell? ⟨w.heap.size, 3, none⟩ = some (.slice s.L s.nl s.cl) ∧ W'.cell? ⟨w.heap.size, 4, none⟩ = some (.slice s.G s.ng s.cg) ∧ W'.cell? ⟨w.heap.size, 5, none⟩ = some (.slice s.O s.no s.co) ∧ W'.cell? ⟨w.heap.size + 1, 4, none⟩ = some (.slice a.lA l.xs.length a.lc) ∧ W'.cell? ⟨w.heap.size + 1, 6, none⟩ = some (.slice a.sA l.ss.length a.sc) ∧ Fr no W0 W') := hide (fun W' F' => ⟨b0 ⟨W', F'⟩, b1 ⟨W', F'⟩, b2 ⟨W', F'⟩, b3 ⟨W', F'⟩, b4 ⟨W', F'⟩, b5 ⟨W', F'⟩, by rw [← hln]; exact c4 ⟨W', F'⟩, by rw [← hsn]; exact c6 ⟨W', F'⟩, F'⟩)
  clear B0 B1 F0 hW0 hp0 hp p0 hvfree hvopen hvholds hvguard hvother hm1 hm2
  simp only [hln, hgn, hsn, hon] at Cclamp c4 c5 c6 c8
  obtain ⟨su, hsu⟩ : ∃ su, su = a.sure := ⟨_, rfl⟩
  rw [← hsu] at HR Cclamp c3
  obtain ⟨mq, hmq⟩ : ∃ mq, mq = a.mq := ⟨_, rfl⟩
  rw [← hmq] at HR Cclamp c7
  clear hsu hmq
  cases su
  · cases vfree
    · by_cases q1 : mq = 1
      · subst q1
        by_cases t1 : 0 < m1 + m2
        · have t2 : decide (0 < wrap64 ((m1 : Int) + m2)) = true := by rw [show wrap64 ((m1 : Int) + m2) = m1 + m2 by unfold wrap64; omega]; simp; omega
          have HE : Hid (writeD d a l = (2, clampMade d.ps l.xs, clampSets d.vs l.ss)) := hide (by rw [HR.out]; simp [t1])
          clear HR hb1 hb2 t1
          go_wp2_with (first | (go_at_call_of 42 (a.lA); refine (Cfree.out _ (FrBy.fr _)).mono ?_; rintro e w1 ⟨rfl, p, rfl⟩) | (go_at_call_of 42 (a.oA); refine (Cother.out _ (FrBy.fr _)).mono ?_; rintro e w1 ⟨rfl, p, rfl⟩) | (go_at_call 47; refine (Copen.out _ (FrBy.fr _)).mono ?_; rintro e w1 ⟨rfl, p, rfl⟩) | (go_at_call 44; refine (Cholds.out _ (FrBy.fr _)).mono ?_; rintro e w1 ⟨rfl, p, rfl⟩) | (go_at_call 33; refine (Cguard.out _ (FrBy.fr _)).mono ?_; rintro e w1 ⟨rfl, p, rfl⟩) | (go_at_call_of 191 (a.lA); refine (Cclone.out _ (FrBy.fr _)).mono ?_; rintro e w1 ⟨A1, c1, p, rfl, rfl, hF1, hs1⟩; have HS1 := hide hs1; clear hF1 hs1) | (go_at_call_of 191 (a.oA); refine (Cclono.out _ (FrBy.fr _)).mono ?_; rintro e w1 ⟨A1, c1, p, rfl, rfl, hF1, hs1⟩; have HS1 := hide hs1; clear hF1 hs1) | (go_at_call 193; refine (Cclamp.out _ (FrBy.fr _)).mono ?_; rintro e w1 ⟨A1, c1, A2, c2, p, rfl, rfl, hs1, hs2⟩; have HS1 := hide hs1; have HS2 := hide hs2; clear hs1 hs2))
          go_ret3
          rw [HE.out]
          exact ⟨A1, _, c1, A2, _, c2, rfl, ⟨hM1.out, hM2.out, HS1.out, HS2.out⟩, HF0.out.trans p.fr⟩
        · have t2 : decide (0 < wrap64 ((m1 : Int) + m2)) = false := by rw [show wrap64 ((m1 : Int) + m2) = m1 + m2 by unfold wrap64; omega]; simp; omega
          have HE : Hid (writeD d a l = (3, [], [])) := hide (by rw [HR.out]; simp [t1])
          clear HR hb1 hb2 t1
          go_wp2_with (first | (go_at_call_of 42 (a.lA); refine (Cfree.out _ (FrBy.fr _)).mono ?_; rintro e w1 ⟨rfl, p, rfl⟩) | (go_at_call_of 42 (a.oA); refine (Cother.out _ (FrBy.fr _)).mono ?_; rintro e w1 ⟨rfl, p, rfl⟩) | (go_at_call 47; refine (Copen.out _ (FrBy.fr _)).mono ?_; rintro e w1 ⟨rfl, p, rfl⟩) | (go_at_call 44; refine (Cholds.out _ (FrBy.fr _)).mono ?_; rintro e w1 ⟨rfl, p, rfl⟩) | (go_at_call 33; refine (Cguard.out _ (FrBy.fr _)).mono ?_; rintro e w1 ⟨rfl, p, rfl⟩) | (go_at_call_of 191 (a.lA); refine (Cclone.out _ (FrBy.fr _)).mono ?_; rintro e w1 ⟨A1, c1, p, rfl, rfl, hF1, hs1⟩; have HS1 := hide hs1; clear hF1 hs1) | (go_at_call_of 191 (a.oA); refine (Cclono.out _ (FrBy.fr _)).mono ?_; rintro e w1 ⟨A1, c1, p, rfl, rfl, hF1, hs1⟩; have HS1 := hide hs1; clear hF1 hs1) | (go_at_call 193; refine (Cclamp.out _ (FrBy.fr _)).mono ?_; rintro e w1 ⟨A1, c1, A2, c2, p, rfl, rfl, hs1, hs2⟩; have HS1 := hide hs1; have HS2 := hide hs2; clear hs1 hs2))
          go_ret3
          rw [HE.out]
          exact ⟨none, 0, 0, none, 0, 0, rfl, ⟨rfl, rfl, om_none _ _ _ _, om_none _ _ _ _⟩, HF0.out.trans p.fr⟩
      have q1' : (mq == 1) = false := by simp; exact q1
      have q1'' : decide (mq = 1) = false := by simp; exact q1
      by_cases q2 : mq = 2
      · subst q2
        cases vother
        · have HE : Hid (writeD d a l = (3, [], [])) := hide (by rw [HR.out]; simp)
          clear HR
          go_wp2_with (first | (go_at_call_of 42 (a.lA); refine (Cfree.out _ (FrBy.fr _)).mono ?_; rintro e w1 ⟨rfl, p, rfl⟩) | (go_at_call_of 42 (a.oA); refine (Cother.out _ (FrBy.fr _)).mono ?_; rintro e w1 ⟨rfl, p, rfl⟩) | (go_at_call 47; refine (Copen.out _ (FrBy.fr _)).mono ?_; rintro e w1 ⟨rfl, p, rfl⟩) | (go_at_call 44; refine (Cholds.out _ (FrBy.fr _)).mono ?_; rintro e w1 ⟨rfl, p, rfl⟩) | (go_at_call 33; refine (Cguard.out _ (FrBy.fr _)).mono ?_; rintro e w1 ⟨rfl, p, rfl⟩) | (go_at_call_of 191 (a.lA); refine (Cclone.out _ (FrBy.fr _)).mono ?_; rintro e w1 ⟨A1, c1, p, rfl, rfl, hF1, hs1⟩; have HS1 := hide hs1; clear hF1 hs1) | (go_at_call_of 191 (a.oA); refine (Cclono.out _ (FrBy.fr _)).mono ?_; rintro e w1 ⟨A1, c1, p, rfl, rfl, hF1, hs1⟩; have HS1 := hide hs1; clear hF1 hs1) | (go_at_call 193; refine (Cclamp.out _ (FrBy.fr _)).mono ?_; rintro e w1 ⟨A1, c1, A2, c2, p, rfl, rfl, hs1, hs2⟩; have HS1 := hide hs1; have HS2 := hide hs2; clear hs1 hs2))
          go_ret3
          rw [HE.out]
          exact ⟨none, 0, 0, none, 0, 0, rfl, ⟨rfl, rfl, om_none _ _ _ _, om_none _ _ _ _⟩, HF0.out.trans p.fr⟩
        · have HE : Hid (writeD d a l = (2, l.os, [])) := hide (by rw [HR.out]; simp)
          clear HR
          go_wp2_with (first | (go_at_call_of 42 (a.lA); refine (Cfree.out _ (FrBy.fr _)).mono ?_; rintro e w1 ⟨rfl, p, rfl⟩) | (go_at_call_of 42 (a.oA); refine (Cother.out _ (FrBy.fr _)).mono ?_; rintro e w1 ⟨rfl, p, rfl⟩) | (go_at_call 47; refine (Copen.out _ (FrBy.fr _)).mono ?_; rintro e w1 ⟨rfl, p, rfl⟩) | (go_at_call 44; refine (Cholds.out _ (FrBy.fr _)).mono ?_; rintro e w1 ⟨rfl, p, rfl⟩) | (go_at_call 33; refine (Cguard.out _ (FrBy.fr _)).mono ?_; rintro e w1 ⟨rfl, p, rfl⟩) | (go_at_call_of 191 (a.lA); refine (Cclone.out _ (FrBy.fr _)).mono ?_; rintro e w1 ⟨A1, c1, p, rfl, rfl, hF1, hs1⟩; have HS1 := hide hs1; clear hF1 hs1) | (go_at_call_of 191 (a.oA); refine (Cclono.out _ (FrBy.fr _)).mono ?_; rintro e w1 ⟨A1, c1, p, rfl, rfl, hF1, hs1⟩; have HS1 := hide hs1; clear hF1 hs1) | (go_at_call 193; refine (Cclamp.out _ (FrBy.fr _)).mono ?_; rintro e w1 ⟨A1, c1, A2, c2, p, rfl, rfl, hs1, hs2⟩; have HS1 := hide hs1; have HS2 := hide hs2; clear hs1 hs2))
          go_ret3
          rw [HE.out]
          exact ⟨A1, _, c1, none, 0, 0, rfl, ⟨rfl, rfl, HS1.out, om_none _ _ _ _⟩, HF0.out.trans p.fr⟩
      have q2' : (mq == 2) = false := by simp; exact q2
      have q2'' : decide (mq = 2) = false := by simp; exact q2
      by_cases q3 : mq = 3
      · subst q3
        have HE : Hid (writeD d a l = (3, [], [])) := hide (by rw [HR.out]; simp)
        clear HR
        go_wp2_with (first | (go_at_call_of 42 (a.lA); refine (Cfree.out _ (FrBy.fr _)).mono ?_; rintro e w1 ⟨rfl, p, rfl⟩) | (go_at_call_of 42 (a.oA); refine (Cother.out _ (FrBy.fr _)).mono ?_; rintro e w1 ⟨rfl, p, rfl⟩) | (go_at_call 47; refine (Copen.out _ (FrBy.fr _)).mono ?_; rintro e w1 ⟨rfl, p, rfl⟩) | (go_at_call 44; refine (Cholds.out _ (FrBy.fr _)).mono ?_; rintro e w1 ⟨rfl, p, rfl⟩) | (go_at_call 33; refine (Cguard.out _ (FrBy.fr _)).mono ?_; rintro e w1 ⟨rfl, p, rfl⟩) | (go_at_call_of 191 (a.lA); refine (Cclone.out _ (FrBy.fr _)).mono ?_; rintro e w1 ⟨A1, c1, p, rfl, rfl, hF1, hs1⟩; have HS1 := hide hs1; clear hF1 hs1) | (go_at_call_of 191 (a.oA); refine (Cclono.out _ (FrBy.fr _)).mono ?_; rintro e w1 ⟨A1, c1, p, rfl, rfl, hF1, hs1⟩; have HS1 := hide hs1; clear hF1 hs1) | (go_at_call 193; refine (Cclamp.out _ (FrBy.fr _)).mono ?_; rintro e w1 ⟨A1, c1, A2, c2, p, rfl, rfl, hs1, hs2⟩; have HS1 := hide hs1; have HS2 := hide hs2; clear hs1 hs2))
        go_ret3
        rw [HE.out]
        exact ⟨none, 0, 0, none, 0, 0, rfl, ⟨rfl, rfl, om_none _ _ _ _, om_none _ _ _ _⟩, HF0.out.trans p.fr⟩
      · have q3' : (mq == 3) = false := by simp; exact q3
        have q3'' : decide (mq = 3) = false := by simp; exact q3
        have HE : Hid (writeD d a l = (3, [], [])) := hide (by rw [HR.out]; simp [q1, q2, q3])
        clear HR
        go_wp2_with (first | (go_at_call_of 42 (a.lA); refine (Cfree.out _ (FrBy.fr _)).mono ?_; rintro e w1 ⟨rfl, p, rfl⟩) | (go_at_call_of 42 (a.oA); refine (Cother.out _ (FrBy.fr _)).mono ?_; rintro e w1 ⟨rfl, p, rfl⟩) | (go_at_call 47; refine (Copen.out _ (FrBy.fr _)).mono ?_; rintro e w1 ⟨rfl, p, rfl⟩) | (go_at_call 44; refine (Cholds.out _ (FrBy.fr _)).mono ?_; rintro e w1 ⟨rfl, p, rfl⟩) | (go_at_call 33; refine (Cguard.out _ (FrBy.fr _)).mono ?_; rintro e w1 ⟨rfl, p, rfl⟩) | (go_at_call_of 191 (a.lA); refine (Cclone.out _ (FrBy.fr _)).mono ?_; rintro e w1 ⟨A1, c1, p, rfl, rfl, hF1, hs1⟩; have HS1 := hide hs1; clear hF1 hs1) | (go_at_call_of 191 (a.oA); refine (Cclono.out _ (FrBy.fr _)).mono ?_; rintro e w1 ⟨A1, c1, p, rfl, rfl, hF1, hs1⟩; have HS1 := hide hs1; clear hF1 hs1) | (go_at_call 193; refine (Cclamp.out _ (FrBy.fr _)).mono ?_; rintro e w1 ⟨A1, c1, A2, c2, p, rfl, rfl, hs1, hs2⟩; have HS1 := hide hs1; have HS2 := hide hs2; clear hs1 hs2))
        go_ret3
        rw [HE.out]
        exact ⟨none, 0, 0, none, 0, 0, rfl, ⟨rfl, rfl, om_none _ _ _ _, om_none _ _ _ _⟩, HF0.out.trans p.fr⟩
    · cases vopen
      · by_cases q1 : mq = 1
        · subst q1
          by_cases t1 : 0 < m1 + m2
          · have t2 : decide (0 < wrap64 ((m1 : Int) + m2)) = true := by rw [show wrap64 ((m1 : Int) + m2) = m1 + m2 by unfold wrap64; omega]; simp; omega
            have HE : Hid (writeD d a l = (2, clampMade d.ps l.xs, clampSets d.vs l.ss)) := hide (by rw [HR.out]; simp [t1])
            clear HR hb1 hb2 t1
            go_wp2_with (first | (go_at_call_of 42 (a.lA); refine (Cfree.out _ (FrBy.fr _)).mono ?_; rintro e w1 ⟨rfl, p, rfl⟩) | (go_at_call_of 42 (a.oA); refine (Cother.out _ (FrBy.fr _)).mono ?_; rintro e w1 ⟨rfl, p, rfl⟩) | (go_at_call 47; refine (Copen.out _ (FrBy.fr _)).mono ?_; rintro e w1 ⟨rfl, p, rfl⟩) | (go_at_call 44; refine (Cholds.out _ (FrBy.fr _)).mono ?_; rintro e w1 ⟨rfl, p, rfl⟩) | (go_at_call 33; refine (Cguard.out _ (FrBy.fr _)).mono ?_; rintro e w1 ⟨rfl, p, rfl⟩) | (go_at_call_of 191 (a.lA); refine (Cclone.out _ (FrBy.fr _)).mono ?_; rintro e w1 ⟨A1, c1, p, rfl, rfl, hF1, hs1⟩; have HS1 := hide hs1; clear hF1 hs1) | (go_at_call_of 191 (a.oA); refine (Cclono.out _ (FrBy.fr _)).mono ?_; rintro e w1 ⟨A1, c1, p, rfl, rfl, hF1, hs1⟩; have HS1 := hide hs1; clear hF1 hs1) | (go_at_call 193; refine (Cclamp.out _ (FrBy.fr _)).mono ?_; rintro e w1 ⟨A1, c1, A2, c2, p, rfl, rfl, hs1, hs2⟩; have HS1 := hide hs1; have HS2 := hide hs2; clear hs1 hs2))
            go_ret3
            rw [HE.out]
            exact ⟨A1, _, c1, A2, _, c2, rfl, ⟨hM1.out, hM2.out, HS1.out, HS2.out⟩, HF0.out.trans p.fr⟩
          · have t2 : decide (0 < wrap64 ((m1 : Int) + m2)) = false := by rw [show wrap64 ((m1 : Int) + m2) = m1 + m2 by unfold wrap64; omega]; simp; omega
            have HE : Hid (writeD d a l = (3, [], [])) := hide (by rw [HR.out]; simp [t1])
            clear HR hb1 hb2 t1
            go_wp2_with (first | (go_at_call_of 42 (a.lA); refine (Cfree.out _ (FrBy.fr _)).mono ?_; rintro e w1 ⟨rfl, p, rfl⟩) | (go_at_call_of 42 (a.oA); refine (Cother.out _ (FrBy.fr _)).mono ?_; rintro e w1 ⟨rfl, p, rfl⟩) | (go_at_call 47; refine (Copen.out _ (FrBy.fr _)).mono ?_; rintro e w1 ⟨rfl, p, rfl⟩) | (go_at_call 44; refine (Cholds.out _ (FrBy.fr _)).mono ?_; rintro e w1 ⟨rfl, p, rfl⟩) | (go_at_call 33; refine (Cguard.out _ (FrBy.fr _)).mono ?_; rintro e w1 ⟨rfl, p, rfl⟩) | (go_at_call_of 191 (a.lA); refine (Cclone.out _ (FrBy.fr _)).mono ?_; rintro e w1 ⟨A1, c1, p, rfl, rfl, hF1, hs1⟩; have HS1 := hide hs1; clear hF1 hs1) | (go_at_call_of 191 (a.oA); refine (Cclono.out _ (FrBy.fr _)).mono ?_; rintro e w1 ⟨A1, c1, p, rfl, rfl, hF1, hs1⟩; have HS1 := hide hs1; clear hF1 hs1) | (go_at_call 193; refine (Cclamp.out _ (FrBy.fr _)).mono ?_; rintro e w1 ⟨A1, c1, A2, c2, p, rfl, rfl, hs1, hs2⟩; have HS1 := hide hs1; have HS2 := hide hs2; clear hs1 hs2))
            go_ret3
            rw [HE.out]
            exact ⟨none, 0, 0, none, 0, 0, rfl, ⟨rfl, rfl, om_none _ _ _ _, om_none _ _ _ _⟩, HF0.out.trans p.fr⟩
        have q1' : (mq == 1) = false := by simp; exact q1
        have q1'' : decide (mq = 1) = false := by simp; exact q1
        by_cases q2 : mq = 2
        · subst q2
          cases vother
          · have HE : Hid (writeD d a l = (3, [], [])) := hide (by rw [HR.out]; simp)
            clear HR
            go_wp2_with (first | (go_at_call_of 42 (a.lA); refine (Cfree.out _ (FrBy.fr _)).mono ?_; rintro e w1 ⟨rfl, p, rfl⟩) | (go_at_call_of 42 (a.oA); refine (Cother.out _ (FrBy.fr _)).mono ?_; rintro e w1 ⟨rfl, p, rfl⟩) | (go_at_call 47; refine (Copen.out _ (FrBy.fr _)).mono ?_; rintro e w1 ⟨rfl, p, rfl⟩) | (go_at_call 44; refine (Cholds.out _ (FrBy.fr _)).mono ?_; rintro e w1 ⟨rfl, p, rfl⟩) | (go_at_call 33; refine (Cguard.out _ (FrBy.fr _)).mono ?_; rintro e w1 ⟨rfl, p, rfl⟩) | (go_at_call_of 191 (a.lA); refine (Cclone.out _ (FrBy.fr _)).mono ?_; rintro e w1 ⟨A1, c1, p, rfl, rfl, hF1, hs1⟩; have HS1 := hide hs1; clear hF1 hs1) | (go_at_call_of 191 (a.oA); refine (Cclono.out _ (FrBy.fr _)).mono ?_; rintro e w1 ⟨A1, c1, p, rfl, rfl, hF1, hs1⟩; have HS1 := hide hs1; clear hF1 hs1) | (go_at_call 193; refine (Cclamp.out _ (FrBy.fr _)).mono ?_; rintro e w1 ⟨A1, c1, A2, c2, p, rfl, rfl, hs1, hs2⟩; have HS1 := hide hs1; have HS2 := hide hs2; clear hs1 hs2))
            go_ret3
            rw [HE.out]
            exact ⟨none, 0, 0, none, 0, 0, rfl, ⟨rfl, rfl, om_none _ _ _ _, om_none _ _ _ _⟩, HF0.out.trans p.fr⟩
          · have HE : Hid (writeD d a l = (2, l.os, [])) := hide (by rw [HR.out]; simp)
            clear HR
            go_wp2_with (first | (go_at_call_of 42 (a.lA); refine (Cfree.out _ (FrBy.fr _)).mono ?_; rintro e w1 ⟨rfl, p, rfl⟩) | (go_at_call_of 42 (a.oA); refine (Cother.out _ (FrBy.fr _)).mono ?_; rintro e w1 ⟨rfl, p, rfl⟩) | (go_at_call 47; refine (Copen.out _ (FrBy.fr _)).mono ?_; rintro e w1 ⟨rfl, p, rfl⟩) | (go_at_call 44; refine (Cholds.out _ (FrBy.fr _)).mono ?_; rintro e w1 ⟨rfl, p, rfl⟩) | (go_at_call 33; refine (Cguard.out _ (FrBy.fr _)).mono ?_; rintro e w1 ⟨rfl, p, rfl⟩) | (go_at_call_of 191 (a.lA); refine (Cclone.out _ (FrBy.fr _)).mono ?_; rintro e w1 ⟨A1, c1, p, rfl, rfl, hF1, hs1⟩; have HS1 := hide hs1; clear hF1 hs1) | (go_at_call_of 191 (a.oA); refine (Cclono.out _ (FrBy.fr _)).mono ?_; rintro e w1 ⟨A1, c1, p, rfl, rfl, hF1, hs1⟩; have HS1 := hide hs1; clear hF1 hs1) | (go_at_call 193; refine (Cclamp.out _ (FrBy.fr _)).mono ?_; rintro e w1 ⟨A1, c1, A2, c2, p, rfl, rfl, hs1, hs2⟩; have HS1 := hide hs1; have HS2 := hide hs2; clear hs1 hs2))
            go_ret3
            rw [HE.out]
            exact ⟨A1, _, c1, none, 0, 0, rfl, ⟨rfl, rfl, HS1.out, om_none _ _ _ _⟩, HF0.out.trans p.fr⟩
        have q2' : (mq == 2) = false := by simp; exact q2
        have q2'' : decide (mq = 2) = false := by simp; exact q2
        by_cases q3 : mq = 3
        · subst q3
          have HE : Hid (writeD d a l = (3, [], [])) := hide (by rw [HR.out]; simp)
          clear HR
          go_wp2_with (first | (go_at_call_of 42 (a.lA); refine (Cfree.out _ (FrBy.fr _)).mono ?_; rintro e w1 ⟨rfl, p, rfl⟩) | (go_at_call_of 42 (a.oA); refine (Cother.out _ (FrBy.fr _)).mono ?_; rintro e w1 ⟨rfl, p, rfl⟩) | (go_at_call 47; refine (Copen.out _ (FrBy.fr _)).mono ?_; rintro e w1 ⟨rfl, p, rfl⟩) | (go_at_call 44; refine (Cholds.out _ (FrBy.fr _)).mono ?_; rintro e w1 ⟨rfl, p, rfl⟩) | (go_at_call 33; refine (Cguard.out _ (FrBy.fr _)).mono ?_; rintro e w1 ⟨rfl, p, rfl⟩) | (go_at_call_of 191 (a.lA); refine (Cclone.out _ (FrBy.fr _)).mono ?_; rintro e w1 ⟨A1, c1, p, rfl, rfl, hF1, hs1⟩; have HS1 := hide hs1; clear hF1 hs1) | (go_at_call_of 191 (a.oA); refine (Cclono.out _ (FrBy.fr _)).mono ?_; rintro e w1 ⟨A1, c1, p, rfl, rfl, hF1, hs1⟩; have HS1 := hide hs1; clear hF1 hs1) | (go_at_call 193; refine (Cclamp.out _ (FrBy.fr _)).mono ?_; rintro e w1 ⟨A1, c1, A2, c2, p, rfl, rfl, hs1, hs2⟩; have HS1 := hide hs1; have HS2 := hide hs2; clear hs1 hs2))
          go_ret3
          rw [HE.out]
          exact ⟨none, 0, 0, none, 0, 0, rfl, ⟨rfl, rfl, om_none _ _ _ _, om_none _ _ _ _⟩, HF0.out.trans p.fr⟩
        · have q3' : (mq == 3) = false := by simp; exact q3
          have q3'' : decide (mq = 3) = false := by simp; exact q3
          have HE : Hid (writeD d a l = (3, [], [])) := hide (by rw [HR.out]; simp [q1, q2, q3])
          clear HR
          go_wp2_with (first | (go_at_call_of 42 (a.lA); refine (Cfree.out _ (FrBy.fr _)).mono ?_; rintro e w1 ⟨rfl, p, rfl⟩) | (go_at_call_of 42 (a.oA); refine (Cother.out _ (FrBy.fr _)).mono ?_; rintro e w1 ⟨rfl, p, rfl⟩) | (go_at_call 47; refine (Copen.out _ (FrBy.fr _)).mono ?_; rintro e w1 ⟨rfl, p, rfl⟩) | (go_at_call 44; refine (Cholds.out _ (FrBy.fr _)).mono ?_; rintro e w1 ⟨rfl, p, rfl⟩) | (go_at_call 33; refine (Cguard.out _ (FrBy.fr _)).mono ?_; rintro e w1 ⟨rfl, p, rfl⟩) | (go_at_call_of 191 (a.lA); refine (Cclone.out _ (FrBy.fr _)).mono ?_; rintro e w1 ⟨A1, c1, p, rfl, rfl, hF1, hs1⟩; have HS1 := hide hs1; clear hF1 hs1) | (go_at_call_of 191 (a.oA); refine (Cclono.out _ (FrBy.fr _)).mono ?_; rintro e w1 ⟨A1, c1, p, rfl, rfl, hF1, hs1⟩; have HS1 := hide hs1; clear hF1 hs1) | (go_at_call 193; refine (Cclamp.out _ (FrBy.fr _)).mono ?_; rintro e w1 ⟨A1, c1, A2, c2, p, rfl, rfl, hs1, hs2⟩; have HS1 := hide hs1; have HS2 := hide hs2; clear hs1 hs2))
          go_ret3
          rw [HE.out]
          exact ⟨none, 0, 0, none, 0, 0, rfl, ⟨rfl, rfl, om_none _ _ _ _, om_none _ _ _ _⟩, HF0.out.trans p.fr⟩
      · cases vguard
        · by_cases q1 : mq = 1
          · subst q1
            by_cases t1 : 0 < m1 + m2
            · have t2 : decide (0 < wrap64 ((m1 : Int) + m2)) = true := by rw [show wrap64 ((m1 : Int) + m2) = m1 + m2 by unfold wrap64; omega]; simp; omega
              have HE : Hid (writeD d a l = (2, clampMade d.ps l.xs, clampSets d.vs l.ss)) := hide (by rw [HR.out]; simp [t1])
              clear HR hb1 hb2 t1
              go_wp2_with (first | (go_at_call_of 42 (a.lA); refine (Cfree.out _ (FrBy.fr _)).mono ?_; rintro e w1 ⟨rfl, p, rfl⟩) | (go_at_call_of 42 (a.oA); refine (Cother.out _ (FrBy.fr _)).mono ?_; rintro e w1 ⟨rfl, p, rfl⟩) | (go_at_call 47; refine (Copen.out _ (FrBy.fr _)).mono ?_; rintro e w1 ⟨rfl, p, rfl⟩) | (go_at_call 44; refine (Cholds.out _ (FrBy.fr _)).mono ?_; rintro e w1 ⟨rfl, p, rfl⟩) | (go_at_call 33; refine (Cguard.out _ (FrBy.fr _)).mono ?_; rintro e w1 ⟨rfl, p, rfl⟩) | (go_at_call_of 191 (a.lA); refine (Cclone.out _ (FrBy.fr _)).mono ?_; rintro e w1 ⟨A1, c1, p, rfl, rfl, hF1, hs1⟩; have HS1 := hide hs1; clear hF1 hs1) | (go_at_call_of 191 (a.oA); refine (Cclono.out _ (FrBy.fr _)).mono ?_; rintro e w1 ⟨A1, c1, p, rfl, rfl, hF1, hs1⟩; have HS1 := hide hs1; clear hF1 hs1) | (go_at_call 193; refine (Cclamp.out _ (FrBy.fr _)).mono ?_; rintro e w1 ⟨A1, c1, A2, c2, p, rfl, rfl, hs1, hs2⟩; have HS1 := hide hs1; have HS2 := hide hs2; clear hs1 hs2))
              go_ret3
              rw [HE.out]
              exact ⟨A1, _, c1, A2, _, c2, rfl, ⟨hM1.out, hM2.out, HS1.out, HS2.out⟩, HF0.out.trans p.fr⟩
            · have t2 : decide (0 < wrap64 ((m1 : Int) + m2)) = false := by rw [show wrap64 ((m1 : Int) + m2) = m1 + m2 by unfold wrap64; omega]; simp; omega
              have HE : Hid (writeD d a l = (3, [], [])) := hide (by rw [HR.out]; simp [t1])
              clear HR hb1 hb2 t1
              go_wp2_with (first | (go_at_call_of 42 (a.lA); refine (Cfree.out _ (FrBy.fr _)).mono ?_; rintro e w1 ⟨rfl, p, rfl⟩) | (go_at_call_of 42 (a.oA); refine (Cother.out _ (FrBy.fr _)).mono ?_; rintro e w1 ⟨rfl, p, rfl⟩) | (go_at_call 47; refine (Copen.out _ (FrBy.fr _)).mono ?_; rintro e w1 ⟨rfl, p, rfl⟩) | (go_at_call 44; refine (Cholds.out _ (FrBy.fr _)).mono ?_; rintro e w1 ⟨rfl, p, rfl⟩) | (go_at_call 33; refine (Cguard.out _ (FrBy.fr _)).mono ?_; rintro e w1 ⟨rfl, p, rfl⟩) | (go_at_call_of 191 (a.lA); refine (Cclone.out _ (FrBy.fr _)).mono ?_; rintro e w1 ⟨A1, c1, p, rfl, rfl, hF1, hs1⟩; have HS1 := hide hs1; clear hF1 hs1) | (go_at_call_of 191 (a.oA); refine (Cclono.out _ (FrBy.fr _)).mono ?_; rintro e w1 ⟨A1, c1, p, rfl, rfl, hF1, hs1⟩; have HS1 := hide hs1; clear hF1 hs1) | (go_at_call 193; refine (Cclamp.out _ (FrBy.fr _)).mono ?_; rintro e w1 ⟨A1, c1, A2, c2, p, rfl, rfl, hs1, hs2⟩; have HS1 := hide hs1; have HS2 := hide hs2; clear hs1 hs2))
              go_ret3
              rw [HE.out]
              exact ⟨none, 0, 0, none, 0, 0, rfl, ⟨rfl, rfl, om_none _ _ _ _, om_none _ _ _ _⟩, HF0.out.trans p.fr⟩
          have q1' : (mq == 1) = false := by simp; exact q1
          have q1'' : decide (mq = 1) = false := by simp; exact q1
          by_cases q2 : mq = 2
          · subst q2
            cases vother
            · have HE : Hid (writeD d a l = (3, [], [])) := hide (by rw [HR.out]; simp)
              clear HR
              go_wp2_with (first | (go_at_call_of 42 (a.lA); refine (Cfree.out _ (FrBy.fr _)).mono ?_; rintro e w1 ⟨rfl, p, rfl⟩) | (go_at_call_of 42 (a.oA); refine (Cother.out _ (FrBy.fr _)).mono ?_; rintro e w1 ⟨rfl, p, rfl⟩) | (go_at_call 47; refine (Copen.out _ (FrBy.fr _)).mono ?_; rintro e w1 ⟨rfl, p, rfl⟩) | (go_at_call 44; refine (Cholds.out _ (FrBy.fr _)).mono ?_; rintro e w1 ⟨rfl, p, rfl⟩) | (go_at_call 33; refine (Cguard.out _ (FrBy.fr _)).mono ?_; rintro e w1 ⟨rfl, p, rfl⟩) | (go_at_call_of 191 (a.lA); refine (Cclone.out _ (FrBy.fr _)).mono ?_; rintro e w1 ⟨A1, c1, p, rfl, rfl, hF1, hs1⟩; have HS1 := hide hs1; clear hF1 hs1) | (go_at_call_of 191 (a.oA); refine (Cclono.out _ (FrBy.fr _)).mono ?_; rintro e w1 ⟨A1, c1, p, rfl, rfl, hF1, hs1⟩; have HS1 := hide hs1; clear hF1 hs1) | (go_at_call 193; refine (Cclamp.out _ (FrBy.fr _)).mono ?_; rintro e w1 ⟨A1, c1, A2, c2, p, rfl, rfl, hs1, hs2⟩; have HS1 := hide hs1; have HS2 := hide hs2; clear hs1 hs2))
              go_ret3
              rw [HE.out]
              exact ⟨none, 0, 0, none, 0, 0, rfl, ⟨rfl, rfl, om_none _ _ _ _, om_none _ _ _ _⟩, HF0.out.trans p.fr⟩
            · have HE : Hid (writeD d a l = (2, l.os, [])) := hide (by rw [HR.out]; simp)
              clear HR
              go_wp2_with (first | (go_at_call_of 42 (a.lA); refine (Cfree.out _ (FrBy.fr _)).mono ?_; rintro e w1 ⟨rfl, p, rfl⟩) | (go_at_call_of 42 (a.oA); refine (Cother.out _ (FrBy.fr _)).mono ?_; rintro e w1 ⟨rfl, p, rfl⟩) | (go_at_call 47; refine (Copen.out _ (FrBy.fr _)).mono ?_; rintro e w1 ⟨rfl, p, rfl⟩) | (go_at_call 44; refine (Cholds.out _ (FrBy.fr _)).mono ?_; rintro e w1 ⟨rfl, p, rfl⟩) | (go_at_call 33; refine (Cguard.out _ (FrBy.fr _)).mono ?_; rintro e w1 ⟨rfl, p, rfl⟩) | (go_at_call_of 191 (a.lA); refine (Cclone.out _ (FrBy.fr _)).mono ?_; rintro e w1 ⟨A1, c1, p, rfl, rfl, hF1, hs1⟩; have HS1 := hide hs1; clear hF1 hs1) | (go_at_call_of 191 (a.oA); refine (Cclono.out _ (FrBy.fr _)).mono ?_; rintro e w1 ⟨A1, c1, p, rfl, rfl, hF1, hs1⟩; have HS1 := hide hs1; clear hF1 hs1) | (go_at_call 193; refine (Cclamp.out _ (FrBy.fr _)).mono ?_; rintro e w1 ⟨A1, c1, A2, c2, p, rfl, rfl, hs1, hs2⟩; have HS1 := hide hs1; have HS2 := hide hs2; clear hs1 hs2))
              go_ret3
              rw [HE.out]
              exact ⟨A1, _, c1, none, 0, 0, rfl, ⟨rfl, rfl, HS1.out, om_none _ _ _ _⟩, HF0.out.trans p.fr⟩
          have q2' : (mq == 2) = false := by simp; exact q2
          have q2'' : decide (mq = 2) = false := by simp; exact q2
          by_cases q3 : mq = 3
          · subst q3
            have HE : Hid (writeD d a l = (2, l.xs, l.ss.map (renewD d.vs))) := hide (by rw [HR.out]; simp)
            clear HR
            go_wp2_with (first | (go_at_call_of 42 (a.lA); refine (Cfree.out _ (FrBy.fr _)).mono ?_; rintro e w1 ⟨rfl, p, rfl⟩) | (go_at_call_of 42 (a.oA); refine (Cother.out _ (FrBy.fr _)).mono ?_; rintro e w1 ⟨rfl, p, rfl⟩) | (go_at_call 47; refine (Copen.out _ (FrBy.fr _)).mono ?_; rintro e w1 ⟨rfl, p, rfl⟩) | (go_at_call 44; refine (Cholds.out _ (FrBy.fr _)).mono ?_; rintro e w1 ⟨rfl, p, rfl⟩) | (go_at_call 33; refine (Cguard.out _ (FrBy.fr _)).mono ?_; rintro e w1 ⟨rfl, p, rfl⟩) | (go_at_call_of 191 (a.lA); refine (Cclone.out _ (FrBy.fr _)).mono ?_; rintro e w1 ⟨A1, c1, p, rfl, rfl, hF1, hs1⟩; have HS1 := hide hs1; clear hF1 hs1) | (go_at_call_of 191 (a.oA); refine (Cclono.out _ (FrBy.fr _)).mono ?_; rintro e w1 ⟨A1, c1, p, rfl, rfl, hF1, hs1⟩; have HS1 := hide hs1; clear hF1 hs1) | (go_at_call 193; refine (Cclamp.out _ (FrBy.fr _)).mono ?_; rintro e w1 ⟨A1, c1, A2, c2, p, rfl, rfl, hs1, hs2⟩; have HS1 := hide hs1; have HS2 := hide hs2; clear hs1 hs2))
            go_region_held3 (fun W' => W'.cell? ⟨w.heap.size, 0, none⟩ = some (.int .u64 s.q) ∧ W'.cell? ⟨w.heap.size, 1, none⟩ = some (.slice s.P s.np s.cp) ∧ W'.cell? ⟨w.heap.size, 2, none⟩ = some (.slice s.R s.nr s.cr) ∧ W'.cell? ⟨w.heap.size, 3, none⟩ = some (.slice s.L s.nl s.cl) ∧ W'.cell? ⟨w.heap.size, 4, none⟩ = some (.slice s.G s.ng s.cg) ∧ W'.cell? ⟨w.heap.size, 5, none⟩ = some (.slice s.O s.no s.co) ∧ W'.cell? ⟨w.heap.size + 1, 4, none⟩ = some (.slice a.lA l.xs.length a.lc) ∧ W'.cell? ⟨w.heap.size + 1, 6, none⟩ = some (.slice a.sA l.ss.length a.sc) ∧ Fr no W0 W') (first | exact HK.out _ (FrBy.fr _).drew | exact HK.out _ (FrBy.fr _)) (first | (go_at_call_of 191 (a.lA); refine (Cclone.out _ (by first | exact FrBy.fr _ | exact (FrBy.fr _).drew)).mono ?_; rintro e w1 ⟨A1, c1, p, rfl, rfl, hF1, hs1⟩; have HS1 := hide hs1; have HFc := hide hF1; clear hF1 hs1; have F := p.fr) | (go_at_call 192; refine (Crenew.out _ (by first | exact FrBy.fr _ | exact (FrBy.fr _).drew)).mono ?_; rintro e w1 ⟨A2, c2, p, rfl, rfl, hF1, hs1⟩; have HS2 := hide hs1; have HFr := hide hF1; clear hF1 hs1; have F := p.fr))
            all_goals
              go_wp2_with (first | (go_at_call_of 42 (a.lA); refine (Cfree.out _ (FrBy.fr _)).mono ?_; rintro e w1 ⟨rfl, p, rfl⟩) | (go_at_call_of 42 (a.oA); refine (Cother.out _ (FrBy.fr _)).mono ?_; rintro e w1 ⟨rfl, p, rfl⟩) | (go_at_call 47; refine (Copen.out _ (FrBy.fr _)).mono ?_; rintro e w1 ⟨rfl, p, rfl⟩) | (go_at_call 44; refine (Cholds.out _ (FrBy.fr _)).mono ?_; rintro e w1 ⟨rfl, p, rfl⟩) | (go_at_call 33; refine (Cguard.out _ (FrBy.fr _)).mono ?_; rintro e w1 ⟨rfl, p, rfl⟩) | (go_at_call_of 191 (a.lA); refine (Cclone.out _ (FrBy.fr _)).mono ?_; rintro e w1 ⟨A1, c1, p, rfl, rfl, hF1, hs1⟩; have HS1 := hide hs1; clear hF1 hs1) | (go_at_call_of 191 (a.oA); refine (Cclono.out _ (FrBy.fr _)).mono ?_; rintro e w1 ⟨A1, c1, p, rfl, rfl, hF1, hs1⟩; have HS1 := hide hs1; clear hF1 hs1) | (go_at_call 193; refine (Cclamp.out _ (FrBy.fr _)).mono ?_; rintro e w1 ⟨A1, c1, A2, c2, p, rfl, rfl, hs1, hs2⟩; have HS1 := hide hs1; have HS2 := hide hs2; clear hs1 hs2))
              go_ret3
              rw [HE.out]
              exact ⟨A1, _, c1, A2, _, c2, rfl, ⟨rfl, by simp, by first | exact HS1.out | exact HS1.out.below HFr.out.below, by first | exact HS2.out | exact HS2.out.below HFc.out.below⟩, HF0.out.trans p.fr⟩
          · have q3' : (mq == 3) = false := by simp; exact q3
            have q3'' : decide (mq = 3) = false := by simp; exact q3
            have HE : Hid (writeD d a l = (3, [], [])) := hide (by rw [HR.out]; simp [q1, q2, q3])
            clear HR
            go_wp2_with (first | (go_at_call_of 42 (a.lA); refine (Cfree.out _ (FrBy.fr _)).mono ?_; rintro e w1 ⟨rfl, p, rfl⟩) | (go_at_call_of 42 (a.oA); refine (Cother.out _ (FrBy.fr _)).mono ?_; rintro e w1 ⟨rfl, p, rfl⟩) | (go_at_call 47; refine (Copen.out _ (FrBy.fr _)).mono ?_; rintro e w1 ⟨rfl, p, rfl⟩) | (go_at_call 44; refine (Cholds.out _ (FrBy.fr _)).mono ?_; rintro e w1 ⟨rfl, p, rfl⟩) | (go_at_call 33; refine (Cguard.out _ (FrBy.fr _)).mono ?_; rintro e w1 ⟨rfl, p, rfl⟩) | (go_at_call_of 191 (a.lA); refine (Cclone.out _ (FrBy.fr _)).mono ?_; rintro e w1 ⟨A1, c1, p, rfl, rfl, hF1, hs1⟩; have HS1 := hide hs1; clear hF1 hs1) | (go_at_call_of 191 (a.oA); refine (Cclono.out _ (FrBy.fr _)).mono ?_; rintro e w1 ⟨A1, c1, p, rfl, rfl, hF1, hs1⟩; have HS1 := hide hs1; clear hF1 hs1) | (go_at_call 193; refine (Cclamp.out _ (FrBy.fr _)).mono ?_; rintro e w1 ⟨A1, c1, A2, c2, p, rfl, rfl, hs1, hs2⟩; have HS1 := hide hs1; have HS2 := hide hs2; clear hs1 hs2))
            go_ret3
            rw [HE.out]
            exact ⟨none, 0, 0, none, 0, 0, rfl, ⟨rfl, rfl, om_none _ _ _ _, om_none _ _ _ _⟩, HF0.out.trans p.fr⟩
        · have HE : Hid (writeD d a l = (1, l.xs, l.ss.map (renewD d.vs))) := hide (by rw [HR.out]; simp)
          clear HR
          go_wp2_with (first | (go_at_call_of 42 (a.lA); refine (Cfree.out _ (FrBy.fr _)).mono ?_; rintro e w1 ⟨rfl, p, rfl⟩) | (go_at_call_of 42 (a.oA); refine (Cother.out _ (FrBy.fr _)).mono ?_; rintro e w1 ⟨rfl, p, rfl⟩) | (go_at_call 47; refine (Copen.out _ (FrBy.fr _)).mono ?_; rintro e w1 ⟨rfl, p, rfl⟩) | (go_at_call 44; refine (Cholds.out _ (FrBy.fr _)).mono ?_; rintro e w1 ⟨rfl, p, rfl⟩) | (go_at_call 33; refine (Cguard.out _ (FrBy.fr _)).mono ?_; rintro e w1 ⟨rfl, p, rfl⟩) | (go_at_call_of 191 (a.lA); refine (Cclone.out _ (FrBy.fr _)).mono ?_; rintro e w1 ⟨A1, c1, p, rfl, rfl, hF1, hs1⟩; have HS1 := hide hs1; clear hF1 hs1) | (go_at_call_of 191 (a.oA); refine (Cclono.out _ (FrBy.fr _)).mono ?_; rintro e w1 ⟨A1, c1, p, rfl, rfl, hF1, hs1⟩; have HS1 := hide hs1; clear hF1 hs1) | (go_at_call 193; refine (Cclamp.out _ (FrBy.fr _)).mono ?_; rintro e w1 ⟨A1, c1, A2, c2, p, rfl, rfl, hs1, hs2⟩; have HS1 := hide hs1; have HS2 := hide hs2; clear hs1 hs2))
          go_region_held3 (fun W' => W'.cell? ⟨w.heap.size, 0, none⟩ = some (.int .u64 s.q) ∧ W'.cell? ⟨w.heap.size, 1, none⟩ = some (.slice s.P s.np s.cp) ∧ W'.cell? ⟨w.heap.size, 2, none⟩ = some (.slice s.R s.nr s.cr) ∧ W'.cell? ⟨w.heap.size, 3, none⟩ = some (.slice s.L s.nl s.cl) ∧ W'.cell? ⟨w.heap.size, 4, none⟩ = some (.slice s.G s.ng s.cg) ∧ W'.cell? ⟨w.heap.size, 5, none⟩ = some (.slice s.O s.no s.co) ∧ W'.cell? ⟨w.heap.size + 1, 4, none⟩ = some (.slice a.lA l.xs.length a.lc) ∧ W'.cell? ⟨w.heap.size + 1, 6, none⟩ = some (.slice a.sA l.ss.length a.sc) ∧ Fr no W0 W') (first | exact HK.out _ (FrBy.fr _).drew | exact HK.out _ (FrBy.fr _)) (first | (go_at_call_of 191 (a.lA); refine (Cclone.out _ (by first | exact FrBy.fr _ | exact (FrBy.fr _).drew)).mono ?_; rintro e w1 ⟨A1, c1, p, rfl, rfl, hF1, hs1⟩; have HS1 := hide hs1; have HFc := hide hF1; clear hF1 hs1; have F := p.fr) | (go_at_call 192; refine (Crenew.out _ (by first | exact FrBy.fr _ | exact (FrBy.fr _).drew)).mono ?_; rintro e w1 ⟨A2, c2, p, rfl, rfl, hF1, hs1⟩; have HS2 := hide hs1; have HFr := hide hF1; clear hF1 hs1; have F := p.fr))
          all_goals
            go_wp2_with (first | (go_at_call_of 42 (a.lA); refine (Cfree.out _ (FrBy.fr _)).mono ?_; rintro e w1 ⟨rfl, p, rfl⟩) | (go_at_call_of 42 (a.oA); refine (Cother.out _ (FrBy.fr _)).mono ?_; rintro e w1 ⟨rfl, p, rfl⟩) | (go_at_call 47; refine (Copen.out _ (FrBy.fr _)).mono ?_; rintro e w1 ⟨rfl, p, rfl⟩) | (go_at_call 44; refine (Cholds.out _ (FrBy.fr _)).mono ?_; rintro e w1 ⟨rfl, p, rfl⟩) | (go_at_call 33; refine (Cguard.out _ (FrBy.fr _)).mono ?_; rintro e w1 ⟨rfl, p, rfl⟩) | (go_at_call_of 191 (a.lA); refine (Cclone.out _ (FrBy.fr _)).mono ?_; rintro e w1 ⟨A1, c1, p, rfl, rfl, hF1, hs1⟩; have HS1 := hide hs1; clear hF1 hs1) | (go_at_call_of 191 (a.oA); refine (Cclono.out _ (FrBy.fr _)).mono ?_; rintro e w1 ⟨A1, c1, p, rfl, rfl, hF1, hs1⟩; have HS1 := hide hs1; clear hF1 hs1) | (go_at_call 193; refine (Cclamp.out _ (FrBy.fr _)).mono ?_; rintro e w1 ⟨A1, c1, A2, c2, p, rfl, rfl, hs1, hs2⟩; have HS1 := hide hs1; have HS2 := hide hs2; clear hs1 hs2))
            go_ret3
            rw [HE.out]
            exact ⟨A1, _, c1, A2, _, c2, rfl, ⟨rfl, by simp, by first | exact HS1.out | exact HS1.out.below HFr.out.below, by first | exact HS2.out | exact HS2.out.below HFc.out.below⟩, HF0.out.trans p.fr⟩
  · cases vfree
    · cases vholds
      · have HE : Hid (writeD d a l = (3, [], [])) := hide (by rw [HR.out]; simp)
        clear HR
        go_wp2_with (first | (go_at_call_of 42 (a.lA); refine (Cfree.out _ (FrBy.fr _)).mono ?_; rintro e w1 ⟨rfl, p, rfl⟩) | (go_at_call_of 42 (a.oA); refine (Cother.out _ (FrBy.fr _)).mono ?_; rintro e w1 ⟨rfl, p, rfl⟩) | (go_at_call 47; refine (Copen.out _ (FrBy.fr _)).mono ?_; rintro e w1 ⟨rfl, p, rfl⟩) | (go_at_call 44; refine (Cholds.out _ (FrBy.fr _)).mono ?_; rintro e w1 ⟨rfl, p, rfl⟩) | (go_at_call 33; refine (Cguard.out _ (FrBy.fr _)).mono ?_; rintro e w1 ⟨rfl, p, rfl⟩) | (go_at_call_of 191 (a.lA); refine (Cclone.out _ (FrBy.fr _)).mono ?_; rintro e w1 ⟨A1, c1, p, rfl, rfl, hF1, hs1⟩; have HS1 := hide hs1; clear hF1 hs1) | (go_at_call_of 191 (a.oA); refine (Cclono.out _ (FrBy.fr _)).mono ?_; rintro e w1 ⟨A1, c1, p, rfl, rfl, hF1, hs1⟩; have HS1 := hide hs1; clear hF1 hs1) | (go_at_call 193; refine (Cclamp.out _ (FrBy.fr _)).mono ?_; rintro e w1 ⟨A1, c1, A2, c2, p, rfl, rfl, hs1, hs2⟩; have HS1 := hide hs1; have HS2 := hide hs2; clear hs1 hs2))
        go_ret3
        rw [HE.out]
        exact ⟨none, 0, 0, none, 0, 0, rfl, ⟨rfl, rfl, om_none _ _ _ _, om_none _ _ _ _⟩, HF0.out.trans p.fr⟩
      · have HE : Hid (writeD d a l = (1, l.xs, [])) := hide (by rw [HR.out]; simp)
        clear HR
        go_wp2_with (first | (go_at_call_of 42 (a.lA); refine (Cfree.out _ (FrBy.fr _)).mono ?_; rintro e w1 ⟨rfl, p, rfl⟩) | (go_at_call_of 42 (a.oA); refine (Cother.out _ (FrBy.fr _)).mono ?_; rintro e w1 ⟨rfl, p, rfl⟩) | (go_at_call 47; refine (Copen.out _ (FrBy.fr _)).mono ?_; rintro e w1 ⟨rfl, p, rfl⟩) | (go_at_call 44; refine (Cholds.out _ (FrBy.fr _)).mono ?_; rintro e w1 ⟨rfl, p, rfl⟩) | (go_at_call 33; refine (Cguard.out _ (FrBy.fr _)).mono ?_; rintro e w1 ⟨rfl, p, rfl⟩) | (go_at_call_of 191 (a.lA); refine (Cclone.out _ (FrBy.fr _)).mono ?_; rintro e w1 ⟨A1, c1, p, rfl, rfl, hF1, hs1⟩; have HS1 := hide hs1; clear hF1 hs1) | (go_at_call_of 191 (a.oA); refine (Cclono.out _ (FrBy.fr _)).mono ?_; rintro e w1 ⟨A1, c1, p, rfl, rfl, hF1, hs1⟩; have HS1 := hide hs1; clear hF1 hs1) | (go_at_call 193; refine (Cclamp.out _ (FrBy.fr _)).mono ?_; rintro e w1 ⟨A1, c1, A2, c2, p, rfl, rfl, hs1, hs2⟩; have HS1 := hide hs1; have HS2 := hide hs2; clear hs1 hs2))
        go_ret3
        rw [HE.out]
        exact ⟨A1, _, c1, none, 0, 0, rfl, ⟨rfl, rfl, HS1.out, om_none _ _ _ _⟩, HF0.out.trans p.fr⟩
    · cases vopen
      · cases vholds
        · have HE : Hid (writeD d a l = (3, [], [])) := hide (by rw [HR.out]; simp)
          clear HR
          go_wp2_with (first | (go_at_call_of 42 (a.lA); refine (Cfree.out _ (FrBy.fr _)).mono ?_; rintro e w1 ⟨rfl, p, rfl⟩) | (go_at_call_of 42 (a.oA); refine (Cother.out _ (FrBy.fr _)).mono ?_; rintro e w1 ⟨rfl, p, rfl⟩) | (go_at_call 47; refine (Copen.out _ (FrBy.fr _)).mono ?_; rintro e w1 ⟨rfl, p, rfl⟩) | (go_at_call 44; refine (Cholds.out _ (FrBy.fr _)).mono ?_; rintro e w1 ⟨rfl, p, rfl⟩) | (go_at_call 33; refine (Cguard.out _ (FrBy.fr _)).mono ?_; rintro e w1 ⟨rfl, p, rfl⟩) | (go_at_call_of 191 (a.lA); refine (Cclone.out _ (FrBy.fr _)).mono ?_; rintro e w1 ⟨A1, c1, p, rfl, rfl, hF1, hs1⟩; have HS1 := hide hs1; clear hF1 hs1) | (go_at_call_of 191 (a.oA); refine (Cclono.out _ (FrBy.fr _)).mono ?_; rintro e w1 ⟨A1, c1, p, rfl, rfl, hF1, hs1⟩; have HS1 := hide hs1; clear hF1 hs1) | (go_at_call 193; refine (Cclamp.out _ (FrBy.fr _)).mono ?_; rintro e w1 ⟨A1, c1, A2, c2, p, rfl, rfl, hs1, hs2⟩; have HS1 := hide hs1; have HS2 := hide hs2; clear hs1 hs2))
          go_ret3
          rw [HE.out]
          exact ⟨none, 0, 0, none, 0, 0, rfl, ⟨rfl, rfl, om_none _ _ _ _, om_none _ _ _ _⟩, HF0.out.trans p.fr⟩
        · have HE : Hid (writeD d a l = (1, l.xs, [])) := hide (by rw [HR.out]; simp)
          clear HR
          go_wp2_with (first | (go_at_call_of 42 (a.lA); refine (Cfree.out _ (FrBy.fr _)).mono ?_; rintro e w1 ⟨rfl, p, rfl⟩) | (go_at_call_of 42 (a.oA); refine (Cother.out _ (FrBy.fr _)).mono ?_; rintro e w1 ⟨rfl, p, rfl⟩) | (go_at_call 47; refine (Copen.out _ (FrBy.fr _)).mono ?_; rintro e w1 ⟨rfl, p, rfl⟩) | (go_at_call 44; refine (Cholds.out _ (FrBy.fr _)).mono ?_; rintro e w1 ⟨rfl, p, rfl⟩) | (go_at_call 33; refine (Cguard.out _ (FrBy.fr _)).mono ?_; rintro e w1 ⟨rfl, p, rfl⟩) | (go_at_call_of 191 (a.lA); refine (Cclone.out _ (FrBy.fr _)).mono ?_; rintro e w1 ⟨A1, c1, p, rfl, rfl, hF1, hs1⟩; have HS1 := hide hs1; clear hF1 hs1) | (go_at_call_of 191 (a.oA); refine (Cclono.out _ (FrBy.fr _)).mono ?_; rintro e w1 ⟨A1, c1, p, rfl, rfl, hF1, hs1⟩; have HS1 := hide hs1; clear hF1 hs1) | (go_at_call 193; refine (Cclamp.out _ (FrBy.fr _)).mono ?_; rintro e w1 ⟨A1, c1, A2, c2, p, rfl, rfl, hs1, hs2⟩; have HS1 := hide hs1; have HS2 := hide hs2; clear hs1 hs2))
          go_ret3
          rw [HE.out]
          exact ⟨A1, _, c1, none, 0, 0, rfl, ⟨rfl, rfl, HS1.out, om_none _ _ _ _⟩, HF0.out.trans p.fr⟩
      · cases vholds
        · have HE : Hid (writeD d a l = (3, [], [])) := hide (by rw [HR.out]; simp)
          clear HR
          go_wp2_with (first | (go_at_call_of 42 (a.lA); refine (Cfree.out _ (FrBy.fr _)).mono ?_; rintro e w1 ⟨rfl, p, rfl⟩) | (go_at_call_of 42 (a.oA); refine (Cother.out _ (FrBy.fr _)).mono ?_; rintro e w1 ⟨rfl, p, rfl⟩) | (go_at_call 47; refine (Copen.out _ (FrBy.fr _)).mono ?_; rintro e w1 ⟨rfl, p, rfl⟩) | (go_at_call 44; refine (Cholds.out _ (FrBy.fr _)).mono ?_; rintro e w1 ⟨rfl, p, rfl⟩) | (go_at_call 33; refine (Cguard.out _ (FrBy.fr _)).mono ?_; rintro e w1 ⟨rfl, p, rfl⟩) | (go_at_call_of 191 (a.lA); refine (Cclone.out _ (FrBy.fr _)).mono ?_; rintro e w1 ⟨A1, c1, p, rfl, rfl, hF1, hs1⟩; have HS1 := hide hs1; clear hF1 hs1) | (go_at_call_of 191 (a.oA); refine (Cclono.out _ (FrBy.fr _)).mono ?_; rintro e w1 ⟨A1, c1, p, rfl, rfl, hF1, hs1⟩; have HS1 := hide hs1; clear hF1 hs1) | (go_at_call 193; refine (Cclamp.out _ (FrBy.fr _)).mono ?_; rintro e w1 ⟨A1, c1, A2, c2, p, rfl, rfl, hs1, hs2⟩; have HS1 := hide hs1; have HS2 := hide hs2; clear hs1 hs2))
          go_ret3
          rw [HE.out]
          exact ⟨none, 0, 0, none, 0, 0, rfl, ⟨rfl, rfl, om_none _ _ _ _, om_none _ _ _ _⟩, HF0.out.trans p.fr⟩
        · have HE : Hid (writeD d a l = (1, l.xs, [])) := hide (by rw [HR.out]; simp)
          clear HR
          go_wp2_with (first | (go_at_call_of 42 (a.lA); refine (Cfree.out _ (FrBy.fr _)).mono ?_; rintro e w1 ⟨rfl, p, rfl⟩) | (go_at_call_of 42 (a.oA); refine (Cother.out _ (FrBy.fr _)).mono ?_; rintro e w1 ⟨rfl, p, rfl⟩) | (go_at_call 47; refine (Copen.out _ (FrBy.fr _)).mono ?_; rintro e w1 ⟨rfl, p, rfl⟩) | (go_at_call 44; refine (Cholds.out _ (FrBy.fr _)).mono ?_; rintro e w1 ⟨rfl, p, rfl⟩) | (go_at_call 33; refine (Cguard.out _ (FrBy.fr _)).mono ?_; rintro e w1 ⟨rfl, p, rfl⟩) | (go_at_call_of 191 (a.lA); refine (Cclone.out _ (FrBy.fr _)).mono ?_; rintro e w1 ⟨A1, c1, p, rfl, rfl, hF1, hs1⟩; have HS1 := hide hs1; clear hF1 hs1) | (go_at_call_of 191 (a.oA); refine (Cclono.out _ (FrBy.fr _)).mono ?_; rintro e w1 ⟨A1, c1, p, rfl, rfl, hF1, hs1⟩; have HS1 := hide hs1; clear hF1 hs1) | (go_at_call 193; refine (Cclamp.out _ (FrBy.fr _)).mono ?_; rintro e w1 ⟨A1, c1, A2, c2, p, rfl, rfl, hs1, hs2⟩; have HS1 := hide hs1; have HS2 := hide hs2; clear hs1 hs2))
          go_ret3
          rw [HE.out]
          exact ⟨A1, _, c1, none, 0, 0, rfl, ⟨rfl, rfl, HS1.out, om_none _ _ _ _⟩, HF0.out.trans p.fr⟩
end Go.Proofs.YtmnajpkmglmipaaGreat
