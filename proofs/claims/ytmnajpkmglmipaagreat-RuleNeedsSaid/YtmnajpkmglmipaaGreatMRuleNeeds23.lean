/- RuleJ1 RuleJ2 -/
import Derived.Test.YtmnajpkmglmipaaGreatMRuleNeeds20
import Derived.BigQuiet
/- Contract of rule.Judge, at kind 1. -/
namespace Go.Proofs.YtmnajpkmglmipaaGreat
open Go.RowKit Go.Shelf Go.Maps

set_option maxRecDepth 100000 in
set_option maxHeartbeats 40000000 in
theorem Judge_1 (s : StV) (d : StL) (a : ActV) (l : ActL) (w : World) (hs : StOk w s d) (ha : ActOk w a l) (h1 : a.k = 1) :
    Calls Tryz.prog 71 #[.agg #[.int .u64 s.q, .slice s.P s.np s.cp, .slice s.R s.nr s.cr, .slice s.L s.nl s.cl, .slice s.G s.ng s.cg, .slice s.O s.no s.co], .agg #[.int .i64 a.t, .int .u64 a.n, .int .i64 a.k, .bool a.sure, .slice a.lA a.ln a.lc, .slice a.gA a.gn a.gc, .slice a.sA a.sn a.sc, .int .i64 a.mq, .slice a.oA a.on a.oc, .int .i64 a.r1, .int .i64 a.r2, .int .i64 a.r3, .int .i64 a.tu, .int .u64 a.gen, .slice a.hA a.hn a.hc]] w fun e w' => ∃ A1 n1 c1 A2 n2 c2, e = .returned (.tuple #[.int .i64 (judgeD d a l).1, .slice A1 n1 c1, .slice A2 n2 c2, .int .i64 (judgeD d a l).2.2]) ∧ WriteR w.heap.size w' A1 n1 c1 A2 n2 c2 (judgeD d a l).2.1 ∧ Fr no w w' := by
  have H1 := hide h1
  clear h1
  have HS : Hid (∀ W, Fr no w W → StOk W s d) := hide (fun W F => hs.keep F)
  have HA : Hid (∀ W, Fr no w W → ActOk W a l) := hide (fun W F => ha.keep F)
  clear hs ha
  go_enter Tryz.func71, Tryz.ntmps71
  go_upto_region 2 with fail
  obtain ⟨W0, hW0⟩ : ∃ W0, (((w.alloc (.cells #[.int .u64 s.q, .slice s.P s.np s.cp, .slice s.R s.nr s.cr, .slice s.L s.nl s.cl, .slice s.G s.ng s.cg, .slice s.O s.no s.co] 77)).alloc (.cells #[.int .i64 a.t, .int .u64 a.n, .int .i64 a.k, .bool a.sure, .slice a.lA a.ln a.lc, .slice a.gA a.gn a.gc, .slice a.sA a.sn a.sc, .int .i64 a.mq, .slice a.oA a.on a.oc, .int .i64 a.r1, .int .i64 a.r2, .int .i64 a.r3, .int .i64 a.tu, .int .u64 a.gen, .slice a.hA a.hn a.hc] 88)).alloc (.cells #[.int .i64 a.r1, .int .i64 a.r2, .int .i64 a.r3] 86)) = W0 := ⟨_, rfl⟩
  have F0 : Fr no w W0 := by rw [← hW0]; exact (((Fr.refl no w).alloc _).alloc _).alloc _
  have B0 : Blk W0 w.heap.size 77 #[.int .u64 s.q, .slice s.P s.np s.cp, .slice s.R s.nr s.cr, .slice s.L s.nl s.cl, .slice s.G s.ng s.cg, .slice s.O s.no s.co] := by rw [← hW0]; exact ((Blk.new w _ _).alloc _).alloc _
  have B1 : Blk W0 (w.heap.size + 1) 88 #[.int .i64 a.t, .int .u64 a.n, .int .i64 a.k, .bool a.sure, .slice a.lA a.ln a.lc, .slice a.gA a.gn a.gc, .slice a.sA a.sn a.sc, .int .i64 a.mq, .slice a.oA a.on a.oc, .int .i64 a.r1, .int .i64 a.r2, .int .i64 a.r3, .int .i64 a.tu, .int .u64 a.gen, .slice a.hA a.hn a.hc] := by rw [← hW0]; exact (blk_at _ _ _ _ (by simp)).alloc _
  have B2 : Blk W0 (w.heap.size + 1 + 1) 86 #[.int .i64 a.r1, .int .i64 a.r2, .int .i64 a.r3] := by rw [← hW0]; exact blk_at _ _ _ _ (by simp)
  have b0 : ∀ p : FrBy W0, p.w.cell? ⟨w.heap.size, 0, none⟩ = some (.int .u64 s.q) := fun p => (B0.kept0 p.fr).cell 0
  have b1 : ∀ p : FrBy W0, p.w.cell? ⟨w.heap.size, 1, none⟩ = some (.slice s.P s.np s.cp) := fun p => (B0.kept0 p.fr).cell 1
  have b2 : ∀ p : FrBy W0, p.w.cell? ⟨w.heap.size, 2, none⟩ = some (.slice s.R s.nr s.cr) := fun p => (B0.kept0 p.fr).cell 2
  have b3 : ∀ p : FrBy W0, p.w.cell? ⟨w.heap.size, 3, none⟩ = some (.slice s.L s.nl s.cl) := fun p => (B0.kept0 p.fr).cell 3
  have b4 : ∀ p : FrBy W0, p.w.cell? ⟨w.heap.size, 4, none⟩ = some (.slice s.G s.ng s.cg) := fun p => (B0.kept0 p.fr).cell 4
  have b5 : ∀ p : FrBy W0, p.w.cell? ⟨w.heap.size, 5, none⟩ = some (.slice s.O s.no s.co) := fun p => (B0.kept0 p.fr).cell 5
  have c0 : ∀ p : FrBy W0, p.w.cell? ⟨w.heap.size + 1, 0, none⟩ = some (.int .i64 a.t) := fun p => (B1.kept0 p.fr).cell 0
  have c1 : ∀ p : FrBy W0, p.w.cell? ⟨w.heap.size + 1, 1, none⟩ = some (.int .u64 a.n) := fun p => (B1.kept0 p.fr).cell 1
  have c2 : ∀ p : FrBy W0, p.w.cell? ⟨w.heap.size + 1, 2, none⟩ = some (.int .i64 a.k) := fun p => (B1.kept0 p.fr).cell 2
  have c3 : ∀ p : FrBy W0, p.w.cell? ⟨w.heap.size + 1, 3, none⟩ = some (.bool a.sure) := fun p => (B1.kept0 p.fr).cell 3
  have c4 : ∀ p : FrBy W0, p.w.cell? ⟨w.heap.size + 1, 4, none⟩ = some (.slice a.lA a.ln a.lc) := fun p => (B1.kept0 p.fr).cell 4
  have c5 : ∀ p : FrBy W0, p.w.cell? ⟨w.heap.size + 1, 5, none⟩ = some (.slice a.gA a.gn a.gc) := fun p => (B1.kept0 p.fr).cell 5
  have c6 : ∀ p : FrBy W0, p.w.cell? ⟨w.heap.size + 1, 6, none⟩ = some (.slice a.sA a.sn a.sc) := fun p => (B1.kept0 p.fr).cell 6
  have c7 : ∀ p : FrBy W0, p.w.cell? ⟨w.heap.size + 1, 7, none⟩ = some (.int .i64 a.mq) := fun p => (B1.kept0 p.fr).cell 7
  have c8 : ∀ p : FrBy W0, p.w.cell? ⟨w.heap.size + 1, 8, none⟩ = some (.slice a.oA a.on a.oc) := fun p => (B1.kept0 p.fr).cell 8
  have c9 : ∀ p : FrBy W0, p.w.cell? ⟨w.heap.size + 1, 9, none⟩ = some (.int .i64 a.r1) := fun p => (B1.kept0 p.fr).cell 9
  have c10 : ∀ p : FrBy W0, p.w.cell? ⟨w.heap.size + 1, 10, none⟩ = some (.int .i64 a.r2) := fun p => (B1.kept0 p.fr).cell 10
  have c11 : ∀ p : FrBy W0, p.w.cell? ⟨w.heap.size + 1, 11, none⟩ = some (.int .i64 a.r3) := fun p => (B1.kept0 p.fr).cell 11
  have c12 : ∀ p : FrBy W0, p.w.cell? ⟨w.heap.size + 1, 12, none⟩ = some (.int .i64 a.tu) := fun p => (B1.kept0 p.fr).cell 12
  have c13 : ∀ p : FrBy W0, p.w.cell? ⟨w.heap.size + 1, 13, none⟩ = some (.int .u64 a.gen) := fun p => (B1.kept0 p.fr).cell 13
  have c14 : ∀ p : FrBy W0, p.w.cell? ⟨w.heap.size + 1, 14, none⟩ = some (.slice a.hA a.hn a.hc) := fun p => (B1.kept0 p.fr).cell 14
  have e0 : ∀ p : FrBy W0, p.w.cell? ⟨w.heap.size + 1 + 1, 0, none⟩ = some (.int .i64 a.r1) := fun p => (B2.kept0 p.fr).cell 0
  have e1 : ∀ p : FrBy W0, p.w.cell? ⟨w.heap.size + 1 + 1, 1, none⟩ = some (.int .i64 a.r2) := fun p => (B2.kept0 p.fr).cell 1
  have e2 : ∀ p : FrBy W0, p.w.cell? ⟨w.heap.size + 1 + 1, 2, none⟩ = some (.int .i64 a.r3) := fun p => (B2.kept0 p.fr).cell 2
  have Cwrite : Hid (∀ W', Fr no W0 W' → Calls Tryz.prog 138 #[.agg #[.int .u64 s.q, .slice s.P s.np s.cp, .slice s.R s.nr s.cr, .slice s.L s.nl s.cl, .slice s.G s.ng s.cg, .slice s.O s.no s.co], .agg #[.int .i64 a.t, .int .u64 a.n, .int .i64 a.k, .bool a.sure, .slice a.lA a.ln a.lc, .slice a.gA a.gn a.gc, .slice a.sA a.sn a.sc, .int .i64 a.mq, .slice a.oA a.on a.oc, .int .i64 a.r1, .int .i64 a.r2, .int .i64 a.r3, .int .i64 a.tu, .int .u64 a.gen, .slice a.hA a.hn a.hc]] W' fun e w'' => ∃ A1 n1 c1 A2 n2 c2, ∃ q : FrBy W0, e = .returned (.tuple #[.int .i64 (writeD d a l).1, .slice A1 n1 c1, .slice A2 n2 c2]) ∧ w'' = q.w ∧ WriteR w.heap.size q.w A1 n1 c1 A2 n2 c2 (writeD d a l).2) := hide (fun W' F' => (write_c s d a l W' (HS.out _ (F0.trans F')) (HA.out _ (F0.trans F'))).mono (by
    rintro e w'' ⟨A1, n1, c1, A2, n2, c2, he, h1, h2⟩
    exact ⟨A1, n1, c1, A2, n2, c2, ⟨w'', F'.trans h2⟩, he, rfl, h1.down (F0.trans F').size⟩))
  have Cfree : Hid (∀ W', Fr no W0 W' → Calls Tryz.prog 85 #[.agg #[.int .u64 s.q, .slice s.P s.np s.cp, .slice s.R s.nr s.cr, .slice s.L s.nl s.cl, .slice s.G s.ng s.cg, .slice s.O s.no s.co]] W' fun e w'' => ∃ Ba, ∃ q : FrBy W0, e = .returned (.func (.func 148) #[] #[.pointer (some ⟨Ba, 0, none⟩)]) ∧ w'' = q.w ∧ Blk q.w Ba 77 #[.int .u64 s.q, .slice s.P s.np s.cp, .slice s.R s.nr s.cr, .slice s.L s.nl s.cl, .slice s.G s.ng s.cg, .slice s.O s.no s.co] ∧ Fr no W' q.w) := hide (fun W' F' => (free_c s W').mono (by
    rintro e w'' ⟨he, rfl⟩
    exact ⟨W'.heap.size, ⟨_, F'.alloc _⟩, he, rfl, Blk.new W' _ _, (Fr.refl _ _).alloc _⟩))
  have Cheld : Hid (∀ W' t, Fr no W0 W' → Calls Tryz.prog 86 #[.agg #[.int .u64 s.q, .slice s.P s.np s.cp, .slice s.R s.nr s.cr, .slice s.L s.nl s.cl, .slice s.G s.ng s.cg, .slice s.O s.no s.co], .int .i64 t] W' fun e w'' => ∃ Bs Bt, ∃ q : FrBy W0, e = .returned (.func (.func 149) #[] #[.pointer (some ⟨Bs, 0, none⟩), .pointer (some ⟨Bt, 0, none⟩)]) ∧ w'' = q.w ∧ Blk q.w Bs 77 #[.int .u64 s.q, .slice s.P s.np s.cp, .slice s.R s.nr s.cr, .slice s.L s.nl s.cl, .slice s.G s.ng s.cg, .slice s.O s.no s.co] ∧ Blk q.w Bt 3 #[.int .i64 t] ∧ Fr no W' q.w) := hide (fun W' t F' => (held_c s t W').mono (by
    rintro e w'' ⟨he, rfl⟩
    exact ⟨W'.heap.size, W'.heap.size + 1, ⟨_, (F'.alloc _).alloc _⟩, he, rfl, (Blk.new W' _ _).alloc _, blk_at _ _ _ _ (by simp), ((Fr.refl _ _).alloc _).alloc _⟩))
  obtain ⟨fr, hfr⟩ : ∃ v, v = freeD d.ps a.r1 a.r2 := ⟨_, rfl⟩
  have Cfree1 : Hid (∀ W' Ba, Blk W' Ba 77 #[.int .u64 s.q, .slice s.P s.np s.cp, .slice s.R s.nr s.cr, .slice s.L s.nl s.cl, .slice s.G s.ng s.cg, .slice s.O s.no s.co] → Fr no W0 W' → Calls Tryz.prog 148 #[.agg #[.int .i64 a.r1, .int .i64 a.r2, .int .i64 a.r3], .pointer (some ⟨Ba, 0, none⟩)] W' fun e w'' => e = .returned (.int .i64 fr) ∧ ∃ q : FrBy W0, w'' = q.w ∧ Fr no W' q.w) := hide (fun W' Ba hB F' => by
    rw [hfr]
    exact calls_fr3 F' (free1_c s d.ps (HS.out _ (F0.trans F')).np Ba a.r1 a.r2 a.r3 W' hB (HS.out _ (F0.trans F')).pools))
  obtain ⟨hd, hhd⟩ : ∃ f : Int → Int, f = fun t => heldD d.ps t a.r1 a.r2 := ⟨_, rfl⟩
  have Cheld1 : Hid (∀ W' Bs Bt t, Blk W' Bs 77 #[.int .u64 s.q, .slice s.P s.np s.cp, .slice s.R s.nr s.cr, .slice s.L s.nl s.cl, .slice s.G s.ng s.cg, .slice s.O s.no s.co] → Blk W' Bt 3 #[.int .i64 t] → Fr no W0 W' → Calls Tryz.prog 149 #[.agg #[.int .i64 a.r1, .int .i64 a.r2, .int .i64 a.r3], .pointer (some ⟨Bs, 0, none⟩), .pointer (some ⟨Bt, 0, none⟩)] W' fun e w'' => e = .returned (.int .i64 (hd t)) ∧ ∃ q : FrBy W0, w'' = q.w ∧ Fr no W' q.w) := hide (fun W' Bs Bt t hB hT F' => by
    rw [hhd]
    exact calls_fr3 F' (held1_c s d.ps (HS.out _ (F0.trans F')).np Bs Bt t a.r1 a.r2 a.r3 W' hB hT (HS.out _ (F0.trans F')).pools))
  obtain ⟨tt, htt⟩ : ∃ tt, tt = a.t := ⟨_, rfl⟩
  obtain ⟨en, hen⟩ : ∃ v, v = l.rs.all fun r => decide (r.2.2 ≤ heldD d.ps tt r.1 r.2.1) := ⟨_, rfl⟩
  have Cenough : Hid (∀ W' Bs Bt, Blk W' Bs 77 #[.int .u64 s.q, .slice s.P s.np s.cp, .slice s.R s.nr s.cr, .slice s.L s.nl s.cl, .slice s.G s.ng s.cg, .slice s.O s.no s.co] → Blk W' Bt 3 #[.int .i64 tt] → Fr no W0 W' → Calls Tryz.prog 84 #[.slice a.hA a.hn a.hc, .func (.func 149) #[] #[.pointer (some ⟨Bs, 0, none⟩), .pointer (some ⟨Bt, 0, none⟩)]] W' fun e w'' => e = .returned (.bool en) ∧ ∃ q : FrBy W0, w'' = q.w ∧ Fr no W' q.w) := hide (fun W' Bs Bt hB hT F' => by
    rw [hen, (HA.out _ (F0.trans F')).hn]
    exact calls_fr3 F' (enoughH_c s d.ps (HS.out _ (F0.trans F')).np Bs Bt tt a.hA a.hc l.rs W' hB hT (HS.out _ (F0.trans F')).pools (HA.out _ (F0.trans F')).rights))
  have Cdone : Hid (∀ (b : Bool) (p : FrBy W0), Calls Tryz.prog 139 #[.bool b] p.w fun e w'' => e = .returned (.int .i64 (doneD b)) ∧ ∃ q : FrBy W0, w'' = q.w) := hide (fun b p => (done_c2 b p.w).mono (by rintro e w'' ⟨he, rfl⟩; exact ⟨he, p, rfl⟩))
  have HR := hide (show judgeD d a l = if a.k = 1 then ((writeD d a l).1, (writeD d a l).2, 0) else
    if a.k = 2 then (4, ([], []), askN a.r3 fr (hd tt)) else
    if a.k = 3 then (doneD (decide (a.r3 ≤ hd tt)), ([], []), 0) else
    if a.k = 4 then (doneD (decide (a.r3 ≤ hd tt) && decide (hd a.tu ≤ IntKind.i64.wrap (18014398509481984 - a.r3))), ([], []), 0) else
    (doneD (owesD d tt a.gen && en), ([], []), 0) by rw [hen, htt, hfr, hhd]; rfl)
  have HF0 := hide F0
  obtain ⟨p0, hp0⟩ : ∃ p : FrBy W0, p.w = W0 := ⟨⟨W0, Fr.refl _ _⟩, rfl⟩
  rw [hW0, ← hp0]
  obtain ⟨p, hp⟩ : ∃ p : FrBy W0, p.w = p0.w := ⟨p0, rfl⟩
  rw [← hp]
  rw [← htt] at c0 Cwrite
  have HK : Hid (∀ W', Fr no W0 W' → W'.cell? ⟨w.heap.size, 0, none⟩ = some (.int .u64 s.q) ∧ W'.cell? ⟨w.heap.size, 1, none⟩ = some (.slice s.P s.np s.cp) ∧ W'.cell? ⟨w.heap.size, 2, none⟩ = some (.slice s.R s.nr s.cr) ∧ W'.cell? ⟨w.heap.size, 3, none⟩ = some (.slice s.L s.nl s.cl) ∧ W'.cell? ⟨w.heap.size, 4, none⟩ = some (.slice s.G s.ng s.cg) ∧ W'.cell? ⟨w.heap.size, 5, none⟩ = some (.slice s.O s.no s.co) ∧ W'.cell? ⟨w.heap.size + 1, 0, none⟩ = some (.int .i64 tt) ∧ W'.cell? ⟨w.heap.size + 1, 12, none⟩ = some (.int .i64 a.tu) ∧ W'.cell? ⟨w.heap.size + 1, 14, none⟩ = some (.slice a.hA a.hn a.hc) ∧ W'.cell? ⟨w.heap.size + 1 + 1, 0, none⟩ = some (.int .i64 a.r1) ∧ W'.cell? ⟨w.heap.size + 1 + 1, 1, none⟩ = some (.int .i64 a.r2) ∧ W'.cell? ⟨w.heap.size + 1 + 1, 2, none⟩ = some (.int .i64 a.r3) ∧ Fr no W0 W') := hide (fun W' F' => ⟨b0 ⟨W', F'⟩, b1 ⟨W', F'⟩, b2 ⟨W', F'⟩, b3 ⟨W', F'⟩, b4 ⟨W', F'⟩, b5 ⟨W', F'⟩, c0 ⟨W', F'⟩, c12 ⟨W', F'⟩, c14 ⟨W', F'⟩, e0 ⟨W', F'⟩, e1 ⟨W', F'⟩, e2 ⟨W', F'⟩, F'⟩)
  obtain ⟨kk, hkk⟩ : ∃ kk, kk = a.k := ⟨_, rfl⟩
  rw [← hkk] at HR Cwrite c2
  have HF00 := hide F0
  have k1 : kk = 1 := hkk.trans H1.out
  clear B0 B1 B2 F0 hW0 hp0 hp p0 hfr hhd hen htt hkk H1
  subst k1
  have HE : Hid (judgeD d a l = ((writeD d a l).1, (writeD d a l).2, 0)) := hide (by rw [HR.out]; simp)
  clear HR
  obtain ⟨wo, hwo⟩ : ∃ wo, wo = writeD d a l := ⟨_, rfl⟩
  rw [← hwo] at HE Cwrite
  clear hwo
  go_wp2_with (go_at_call 138; refine (Cwrite.out _ (FrBy.fr _)).mono ?_; rintro e w1 ⟨A1, n1, c1, A2, n2, c2, p, rfl, rfl, hs1⟩; have HS1 := hide hs1; clear hs1)
  ((try simp only [Exit.inBlock, Exit.then]); refine bodyPost_ret (results_tmp4 rfl _ _ _) rfl ?_)
  rw [HE.out]
  exact ⟨A1, n1, c1, A2, n2, c2, rfl, HS1.out, HF0.out.trans p.fr⟩
end Go.Proofs.YtmnajpkmglmipaaGreat

/- Contract of rule.Judge, at kind 2. -/
namespace Go.Proofs.YtmnajpkmglmipaaGreat
open Go.RowKit Go.Shelf Go.Maps

set_option maxRecDepth 100000 in
set_option maxHeartbeats 40000000 in
theorem Judge_2 (s : StV) (d : StL) (a : ActV) (l : ActL) (w : World) (hs : StOk w s d) (ha : ActOk w a l) (h1 : ¬ a.k = 1) (h2 : a.k = 2) :
    Calls Tryz.prog 71 #[.agg #[.int .u64 s.q, .slice s.P s.np s.cp, .slice s.R s.nr s.cr, .slice s.L s.nl s.cl, .slice s.G s.ng s.cg, .slice s.O s.no s.co], .agg #[.int .i64 a.t, .int .u64 a.n, .int .i64 a.k, .bool a.sure, .slice a.lA a.ln a.lc, .slice a.gA a.gn a.gc, .slice a.sA a.sn a.sc, .int .i64 a.mq, .slice a.oA a.on a.oc, .int .i64 a.r1, .int .i64 a.r2, .int .i64 a.r3, .int .i64 a.tu, .int .u64 a.gen, .slice a.hA a.hn a.hc]] w fun e w' => ∃ A1 n1 c1 A2 n2 c2, e = .returned (.tuple #[.int .i64 (judgeD d a l).1, .slice A1 n1 c1, .slice A2 n2 c2, .int .i64 (judgeD d a l).2.2]) ∧ WriteR w.heap.size w' A1 n1 c1 A2 n2 c2 (judgeD d a l).2.1 ∧ Fr no w w' := by
  have H1 := hide h1
  clear h1
  have H2 := hide h2
  clear h2
  have HS : Hid (∀ W, Fr no w W → StOk W s d) := hide (fun W F => hs.keep F)
  have HA : Hid (∀ W, Fr no w W → ActOk W a l) := hide (fun W F => ha.keep F)
  clear hs ha
  go_enter Tryz.func71, Tryz.ntmps71
  go_upto_region 2 with fail
  obtain ⟨W0, hW0⟩ : ∃ W0, (((w.alloc (.cells #[.int .u64 s.q, .slice s.P s.np s.cp, .slice s.R s.nr s.cr, .slice s.L s.nl s.cl, .slice s.G s.ng s.cg, .slice s.O s.no s.co] 77)).alloc (.cells #[.int .i64 a.t, .int .u64 a.n, .int .i64 a.k, .bool a.sure, .slice a.lA a.ln a.lc, .slice a.gA a.gn a.gc, .slice a.sA a.sn a.sc, .int .i64 a.mq, .slice a.oA a.on a.oc, .int .i64 a.r1, .int .i64 a.r2, .int .i64 a.r3, .int .i64 a.tu, .int .u64 a.gen, .slice a.hA a.hn a.hc] 88)).alloc (.cells #[.int .i64 a.r1, .int .i64 a.r2, .int .i64 a.r3] 86)) = W0 := ⟨_, rfl⟩
  have F0 : Fr no w W0 := by rw [← hW0]; exact (((Fr.refl no w).alloc _).alloc _).alloc _
  have B0 : Blk W0 w.heap.size 77 #[.int .u64 s.q, .slice s.P s.np s.cp, .slice s.R s.nr s.cr, .slice s.L s.nl s.cl, .slice s.G s.ng s.cg, .slice s.O s.no s.co] := by rw [← hW0]; exact ((Blk.new w _ _).alloc _).alloc _
  have B1 : Blk W0 (w.heap.size + 1) 88 #[.int .i64 a.t, .int .u64 a.n, .int .i64 a.k, .bool a.sure, .slice a.lA a.ln a.lc, .slice a.gA a.gn a.gc, .slice a.sA a.sn a.sc, .int .i64 a.mq, .slice a.oA a.on a.oc, .int .i64 a.r1, .int .i64 a.r2, .int .i64 a.r3, .int .i64 a.tu, .int .u64 a.gen, .slice a.hA a.hn a.hc] := by rw [← hW0]; exact (blk_at _ _ _ _ (by simp)).alloc _
  have B2 : Blk W0 (w.heap.size + 1 + 1) 86 #[.int .i64 a.r1, .int .i64 a.r2, .int .i64 a.r3] := by rw [← hW0]; exact blk_at _ _ _ _ (by simp)
  have b0 : ∀ p : FrBy W0, p.w.cell? ⟨w.heap.size, 0, none⟩ = some (.int .u64 s.q) := fun p => (B0.kept0 p.fr).cell 0
  have b1 : ∀ p : FrBy W0, p.w.cell? ⟨w.heap.size, 1, none⟩ = some (.slice s.P s.np s.cp) := fun p => (B0.kept0 p.fr).cell 1
  have b2 : ∀ p : FrBy W0, p.w.cell? ⟨w.heap.size, 2, none⟩ = some (.slice s.R s.nr s.cr) := fun p => (B0.kept0 p.fr).cell 2
  have b3 : ∀ p : FrBy W0, p.w.cell? ⟨w.heap.size, 3, none⟩ = some (.slice s.L s.nl s.cl) := fun p => (B0.kept0 p.fr).cell 3
  have b4 : ∀ p : FrBy W0, p.w.cell? ⟨w.heap.size, 4, none⟩ = some (.slice s.G s.ng s.cg) := fun p => (B0.kept0 p.fr).cell 4
  have b5 : ∀ p : FrBy W0, p.w.cell? ⟨w.heap.size, 5, none⟩ = some (.slice s.O s.no s.co) := fun p => (B0.kept0 p.fr).cell 5
  have c0 : ∀ p : FrBy W0, p.w.cell? ⟨w.heap.size + 1, 0, none⟩ = some (.int .i64 a.t) := fun p => (B1.kept0 p.fr).cell 0
  have c1 : ∀ p : FrBy W0, p.w.cell? ⟨w.heap.size + 1, 1, none⟩ = some (.int .u64 a.n) := fun p => (B1.kept0 p.fr).cell 1
  have c2 : ∀ p : FrBy W0, p.w.cell? ⟨w.heap.size + 1, 2, none⟩ = some (.int .i64 a.k) := fun p => (B1.kept0 p.fr).cell 2
  have c3 : ∀ p : FrBy W0, p.w.cell? ⟨w.heap.size + 1, 3, none⟩ = some (.bool a.sure) := fun p => (B1.kept0 p.fr).cell 3
  have c4 : ∀ p : FrBy W0, p.w.cell? ⟨w.heap.size + 1, 4, none⟩ = some (.slice a.lA a.ln a.lc) := fun p => (B1.kept0 p.fr).cell 4
  have c5 : ∀ p : FrBy W0, p.w.cell? ⟨w.heap.size + 1, 5, none⟩ = some (.slice a.gA a.gn a.gc) := fun p => (B1.kept0 p.fr).cell 5
  have c6 : ∀ p : FrBy W0, p.w.cell? ⟨w.heap.size + 1, 6, none⟩ = some (.slice a.sA a.sn a.sc) := fun p => (B1.kept0 p.fr).cell 6
  have c7 : ∀ p : FrBy W0, p.w.cell? ⟨w.heap.size + 1, 7, none⟩ = some (.int .i64 a.mq) := fun p => (B1.kept0 p.fr).cell 7
  have c8 : ∀ p : FrBy W0, p.w.cell? ⟨w.heap.size + 1, 8, none⟩ = some (.slice a.oA a.on a.oc) := fun p => (B1.kept0 p.fr).cell 8
  have c9 : ∀ p : FrBy W0, p.w.cell? ⟨w.heap.size + 1, 9, none⟩ = some (.int .i64 a.r1) := fun p => (B1.kept0 p.fr).cell 9
  have c10 : ∀ p : FrBy W0, p.w.cell? ⟨w.heap.size + 1, 10, none⟩ = some (.int .i64 a.r2) := fun p => (B1.kept0 p.fr).cell 10
  have c11 : ∀ p : FrBy W0, p.w.cell? ⟨w.heap.size + 1, 11, none⟩ = some (.int .i64 a.r3) := fun p => (B1.kept0 p.fr).cell 11
  have c12 : ∀ p : FrBy W0, p.w.cell? ⟨w.heap.size + 1, 12, none⟩ = some (.int .i64 a.tu) := fun p => (B1.kept0 p.fr).cell 12
  have c13 : ∀ p : FrBy W0, p.w.cell? ⟨w.heap.size + 1, 13, none⟩ = some (.int .u64 a.gen) := fun p => (B1.kept0 p.fr).cell 13
  have c14 : ∀ p : FrBy W0, p.w.cell? ⟨w.heap.size + 1, 14, none⟩ = some (.slice a.hA a.hn a.hc) := fun p => (B1.kept0 p.fr).cell 14
  have e0 : ∀ p : FrBy W0, p.w.cell? ⟨w.heap.size + 1 + 1, 0, none⟩ = some (.int .i64 a.r1) := fun p => (B2.kept0 p.fr).cell 0
  have e1 : ∀ p : FrBy W0, p.w.cell? ⟨w.heap.size + 1 + 1, 1, none⟩ = some (.int .i64 a.r2) := fun p => (B2.kept0 p.fr).cell 1
  have e2 : ∀ p : FrBy W0, p.w.cell? ⟨w.heap.size + 1 + 1, 2, none⟩ = some (.int .i64 a.r3) := fun p => (B2.kept0 p.fr).cell 2
  have Cwrite : Hid (∀ W', Fr no W0 W' → Calls Tryz.prog 138 #[.agg #[.int .u64 s.q, .slice s.P s.np s.cp, .slice s.R s.nr s.cr, .slice s.L s.nl s.cl, .slice s.G s.ng s.cg, .slice s.O s.no s.co], .agg #[.int .i64 a.t, .int .u64 a.n, .int .i64 a.k, .bool a.sure, .slice a.lA a.ln a.lc, .slice a.gA a.gn a.gc, .slice a.sA a.sn a.sc, .int .i64 a.mq, .slice a.oA a.on a.oc, .int .i64 a.r1, .int .i64 a.r2, .int .i64 a.r3, .int .i64 a.tu, .int .u64 a.gen, .slice a.hA a.hn a.hc]] W' fun e w'' => ∃ A1 n1 c1 A2 n2 c2, ∃ q : FrBy W0, e = .returned (.tuple #[.int .i64 (writeD d a l).1, .slice A1 n1 c1, .slice A2 n2 c2]) ∧ w'' = q.w ∧ WriteR w.heap.size q.w A1 n1 c1 A2 n2 c2 (writeD d a l).2) := hide (fun W' F' => (write_c s d a l W' (HS.out _ (F0.trans F')) (HA.out _ (F0.trans F'))).mono (by
    rintro e w'' ⟨A1, n1, c1, A2, n2, c2, he, h1, h2⟩
    exact ⟨A1, n1, c1, A2, n2, c2, ⟨w'', F'.trans h2⟩, he, rfl, h1.down (F0.trans F').size⟩))
  have Cfree : Hid (∀ W', Fr no W0 W' → Calls Tryz.prog 85 #[.agg #[.int .u64 s.q, .slice s.P s.np s.cp, .slice s.R s.nr s.cr, .slice s.L s.nl s.cl, .slice s.G s.ng s.cg, .slice s.O s.no s.co]] W' fun e w'' => ∃ Ba, ∃ q : FrBy W0, e = .returned (.func (.func 148) #[] #[.pointer (some ⟨Ba, 0, none⟩)]) ∧ w'' = q.w ∧ Blk q.w Ba 77 #[.int .u64 s.q, .slice s.P s.np s.cp, .slice s.R s.nr s.cr, .slice s.L s.nl s.cl, .slice s.G s.ng s.cg, .slice s.O s.no s.co] ∧ Fr no W' q.w) := hide (fun W' F' => (free_c s W').mono (by
    rintro e w'' ⟨he, rfl⟩
    exact ⟨W'.heap.size, ⟨_, F'.alloc _⟩, he, rfl, Blk.new W' _ _, (Fr.refl _ _).alloc _⟩))
  have Cheld : Hid (∀ W' t, Fr no W0 W' → Calls Tryz.prog 86 #[.agg #[.int .u64 s.q, .slice s.P s.np s.cp, .slice s.R s.nr s.cr, .slice s.L s.nl s.cl, .slice s.G s.ng s.cg, .slice s.O s.no s.co], .int .i64 t] W' fun e w'' => ∃ Bs Bt, ∃ q : FrBy W0, e = .returned (.func (.func 149) #[] #[.pointer (some ⟨Bs, 0, none⟩), .pointer (some ⟨Bt, 0, none⟩)]) ∧ w'' = q.w ∧ Blk q.w Bs 77 #[.int .u64 s.q, .slice s.P s.np s.cp, .slice s.R s.nr s.cr, .slice s.L s.nl s.cl, .slice s.G s.ng s.cg, .slice s.O s.no s.co] ∧ Blk q.w Bt 3 #[.int .i64 t] ∧ Fr no W' q.w) := hide (fun W' t F' => (held_c s t W').mono (by
    rintro e w'' ⟨he, rfl⟩
    exact ⟨W'.heap.size, W'.heap.size + 1, ⟨_, (F'.alloc _).alloc _⟩, he, rfl, (Blk.new W' _ _).alloc _, blk_at _ _ _ _ (by simp), ((Fr.refl _ _).alloc _).alloc _⟩))
  obtain ⟨fr, hfr⟩ : ∃ v, v = freeD d.ps a.r1 a.r2 := ⟨_, rfl⟩
  have Cfree1 : Hid (∀ W' Ba, Blk W' Ba 77 #[.int .u64 s.q, .slice s.P s.np s.cp, .slice s.R s.nr s.cr, .slice s.L s.nl s.cl, .slice s.G s.ng s.cg, .slice s.O s.no s.co] → Fr no W0 W' → Calls Tryz.prog 148 #[.agg #[.int .i64 a.r1, .int .i64 a.r2, .int .i64 a.r3], .pointer (some ⟨Ba, 0, none⟩)] W' fun e w'' => e = .returned (.int .i64 fr) ∧ ∃ q : FrBy W0, w'' = q.w ∧ Fr no W' q.w) := hide (fun W' Ba hB F' => by
    rw [hfr]
    exact calls_fr3 F' (free1_c s d.ps (HS.out _ (F0.trans F')).np Ba a.r1 a.r2 a.r3 W' hB (HS.out _ (F0.trans F')).pools))
  obtain ⟨hd, hhd⟩ : ∃ f : Int → Int, f = fun t => heldD d.ps t a.r1 a.r2 := ⟨_, rfl⟩
  have Cheld1 : Hid (∀ W' Bs Bt t, Blk W' Bs 77 #[.int .u64 s.q, .slice s.P s.np s.cp, .slice s.R s.nr s.cr, .slice s.L s.nl s.cl, .slice s.G s.ng s.cg, .slice s.O s.no s.co] → Blk W' Bt 3 #[.int .i64 t] → Fr no W0 W' → Calls Tryz.prog 149 #[.agg #[.int .i64 a.r1, .int .i64 a.r2, .int .i64 a.r3], .pointer (some ⟨Bs, 0, none⟩), .pointer (some ⟨Bt, 0, none⟩)] W' fun e w'' => e = .returned (.int .i64 (hd t)) ∧ ∃ q : FrBy W0, w'' = q.w ∧ Fr no W' q.w) := hide (fun W' Bs Bt t hB hT F' => by
    rw [hhd]
    exact calls_fr3 F' (held1_c s d.ps (HS.out _ (F0.trans F')).np Bs Bt t a.r1 a.r2 a.r3 W' hB hT (HS.out _ (F0.trans F')).pools))
  obtain ⟨tt, htt⟩ : ∃ tt, tt = a.t := ⟨_, rfl⟩
  obtain ⟨en, hen⟩ : ∃ v, v = l.rs.all fun r => decide (r.2.2 ≤ heldD d.ps tt r.1 r.2.1) := ⟨_, rfl⟩
  have Cenough : Hid (∀ W' Bs Bt, Blk W' Bs 77 #[.int .u64 s.q, .slice s.P s.np s.cp, .slice s.R s.nr s.cr, .slice s.L s.nl s.cl, .slice s.G s.ng s.cg, .slice s.O s.no s.co] → Blk W' Bt 3 #[.int .i64 tt] → Fr no W0 W' → Calls Tryz.prog 84 #[.slice a.hA a.hn a.hc, .func (.func 149) #[] #[.pointer (some ⟨Bs, 0, none⟩), .pointer (some ⟨Bt, 0, none⟩)]] W' fun e w'' => e = .returned (.bool en) ∧ ∃ q : FrBy W0, w'' = q.w ∧ Fr no W' q.w) := hide (fun W' Bs Bt hB hT F' => by
    rw [hen, (HA.out _ (F0.trans F')).hn]
    exact calls_fr3 F' (enoughH_c s d.ps (HS.out _ (F0.trans F')).np Bs Bt tt a.hA a.hc l.rs W' hB hT (HS.out _ (F0.trans F')).pools (HA.out _ (F0.trans F')).rights))
  have Cdone : Hid (∀ (b : Bool) (p : FrBy W0), Calls Tryz.prog 139 #[.bool b] p.w fun e w'' => e = .returned (.int .i64 (doneD b)) ∧ ∃ q : FrBy W0, w'' = q.w) := hide (fun b p => (done_c2 b p.w).mono (by rintro e w'' ⟨he, rfl⟩; exact ⟨he, p, rfl⟩))
  have HR := hide (show judgeD d a l = if a.k = 1 then ((writeD d a l).1, (writeD d a l).2, 0) else
    if a.k = 2 then (4, ([], []), askN a.r3 fr (hd tt)) else
    if a.k = 3 then (doneD (decide (a.r3 ≤ hd tt)), ([], []), 0) else
    if a.k = 4 then (doneD (decide (a.r3 ≤ hd tt) && decide (hd a.tu ≤ IntKind.i64.wrap (18014398509481984 - a.r3))), ([], []), 0) else
    (doneD (owesD d tt a.gen && en), ([], []), 0) by rw [hen, htt, hfr, hhd]; rfl)
  have HF0 := hide F0
  obtain ⟨p0, hp0⟩ : ∃ p : FrBy W0, p.w = W0 := ⟨⟨W0, Fr.refl _ _⟩, rfl⟩
  rw [hW0, ← hp0]
  obtain ⟨p, hp⟩ : ∃ p : FrBy W0, p.w = p0.w := ⟨p0, rfl⟩
  rw [← hp]
  rw [← htt] at c0 Cwrite
  have HK : Hid (∀ W', Fr no W0 W' → W'.cell? ⟨w.heap.size, 0, none⟩ = some (.int .u64 s.q) ∧ W'.cell? ⟨w.heap.size, 1, none⟩ = some (.slice s.P s.np s.cp) ∧ W'.cell? ⟨w.heap.size, 2, none⟩ = some (.slice s.R s.nr s.cr) ∧ W'.cell? ⟨w.heap.size, 3, none⟩ = some (.slice s.L s.nl s.cl) ∧ W'.cell? ⟨w.heap.size, 4, none⟩ = some (.slice s.G s.ng s.cg) ∧ W'.cell? ⟨w.heap.size, 5, none⟩ = some (.slice s.O s.no s.co) ∧ W'.cell? ⟨w.heap.size + 1, 0, none⟩ = some (.int .i64 tt) ∧ W'.cell? ⟨w.heap.size + 1, 12, none⟩ = some (.int .i64 a.tu) ∧ W'.cell? ⟨w.heap.size + 1, 14, none⟩ = some (.slice a.hA a.hn a.hc) ∧ W'.cell? ⟨w.heap.size + 1 + 1, 0, none⟩ = some (.int .i64 a.r1) ∧ W'.cell? ⟨w.heap.size + 1 + 1, 1, none⟩ = some (.int .i64 a.r2) ∧ W'.cell? ⟨w.heap.size + 1 + 1, 2, none⟩ = some (.int .i64 a.r3) ∧ Fr no W0 W') := hide (fun W' F' => ⟨b0 ⟨W', F'⟩, b1 ⟨W', F'⟩, b2 ⟨W', F'⟩, b3 ⟨W', F'⟩, b4 ⟨W', F'⟩, b5 ⟨W', F'⟩, c0 ⟨W', F'⟩, c12 ⟨W', F'⟩, c14 ⟨W', F'⟩, e0 ⟨W', F'⟩, e1 ⟨W', F'⟩, e2 ⟨W', F'⟩, F'⟩)
  obtain ⟨kk, hkk⟩ : ∃ kk, kk = a.k := ⟨_, rfl⟩
  rw [← hkk] at HR Cwrite c2
  have HF00 := hide F0
  have k1 : ¬ kk = 1 := fun e => H1.out (hkk.symm.trans e)
  have k2 : kk = 2 := hkk.trans H2.out
  clear B0 B1 B2 F0 hW0 hp0 hp p0 hfr hhd hen htt hkk H1 H2
  subst k2
  have HE : Hid (judgeD d a l = (4, ([], []), askN a.r3 fr (hd tt))) := hide (by rw [HR.out]; simp)
  clear HR k1
  go_wp2_with fail
  go_region_held3 (fun W' => W'.cell? ⟨w.heap.size, 0, none⟩ = some (.int .u64 s.q) ∧ W'.cell? ⟨w.heap.size, 1, none⟩ = some (.slice s.P s.np s.cp) ∧ W'.cell? ⟨w.heap.size, 2, none⟩ = some (.slice s.R s.nr s.cr) ∧ W'.cell? ⟨w.heap.size, 3, none⟩ = some (.slice s.L s.nl s.cl) ∧ W'.cell? ⟨w.heap.size, 4, none⟩ = some (.slice s.G s.ng s.cg) ∧ W'.cell? ⟨w.heap.size, 5, none⟩ = some (.slice s.O s.no s.co) ∧ W'.cell? ⟨w.heap.size + 1, 0, none⟩ = some (.int .i64 tt) ∧ W'.cell? ⟨w.heap.size + 1, 12, none⟩ = some (.int .i64 a.tu) ∧ W'.cell? ⟨w.heap.size + 1, 14, none⟩ = some (.slice a.hA a.hn a.hc) ∧ W'.cell? ⟨w.heap.size + 1 + 1, 0, none⟩ = some (.int .i64 a.r1) ∧ W'.cell? ⟨w.heap.size + 1 + 1, 1, none⟩ = some (.int .i64 a.r2) ∧ W'.cell? ⟨w.heap.size + 1 + 1, 2, none⟩ = some (.int .i64 a.r3) ∧ Fr no W0 W') (first | exact HK.out _ (FrBy.fr _).drew | exact HK.out _ (FrBy.fr _)) (first | (go_at_call 85; refine (Cfree.out _ (by first | exact FrBy.fr _ | exact (FrBy.fr _).drew)).mono ?_; rintro e w1 ⟨Ba, p, rfl, rfl, hB1, FF⟩; (try (have tt9 := hide (HBa.out.kept0 FF); clear HBa; have HBa := tt9; clear tt9)); (try (have tt9 := hide (HBs.out.kept0 FF); clear HBs; have HBs := tt9; clear tt9)); (try (have tt9 := hide (HBt.out.kept0 FF); clear HBt; have HBt := tt9; clear tt9)); have HBa := hide hB1; clear hB1 FF; have F := p.fr) | (go_at_call 148; refine (Cfree1.out _ _ HBa.out (FrBy.fr _)).mono ?_; rintro e w1 ⟨rfl, p, rfl, FF⟩; (try (have tt9 := hide (HBa.out.kept0 FF); clear HBa; have HBa := tt9; clear tt9)); (try (have tt9 := hide (HBs.out.kept0 FF); clear HBs; have HBs := tt9; clear tt9)); (try (have tt9 := hide (HBt.out.kept0 FF); clear HBt; have HBt := tt9; clear tt9)); clear FF; have F := p.fr) | (go_at_call 86; refine (Cheld.out _ _ (by first | exact FrBy.fr _ | exact (FrBy.fr _).drew)).mono ?_; rintro e w1 ⟨Bs, Bt, p, rfl, rfl, hB1, hB2, FF⟩; (try (have tt9 := hide (HBa.out.kept0 FF); clear HBa; have HBa := tt9; clear tt9)); (try (have tt9 := hide (HBs.out.kept0 FF); clear HBs; have HBs := tt9; clear tt9)); (try (have tt9 := hide (HBt.out.kept0 FF); clear HBt; have HBt := tt9; clear tt9)); have HBs := hide hB1; have HBt := hide hB2; clear hB1 hB2 FF; have F := p.fr) | (go_at_call 149; refine (Cheld1.out _ _ _ _ HBs.out HBt.out (FrBy.fr _)).mono ?_; rintro e w1 ⟨rfl, p, rfl, FF⟩; (try (have tt9 := hide (HBa.out.kept0 FF); clear HBa; have HBa := tt9; clear tt9)); (try (have tt9 := hide (HBs.out.kept0 FF); clear HBs; have HBs := tt9; clear tt9)); (try (have tt9 := hide (HBt.out.kept0 FF); clear HBt; have HBt := tt9; clear tt9)); clear FF; have F := p.fr) | (go_at_call 84; refine (Cenough.out _ _ _ HBs.out HBt.out (FrBy.fr _)).mono ?_; rintro e w1 ⟨rfl, p, rfl, FF⟩; (try (have tt9 := hide (HBa.out.kept0 FF); clear HBa; have HBa := tt9; clear tt9)); (try (have tt9 := hide (HBs.out.kept0 FF); clear HBs; have HBs := tt9; clear tt9)); (try (have tt9 := hide (HBt.out.kept0 FF); clear HBt; have HBt := tt9; clear tt9)); clear FF; have F := p.fr) | (go_at_call 139; refine (done_c2 _ _).mono ?_; rintro e w1 ⟨rfl, rfl⟩))
  all_goals go_wp2_with fail
  all_goals
    ((try simp only [Exit.inBlock, Exit.then]); refine bodyPost_ret (results_tmp4 rfl _ _ _) rfl ?_)
    rw [HE.out]
    exact ⟨none, 0, 0, none, 0, 0, congrArg (fun z => Ending.returned (.tuple #[.int .i64 4, .slice none 0 0, .slice none 0 0, .int .i64 z])) (by dsimp only [askN]; generalize IntKind.i64.wrap (18014398509481984 - hd tt) = z at *; (repeat' split) <;> omega), ⟨rfl, rfl, om_none _ _ _ _, om_none _ _ _ _⟩, HF0.out.trans p.fr⟩
end Go.Proofs.YtmnajpkmglmipaaGreat
