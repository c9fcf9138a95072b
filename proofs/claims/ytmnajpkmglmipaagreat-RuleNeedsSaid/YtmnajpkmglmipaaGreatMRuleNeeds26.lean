/- RuleJ5 RuleJz RuleNeedsTop -/
import Derived.Test.YtmnajpkmglmipaaGreatMRuleNeeds20
import Derived.BigQuiet
import Derived.Test.YtmnajpkmglmipaaGreatMRuleNeeds23
import Derived.Test.YtmnajpkmglmipaaGreatMRuleNeeds24
import Derived.Test.YtmnajpkmglmipaaGreatMRuleNeeds25
import Derived.Test.YtmnajpkmglmipaaGreatMRuleNeeds22
/- Contract of rule.Judge, at kind 5 and others. -/
namespace Go.Proofs.YtmnajpkmglmipaaGreat
open Go.RowKit Go.Shelf Go.Maps

set_option maxRecDepth 100000 in
set_option maxHeartbeats 40000000 in
theorem Judge_5 (s : StV) (d : StL) (a : ActV) (l : ActL) (w : World) (hs : StOk w s d) (ha : ActOk w a l) (h1 : ¬ a.k = 1) (h2 : ¬ a.k = 2) (h3 : ¬ a.k = 3) (h4 : ¬ a.k = 4) :
    Calls Tryz.prog 71 #[.agg #[.int .u64 s.q, .slice s.P s.np s.cp, .slice s.R s.nr s.cr, .slice s.L s.nl s.cl, .slice s.G s.ng s.cg, .slice s.O s.no s.co], .agg #[.int .i64 a.t, .int .u64 a.n, .int .i64 a.k, .bool a.sure, .slice a.lA a.ln a.lc, .slice a.gA a.gn a.gc, .slice a.sA a.sn a.sc, .int .i64 a.mq, .slice a.oA a.on a.oc, .int .i64 a.r1, .int .i64 a.r2, .int .i64 a.r3, .int .i64 a.tu, .int .u64 a.gen, .slice a.hA a.hn a.hc]] w fun e w' => ∃ A1 n1 c1 A2 n2 c2, e = .returned (.tuple #[.int .i64 (judgeD d a l).1, .slice A1 n1 c1, .slice A2 n2 c2, .int .i64 (judgeD d a l).2.2]) ∧ WriteR w.heap.size w' A1 n1 c1 A2 n2 c2 (judgeD d a l).2.1 ∧ Fr no w w' := by
  have H1 := hide h1
  clear h1
  have H2 := hide h2
  clear h2
  have H3 := hide h3
  clear h3
  have H4 := hide h4
  clear h4
  have HS : Hid (∀ W, Fr no w W → StOk W s d) := hide (fun W F => hs.keep F)
  have HA : Hid (∀ W, Fr no w W → ActOk W a l) := hide (fun W F => ha.keep F)
  clear hs ha
  go_enter Tryz.func71, Tryz.ntmps71
  go_upto_region 2 with fail
  obtain ⟨W0, hW0⟩ : ∃ W0, (((w.alloc (.cells #[.int .u64 s.q, .slice s.P s.np s.cp, .slice s.R s.nr s.cr, .slice s.L s.nl s.cl, .slice s.G s.ng s.cg, .slice s.O s.no s.co] 77)).alloc (.cells #[.int .i64 a.t, .int .u64 a.n, .int .i64 a.k, .bool a.sure, .slice a.lA a.ln a.lc, .slice a.gA a.gn a.gc, .slice a.sA a.sn a.sc, .int .i64 a.mq, .slice a.oA a.on a.oc, .int .i64 a.r1, .int .i64 a.r2, .int .i64 a.r3, .int .i64 a.tu, .int .u64 a.gen, .slice a.hA a.hn a.hc] 88)).alloc (.cells #[.int .i64 a.r1, .int .i64 a.r2, .int .i64 a.r3] 86)) = W0 := ⟨_, rfl⟩
  have F0 : Fr no w W0 := by rw [← hW0]; exact (((Fr.refl no w).alloc _).alloc _).alloc _
  have B0 : Blk W0 w.heap.size 77 #[.int .u64 s.q, .slice s.P s.np s.cp, .slice s.R s.nr s.cr, .slice s.L s.nl s.cl, .slice s.G s.ng s.cg, .slice s.O s.no s.co] := by rw [← hW0]; exact ((Blk.new w _ _).alloc _).alloc _
  have B1 : Blk W0 (w.heap.size + 1) 88 #[.int .i64 a.t, .int .u64 a.n, .int .i64 a.k, .bool a.sure, .slice a.lA a.ln a.lc, .slice a.gA a.gn a.gc, .slice a.sA a.sn a.sc, .int .i64 a.mq, .slice a.oA a.on a.oc, .int .i64 a.r1, .int .i64 a.r2, .int .i64 a.r3, .int .i64 a.tu, .int .u64 a.gen, .slice a.hA a.hn a.hc] := by rw [← hW0]; exact (blk_at _ _ _ _ (by simp)).alloc _
  have B2 : Blk W0 (w.heap.size + 1 + 1) 86 #[.int .i64 a.r1, .int .i64 a.r2, .int .i64 a.r3] := by rw [← hW0]; exact blk_at _ _ _ _ (by simp)
  have b0 : ∀ p : FrBy W0, p.w.cell? ⟨w.heap.size, 0, none⟩ = some (.int .u64 s.q) := fun p => (B0.kept0 p.fr).cell 0
  have b1 : ∀ p : FrBy W0, p.w.cell? ⟨w.heap.size, 1, none⟩ = some (.slice s.P s.np s.cp) := fun p => (B0.kept0 p.fr).cell 1
  have b2 : ∀ p : FrBy W0, p.w.cell? ⟨w.heap.size, 2, none⟩ = some (.slice s.R s.nr s.cr) := fun p => (B0.kept0 p.fr).cell 2
  have b3 : ∀ p : FrBy W0, p.w.cell? ⟨w.heap.size, 3, none⟩ = some (.slice s.L s.nl s.cl) := fun p => (B0.kept0 p.fr).cell 3
  have b4 : ∀ p : FrBy W0, p.w.cell? ⟨w.heap.size, 4, none⟩ = some (.slice s.G s.ng s.cg) := fun p => (B0.kept0 p.fr).cell 4
  have b5 : ∀ p : FrBy W0, p.w.cell? ⟨w.heap.size, 5, none⟩ = some (.slice s.O s.no s.co) := fun p => (B0.kept0 p.fr).cell 5
  have c0 : ∀ p : FrBy W0, p.w.cell? ⟨w.heap.size + 1, 0, none⟩ = some (.int .i64 a.t) := fun p => (B1.kept0 p.fr).cell 0
  have c1 : ∀ p : FrBy W0, p.w.cell? ⟨w.heap.size + 1, 1, none⟩ = some (.int .u64 a.n) := fun p => (B1.kept0 p.fr).cell 1
  have c2 : ∀ p : FrBy W0, p.w.cell? ⟨w.heap.size + 1, 2, none⟩ = some (.int .i64 a.k) := fun p => (B1.kept0 p.fr).cell 2
  have c3 : ∀ p : FrBy W0, p.w.cell? ⟨w.heap.size + 1, 3, none⟩ = some (.bool a.sure) := fun p => (B1.kept0 p.fr).cell 3
  have c4 : ∀ p : FrBy W0, p.w.cell? ⟨w.heap.size + 1, 4, none⟩ = some (.slice a.lA a.ln a.lc) := fun p => (B1.kept0 p.fr).cell 4
  have c5 : ∀ p : FrBy W0, p.w.cell? ⟨w.heap.size + 1, 5, none⟩ = some (.slice a.gA a.gn a.gc) := fun p => (B1.kept0 p.fr).cell 5
  have c6 : ∀ p : FrBy W0, p.w.cell? ⟨w.heap.size + 1, 6, none⟩ = some (.slice a.sA a.sn a.sc) := fun p => (B1.kept0 p.fr).cell 6
  have c7 : ∀ p : FrBy W0, p.w.cell? ⟨w.heap.size + 1, 7, none⟩ = some (.int .i64 a.mq) := fun p => (B1.kept0 p.fr).cell 7
  have c8 : ∀ p : FrBy W0, p.w.cell? ⟨w.heap.size + 1, 8, none⟩ = some (.slice a.oA a.on a.oc) := fun p => (B1.kept0 p.fr).cell 8
  have c9 : ∀ p : FrBy W0, p.w.cell? ⟨w.heap.size + 1, 9, none⟩ = some (.int .i64 a.r1) := fun p => (B1.kept0 p.fr).cell 9
  have c10 : ∀ p : FrBy W0, p.w.cell? ⟨w.heap.size + 1, 10, none⟩ = some (.int .i64 a.r2) := fun p => (B1.kept0 p.fr).cell 10
  have c11 : ∀ p : FrBy W0, p.w.cell? ⟨w.heap.size + 1, 11, none⟩ = some (.int .i64 a.r3) := fun p => (B1.kept0 p.fr).cell 11
  have c12 : ∀ p : FrBy W0, p.w.cell? ⟨w.heap.size + 1, 12, none⟩ = some (.int .i64 a.tu) := fun p => (B1.kept0 p.fr).cell 12
  have c13 : ∀ p : FrBy W0, p.w.cell? ⟨w.heap.size + 1, 13, none⟩ = some (.int .u64 a.gen) := fun p => (B1.kept0 p.fr).cell 13
  have c14 : ∀ p : FrBy W0, p.w.cell? ⟨w.heap.size + 1, 14, none⟩ = some (.slice a.hA a.hn a.hc) := fun p => (B1.kept0 p.fr).cell 14
  have e0 : ∀ p : FrBy W0, p.w.cell? ⟨w.heap.size + 1 + 1, 0, none⟩ = some (.int .i64 a.r1) := fun p => (B2.kept0 p.fr).cell 0
  have e1 : ∀ p : FrBy W0, p.w.cell? ⟨w.heap.size + 1 + 1, 1, none⟩ = some (.int .i64 a.r2) := fun p => (B2.kept0 p.fr).cell 1
  have e2 : ∀ p : FrBy W0, p.w.cell? ⟨w.heap.size + 1 + 1, 2, none⟩ = some (.int .i64 a.r3) := fun p => (B2.kept0 p.fr).cell 2
  have Cwrite : Hid (∀ W', Fr no W0 W' → Calls Tryz.prog 138 #[.agg #[.int .u64 s.q, .slice s.P s.np s.cp, .slice s.R s.nr s.cr, .slice s.L s.nl s.cl, .slice s.G s.ng s.cg, .slice s.O s.no s.co], .agg #[.int .i64 a.t, .int .u64 a.n, .int .i64 a.k, .bool a.sure, .slice a.lA a.ln a.lc, .slice a.gA a.gn a.gc, .slice a.sA a.sn a.sc, .int .i64 a.mq, .slice a.oA a.on a.oc, .int .i64 a.r1, .int .i64 a.r2, .int .i64 a.r3, .int .i64 a.tu, .int .u64 a.gen, .slice a.hA a.hn a.hc]] W' fun e w'' => ∃ A1 n1 c1 A2 n2 c2, ∃ q : FrBy W0, e = .returned (.tuple #[.int .i64 (writeD d a l).1, .slice A1 n1 c1, .slice A2 n2 c2]) ∧ w'' = q.w ∧ WriteR w.heap.size q.w A1 n1 c1 A2 n2 c2 (writeD d a l).2) := hide (fun W' F' => (write_c s d a l W' (HS.out _ (F0.trans F')) (HA.out _ (F0.trans F'))).mono (by
    rintro e w'' ⟨A1, n1, c1, A2, n2, c2, he, h1, h2⟩
    exact ⟨A1, n1, c1, A2, n2, c2, ⟨w'', F'.trans h2⟩, he, rfl, h1.down (F0.trans F').size⟩))
  have Cfree : Hid (∀ W', Fr no W0 W' → Calls Tryz.prog 85 #[.agg #[.int .u64 s.q, .slice s.P s.np s.cp, .slice s.R s.nr s.cr, .slice s.L s.nl s.cl, .slice s.G s.ng s.cg, .slice s.O s.no s.co]] W' fun e w'' => ∃ Ba, ∃ q : FrBy W0, e = .returned (.func (.func 148) #[] #[.pointer (some ⟨Ba, 0, none⟩)]) ∧ w'' = q.w ∧ Blk q.w Ba 77 #[.int .u64 s.q, .slice s.P s.np s.cp, .slice s.R s.nr s.cr, .slice s.L s.nl s.cl, .slice s.G s.ng s.cg, .slice s.O s.no s.co] ∧ Fr no W' q.w) := hide (fun W' F' => (free_c s W').mono (by
    rintro e w'' ⟨he, rfl⟩
    exact ⟨W'.heap.size, ⟨_, F'.alloc _⟩, he, rfl, Blk.new W' _ _, (Fr.refl _ _).alloc _⟩))
  have Cheld : Hid (∀ W' t, Fr no W0 W' → Calls Tryz.prog 86 #[.agg #[.int .u64 s.q, .slice s.P s.np s.cp, .slice s.R s.nr s.cr, .slice s.L s.nl s.cl, .slice s.G s.ng s.cg, .slice s.O s.no s.co], .int .i64 t] W' fun e w'' => ∃ Bs Bt, ∃ q : FrBy W0, e = .returned (.func (.func 149) #[] #[.pointer (some ⟨Bs, 0, none⟩), .pointer (some ⟨Bt, 0, none⟩)]) ∧ w'' = q.w ∧ Blk q.w Bs 77 #[.int .u64 s.q, .slice s.P s.np s.cp, .slice s.R s.nr s.cr, .slice s.L s.nl s.cl, .slice s.G s.ng s.cg, .slice s.O s.no s.co] ∧ Blk q.w Bt 3 #[.int .i64 t] ∧ Fr no W' q.w) := hide (fun W' t F' => (held_c s t W').mono (by
    rintro e w'' ⟨he, rfl⟩
    exact ⟨W'.heap.size, W'.heap.size + 1, ⟨_, (F'.alloc _).alloc _⟩, he, rfl, (Blk.new W' _ _).alloc _, blk_at _ _ _ _ (by simp), ((Fr.refl _ _).alloc _).alloc _⟩))
  obtain ⟨fr, hfr⟩ : ∃ v, v = freeD d.ps a.r1 a.r2 := ⟨_, rfl⟩
  have Cfree1 : Hid (∀ W' Ba, Blk W' Ba 77 #[.int .u64 s.q, .slice s.P s.np s.cp, .slice s.R s.nr s.cr, .slice s.L s.nl s.cl, .slice s.G s.ng s.cg, .slice s.O s.no s.co] → Fr no W0 W' → Calls Tryz.prog 148 #[.agg #[.int .i64 a.r1, .int .i64 a.r2, .int .i64 a.r3], .pointer (some ⟨Ba, 0, none⟩)] W' fun e w'' => e = .returned (.int .i64 fr) ∧ ∃ q : FrBy W0, w'' = q.w ∧ Fr no W' q.w) := hide (fun W' Ba hB F' => by
    rw [hfr]
    exact calls_fr3 F' (free1_c s d.ps (HS.out _ (F0.trans F')).np Ba a.r1 a.r2 a.r3 W' hB (HS.out _ (F0.trans F')).pools))
  obtain ⟨hd, hhd⟩ : ∃ f : Int → Int, f = fun t => heldD d.ps t a.r1 a.r2 := ⟨_, rfl⟩
  have Cheld1 : Hid (∀ W' Bs Bt t, Blk W' Bs 77 #[.int .u64 s.q, .slice s.P s.np s.cp, .slice s.R s.nr s.cr, .slice s.L s.nl s.cl, .slice s.G s.ng s.cg, .slice s.O s.no s.co] → Blk W' Bt 3 #[.int .i64 t] → Fr no W0 W' → Calls Tryz.prog 149 #[.agg #[.int .i64 a.r1, .int .i64 a.r2, .int .i64 a.r3], .pointer (some ⟨Bs, 0, none⟩), .pointer (some ⟨Bt, 0, none⟩)] W' fun e w'' => e = .returned (.int .i64 (hd t)) ∧ ∃ q : FrBy W0, w'' = q.w ∧ Fr no W' q.w) := hide (fun W' Bs Bt t hB hT F' => by
    rw [hhd]
    exact calls_fr3 F' (held1_c s d.ps (HS.out _ (F0.trans F')).np Bs Bt t a.r1 a.r2 a.r3 W' hB hT (HS.out _ (F0.trans F')).pools))
  obtain ⟨tt, htt⟩ : ∃ tt, tt = a.t := ⟨_, rfl⟩
  obtain ⟨en, hen⟩ : ∃ v, v = l.rs.all fun r => decide (r.2.2 ≤ heldD d.ps tt r.1 r.2.1) := ⟨_, rfl⟩
  have Cenough : Hid (∀ W' Bs Bt, Blk W' Bs 77 #[.int .u64 s.q, .slice s.P s.np s.cp, .slice s.R s.nr s.cr, .slice s.L s.nl s.cl, .slice s.G s.ng s.cg, .slice s.O s.no s.co] → Blk W' Bt 3 #[.int .i64 tt] → Fr no W0 W' → Calls Tryz.prog 84 #[.slice a.hA a.hn a.hc, .func (.func 149) #[] #[.pointer (some ⟨Bs, 0, none⟩), .pointer (some ⟨Bt, 0, none⟩)]] W' fun e w'' => e = .returned (.bool en) ∧ ∃ q : FrBy W0, w'' = q.w ∧ Fr no W' q.w) := hide (fun W' Bs Bt hB hT F' => by
    rw [hen, (HA.out _ (F0.trans F')).hn]
    exact calls_fr3 F' (enoughH_c s d.ps (HS.out _ (F0.trans F')).np Bs Bt tt a.hA a.hc l.rs W' hB hT (HS.out _ (F0.trans F')).pools (HA.out _ (F0.trans F')).rights))
  have Cdone : Hid (∀ (b : Bool) (p : FrBy W0), Calls Tryz.prog 139 #[.bool b] p.w fun e w'' => e = .returned (.int .i64 (doneD b)) ∧ ∃ q : FrBy W0, w'' = q.w) := hide (fun b p => (done_c2 b p.w).mono (by rintro e w'' ⟨he, rfl⟩; exact ⟨he, p, rfl⟩))
  have HR := hide (show judgeD d a l = if a.k = 1 then ((writeD d a l).1, (writeD d a l).2, 0) else
    if a.k = 2 then (4, ([], []), askN a.r3 fr (hd tt)) else
    if a.k = 3 then (doneD (decide (a.r3 ≤ hd tt)), ([], []), 0) else
    if a.k = 4 then (doneD (decide (a.r3 ≤ hd tt) && decide (hd a.tu ≤ IntKind.i64.wrap (18014398509481984 - a.r3))), ([], []), 0) else
    (doneD (owesD d tt a.gen && en), ([], []), 0) by rw [hen, htt, hfr, hhd]; rfl)
  have HF0 := hide F0
  obtain ⟨p0, hp0⟩ : ∃ p : FrBy W0, p.w = W0 := ⟨⟨W0, Fr.refl _ _⟩, rfl⟩
  rw [hW0, ← hp0]
  obtain ⟨p, hp⟩ : ∃ p : FrBy W0, p.w = p0.w := ⟨p0, rfl⟩
  rw [← hp]
  rw [← htt] at c0 Cwrite
  have HK : Hid (∀ W', Fr no W0 W' → W'.cell? ⟨w.heap.size, 0, none⟩ = some (.int .u64 s.q) ∧ W'.cell? ⟨w.heap.size, 1, none⟩ = some (.slice s.P s.np s.cp) ∧ W'.cell? ⟨w.heap.size, 2, none⟩ = some (.slice s.R s.nr s.cr) ∧ W'.cell? ⟨w.heap.size, 3, none⟩ = some (.slice s.L s.nl s.cl) ∧ W'.cell? ⟨w.heap.size, 4, none⟩ = some (.slice s.G s.ng s.cg) ∧ W'.cell? ⟨w.heap.size, 5, none⟩ = some (.slice s.O s.no s.co) ∧ W'.cell? ⟨w.heap.size + 1, 0, none⟩ = some (.int .i64 tt) ∧ W'.cell? ⟨w.heap.size + 1, 12, none⟩ = some (.int .i64 a.tu) ∧ W'.cell? ⟨w.heap.size + 1, 14, none⟩ = some (.slice a.hA a.hn a.hc) ∧ W'.cell? ⟨w.heap.size + 1 + 1, 0, none⟩ = some (.int .i64 a.r1) ∧ W'.cell? ⟨w.heap.size + 1 + 1, 1, none⟩ = some (.int .i64 a.r2) ∧ W'.cell? ⟨w.heap.size + 1 + 1, 2, none⟩ = some (.int .i64 a.r3) ∧ Fr no W0 W') := hide (fun W' F' => ⟨b0 ⟨W', F'⟩, b1 ⟨W', F'⟩, b2 ⟨W', F'⟩, b3 ⟨W', F'⟩, b4 ⟨W', F'⟩, b5 ⟨W', F'⟩, c0 ⟨W', F'⟩, c12 ⟨W', F'⟩, c14 ⟨W', F'⟩, e0 ⟨W', F'⟩, e1 ⟨W', F'⟩, e2 ⟨W', F'⟩, F'⟩)
  obtain ⟨kk, hkk⟩ : ∃ kk, kk = a.k := ⟨_, rfl⟩
  rw [← hkk] at HR Cwrite c2
  have HF00 := hide F0
  have k1 : ¬ kk = 1 := fun e => H1.out (hkk.symm.trans e)
  have k2 : ¬ kk = 2 := fun e => H2.out (hkk.symm.trans e)
  have k3 : ¬ kk = 3 := fun e => H3.out (hkk.symm.trans e)
  have k4 : ¬ kk = 4 := fun e => H4.out (hkk.symm.trans e)
  clear B0 B1 B2 F0 hW0 hp0 hp p0 hfr hhd hen htt hkk H1 H2 H3 H4
  have k1' : (kk == 1) = false := by simp; exact k1
  have k1'' : decide (kk = 1) = false := by simp; exact k1
  have k2' : (kk == 2) = false := by simp; exact k2
  have k2'' : decide (kk = 2) = false := by simp; exact k2
  have k3' : (kk == 3) = false := by simp; exact k3
  have k3'' : decide (kk = 3) = false := by simp; exact k3
  have k4' : (kk == 4) = false := by simp; exact k4
  have k4'' : decide (kk = 4) = false := by simp; exact k4
  have HR2 : Hid (judgeD d a l = (doneD (owesD d tt a.gen && en), ([], []), 0)) := hide (by rw [HR.out, if_neg k1, if_neg k2, if_neg k3, if_neg k4])
  clear HR k1 k2 k3 k4
  by_cases g0 : tt < 0
  · have t0 : decide (0 ≤ tt) = false := by simp; omega
    have ho : owesD d tt a.gen = false := by unfold owesD; rw [if_pos g0]
    have HE : Hid (judgeD d a l = (doneD false, ([], []), 0)) := hide (by rw [HR2.out, ho]; rfl)
    clear HR2
    go_wp2_with fail
    refine wp_region_fr W0 (by kernel_rfl) (by kernel_rfl) p.fr ?_
    repeat (go_big_quiet_step (fail))
    refine wpQuiet_nil ?_
    intro wz hw'
    obtain ⟨p, rfl⟩ := hw'
    go_wp2_with fail
    refine wp_region_fr W0 (by kernel_rfl) (by kernel_rfl) p.fr ?_
    repeat (go_big_quiet_step (exact Cdone.out _ _))
    refine wpQuiet_nil ?_
    intro wz hw'
    obtain ⟨p, rfl⟩ := hw'
    go_wp2_with fail
    ((try simp only [Exit.inBlock, Exit.then]); refine bodyPost_ret (results_tmp4 rfl _ _ _) rfl ?_)
    rw [HE.out]
    exact ⟨none, 0, 0, none, 0, 0, rfl, ⟨rfl, rfl, om_none _ _ _ _, om_none _ _ _ _⟩, HF0.out.trans p.fr⟩
  obtain ⟨m, rfl⟩ : ∃ m : Nat, tt = m := ⟨tt.toNat, by omega⟩
  have i0 : (0 : Int) ≤ m := by omega
  have hno := (HS.out w (Fr.refl _ _)).nw
  have hng := (HS.out w (Fr.refl _ _)).ng
  have HNO := hide hno
  have HNG := hide hng
  by_cases g1 : m < d.os.length
  rotate_left
  · have t1 : decide (m < s.no) = false := by simp; omega
    have ho : owesD d m a.gen = false := by unfold owesD; rw [if_neg g0]; simp [List.getElem?_eq_none (show d.os.length ≤ m by omega)]
    clear hno hng
    have HE : Hid (judgeD d a l = (doneD false, ([], []), 0)) := hide (by rw [HR2.out, ho]; rfl)
    clear HR2
    go_wp2_with fail
    refine wp_region_fr W0 (by kernel_rfl) (by kernel_rfl) p.fr ?_
    repeat (go_big_quiet_step (fail))
    refine wpQuiet_nil ?_
    intro wz hw'
    obtain ⟨p, rfl⟩ := hw'
    go_wp2_with fail
    refine wp_region_fr W0 (by kernel_rfl) (by kernel_rfl) p.fr ?_
    repeat (go_big_quiet_step (exact Cdone.out _ _))
    refine wpQuiet_nil ?_
    intro wz hw'
    obtain ⟨p, rfl⟩ := hw'
    go_wp2_with fail
    ((try simp only [Exit.inBlock, Exit.then]); refine bodyPost_ret (results_tmp4 rfl _ _ _) rfl ?_)
    rw [HE.out]
    exact ⟨none, 0, 0, none, 0, 0, rfl, ⟨rfl, rfl, om_none _ _ _ _, om_none _ _ _ _⟩, HF0.out.trans p.fr⟩
  have t1 : decide (m < s.no) = true := by simp; omega
  have i1 : (m : Int) < s.no := by omega
  by_cases g2 : m < d.gs.length
  rotate_left
  · have t2 : decide (m < s.ng) = false := by simp; omega
    have ho : owesD d m a.gen = false := by unfold owesD; rw [if_neg g0]; simp [g1, List.getElem?_eq_none (show d.gs.length ≤ m by omega)]
    clear hno hng
    have HE : Hid (judgeD d a l = (doneD false, ([], []), 0)) := hide (by rw [HR2.out, ho]; rfl)
    clear HR2
    go_wp2_with fail
    refine wp_region_fr W0 (by kernel_rfl) (by kernel_rfl) p.fr ?_
    repeat (go_big_quiet_step (fail))
    refine wpQuiet_nil ?_
    intro wz hw'
    obtain ⟨p, rfl⟩ := hw'
    go_wp2_with fail
    refine wp_region_fr W0 (by kernel_rfl) (by kernel_rfl) p.fr ?_
    repeat (go_big_quiet_step (exact Cdone.out _ _))
    refine wpQuiet_nil ?_
    intro wz hw'
    obtain ⟨p, rfl⟩ := hw'
    go_wp2_with fail
    ((try simp only [Exit.inBlock, Exit.then]); refine bodyPost_ret (results_tmp4 rfl _ _ _) rfl ?_)
    rw [HE.out]
    exact ⟨none, 0, 0, none, 0, 0, rfl, ⟨rfl, rfl, om_none _ _ _ _, om_none _ _ _ _⟩, HF0.out.trans p.fr⟩
  have t2 : decide (m < s.ng) = true := by simp; omega
  have i2 : (m : Int) < s.ng := by omega
  obtain ⟨g, o, hsO, _⟩ := (HS.out w (Fr.refl _ _)).owed.cells (List.length_pos_iff.1 (by omega))
  obtain ⟨g', o', hsG, _⟩ := (HS.out w (Fr.refl _ _)).gens.cells (List.length_pos_iff.1 (by omega))
  obtain ⟨ow, how⟩ : ∃ ow, ow = d.os[m] := ⟨_, rfl⟩
  obtain ⟨gn, hgn⟩ : ∃ gn, gn = d.gs[m] := ⟨_, rfl⟩
  have f1 : ∀ p : FrBy W0, p.w.cell? ⟨g, o + m, none⟩ = some (.bool ow) := fun p => by
    obtain ⟨g2', o2', e', hc⟩ := (HS.out p.w (HF0.out.trans p.fr)).owed.cells (List.length_pos_iff.1 (by omega))
    rw [hsO] at e'
    cases e'
    have := hc m g1 0 (by decide)
    rw [how]
    simpa [fOwe] using this
  have f2 : ∀ p : FrBy W0, p.w.cell? ⟨g', o' + m, none⟩ = some (.int .u64 gn) := fun p => by
    obtain ⟨g2', o2', e', hc⟩ := (HS.out p.w (HF0.out.trans p.fr)).gens.cells (List.length_pos_iff.1 (by omega))
    rw [hsG] at e'
    cases e'
    have := hc m g2 0 (by decide)
    rw [hgn]
    simpa [fNum] using this
  have hoe : owesD d m a.gen = (ow && decide (gn = a.gen)) := by unfold owesD; rw [if_neg g0]; simp [g1, g2, how, hgn]
  clear hno hng how hgn
  cases ow
  · have ho : owesD d m a.gen = false := by rw [hoe]; rfl
    clear hoe
    have HE : Hid (judgeD d a l = (doneD false, ([], []), 0)) := hide (by rw [HR2.out, ho]; rfl)
    clear HR2
    go_wp2_with fail
    refine wp_region_fr W0 (by kernel_rfl) (by kernel_rfl) p.fr ?_
    repeat (go_big_quiet_step (fail))
    refine wpQuiet_nil ?_
    intro wz hw'
    obtain ⟨p, rfl⟩ := hw'
    go_wp2_with fail
    refine wp_region_fr W0 (by kernel_rfl) (by kernel_rfl) p.fr ?_
    repeat (go_big_quiet_step (exact Cdone.out _ _))
    refine wpQuiet_nil ?_
    intro wz hw'
    obtain ⟨p, rfl⟩ := hw'
    go_wp2_with fail
    ((try simp only [Exit.inBlock, Exit.then]); refine bodyPost_ret (results_tmp4 rfl _ _ _) rfl ?_)
    rw [HE.out]
    exact ⟨none, 0, 0, none, 0, 0, rfl, ⟨rfl, rfl, om_none _ _ _ _, om_none _ _ _ _⟩, HF0.out.trans p.fr⟩
  by_cases g3 : gn = a.gen
  rotate_left
  · have t3 : decide (gn = a.gen) = false := by simp; exact g3
    have t4 : (gn == a.gen) = false := by simp; exact g3
    have ho : owesD d m a.gen = false := by rw [hoe, t3]; rfl
    clear hoe
    have HE : Hid (judgeD d a l = (doneD false, ([], []), 0)) := hide (by rw [HR2.out, ho]; rfl)
    clear HR2
    go_wp2_with fail
    refine wp_region_fr W0 (by kernel_rfl) (by kernel_rfl) p.fr ?_
    repeat (go_big_quiet_step (fail))
    refine wpQuiet_nil ?_
    intro wz hw'
    obtain ⟨p, rfl⟩ := hw'
    go_wp2_with fail
    refine wp_region_fr W0 (by kernel_rfl) (by kernel_rfl) p.fr ?_
    repeat (go_big_quiet_step (exact Cdone.out _ _))
    refine wpQuiet_nil ?_
    intro wz hw'
    obtain ⟨p, rfl⟩ := hw'
    go_wp2_with fail
    ((try simp only [Exit.inBlock, Exit.then]); refine bodyPost_ret (results_tmp4 rfl _ _ _) rfl ?_)
    rw [HE.out]
    exact ⟨none, 0, 0, none, 0, 0, rfl, ⟨rfl, rfl, om_none _ _ _ _, om_none _ _ _ _⟩, HF0.out.trans p.fr⟩
  have t3 : decide (gn = a.gen) = true := by simp; exact g3
  have t4 : (gn == a.gen) = true := by simp; exact g3
  have ho : owesD d m a.gen = true := by rw [hoe, t3]; rfl
  clear hoe g3
  have HE : Hid (judgeD d a l = (doneD en, ([], []), 0)) := hide (by rw [HR2.out, ho]; rfl)
  clear HR2
  go_wp2_with fail
  refine wp_region_fr W0 (by kernel_rfl) (by kernel_rfl) p.fr ?_
  repeat (go_big_quiet_step (fail))
  refine wpQuiet_nil ?_
  intro wz hw'
  obtain ⟨p, rfl⟩ := hw'
  go_wp2_with fail
  rw [hsO, hsG] at Cheld Cheld1 Cenough HK
  go_region_held3 (fun W' => W'.cell? ⟨w.heap.size, 0, none⟩ = some (.int .u64 s.q) ∧ W'.cell? ⟨w.heap.size, 1, none⟩ = some (.slice s.P s.np s.cp) ∧ W'.cell? ⟨w.heap.size, 2, none⟩ = some (.slice s.R s.nr s.cr) ∧ W'.cell? ⟨w.heap.size, 3, none⟩ = some (.slice s.L s.nl s.cl) ∧ W'.cell? ⟨w.heap.size, 4, none⟩ = some (.slice (some ⟨g', o', none⟩) s.ng s.cg) ∧ W'.cell? ⟨w.heap.size, 5, none⟩ = some (.slice (some ⟨g, o, none⟩) s.no s.co) ∧ W'.cell? ⟨w.heap.size + 1, 0, none⟩ = some (.int .i64 (m : Int)) ∧ W'.cell? ⟨w.heap.size + 1, 12, none⟩ = some (.int .i64 a.tu) ∧ W'.cell? ⟨w.heap.size + 1, 14, none⟩ = some (.slice a.hA a.hn a.hc) ∧ W'.cell? ⟨w.heap.size + 1 + 1, 0, none⟩ = some (.int .i64 a.r1) ∧ W'.cell? ⟨w.heap.size + 1 + 1, 1, none⟩ = some (.int .i64 a.r2) ∧ W'.cell? ⟨w.heap.size + 1 + 1, 2, none⟩ = some (.int .i64 a.r3) ∧ Fr no W0 W') (first | exact HK.out _ (FrBy.fr _).drew | exact HK.out _ (FrBy.fr _)) (first | (go_at_call 85; refine (Cfree.out _ (by first | exact FrBy.fr _ | exact (FrBy.fr _).drew)).mono ?_; rintro e w1 ⟨Ba, p, rfl, rfl, hB1, FF⟩; (try (have tt9 := hide (HBa.out.kept0 FF); clear HBa; have HBa := tt9; clear tt9)); (try (have tt9 := hide (HBs.out.kept0 FF); clear HBs; have HBs := tt9; clear tt9)); (try (have tt9 := hide (HBt.out.kept0 FF); clear HBt; have HBt := tt9; clear tt9)); have HBa := hide hB1; clear hB1 FF; have F := p.fr) | (go_at_call 148; refine (Cfree1.out _ _ HBa.out (FrBy.fr _)).mono ?_; rintro e w1 ⟨rfl, p, rfl, FF⟩; (try (have tt9 := hide (HBa.out.kept0 FF); clear HBa; have HBa := tt9; clear tt9)); (try (have tt9 := hide (HBs.out.kept0 FF); clear HBs; have HBs := tt9; clear tt9)); (try (have tt9 := hide (HBt.out.kept0 FF); clear HBt; have HBt := tt9; clear tt9)); clear FF; have F := p.fr) | (go_at_call 149; refine (Cheld1.out _ _ _ _ HBs.out HBt.out (FrBy.fr _)).mono ?_; rintro e w1 ⟨rfl, p, rfl, FF⟩; (try (have tt9 := hide (HBa.out.kept0 FF); clear HBa; have HBa := tt9; clear tt9)); (try (have tt9 := hide (HBs.out.kept0 FF); clear HBs; have HBs := tt9; clear tt9)); (try (have tt9 := hide (HBt.out.kept0 FF); clear HBt; have HBt := tt9; clear tt9)); clear FF; have F := p.fr) | (go_at_call 84; refine (Cenough.out _ _ _ HBs.out HBt.out (FrBy.fr _)).mono ?_; rintro e w1 ⟨rfl, p, rfl, FF⟩; (try (have tt9 := hide (HBa.out.kept0 FF); clear HBa; have HBa := tt9; clear tt9)); (try (have tt9 := hide (HBs.out.kept0 FF); clear HBs; have HBs := tt9; clear tt9)); (try (have tt9 := hide (HBt.out.kept0 FF); clear HBt; have HBt := tt9; clear tt9)); clear FF; have F := p.fr) | (go_at_call 139; refine (done_c2 _ _).mono ?_; rintro e w1 ⟨rfl, rfl⟩) | (go_at_call 86; refine (Cheld.out _ _ (by first | exact FrBy.fr _ | exact (FrBy.fr _).drew)).mono ?_; rintro e w1 ⟨Bs, Bt, p, rfl, rfl, hB1, hB2, FF⟩; (try (have tt9 := hide (HBa.out.kept0 FF); clear HBa; have HBa := tt9; clear tt9)); (try (have tt9 := hide (HBs.out.kept0 FF); clear HBs; have HBs := tt9; clear tt9)); (try (have tt9 := hide (HBt.out.kept0 FF); clear HBt; have HBt := tt9; clear tt9)); have HBs := hide hB1; have HBt := hide hB2; clear hB1 hB2 FF; have F := p.fr))
  go_wp2_with fail
  ((try simp only [Exit.inBlock, Exit.then]); refine bodyPost_ret (results_tmp4 rfl _ _ _) rfl ?_)
  rw [HE.out]
  exact ⟨none, 0, 0, none, 0, 0, rfl, ⟨rfl, rfl, om_none _ _ _ _, om_none _ _ _ _⟩, HF0.out.trans p.fr⟩
end Go.Proofs.YtmnajpkmglmipaaGreat

/- Contract of rule.Judge. -/
namespace Go.Proofs.YtmnajpkmglmipaaGreat
open Go.RowKit

theorem Judge_c : JudgeSaid := by
  intro s d a l w hs ha
  by_cases h1 : a.k = 1
  · exact Judge_1 s d a l w hs ha h1
  by_cases h2 : a.k = 2
  · exact Judge_2 s d a l w hs ha h1 h2
  by_cases h3 : a.k = 3
  · exact Judge_3 s d a l w hs ha h1 h2 h3
  by_cases h4 : a.k = 4
  · exact Judge_4 s d a l w hs ha h1 h2 h3 h4
  exact Judge_5 s d a l w hs ha h1 h2 h3 h4
end Go.Proofs.YtmnajpkmglmipaaGreat

/- RuleNeeds: its argument as data; its walk over it. -/
namespace Go.Proofs.YtmnajpkmglmipaaGreat
open Go.RowKit

def kRows : Kd (List (List LineD)) := .slice 24 (.slice 16 kLine)
theorem forRows : Kd.For Tryz.prog 33 kRows := .struct Tryz.underlying33 (by kernel_rfl) (.one rfl (.slice Tryz.underlying31 (by kernel_rfl) (by kernel_rfl) forLines (by decide)))
theorem needs_walk (w : World) (x : List (List LineD)) (cs : Array Value) (hk : kRows.K w x cs.toList) (hf : kRows.Fit x) :
    Calls Tryz.prog 5 #[.agg cs] w fun e w' => e = .returned (.bool true) ∧ Below w.heap.size w w' := by
  obtain ⟨SA, sc, h, hs⟩ := hk
  obtain rfl : cs = _ := Array.toList_inj.1 (h.trans (by rfl : _ = (#[.slice SA x.length sc] : Array Value).toList))
  exact (needs_law Judge_c w SA sc x hs).mono fun e w' h => ⟨h.1, h.2.below⟩
end Go.Proofs.YtmnajpkmglmipaaGreat
