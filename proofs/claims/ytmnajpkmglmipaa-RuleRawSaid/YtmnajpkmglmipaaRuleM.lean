/- RuleRaw's walk. -/
import Derived.Test.YtmnajpkmglmipaaRuleL
namespace Go.Proofs.Ytmnajpkmglmipaa
open Go.RowKit

/-- An element's cells, in every world behind. -/
theorem row_facts {α : Type} {d : Kd α} {V : World} {A : Option Addr} {c : Nat} {xs : List α} (h : d.Row V A c xs) (i : Nat) (hi : i < xs.length) : ∃ g o cells, A = some ⟨g, o, none⟩ ∧ d.K V xs[i] cells ∧ ∀ (p : FrBy V) j, j < d.sz → p.w.cell? ⟨g, o + i * d.sz + j, none⟩ = cells[j]? := by
  obtain ⟨g, o, e, hat⟩ := h.2.2.1 (List.length_pos_iff.1 (by omega))
  obtain ⟨cells, k1, k2⟩ := hat i hi
  refine ⟨g, o, cells, e, k1, fun p j hj => ?_⟩
  have hl : j < cells.length := by rw [d.len k1]; exact hj
  have := k2 j hj
  rw [List.getElem?_eq_getElem hl] at this ⊢
  exact fr_cell p.fr this
set_option maxRecDepth 100000 in
set_option maxHeartbeats 40000000 in
theorem raw_law (HJ : JudgeSaid) (w : World) (SA : Option Addr) (sc : Nat) (xs : List StateT) (AA : Option Addr) (ac : Nat) (ys : List ActT) (t : Int) (hs : kState.Row w SA sc xs) (ha : kAct.Row w AA ac ys) (fs : ∀ x ∈ xs, kState.Fit x) (fa : ∀ y ∈ ys, kAct.Fit y) :
    Calls Try.prog 3 #[.agg #[.slice SA xs.length sc, .slice AA ys.length ac, .int .i64 t]] w fun e w' => e = .returned (.bool true) ∧ Fr no w w' := by
  have ls := Row.le_top hs
  have la := Row.le_top ha
  have HS := hide hs
  have HA := hide ha
  have HFS := hide fs
  have HFA := hide fa
  clear hs ha fs fa
  go_enter Try.func3, Try.ntmps3
  go_wp2_with fail
  obtain ⟨V0, hV0⟩ : ∃ V0, w.alloc (.cells #[.slice SA xs.length sc, .slice AA ys.length ac, .int .i64 t] 25) = V0 := ⟨_, rfl⟩
  have FV : Fr no w V0 := by rw [← hV0]; exact (Fr.refl no w).alloc _
  have BV : Blk V0 w.heap.size 25 #[.slice SA xs.length sc, .slice AA ys.length ac, .int .i64 t] := by rw [← hV0]; exact Blk.new w _ _
  have b0 : ∀ p : FrBy V0, p.w.cell? ⟨w.heap.size, 0, none⟩ = some (.slice SA xs.length sc) := fun p => (BV.kept0 p.fr).cell 0
  have b1 : ∀ p : FrBy V0, p.w.cell? ⟨w.heap.size, 1, none⟩ = some (.slice AA ys.length ac) := fun p => (BV.kept0 p.fr).cell 1
  have b2 : ∀ p : FrBy V0, p.w.cell? ⟨w.heap.size, 2, none⟩ = some (.int .i64 t) := fun p => (BV.kept0 p.fr).cell 2
  have HFV := hide FV
  obtain ⟨p, hp⟩ : ∃ p : FrBy V0, p.w = V0 := ⟨⟨V0, Fr.refl _ _⟩, rfl⟩
  rw [hV0, ← hp]
  clear hV0 hp BV FV
  go_loopw [3] (fun i wr => ∃ m : Nat, i = .int .i64 m ∧ m ≤ xs.length ∧ ∃ p : FrBy V0, wr = p.w) (fun i _ => xs.length - (intOf i).toNat)
  case atStart => exact ⟨0, rfl, Nat.zero_le _, p, rfl⟩
  case round =>
    clear p
    obtain ⟨i, rfl, hi, p, rfl⟩ := hrel
    have hi0 : (0 : Int) ≤ i := by omega
    by_cases hlt : i < xs.length ∧ i < 20
    rotate_left
    · by_cases h1 : i < xs.length
      · have h2 : ¬ (i : Int) < 20 := by omega
        clear hlt
        go_wp2_with fail
        refine (wakes_c HJ _).mono ?_
        rintro e w1 ⟨rfl, F1⟩
        have HE := hide ((HFV.out.trans p.fr).trans F1)
        clear F1
        go_wp2_with fail
        go_ret
        exact ⟨rfl, HE.out⟩
      · clear hlt
        go_wp2_with fail
        refine (wakes_c HJ _).mono ?_
        rintro e w1 ⟨rfl, F1⟩
        have HE := hide ((HFV.out.trans p.fr).trans F1)
        clear F1
        go_wp2_with fail
        go_ret
        exact ⟨rfl, HE.out⟩
    obtain ⟨hlt, hi20⟩ := hlt
    have h20 : (i : Int) < 20 := by omega
    have hi1 : (i : Int) < xs.length := by omega
    obtain ⟨g, o, cs, rfl, hk, hc⟩ := row_facts (HS.out.keep HFV.out) i hlt
    obtain ⟨s, rfl, hsok⟩ := st_of hk
    have hfit := st_fit (HFS.out _ (List.getElem_mem hlt))
    obtain ⟨d, hd⟩ : ∃ d, d = stL xs[i] := ⟨_, rfl⟩
    rw [← hd] at hsok hfit
    have s0 : ∀ p : FrBy V0, p.w.cell? ⟨g, o + i * 6, none⟩ = some (.int .u64 s.q) := fun p => hc p 0 (by decide)
    have s1 : ∀ p : FrBy V0, p.w.cell? ⟨g, o + i * 6 + 1, none⟩ = some (.slice s.P s.np s.cp) := fun p => hc p 1 (by decide)
    have s2 : ∀ p : FrBy V0, p.w.cell? ⟨g, o + i * 6 + 2, none⟩ = some (.slice s.R s.nr s.cr) := fun p => hc p 2 (by decide)
    have s3 : ∀ p : FrBy V0, p.w.cell? ⟨g, o + i * 6 + 3, none⟩ = some (.slice s.L s.nl s.cl) := fun p => hc p 3 (by decide)
    have s4 : ∀ p : FrBy V0, p.w.cell? ⟨g, o + i * 6 + 4, none⟩ = some (.slice s.G s.ng s.cg) := fun p => hc p 4 (by decide)
    have s5 : ∀ p : FrBy V0, p.w.cell? ⟨g, o + i * 6 + 5, none⟩ = some (.slice s.O s.no s.co) := fun p => hc p 5 (by decide)
    have HSO := hide hsok
    have HFT := hide hfit
    clear hk hc hsok hfit hd
    go_wp2_with fail
    go_loopw [4] (fun i wr => ∃ m : Nat, i = .int .i64 m ∧ m ≤ ys.length ∧ ∃ p : FrBy V0, wr = p.w) (fun i _ => ys.length - (intOf i).toNat)
    case atStart => exact ⟨0, rfl, Nat.zero_le _, p, rfl⟩
    case round =>
      clear p
      obtain ⟨k, rfl, hk, p, rfl⟩ := hrel
      have hk0 : (0 : Int) ≤ k := by omega
      by_cases hkt : k < ys.length ∧ k < 20
      rotate_left
      · by_cases h1 : k < ys.length
        · have h2 : ¬ (k : Int) < 20 := by omega
          clear hkt
          go_wp2_with fail
          exact ⟨⟨i + 1, by simp, hlt, p, rfl⟩, by simp [intOf]; omega⟩
        · clear hkt
          go_wp2_with fail
          exact ⟨⟨i + 1, by simp, hlt, p, rfl⟩, by simp [intOf]; omega⟩
      obtain ⟨hkt, hk20⟩ := hkt
      have k20 : (k : Int) < 20 := by omega
      have hk1 : (k : Int) < ys.length := by omega
      obtain ⟨g', o', cs, rfl, hka, hca⟩ := row_facts (HA.out.keep HFV.out) k hkt
      obtain ⟨a, rfl, haok⟩ := act_of hka (HFA.out _ (List.getElem_mem hkt))
      have hfita := act_fit (HFA.out _ (List.getElem_mem hkt))
      obtain ⟨l, hl⟩ : ∃ l, l = actL ys[k] := ⟨_, rfl⟩
      rw [← hl] at haok hfita
      have a0 : ∀ p : FrBy V0, p.w.cell? ⟨g', o' + k * 15, none⟩ = some (.int .i64 a.t) := fun p => hca p 0 (by decide)
      have a1 : ∀ p : FrBy V0, p.w.cell? ⟨g', o' + k * 15 + 1, none⟩ = some (.int .u64 a.n) := fun p => hca p 1 (by decide)
      have a2 : ∀ p : FrBy V0, p.w.cell? ⟨g', o' + k * 15 + 2, none⟩ = some (.int .i64 a.k) := fun p => hca p 2 (by decide)
      have a3 : ∀ p : FrBy V0, p.w.cell? ⟨g', o' + k * 15 + 3, none⟩ = some (.bool a.sure) := fun p => hca p 3 (by decide)
      have a4 : ∀ p : FrBy V0, p.w.cell? ⟨g', o' + k * 15 + 4, none⟩ = some (.slice a.lA a.ln a.lc) := fun p => hca p 4 (by decide)
      have a5 : ∀ p : FrBy V0, p.w.cell? ⟨g', o' + k * 15 + 5, none⟩ = some (.slice a.gA a.gn a.gc) := fun p => hca p 5 (by decide)
      have a6 : ∀ p : FrBy V0, p.w.cell? ⟨g', o' + k * 15 + 6, none⟩ = some (.slice a.sA a.sn a.sc) := fun p => hca p 6 (by decide)
      have a7 : ∀ p : FrBy V0, p.w.cell? ⟨g', o' + k * 15 + 7, none⟩ = some (.int .i64 a.mq) := fun p => hca p 7 (by decide)
      have a8 : ∀ p : FrBy V0, p.w.cell? ⟨g', o' + k * 15 + 8, none⟩ = some (.slice a.oA a.on a.oc) := fun p => hca p 8 (by decide)
      have a9 : ∀ p : FrBy V0, p.w.cell? ⟨g', o' + k * 15 + 9, none⟩ = some (.int .i64 a.r1) := fun p => hca p 9 (by decide)
      have a10 : ∀ p : FrBy V0, p.w.cell? ⟨g', o' + k * 15 + 10, none⟩ = some (.int .i64 a.r2) := fun p => hca p 10 (by decide)
      have a11 : ∀ p : FrBy V0, p.w.cell? ⟨g', o' + k * 15 + 11, none⟩ = some (.int .i64 a.r3) := fun p => hca p 11 (by decide)
      have a12 : ∀ p : FrBy V0, p.w.cell? ⟨g', o' + k * 15 + 12, none⟩ = some (.int .i64 a.tu) := fun p => hca p 12 (by decide)
      have a13 : ∀ p : FrBy V0, p.w.cell? ⟨g', o' + k * 15 + 13, none⟩ = some (.int .u64 a.gen) := fun p => hca p 13 (by decide)
      have a14 : ∀ p : FrBy V0, p.w.cell? ⟨g', o' + k * 15 + 14, none⟩ = some (.slice a.hA a.hn a.hc) := fun p => hca p 14 (by decide)
      have HAO := hide haok
      have HFA2 := hide hfita
      clear hka hca haok hfita hl
      go_wp2_with fail
      refine (lend_state s d _ (HSO.out.keep p.fr) HFT.out).mono ?_
      rintro e W1 ⟨⟨z, rfl, hz⟩, F1⟩
      have HZ := hide hz
      have HF1 := hide F1
      clear hz F1
      simp only [stLent]
      go_upto_region 8 with fail
      have HX1 := hide (Blk.new W1 32 #[.int .u64 s.q, .slice (some ⟨z.gP, 0, none⟩) d.ps.length (d.ps.length + 9), .slice (some ⟨z.gR, 0, none⟩) d.vs.length (d.vs.length + 9), .slice (some ⟨z.gL, 0, none⟩) d.ls.length (d.ls.length + 9), .slice (some ⟨z.gG, 0, none⟩) d.gs.length (d.gs.length + 9), .slice (some ⟨z.gO, 0, none⟩) d.os.length (d.os.length + 9)])
      obtain ⟨xb, hxb⟩ : ∃ xb, xb = W1.heap.size := ⟨_, rfl⟩
      rw [← hxb] at HX1 ⊢
      have hxlo : V0.heap.size ≤ xb := by rw [hxb]; exact (p.fr.trans HF1.out).size
      obtain ⟨q, hq⟩ : ∃ q : FrBy V0, q.w = W1.alloc (.cells #[.int .u64 s.q, .slice (some ⟨z.gP, 0, none⟩) d.ps.length (d.ps.length + 9), .slice (some ⟨z.gR, 0, none⟩) d.vs.length (d.vs.length + 9), .slice (some ⟨z.gL, 0, none⟩) d.ls.length (d.ls.length + 9), .slice (some ⟨z.gG, 0, none⟩) d.gs.length (d.gs.length + 9), .slice (some ⟨z.gO, 0, none⟩) d.os.length (d.os.length + 9)] 32) := ⟨⟨_, (p.fr.trans HF1.out).alloc _⟩, rfl⟩
      have HZ2 : Hid (LentState q.w V0.heap.size z d) := hide (by rw [hq]; exact ((HZ.out.keep ((Fr.refl no W1).alloc _)).down p.fr.size))
      have HX2 : Hid (Blk q.w xb 32 #[.int .u64 s.q, .slice (some ⟨z.gP, 0, none⟩) d.ps.length (d.ps.length + 9), .slice (some ⟨z.gR, 0, none⟩) d.vs.length (d.vs.length + 9), .slice (some ⟨z.gL, 0, none⟩) d.ls.length (d.ls.length + 9), .slice (some ⟨z.gG, 0, none⟩) d.gs.length (d.gs.length + 9), .slice (some ⟨z.gO, 0, none⟩) d.os.length (d.os.length + 9)]) := hide (by rw [hq]; exact HX1.out)
      rw [← hq]
      clear hq hxb HX1 HZ HF1 p
      go_wp2_with fail
      refine (lend_act a l _ (HAO.out.keep q.fr) HFA2.out.1 HFA2.out.2).mono ?_
      rintro e W1 ⟨⟨y, rfl, hy⟩, F1⟩
      have HY := hide hy
      have HF1 := hide F1
      clear hy F1
      simp only [actLent]
      go_upto_region 9 with fail
      obtain ⟨yb, hyb⟩ : ∃ yb, yb = W1.heap.size := ⟨_, rfl⟩
      obtain ⟨W0, hW0⟩ : ∃ W0, W1.alloc (.cells #[.int .i64 a.t, .int .u64 a.n, .int .i64 a.k, .bool a.sure, .slice (some ⟨y.gl, 0, none⟩) l.xs.length (l.xs.length + 9), .slice (some ⟨y.gg, 0, none⟩) l.gs.length (l.gs.length + 9), .slice (some ⟨y.gs, 0, none⟩) l.ss.length (l.ss.length + 9), .int .i64 a.mq, .slice (some ⟨y.go, 0, none⟩) l.os.length (l.os.length + 9), .int .i64 a.r1, .int .i64 a.r2, .int .i64 a.r3, .int .i64 a.tu, .int .u64 a.gen, .slice (some ⟨y.gr, 0, none⟩) l.rs.length (l.rs.length + 9)] 45) = W0 := ⟨_, rfl⟩
      have HV0 : Hid (Fr no V0 W0) := hide (by rw [← hW0]; exact (q.fr.trans HF1.out).alloc _)
      have hQW : Fr no q.w W0 := by rw [← hW0]; exact HF1.out.alloc _
      have HZ := hide (HZ2.out.keep hQW)
      have HY2 : Hid (LentAct W0 V0.heap.size y l) := hide (by rw [← hW0]; exact (HY.out.keep ((Fr.refl no W1).alloc _)).down q.fr.size)
      have BX := HX2.out.kept0 hQW
      have BY : Blk W0 yb 45 #[.int .i64 a.t, .int .u64 a.n, .int .i64 a.k, .bool a.sure, .slice (some ⟨y.gl, 0, none⟩) l.xs.length (l.xs.length + 9), .slice (some ⟨y.gg, 0, none⟩) l.gs.length (l.gs.length + 9), .slice (some ⟨y.gs, 0, none⟩) l.ss.length (l.ss.length + 9), .int .i64 a.mq, .slice (some ⟨y.go, 0, none⟩) l.os.length (l.os.length + 9), .int .i64 a.r1, .int .i64 a.r2, .int .i64 a.r3, .int .i64 a.tu, .int .u64 a.gen, .slice (some ⟨y.gr, 0, none⟩) l.rs.length (l.rs.length + 9)] := by rw [← hW0, hyb]; exact Blk.new W1 _ _
      rw [← hyb, hW0]
      clear hW0 hyb hQW HX2 HZ2 HF1 HY
      have cb0 : ∀ p : FrBy W0, p.w.cell? ⟨w.heap.size, 0, none⟩ = some (.slice (some ⟨g, o, none⟩) xs.length sc) := fun p => b0 ⟨p.w, HV0.out.trans p.fr⟩
      have cb1 : ∀ p : FrBy W0, p.w.cell? ⟨w.heap.size, 1, none⟩ = some (.slice (some ⟨g', o', none⟩) ys.length ac) := fun p => b1 ⟨p.w, HV0.out.trans p.fr⟩
      have cb2 : ∀ p : FrBy W0, p.w.cell? ⟨w.heap.size, 2, none⟩ = some (.int .i64 t) := fun p => b2 ⟨p.w, HV0.out.trans p.fr⟩
      have cs0 : ∀ p : FrBy W0, p.w.cell? ⟨g, o + i * 6, none⟩ = some (.int .u64 s.q) := fun p => s0 ⟨p.w, HV0.out.trans p.fr⟩
      have cs1 : ∀ p : FrBy W0, p.w.cell? ⟨g, o + i * 6 + 1, none⟩ = some (.slice s.P s.np s.cp) := fun p => s1 ⟨p.w, HV0.out.trans p.fr⟩
      have cs2 : ∀ p : FrBy W0, p.w.cell? ⟨g, o + i * 6 + 2, none⟩ = some (.slice s.R s.nr s.cr) := fun p => s2 ⟨p.w, HV0.out.trans p.fr⟩
      have cs3 : ∀ p : FrBy W0, p.w.cell? ⟨g, o + i * 6 + 3, none⟩ = some (.slice s.L s.nl s.cl) := fun p => s3 ⟨p.w, HV0.out.trans p.fr⟩
      have cs4 : ∀ p : FrBy W0, p.w.cell? ⟨g, o + i * 6 + 4, none⟩ = some (.slice s.G s.ng s.cg) := fun p => s4 ⟨p.w, HV0.out.trans p.fr⟩
      have cs5 : ∀ p : FrBy W0, p.w.cell? ⟨g, o + i * 6 + 5, none⟩ = some (.slice s.O s.no s.co) := fun p => s5 ⟨p.w, HV0.out.trans p.fr⟩
      have ca0 : ∀ p : FrBy W0, p.w.cell? ⟨g', o' + k * 15, none⟩ = some (.int .i64 a.t) := fun p => a0 ⟨p.w, HV0.out.trans p.fr⟩
      have ca1 : ∀ p : FrBy W0, p.w.cell? ⟨g', o' + k * 15 + 1, none⟩ = some (.int .u64 a.n) := fun p => a1 ⟨p.w, HV0.out.trans p.fr⟩
      have ca2 : ∀ p : FrBy W0, p.w.cell? ⟨g', o' + k * 15 + 2, none⟩ = some (.int .i64 a.k) := fun p => a2 ⟨p.w, HV0.out.trans p.fr⟩
      have ca3 : ∀ p : FrBy W0, p.w.cell? ⟨g', o' + k * 15 + 3, none⟩ = some (.bool a.sure) := fun p => a3 ⟨p.w, HV0.out.trans p.fr⟩
      have ca4 : ∀ p : FrBy W0, p.w.cell? ⟨g', o' + k * 15 + 4, none⟩ = some (.slice a.lA a.ln a.lc) := fun p => a4 ⟨p.w, HV0.out.trans p.fr⟩
      have ca5 : ∀ p : FrBy W0, p.w.cell? ⟨g', o' + k * 15 + 5, none⟩ = some (.slice a.gA a.gn a.gc) := fun p => a5 ⟨p.w, HV0.out.trans p.fr⟩
      have ca6 : ∀ p : FrBy W0, p.w.cell? ⟨g', o' + k * 15 + 6, none⟩ = some (.slice a.sA a.sn a.sc) := fun p => a6 ⟨p.w, HV0.out.trans p.fr⟩
      have ca7 : ∀ p : FrBy W0, p.w.cell? ⟨g', o' + k * 15 + 7, none⟩ = some (.int .i64 a.mq) := fun p => a7 ⟨p.w, HV0.out.trans p.fr⟩
      have ca8 : ∀ p : FrBy W0, p.w.cell? ⟨g', o' + k * 15 + 8, none⟩ = some (.slice a.oA a.on a.oc) := fun p => a8 ⟨p.w, HV0.out.trans p.fr⟩
      have ca9 : ∀ p : FrBy W0, p.w.cell? ⟨g', o' + k * 15 + 9, none⟩ = some (.int .i64 a.r1) := fun p => a9 ⟨p.w, HV0.out.trans p.fr⟩
      have ca10 : ∀ p : FrBy W0, p.w.cell? ⟨g', o' + k * 15 + 10, none⟩ = some (.int .i64 a.r2) := fun p => a10 ⟨p.w, HV0.out.trans p.fr⟩
      have ca11 : ∀ p : FrBy W0, p.w.cell? ⟨g', o' + k * 15 + 11, none⟩ = some (.int .i64 a.r3) := fun p => a11 ⟨p.w, HV0.out.trans p.fr⟩
      have ca12 : ∀ p : FrBy W0, p.w.cell? ⟨g', o' + k * 15 + 12, none⟩ = some (.int .i64 a.tu) := fun p => a12 ⟨p.w, HV0.out.trans p.fr⟩
      have ca13 : ∀ p : FrBy W0, p.w.cell? ⟨g', o' + k * 15 + 13, none⟩ = some (.int .u64 a.gen) := fun p => a13 ⟨p.w, HV0.out.trans p.fr⟩
      have ca14 : ∀ p : FrBy W0, p.w.cell? ⟨g', o' + k * 15 + 14, none⟩ = some (.slice a.hA a.hn a.hc) := fun p => a14 ⟨p.w, HV0.out.trans p.fr⟩
      have x0 : ∀ p : FrBy W0, p.w.cell? ⟨xb, 0, none⟩ = some (.int .u64 s.q) := fun p => (BX.kept0 p.fr).cell 0
      have x1 : ∀ p : FrBy W0, p.w.cell? ⟨xb, 1, none⟩ = some (.slice (some ⟨z.gP, 0, none⟩) d.ps.length (d.ps.length + 9)) := fun p => (BX.kept0 p.fr).cell 1
      have x2 : ∀ p : FrBy W0, p.w.cell? ⟨xb, 2, none⟩ = some (.slice (some ⟨z.gR, 0, none⟩) d.vs.length (d.vs.length + 9)) := fun p => (BX.kept0 p.fr).cell 2
      have x3 : ∀ p : FrBy W0, p.w.cell? ⟨xb, 3, none⟩ = some (.slice (some ⟨z.gL, 0, none⟩) d.ls.length (d.ls.length + 9)) := fun p => (BX.kept0 p.fr).cell 3
      have x4 : ∀ p : FrBy W0, p.w.cell? ⟨xb, 4, none⟩ = some (.slice (some ⟨z.gG, 0, none⟩) d.gs.length (d.gs.length + 9)) := fun p => (BX.kept0 p.fr).cell 4
      have x5 : ∀ p : FrBy W0, p.w.cell? ⟨xb, 5, none⟩ = some (.slice (some ⟨z.gO, 0, none⟩) d.os.length (d.os.length + 9)) := fun p => (BX.kept0 p.fr).cell 5
      have y0 : ∀ p : FrBy W0, p.w.cell? ⟨yb, 0, none⟩ = some (.int .i64 a.t) := fun p => (BY.kept0 p.fr).cell 0
      have y1 : ∀ p : FrBy W0, p.w.cell? ⟨yb, 1, none⟩ = some (.int .u64 a.n) := fun p => (BY.kept0 p.fr).cell 1
      have y2 : ∀ p : FrBy W0, p.w.cell? ⟨yb, 2, none⟩ = some (.int .i64 a.k) := fun p => (BY.kept0 p.fr).cell 2
      have y3 : ∀ p : FrBy W0, p.w.cell? ⟨yb, 3, none⟩ = some (.bool a.sure) := fun p => (BY.kept0 p.fr).cell 3
      have y4 : ∀ p : FrBy W0, p.w.cell? ⟨yb, 4, none⟩ = some (.slice (some ⟨y.gl, 0, none⟩) l.xs.length (l.xs.length + 9)) := fun p => (BY.kept0 p.fr).cell 4
      have y5 : ∀ p : FrBy W0, p.w.cell? ⟨yb, 5, none⟩ = some (.slice (some ⟨y.gg, 0, none⟩) l.gs.length (l.gs.length + 9)) := fun p => (BY.kept0 p.fr).cell 5
      have y6 : ∀ p : FrBy W0, p.w.cell? ⟨yb, 6, none⟩ = some (.slice (some ⟨y.gs, 0, none⟩) l.ss.length (l.ss.length + 9)) := fun p => (BY.kept0 p.fr).cell 6
      have y7 : ∀ p : FrBy W0, p.w.cell? ⟨yb, 7, none⟩ = some (.int .i64 a.mq) := fun p => (BY.kept0 p.fr).cell 7
      have y8 : ∀ p : FrBy W0, p.w.cell? ⟨yb, 8, none⟩ = some (.slice (some ⟨y.go, 0, none⟩) l.os.length (l.os.length + 9)) := fun p => (BY.kept0 p.fr).cell 8
      have y9 : ∀ p : FrBy W0, p.w.cell? ⟨yb, 9, none⟩ = some (.int .i64 a.r1) := fun p => (BY.kept0 p.fr).cell 9
      have y10 : ∀ p : FrBy W0, p.w.cell? ⟨yb, 10, none⟩ = some (.int .i64 a.r2) := fun p => (BY.kept0 p.fr).cell 10
      have y11 : ∀ p : FrBy W0, p.w.cell? ⟨yb, 11, none⟩ = some (.int .i64 a.r3) := fun p => (BY.kept0 p.fr).cell 11
      have y12 : ∀ p : FrBy W0, p.w.cell? ⟨yb, 12, none⟩ = some (.int .i64 a.tu) := fun p => (BY.kept0 p.fr).cell 12
      have y13 : ∀ p : FrBy W0, p.w.cell? ⟨yb, 13, none⟩ = some (.int .u64 a.gen) := fun p => (BY.kept0 p.fr).cell 13
      have y14 : ∀ p : FrBy W0, p.w.cell? ⟨yb, 14, none⟩ = some (.slice (some ⟨y.gr, 0, none⟩) l.rs.length (l.rs.length + 9)) := fun p => (BY.kept0 p.fr).cell 14
      have HSX : Hid (∀ p : FrBy W0, StOk p.w (stLent s.q d z) d) := hide (fun p => (HZ.out.keep p.fr).ok s.q)
      have HAY : Hid (∀ p : FrBy W0, ActOk p.w (actLent a l y) l) := hide (fun p => (HY2.out.keep p.fr).ok (HAO.out.keep (HV0.out.trans p.fr)))
      have C1 : Hid (∀ p : FrBy W0, Calls Try.prog 6 #[.slice (some ⟨y.gl, 0, none⟩) l.xs.length (l.xs.length + 9)] p.w fun e w' => ∃ v, e = .returned v ∧ ∃ q : FrBy W0, w' = q.w) := hide (fun p => (Needs_c _ _ l.xs HAO.out.wx HAO.out.bx p.w (HAY.out p).lines).mono (by rintro e w' ⟨A1, c1, he, _, F⟩; exact ⟨_, he, ⟨w', p.fr.trans F⟩, rfl⟩))
      have C2 : Hid (∀ p : FrBy W0, Calls Try.prog 7 #[.agg #[.int .u64 s.q, .slice (some ⟨z.gP, 0, none⟩) d.ps.length (d.ps.length + 9), .slice (some ⟨z.gR, 0, none⟩) d.vs.length (d.vs.length + 9), .slice (some ⟨z.gL, 0, none⟩) d.ls.length (d.ls.length + 9), .slice (some ⟨z.gG, 0, none⟩) d.gs.length (d.gs.length + 9), .slice (some ⟨z.gO, 0, none⟩) d.os.length (d.os.length + 9)], .slice (some ⟨y.gl, 0, none⟩) l.xs.length (l.xs.length + 9)] p.w fun e w' => e = .returned (.bool (freeL d.ps l.xs)) ∧ ∃ q : FrBy W0, w' = q.w) := hide (fun p => calls_fr (Free_c (stLent s.q d z) d.ps rfl _ _ l.xs HAO.out.wx HAO.out.bx p.w (HSX.out p).pools (HAY.out p).lines))
      have C3 : Hid (∀ (p : FrBy W0) (t : Int), Calls Try.prog 8 #[.agg #[.int .u64 s.q, .slice (some ⟨z.gP, 0, none⟩) d.ps.length (d.ps.length + 9), .slice (some ⟨z.gR, 0, none⟩) d.vs.length (d.vs.length + 9), .slice (some ⟨z.gL, 0, none⟩) d.ls.length (d.ls.length + 9), .slice (some ⟨z.gG, 0, none⟩) d.gs.length (d.gs.length + 9), .slice (some ⟨z.gO, 0, none⟩) d.os.length (d.os.length + 9)], .int .i64 t, .slice (some ⟨y.gl, 0, none⟩) l.xs.length (l.xs.length + 9)] p.w fun e w' => e = .returned (.bool (holdsL d.ps t l.xs)) ∧ ∃ q : FrBy W0, w' = q.w) := hide (fun p t => calls_fr (Holds_c (stLent s.q d z) d.ps rfl t _ _ l.xs HAO.out.wx HAO.out.bx p.w (HSX.out p).pools (HAY.out p).lines))
      have C4 : Hid (∀ (p : FrBy W0) (t : Int), Calls Try.prog 8 #[.agg #[.int .u64 s.q, .slice (some ⟨z.gP, 0, none⟩) d.ps.length (d.ps.length + 9), .slice (some ⟨z.gR, 0, none⟩) d.vs.length (d.vs.length + 9), .slice (some ⟨z.gL, 0, none⟩) d.ls.length (d.ls.length + 9), .slice (some ⟨z.gG, 0, none⟩) d.gs.length (d.gs.length + 9), .slice (some ⟨z.gO, 0, none⟩) d.os.length (d.os.length + 9)], .int .i64 t, .slice (some ⟨y.go, 0, none⟩) l.os.length (l.os.length + 9)] p.w fun e w' => e = .returned (.bool (holdsL d.ps t l.os)) ∧ ∃ q : FrBy W0, w' = q.w) := hide (fun p t => calls_fr (Holds_c (stLent s.q d z) d.ps rfl t _ _ l.os HAO.out.wo HAO.out.bo p.w (HSX.out p).pools (HAY.out p).other))
      have C5 : Hid (∀ p : FrBy W0, Calls Try.prog 9 #[.agg #[.int .u64 s.q, .slice (some ⟨z.gP, 0, none⟩) d.ps.length (d.ps.length + 9), .slice (some ⟨z.gR, 0, none⟩) d.vs.length (d.vs.length + 9), .slice (some ⟨z.gL, 0, none⟩) d.ls.length (d.ls.length + 9), .slice (some ⟨z.gG, 0, none⟩) d.gs.length (d.gs.length + 9), .slice (some ⟨z.gO, 0, none⟩) d.os.length (d.os.length + 9)], .slice (some ⟨y.gg, 0, none⟩) l.gs.length (l.gs.length + 9)] p.w fun e w' => e = .returned (.bool (l.gs.all (guardD d.ps d.vs))) ∧ ∃ q : FrBy W0, w' = q.w) := hide (fun p => calls_fr (Guarded_c (stLent s.q d z) d.ps d.vs rfl rfl _ _ l.gs p.w (HSX.out p).pools (HSX.out p).prices (HAY.out p).guards))
      have C6 : Hid (∀ p : FrBy W0, Calls Try.prog 10 #[.agg #[.int .u64 s.q, .slice (some ⟨z.gP, 0, none⟩) d.ps.length (d.ps.length + 9), .slice (some ⟨z.gR, 0, none⟩) d.vs.length (d.vs.length + 9), .slice (some ⟨z.gL, 0, none⟩) d.ls.length (d.ls.length + 9), .slice (some ⟨z.gG, 0, none⟩) d.gs.length (d.gs.length + 9), .slice (some ⟨z.gO, 0, none⟩) d.os.length (d.os.length + 9)], .slice (some ⟨y.gs, 0, none⟩) l.ss.length (l.ss.length + 9)] p.w fun e w' => e = .returned (.bool (openD d.vs l.ss)) ∧ ∃ q : FrBy W0, w' = q.w) := hide (fun p => calls_fr (Open_c (stLent s.q d z) d.vs rfl _ _ l.ss p.w (HSX.out p).prices (HAY.out p).sets))
      have C7 : Hid (∀ p : FrBy W0, Calls Try.prog 11 #[.agg #[.int .u64 s.q, .slice (some ⟨z.gP, 0, none⟩) d.ps.length (d.ps.length + 9), .slice (some ⟨z.gR, 0, none⟩) d.vs.length (d.vs.length + 9), .slice (some ⟨z.gL, 0, none⟩) d.ls.length (d.ls.length + 9), .slice (some ⟨z.gG, 0, none⟩) d.gs.length (d.gs.length + 9), .slice (some ⟨z.gO, 0, none⟩) d.os.length (d.os.length + 9)], .agg #[.int .i64 a.t, .int .u64 a.n, .int .i64 a.k, .bool a.sure, .slice (some ⟨y.gl, 0, none⟩) l.xs.length (l.xs.length + 9), .slice (some ⟨y.gg, 0, none⟩) l.gs.length (l.gs.length + 9), .slice (some ⟨y.gs, 0, none⟩) l.ss.length (l.ss.length + 9), .int .i64 a.mq, .slice (some ⟨y.go, 0, none⟩) l.os.length (l.os.length + 9), .int .i64 a.r1, .int .i64 a.r2, .int .i64 a.r3, .int .i64 a.tu, .int .u64 a.gen, .slice (some ⟨y.gr, 0, none⟩) l.rs.length (l.rs.length + 9)]] p.w fun e w' => ∃ v, e = .returned v ∧ ∃ q : FrBy W0, w' = q.w) := hide (fun p => (HJ (stLent s.q d z) d (actLent a l y) l p.w (HSX.out p) (HAY.out p)).mono (by rintro e w' ⟨A1, n1, c1, A2, n2, c2, he, _, F⟩; exact ⟨_, he, ⟨w', p.fr.trans F⟩, rfl⟩))
      have C8 : Hid (∀ p : FrBy W0, Calls Try.prog 12 #[.agg #[.int .u64 s.q, .slice (some ⟨z.gP, 0, none⟩) d.ps.length (d.ps.length + 9), .slice (some ⟨z.gR, 0, none⟩) d.vs.length (d.vs.length + 9), .slice (some ⟨z.gL, 0, none⟩) d.ls.length (d.ls.length + 9), .slice (some ⟨z.gG, 0, none⟩) d.gs.length (d.gs.length + 9), .slice (some ⟨z.gO, 0, none⟩) d.os.length (d.os.length + 9)], .agg #[.int .u64 s.q, .slice s.P s.np s.cp, .slice s.R s.nr s.cr, .slice s.L s.nl s.cl, .slice s.G s.ng s.cg, .slice s.O s.no s.co]] p.w fun e w' => e = .returned (.bool true) ∧ ∃ q : FrBy W0, w' = q.w) := hide (fun p => calls_fr (back_state s d z _ p.w (HSO.out.keep (HV0.out.trans p.fr)) (HZ.out.keep p.fr)))
      have C9 : Hid (∀ p : FrBy W0, Calls Try.prog 13 #[.agg #[.int .i64 a.t, .int .u64 a.n, .int .i64 a.k, .bool a.sure, .slice (some ⟨y.gl, 0, none⟩) l.xs.length (l.xs.length + 9), .slice (some ⟨y.gg, 0, none⟩) l.gs.length (l.gs.length + 9), .slice (some ⟨y.gs, 0, none⟩) l.ss.length (l.ss.length + 9), .int .i64 a.mq, .slice (some ⟨y.go, 0, none⟩) l.os.length (l.os.length + 9), .int .i64 a.r1, .int .i64 a.r2, .int .i64 a.r3, .int .i64 a.tu, .int .u64 a.gen, .slice (some ⟨y.gr, 0, none⟩) l.rs.length (l.rs.length + 9)], .agg #[.int .i64 a.t, .int .u64 a.n, .int .i64 a.k, .bool a.sure, .slice a.lA a.ln a.lc, .slice a.gA a.gn a.gc, .slice a.sA a.sn a.sc, .int .i64 a.mq, .slice a.oA a.on a.oc, .int .i64 a.r1, .int .i64 a.r2, .int .i64 a.r3, .int .i64 a.tu, .int .u64 a.gen, .slice a.hA a.hn a.hc]] p.w fun e w' => e = .returned (.bool true) ∧ ∃ q : FrBy W0, w' = q.w) := hide (fun p => calls_fr (back_act a l y _ p.w (HAO.out.keep (HV0.out.trans p.fr)) (HY2.out.keep p.fr)))
      obtain ⟨p, hp⟩ : ∃ p : FrBy W0, p.w = W0 := ⟨⟨W0, Fr.refl _ _⟩, rfl⟩
      rw [← hp]
      clear hp BX BY q b0 b1 b2 s0 s1 s2 s3 s4 s5 a0 a1 a2 a3 a4 a5 a6 a7 a8 a9 a10 a11 a12 a13 a14
      go_wp2_with fail
      refine (C1.out _).mono ?_
      rintro e w1 ⟨v, rfl, p, rfl⟩
      go_wp2_with fail
      refine (C2.out _).mono ?_
      rintro e w1 ⟨rfl, p, rfl⟩
      go_wp2_with fail
      refine (C3.out _ _).mono ?_
      rintro e w1 ⟨rfl, p, rfl⟩
      go_wp2_with fail
      refine (C4.out _ _).mono ?_
      rintro e w1 ⟨rfl, p, rfl⟩
      go_wp2_with fail
      refine (C5.out _).mono ?_
      rintro e w1 ⟨rfl, p, rfl⟩
      go_wp2_with fail
      refine (C6.out _).mono ?_
      rintro e w1 ⟨rfl, p, rfl⟩
      go_wp2_with fail
      refine (C7.out _).mono ?_
      rintro e w1 ⟨v, rfl, p, rfl⟩
      go_wp2_with fail
      (refine wp_region_fr W0 (by kernel_rfl) (by kernel_rfl) p.fr ?_; (repeat (quiet_step (first | exact C8.out _ | exact C9.out _))); refine wpQuiet_nil ?_; intro wz hw'; obtain ⟨p, rfl⟩ := hw')
      go_wp2_with fail
      exact ⟨⟨k + 1, by simp, hkt, ⟨p.w, HV0.out.trans p.fr⟩, rfl⟩, by simp [intOf]; omega⟩
end Go.Proofs.Ytmnajpkmglmipaa
