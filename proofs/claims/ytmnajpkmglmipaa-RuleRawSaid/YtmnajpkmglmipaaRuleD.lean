/- Contracts of package rule: guards, open settings. -/
import Derived.Test.YtmnajpkmglmipaaRuleA
namespace Go.Proofs.Ytmnajpkmglmipaa
open Go.RowKit

/-- Does a guard hold? -/
def guardD (ps : List PoolD) (vs : List PricedD) (g : GuardD) : Bool :=
  if g.1 = 4 then decide (versionD vs g.2.1 = g.2.2) else if g.2.1 < 0 then false else match ps[g.2.1.toNat]? with
  | none => false
  | some p => if g.1 = 1 then decide (g.2.2 ≤ p.1) else if g.1 = 2 then decide (p.1 ≤ g.2.2) else decide (p.1 = g.2.2)
set_option maxRecDepth 100000 in
set_option maxHeartbeats 1000000 in
theorem holds_c (s : StV) (ps : List PoolD) (vs : List PricedD) (hn : s.np = ps.length) (hr : s.nr = vs.length) (k p n : Int) (w : World) (h : kPool.Row w s.P s.cp ps) (h' : Sl fPriced w s.R s.cr vs) :
    Calls Try.prog 31 #[.agg #[.int .u64 s.q, .slice s.P s.np s.cp, .slice s.R s.nr s.cr, .slice s.L s.nl s.cl, .slice s.G s.ng s.cg, .slice s.O s.no s.co], .agg #[.int .i64 k, .int .i64 p, .int .i64 n]] w fun e w' => e = .returned (.bool (guardD ps vs (k, p, n))) ∧ Fr no w w' := by
  have hle := h.1
  have htop := h.2.1
  simp only [maxLen] at htop
  by_cases hk : k = 4
  · subst hk
    obtain ⟨v, hv⟩ : ∃ v, v = versionD vs p := ⟨_, rfl⟩
    rw [show guardD ps vs (4, p, n) = decide (v = n) by rw [hv]; rfl]
    have HC : Hid (∀ W, Fr no w W → Calls Try.prog 34 #[.agg #[.int .u64 s.q, .slice s.P s.np s.cp, .slice s.R s.nr s.cr, .slice s.L s.nl s.cl, .slice s.G s.ng s.cg, .slice s.O s.no s.co], .int .i64 p] W fun e w' => e = .returned (.int .i64 v) ∧ Fr no W w') := hide (fun W F => by
      rw [hv]; exact version_c s vs hr p W (h'.below F.below))
    clear hv h h' hn hr
    go_enter Try.func31, Try.ntmps31
    go_wp2_with fail
    have HB := hide ((Blk.new w 32 #[.int .u64 s.q, .slice s.P s.np s.cp, .slice s.R s.nr s.cr, .slice s.L s.nl s.cl, .slice s.G s.ng s.cg, .slice s.O s.no s.co]).alloc (.cells #[.int .i64 4, .int .i64 p, .int .i64 n] 81))
    have HG := hide (show Blk ((w.alloc (.cells #[.int .u64 s.q, .slice s.P s.np s.cp, .slice s.R s.nr s.cr, .slice s.L s.nl s.cl, .slice s.G s.ng s.cg, .slice s.O s.no s.co] 32)).alloc (.cells #[.int .i64 4, .int .i64 p, .int .i64 n] 81)) (w.heap.size + 1) 81 #[.int .i64 4, .int .i64 p, .int .i64 n] by have := Blk.new (w.alloc (.cells #[.int .u64 s.q, .slice s.P s.np s.cp, .slice s.R s.nr s.cr, .slice s.L s.nl s.cl, .slice s.G s.ng s.cg, .slice s.O s.no s.co] 32)) 81 #[.int .i64 4, .int .i64 p, .int .i64 n]; rwa [World.size_alloc] at this)
    have HF := hide (show Fr no w ((w.alloc (.cells #[.int .u64 s.q, .slice s.P s.np s.cp, .slice s.R s.nr s.cr, .slice s.L s.nl s.cl, .slice s.G s.ng s.cg, .slice s.O s.no s.co] 32)).alloc (.cells #[.int .i64 4, .int .i64 p, .int .i64 n] 81)) from ((Fr.refl no w).alloc _).alloc _)
    generalize (w.alloc (.cells #[.int .u64 s.q, .slice s.P s.np s.cp, .slice s.R s.nr s.cr, .slice s.L s.nl s.cl, .slice s.G s.ng s.cg, .slice s.O s.no s.co] 32)).alloc (.cells #[.int .i64 4, .int .i64 p, .int .i64 n] 81) = W0 at *
    generalize w.heap.size = g at *
    have HK : Hid (∀ W', Fr no W0 W' → W'.cell? ⟨g, 0, none⟩ = some (.int .u64 s.q) ∧ W'.cell? ⟨g, 1, none⟩ = some (.slice s.P s.np s.cp) ∧ W'.cell? ⟨g, 2, none⟩ = some (.slice s.R s.nr s.cr) ∧ W'.cell? ⟨g, 3, none⟩ = some (.slice s.L s.nl s.cl) ∧ W'.cell? ⟨g, 4, none⟩ = some (.slice s.G s.ng s.cg) ∧ W'.cell? ⟨g, 5, none⟩ = some (.slice s.O s.no s.co) ∧ W'.cell? ⟨g + 1, 1, none⟩ = some (.int .i64 p) ∧ W'.cell? ⟨g + 1, 2, none⟩ = some (.int .i64 n) ∧ Fr no W0 W') :=
      hide (fun W' F' => ⟨(HB.out.kept0 F').cell 0, (HB.out.kept0 F').cell 1, (HB.out.kept0 F').cell 2, (HB.out.kept0 F').cell 3, (HB.out.kept0 F').cell 4, (HB.out.kept0 F').cell 5, (HG.out.kept0 F').cell 1, (HG.out.kept0 F').cell 2, F'⟩)
    go_region_held3 (fun W' => W'.cell? ⟨g, 0, none⟩ = some (.int .u64 s.q) ∧ W'.cell? ⟨g, 1, none⟩ = some (.slice s.P s.np s.cp) ∧ W'.cell? ⟨g, 2, none⟩ = some (.slice s.R s.nr s.cr) ∧ W'.cell? ⟨g, 3, none⟩ = some (.slice s.L s.nl s.cl) ∧ W'.cell? ⟨g, 4, none⟩ = some (.slice s.G s.ng s.cg) ∧ W'.cell? ⟨g, 5, none⟩ = some (.slice s.O s.no s.co) ∧ W'.cell? ⟨g + 1, 1, none⟩ = some (.int .i64 p) ∧ W'.cell? ⟨g + 1, 2, none⟩ = some (.int .i64 n) ∧ Fr no W0 W')
      (first | exact HK.out _ (Fr.refl _ _).drew | exact HK.out _ ‹_›)
      (first
        | (go_at_call 34; refine (HC.out _ (HF.out.trans (by first | exact (Fr.refl _ _).drew | assumption))).mono ?_; rintro e w1 ⟨rfl, F5⟩; have F6 := (show Fr no W0 w1 from (by first | exact ((Fr.refl _ _).drew).trans F5 | exact Fr.trans (by assumption) F5)); clear F5))
    all_goals
      rename_i hH
      have F9 := HF.out.trans hH.2.2.2.2.2.2.2.2
      go_wp2_with fail
      go_ret
      exact ⟨by first | rfl | simp, F9⟩
  · by_cases h0 : p < 0
    · rw [show guardD ps vs (k, p, n) = false by simp [guardD, hk, h0]]
      clear h h'
      go_enter Try.func31, Try.ntmps31
      go_wp2_with fail
      go_ret
      exact ⟨rfl, ((Fr.refl no w).alloc _).alloc _⟩
    · obtain ⟨m, rfl⟩ : ∃ m : Nat, p = m := ⟨p.toNat, by omega⟩
      by_cases h1 : m < ps.length
      · obtain ⟨g, o, hP, a0, _⟩ := pool_cells h m h1
        have a0' := fun ob ob' => cell_any2 a0 ob ob'
        have i1 : (m : Int) < s.np := by omega
        have i0 : (0 : Int) ≤ m := by omega
        rw [show guardD ps vs (k, (m : Int), n) = if k = 1 then decide (n ≤ ps[m].1) else if k = 2 then decide (ps[m].1 ≤ n) else decide (ps[m].1 = n) by unfold guardD; rw [if_neg hk, if_neg h0]; simp [h1]]
        generalize ps[m].1 = v at *
        clear h h' a0
        by_cases k1 : k = 1
        · subst k1
          go_enter Try.func31, Try.ntmps31
          go_wp2_with fail
          go_ret
          exact ⟨by first | rfl | simp, ((Fr.refl no w).alloc _).alloc _⟩
        · by_cases k2 : k = 2
          · subst k2
            go_enter Try.func31, Try.ntmps31
            go_wp2_with fail
            go_ret
            exact ⟨by first | rfl | simp, ((Fr.refl no w).alloc _).alloc _⟩
          · rw [if_neg k1, if_neg k2]
            go_enter Try.func31, Try.ntmps31
            go_wp2_with fail
            go_ret
            exact ⟨by first | rfl | simp, ((Fr.refl no w).alloc _).alloc _⟩
      · rw [show guardD ps vs (k, (m : Int), n) = false by unfold guardD; rw [if_neg hk, if_neg h0]; simp [h1]]
        have i1 : ¬ (m : Int) < s.np := by omega
        clear h h'
        go_enter Try.func31, Try.ntmps31
        go_wp2_with fail
        go_ret
        exact ⟨rfl, ((Fr.refl no w).alloc _).alloc _⟩
end Go.Proofs.Ytmnajpkmglmipaa
