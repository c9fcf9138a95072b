/- RuleF RuleG RuleB -/
import Derived.Test.YtmnajpkmglmipaaGreatMRuleNeeds06
import Derived.Test.YtmnajpkmglmipaaGreatMRuleNeeds05
import Derived.Deep.RegionHeldLaw
import Derived.Lib.SliceRun
import Derived.BigRegion
/- Contracts of package rule: slices.Clone at lines; settings renewed. -/
namespace Go.Proofs.YtmnajpkmglmipaaGreat
open Go.RowKit

theorem sl_row {α : Type} {f : Flat α} {w : World} {A : Option Addr} {c : Nat} {xs : List α} (h : Sl f w A c xs) : ∀ ad, A = some ad → ∀ j u, (f.all xs)[j]? = some u → w.cell? (ad.add j) = some u := by
  intro ad ha j u hj
  have hlt : j < (f.all xs).length := (List.getElem?_eq_some_iff.1 hj).1
  rw [f.all_length] at hlt
  have hi : j / f.sz < xs.length := Nat.div_lt_of_lt_mul (by rw [Nat.mul_comm]; exact hlt)
  have hr : j % f.sz < f.sz := Nat.mod_lt _ f.pos
  have e : j = j / f.sz * f.sz + j % f.sz := by rw [Nat.mul_comm]; exact (Nat.div_add_mod _ _).symm
  obtain ⟨g, o, hA, hc⟩ := h.cells (List.length_pos_iff.1 (Nat.lt_of_le_of_lt (Nat.zero_le _) hi))
  rw [ha] at hA
  obtain rfl := Option.some.inj hA
  have := hc (j / f.sz) hi (j % f.sz) hr
  rw [Nat.add_assoc, ← e] at this
  rw [Kd.addr_add, this, ← hj]
  rw [e] at hj
  rw [f.all_get xs _ _ hi hr] at hj
  conv => rhs; rw [e]
  rw [f.all_get xs _ _ hi hr]
set_option maxRecDepth 100000 in
set_option maxHeartbeats 1000000 in
theorem clone_c (A : Option Addr) (c : Nat) (xs : List LineD) (hb : xs.length * 16 ≤ 140737488351232) (w : World) (h : Sl fLine w A c xs) :
    Calls Tryz.prog 191 #[.slice A xs.length c] w fun e w' => ∃ A' c', e = .returned (.slice A' xs.length c') ∧ Om fLine 57 w.heap.size w' A' c' xs ∧ Fr no w w' := by
  obtain ⟨i0, hi, hz0, hz1, hz2⟩ := info_parts info_line
  have q36 : ∀ (w : World) (a : Option Addr) (n c n' c' : Nat), (binOp .eql 55 (.slice a n c) (.slice none n' c')).run Tryz.prog w = .ok (.bool a.isNone) w := fun w a n c n' c' => Lib.run_eql_slice_nil w _ _ a n c n' c' Tryz.underlying55
  cases A with
  | none =>
    have h0 := h.none rfl
    have hl := h.le
    have hx : xs = [] := List.eq_nil_of_length_eq_zero (by omega)
    subst hx
    clear h
    go_enter Tryz.func191, Tryz.ntmps191
    go_wp2_with fail
    go_ret
    exact ⟨none, 0, rfl, om_none _ _ _ _, Fr.refl _ _⟩
  | some ad =>
    have HR := hide (sl_row (h.below ((Fr.refl no w).alloc (.cells #[] 57)).below) ad rfl)
    have HL := hide (fLine.all_length xs)
    have HO := hide (fLine.all_one xs)
    clear h
    go_enter Tryz.func191, Tryz.ntmps191
    go_wp2_with (at_builtin; refine wpList_append_own _ rfl _ _ 55 rfl w.heap.size 57 i0 (.agg #[.int .i64 0, .int .i64 0]) 2 16 Tryz.underlying55 hi hz0 hz1 hz2 rfl (by decide) _ 0 [] rfl (World.ownsRow_made w #[] 0 (Nat.le_refl _) (Nat.zero_le _) (by simp)) ad xs.length c (fLine.all xs) rfl HL.out HR.out HO.out (by simp only [maxLen]; omega) (by omega) (by simp) ?_; intro v' w1 hown hgrow hnil)
    have HOWN := hide hown
    have F1 := hide (((Fr.refl no w).alloc (.cells #[] 57)).thru (Fr.of_grown hgrow) (fun i hlt e => by have e2 : i = w.heap.size := Option.some.inj e; omega))
    clear hown hgrow hnil
    go_wp2_with fail
    go_ret
    have q := HOWN.out
    rw [Nat.zero_add, List.nil_append] at q
    obtain ⟨A', c', rfl, hs⟩ := om_of (f := fLine) (xs := xs) q
    exact ⟨A', c', rfl, hs, F1.out⟩
/-- Settings with their prices' next versions. -/
def renewD (vs : List PricedD) (x : SetD) : SetD := (x.1, IntKind.i64.wrap (versionD vs x.1 + 1), x.2.2)
set_option maxRecDepth 100000 in
set_option maxHeartbeats 2000000 in
theorem renewed_c (s : StV) (vs : List PricedD) (hv : s.nr = vs.length) (A : Option Addr) (c : Nat) (xs : List SetD) (hb : xs.length * 24 ≤ 140737488351232) (w : World) (h' : Sl fPriced w s.R s.cr vs) (hs : Sl fSet w A c xs) :
    Calls Tryz.prog 192 #[.agg #[.int .u64 s.q, .slice s.P s.np s.cp, .slice s.R s.nr s.cr, .slice s.L s.nl s.cl, .slice s.G s.ng s.cg, .slice s.O s.no s.co], .slice A xs.length c] w fun e w' => ∃ A' c', e = .returned (.slice A' xs.length c') ∧ Om fSet 108 w.heap.size w' A' c' (xs.map (renewD vs)) ∧ Fr no w w' := by
  obtain ⟨i0, hi, hz0, hz1, hz2⟩ := info_parts info_set
  have hle := hs.le
  have htop := hs.top
  simp only [maxLen] at htop
  have HQ : Hid (∀ W, Fr no w W → Sl fPriced W s.R s.cr vs ∧ Sl fSet W A c xs) := hide (fun W F => ⟨h'.below F.below, hs.below F.below⟩)
  have HB0 := hide (Blk.new w 77 #[.int .u64 s.q, .slice s.P s.np s.cp, .slice s.R s.nr s.cr, .slice s.L s.nl s.cl, .slice s.G s.ng s.cg, .slice s.O s.no s.co])
  have HNV := hide hv
  clear h' hs hv
  go_enter Tryz.func192, Tryz.ntmps192
  go_wp2_with fail
  go_loopw [5, 10] (fun u i wr => ∃ m : Nat, i = .int .i64 m ∧ m ≤ xs.length ∧ Fr no w wr ∧ Blk wr w.heap.size 77 #[.int .u64 s.q, .slice s.P s.np s.cp, .slice s.R s.nr s.cr, .slice s.L s.nl s.cl, .slice s.G s.ng s.cg, .slice s.O s.no s.co] ∧ wr.ownsRow (w.heap.size + 1) 108 3 u m (fSet.all ((xs.take m).map (renewD vs))) ∧ w.heap.size + 1 ≤ wr.heap.size) (fun _ i _ => xs.length - (intOf i).toNat)
  case atStart => exact ⟨0, rfl, Nat.zero_le _, (Fr.refl no w).alloc _, HB0.out, World.ownsRow_nil _ _ _ _, by simp⟩
  case round =>
    obtain ⟨m, rfl, hm, F, hB, own, hsz⟩ := hrel
    by_cases hlt : m < xs.length
    · obtain ⟨g, o, rfl, hc⟩ := (HQ.out wr F).2.cells (List.length_pos_iff.1 (by omega))
      obtain ⟨r1, r2, r3, hrm⟩ : ∃ r1 r2 r3, xs[m] = (r1, r2, r3) := ⟨_, _, _, rfl⟩
      have a0 : wr.cell? ⟨g, o + m * 3, none⟩ = some (.int .i64 r1) := by
        have := hc m hlt 0 (by decide)
        rw [hrm] at this; exact this
      have a1 : wr.cell? ⟨g, o + m * 3 + 1, none⟩ = some (.int .i64 r2) := by
        have := hc m hlt 1 (by decide)
        rw [hrm] at this; exact this
      have a2 : wr.cell? ⟨g, o + m * 3 + 2, none⟩ = some (.int .i64 r3) := by
        have := hc m hlt 2 (by decide)
        rw [hrm] at this; exact this
      have HT := hide (show xs.take (m + 1) = xs.take m ++ [(r1, r2, r3)] by rw [← hrm]; exact (List.take_append_getElem hlt).symm)
      have hi0 : (0 : Int) ≤ m := by omega
      have hi1 : (m : Int) < xs.length := by omega
      obtain ⟨v, hv⟩ : ∃ v, v = versionD vs r1 := ⟨_, rfl⟩
      have HV := hide hv
      have HC : Hid (∀ W, Fr no w W → Calls Tryz.prog 91 #[.agg #[.int .u64 s.q, .slice s.P s.np s.cp, .slice s.R s.nr s.cr, .slice s.L s.nl s.cl, .slice s.G s.ng s.cg, .slice s.O s.no s.co], .int .i64 r1] W fun e w' => e = .returned (.int .i64 v) ∧ Fr no W w') := hide (fun W F' => by
        rw [HV.out]; exact version_c s vs HNV.out r1 W (HQ.out W F').1)
      have HF := hide F
      have HOWN := hide own
      have HOB := hide (own_base own)
      have HOL := hide (show ∀ i, some i = u5.ownBlock → i < wr.heap.size from fun i hi => by
        rcases own.2 with ⟨rfl, _⟩ | ⟨g', cap, cur, rfl, _, hg', _⟩
        · simp [Value.ownBlock] at hi
        · simp [Value.ownBlock] at hi; subst hi; exact (Array.getElem?_eq_some_iff.1 hg').1)
      have HB := hide hB
      clear hc hrm hv hB own
      go_wp2_with fail
      have HQ2 : Hid (∀ W', Fr (fun i => some i = u5.ownBlock) (wr.alloc (.cells #[.int .i64 r1, .int .i64 r2, .int .i64 r3] 108)) W' → Fr no w W') := hide (fun W' F' => (HF.out.alloc _).thru F' (fun i hi e => by have := HOB.out i e; omega))
      have HK : Hid (∀ W', Fr (fun i => some i = u5.ownBlock) (wr.alloc (.cells #[.int .i64 r1, .int .i64 r2, .int .i64 r3] 108)) W' → W'.cell? ⟨wr.heap.size, 0, none⟩ = some (.int .i64 r1) ∧ W'.cell? ⟨wr.heap.size, 2, none⟩ = some (.int .i64 r3) ∧ W'.cell? ⟨w.heap.size, 0, none⟩ = some (.int .u64 s.q) ∧ W'.cell? ⟨w.heap.size, 1, none⟩ = some (.slice s.P s.np s.cp) ∧ W'.cell? ⟨w.heap.size, 2, none⟩ = some (.slice s.R s.nr s.cr) ∧ W'.cell? ⟨w.heap.size, 3, none⟩ = some (.slice s.L s.nl s.cl) ∧ W'.cell? ⟨w.heap.size, 4, none⟩ = some (.slice s.G s.ng s.cg) ∧ W'.cell? ⟨w.heap.size, 5, none⟩ = some (.slice s.O s.no s.co) ∧ Fr (fun i => some i = u5.ownBlock) (wr.alloc (.cells #[.int .i64 r1, .int .i64 r2, .int .i64 r3] 108)) W') :=
        hide (fun W' F' => by
          have n1 : ¬ some wr.heap.size = u5.ownBlock := fun e => absurd (HOL.out _ e) (Nat.lt_irrefl _)
          have n2 : ¬ some w.heap.size = u5.ownBlock := fun e => by have := HOB.out _ e; omega
          have B1 := (Blk.new wr 108 #[.int .i64 r1, .int .i64 r2, .int .i64 r3]).kept F' n1
          have B2 := (HB.out.alloc (.cells #[.int .i64 r1, .int .i64 r2, .int .i64 r3] 108)).kept F' n2
          exact ⟨B1.cell 0, B1.cell 2, B2.cell 0, B2.cell 1, B2.cell 2, B2.cell 3, B2.cell 4, B2.cell 5, F'⟩)
      have HBX : Hid (∀ W', Fr (fun i => some i = u5.ownBlock) (wr.alloc (.cells #[.int .i64 r1, .int .i64 r2, .int .i64 r3] 108)) W' → Blk W' w.heap.size 77 #[.int .u64 s.q, .slice s.P s.np s.cp, .slice s.R s.nr s.cr, .slice s.L s.nl s.cl, .slice s.G s.ng s.cg, .slice s.O s.no s.co]) := hide (fun W' F' =>
          (HB.out.alloc (.cells #[.int .i64 r1, .int .i64 r2, .int .i64 r3] 108)).kept F' (fun e => by have := HOB.out _ e; omega))
      have HOWN2 := hide (own_kept HOWN.out ((Fr.refl no wr).alloc (.cells #[.int .i64 r1, .int .i64 r2, .int .i64 r3] 108)))
      have hsz0 : w.heap.size + 1 ≤ (wr.alloc (.cells #[.int .i64 r1, .int .i64 r2, .int .i64 r3] 108)).heap.size := by simp; omega
      generalize wr.alloc (.cells #[.int .i64 r1, .int .i64 r2, .int .i64 r3] 108) = W0 at *
      go_region_held_law (fun W' => W'.cell? ⟨wr.heap.size, 0, none⟩ = some (.int .i64 r1) ∧ W'.cell? ⟨wr.heap.size, 2, none⟩ = some (.int .i64 r3) ∧ W'.cell? ⟨w.heap.size, 0, none⟩ = some (.int .u64 s.q) ∧ W'.cell? ⟨w.heap.size, 1, none⟩ = some (.slice s.P s.np s.cp) ∧ W'.cell? ⟨w.heap.size, 2, none⟩ = some (.slice s.R s.nr s.cr) ∧ W'.cell? ⟨w.heap.size, 3, none⟩ = some (.slice s.L s.nl s.cl) ∧ W'.cell? ⟨w.heap.size, 4, none⟩ = some (.slice s.G s.ng s.cg) ∧ W'.cell? ⟨w.heap.size, 5, none⟩ = some (.slice s.O s.no s.co) ∧ Fr (fun i => some i = u5.ownBlock) W0 W')
        (first | exact HK.out _ (Fr.refl _ _).drew | exact HK.out _ HF6.out | exact HK.out _ (HF6.out.alloc _) | exact HK.out _ HF8.out)
        (first
          | (go_at_call 91; refine (HC.out _ (HQ2.out _ (Fr.refl _ _).drew)).mono ?_; rintro e w1 ⟨rfl, F5⟩; have HF6 := hide (show Fr (fun i => some i = u5.ownBlock) W0 w1 from ((Fr.refl _ _).drew).trans0 F5); have HF7 := hide (show Fr no W0 w1 from ((Fr.refl _ _).drew).trans F5); clear F5)
          | (refine step_append_one rfl _ _ 82 rfl (w.heap.size + 1) 108 i0 (.agg #[.int .i64 0, .int .i64 0, .int .i64 0]) 3 24 Tryz.underlying82 hi hz0 hz1 hz2 rfl (by decide) (by decide) _ m _ rfl (own_kept HOWN2.out (HF7.out.alloc _)) _ 1 [.int .i64 r1, .int .i64 (IntKind.i64.wrap (v + 1)), .int .i64 r3] rfl rfl (new_cells _ _ _) (fun u hu => by simp at hu; rcases hu with rfl | rfl | rfl <;> rfl) (by simp only [maxLen]; omega) (by omega) (by have := HF7.out.size; simp; omega) ?_; intro v' w2 own2 grow2; have HO2 := hide own2; have HF8 := hide (show Fr (fun i => some i = u5.ownBlock) W0 w2 from (HF6.out.alloc _).trans (Fr.of_grown grow2)); clear own2 grow2))
      have HT2 : Hid (w2.ownsRow (w.heap.size + 1) 108 3 v' (m + 1) (fSet.all ((xs.take (m + 1)).map (renewD vs)))) := hide (by
        rw [HT.out, List.map_append, Flat.all_append]
        have q := HO2.out
        rw [HV.out] at q
        exact q)
      have F9 := hide (HQ2.out _ HF8.out)
      have B9 := hide (HBX.out _ HF8.out)
      have S9 : w.heap.size + 1 ≤ w2.heap.size := Nat.le_trans hsz0 HF8.out.size
      go_wp2_with fail
      exact ⟨⟨m + 1, by simp, hlt, F9.out, B9.out, HT2.out, S9⟩, by simp [intOf]; omega⟩
    · obtain rfl : m = xs.length := by omega
      rw [List.take_of_length_le (Nat.le_refl _)] at own
      have HOWN := hide own
      clear own
      go_wp2_with fail
      go_ret
      have q := HOWN.out
      obtain ⟨A', c', rfl, hs⟩ := om_of (f := fSet) (xs := xs.map (renewD vs)) (by rw [List.length_map]; exact q)
      exact ⟨A', c', by rw [List.length_map]; rfl, hs.down (Nat.le_succ _), F⟩
end Go.Proofs.YtmnajpkmglmipaaGreat

/- Contracts of sum.Cut, and of what 'clamped' keeps of what it has taken. -/
namespace Go.Proofs.YtmnajpkmglmipaaGreat
open Go.RowKit Go.Maps

/-- A change cut toward 0 to a room. -/
def cutD (c r : Int) : Int := max (min c (max r 0)) (-(max r 0))
theorem cutD_wf {c r : Int} (hc : Wf64 c) (hr : Wf64 r) : Wf64 (cutD c r) := by
  unfold Wf64 cutD at *
  omega
theorem cut_c (c r : Int) (hc : Wf64 c) (hr : Wf64 r) (w : World) : Calls Tryz.prog 210 #[.int .i64 c, .int .i64 r] w fun e w' => e = .returned (.int .i64 (cutD c r)) ∧ w' = w := by
  have h1 : wr64 (-(max r 0)) = -(max r 0) := wr64_of (by unfold Wf64 at *; omega)
  unfold wr64 at h1
  go_enter Tryz.func210, Tryz.ntmps210
  go_wp2_with fail
  go_ret
  exact ⟨rfl, rfl⟩
def subTo (f : KindD → Option Int) (p : KindD × Int) : KindD → Option Int := KeyK.upd f p.1 (wr64 ((f p.1).getD 0 - p.2))
/-- What has been taken, one more time. -/
def takeD (f : KindD → Option Int) (k : KindD) (n : Int) : KindD → Option Int := subTo (addTo f (k, n)) ((k.1, wr64 (1 - k.2)), n)
set_option maxRecDepth 100000 in
set_option maxHeartbeats 2000000 in
theorem take_c (k1 k2 n : Int) (hk1 : Wf64 k1) (hk2 : Wf64 k2) (Bm b N : Nat) (f : KindD → Option Int) (w : World) (hB : Blk w Bm 127 #[.map (some b)]) (hM : kindKey.Mp 2 w b N f) (hne : Bm ≠ b) (hN : N + 4 < maxLen) :
    Calls Tryz.prog 209 #[.agg #[.int .i64 k1, .int .i64 k2], .int .i64 n, .pointer (some ⟨Bm, 0, none⟩)] w fun e w' => e = .returned (.tuple #[]) ∧ kindKey.Mp 2 w' b (N + 4) (takeD f (k1, k2) n) ∧ Fr (fun i => i = b) w w' := by
  have hq : Wf64 (IntKind.i64.wrap ((f (k1, k2)).getD 0 + n)) := wr64_wf _
  have M := hM.kept0 (((Fr.refl no w).alloc (.cells #[.int .i64 k1, .int .i64 k2] 132)).drew)
  obtain ⟨v, st, w2, w3, e1, e2, e3, e4, M3, F3⟩ := M.entry (t := 127) Tryz.underlying127 Tryz.underlying2 (fun u => by kernel_rfl) (by omega) (y := (k1, k2)) (show kindKey.ok (k1, k2) from ⟨wf_lit hk1, wf_lit hk2⟩) (wf_lit hq)
  have e1' : (Instr.mapEntry 127 (.map (some b)) (.agg #[.int .i64 k1, .int .i64 k2])).run Tryz.prog (w.alloc (.cells #[.int .i64 k1, .int .i64 k2] 132)).drew = .ok (.tuple #[v, .int .i64 st]) w2 := e1
  have e2' : (Instr.lookup 127 (.map (some b)) (.agg #[.int .i64 k1, .int .i64 k2]) false).run Tryz.prog (w.alloc (.cells #[.int .i64 k1, .int .i64 k2] 132)).drew = .ok (.int .i64 ((f (k1, k2)).getD 0)) (w.alloc (.cells #[.int .i64 k1, .int .i64 k2] 132)).drew := e2
  have e3' : (Instr.lookup 127 (.map (some b)) (.agg #[.int .i64 k1, .int .i64 k2]) false).run Tryz.prog w2 = .ok (.int .i64 ((f (k1, k2)).getD 0)) w2 := e3
  have e4' : (Instr.entryStore 127 (.map (some b)) (.int .i64 st) (.int .i64 (IntKind.i64.wrap ((f (k1, k2)).getD 0 + n)))).run Tryz.prog w2 = .ok () w3 := e4
  have b0 := (hB.alloc (.cells #[.int .i64 k1, .int .i64 k2] 132)).cell 0
  simp at b0
  have hbl := hM.lt
  have hBl := hB.lt
  have FA : Fr (fun i => i = b) w w3 := ((((Fr.refl _ w).alloc (.cells #[.int .i64 k1, .int .i64 k2] 132)).drew).trans F3)
  have B3 : Blk w3 Bm 127 #[.map (some b)] := hB.kept FA hne
  have K3 : Blk w3 w.heap.size 132 #[.int .i64 k1, .int .i64 k2] := (Blk.new w 132 #[.int .i64 k1, .int .i64 k2]).drew.kept F3 (fun e => by have e2 : w.heap.size = b := e; omega)
  have hq2 : Wf64 (IntKind.i64.wrap (1 - k2)) := wr64_wf _
  obtain ⟨f2, hf2⟩ : ∃ f2, f2 = addTo f ((k1, k2), n) := ⟨_, rfl⟩
  have M3' : kindKey.Mp 2 w3.drew b (N + 2) f2 := by rw [hf2]; exact M3
  have hq3 : Wf64 (IntKind.i64.wrap ((f2 (k1, IntKind.i64.wrap (1 - k2))).getD 0 - n)) := wr64_wf _
  obtain ⟨v', st', w4, w5, g1, g2, g3, g4, M5, F5⟩ := M3'.entry (t := 127) Tryz.underlying127 Tryz.underlying2 (fun u => by kernel_rfl) (by omega) (y := (k1, IntKind.i64.wrap (1 - k2))) (show kindKey.ok (k1, IntKind.i64.wrap (1 - k2)) from ⟨wf_lit hk1, wf_lit hq2⟩) (wf_lit hq3)
  have g1' : (Instr.mapEntry 127 (.map (some b)) (.agg #[.int .i64 k1, .int .i64 (IntKind.i64.wrap (1 - k2))])).run Tryz.prog w3.drew = .ok (.tuple #[v', .int .i64 st']) w4 := g1
  have g2' : (Instr.lookup 127 (.map (some b)) (.agg #[.int .i64 k1, .int .i64 (IntKind.i64.wrap (1 - k2))]) false).run Tryz.prog w3.drew = .ok (.int .i64 ((f2 (k1, IntKind.i64.wrap (1 - k2))).getD 0)) w3.drew := g2
  have g3' : (Instr.lookup 127 (.map (some b)) (.agg #[.int .i64 k1, .int .i64 (IntKind.i64.wrap (1 - k2))]) false).run Tryz.prog w4 = .ok (.int .i64 ((f2 (k1, IntKind.i64.wrap (1 - k2))).getD 0)) w4 := g3
  have g4' : (Instr.entryStore 127 (.map (some b)) (.int .i64 st') (.int .i64 (IntKind.i64.wrap ((f2 (k1, IntKind.i64.wrap (1 - k2))).getD 0 - n)))).run Tryz.prog w4 = .ok () w5 := g4
  have d0 := B3.cell 0
  have d1 := K3.cell 0
  have d2 := K3.cell 1
  simp at d0 d1 d2
  have POST : Hid (kindKey.Mp 2 w5 b (N + 4) (takeD f (k1, k2) n) ∧ Fr (fun i => i = b) w w5) := hide ⟨by
    unfold takeD subTo wr64
    rw [← hf2]; exact M5, FA.trans (((Fr.refl _ w3).drew).trans F5)⟩
  clear e1 e2 e3 e4 g1 g2 g3 g4 M M3 M3' M5 F3 F5 FA B3 K3 hB hM hf2 hq hq2 hq3
  generalize ((f (k1, k2)).getD 0) = v0 at *
  generalize ((f2 (k1, IntKind.i64.wrap (1 - k2))).getD 0) = v1 at *
  go_enter Tryz.func209, Tryz.ntmps209
  go_wp2_with fail
  go_region
  all_goals
    go_wp2_with fail
    go_region
  all_goals
    go_wp2_with fail
    go_end0
    exact ⟨rfl, POST.out⟩
end Go.Proofs.YtmnajpkmglmipaaGreat

/- Contracts of package rule: held rights; whether there is enough. -/
namespace Go.Proofs.YtmnajpkmglmipaaGreat
open Go.RowKit

/-- What a till holds of a kind. -/
def heldD (ps : List PoolD) (t c w : Int) : Int := if c < 0 then 0 else match ps[c.toNat]? with | none => 0 | some p => if w < 0 ∨ 1 < w ∨ t < 0 then 0 else match p.2.2[t.toNat]? with | none => 0 | some h => if w = 0 then h.1 else h.2
theorem heldD_neg (ps : List PoolD) (t c w : Int) (h : c < 0) : heldD ps t c w = 0 := by simp [heldD, h]
theorem heldD_far (ps : List PoolD) (t : Int) (m : Nat) (w : Int) (h : ¬ m < ps.length) : heldD ps t m w = 0 := by
  unfold heldD
  rw [if_neg (by omega)]
  simp [h]
theorem heldD_out (ps : List PoolD) (t : Int) (m : Nat) (w : Int) (h : m < ps.length) (hw : w < 0 ∨ 1 < w ∨ t < 0) : heldD ps t m w = 0 := by
  unfold heldD
  rw [if_neg (by omega)]
  simp [h, hw]
theorem heldD_none (ps : List PoolD) (k m : Nat) (w : Int) (h : m < ps.length) (hw : ¬ (w < 0 ∨ 1 < w)) (hk : ¬ k < ps[m].2.2.length) : heldD ps k m w = 0 := by
  unfold heldD
  rw [if_neg (by omega)]
  have h3 : ¬ (w < 0 ∨ 1 < w ∨ (k : Int) < 0) := by omega
  simp [h, h3, hk]
theorem heldD_at (ps : List PoolD) (k m : Nat) (w : Int) (h : m < ps.length) (hw : w = 0 ∨ w = 1) (hk : k < ps[m].2.2.length) : heldD ps k m w = if w = 0 then ps[m].2.2[k].1 else ps[m].2.2[k].2 := by
  unfold heldD
  rw [if_neg (by omega)]
  have h3 : ¬ (w < 0 ∨ 1 < w ∨ (k : Int) < 0) := by omega
  simp [h, h3, hk]
set_option maxRecDepth 100000 in
set_option maxHeartbeats 1000000 in
theorem held1_neg (s : StV) (Bs Bt : Nat) (c wy t n : Int) (w : World) (b1 : ∀ ob, (w.alloc ob).cell? ⟨Bs, 1, none⟩ = some (.slice s.P s.np s.cp)) (b2 : ∀ ob, (w.alloc ob).cell? ⟨Bt, 0, none⟩ = some (.int .i64 t)) (h0 : c < 0) :
    Calls Tryz.prog 149 #[.agg #[.int .i64 c, .int .i64 wy, .int .i64 n], .pointer (some ⟨Bs, 0, none⟩), .pointer (some ⟨Bt, 0, none⟩)] w fun e w' => e = .returned (.int .i64 0) ∧ Fr no w w' := by
  have _u : True := (fun _ _ => trivial) b1 b2
  go_enter Tryz.func149, Tryz.ntmps149
  go_wp2_with fail
  go_quiet (fail)
  go_wp2_with fail
  go_ret
  exact ⟨rfl, ((Fr.refl no w).alloc _).drewN _⟩
set_option maxRecDepth 100000 in
set_option maxHeartbeats 1000000 in
theorem held1_far (s : StV) (Bs Bt : Nat) (wy t n : Int) (m : Nat) (w : World) (b1 : ∀ ob, (w.alloc ob).cell? ⟨Bs, 1, none⟩ = some (.slice s.P s.np s.cp)) (b2 : ∀ ob, (w.alloc ob).cell? ⟨Bt, 0, none⟩ = some (.int .i64 t)) (i1 : ¬ (m : Int) < s.np) :
    Calls Tryz.prog 149 #[.agg #[.int .i64 m, .int .i64 wy, .int .i64 n], .pointer (some ⟨Bs, 0, none⟩), .pointer (some ⟨Bt, 0, none⟩)] w fun e w' => e = .returned (.int .i64 0) ∧ Fr no w w' := by
  have _u : True := (fun _ _ => trivial) b1 b2
  have d1 : decide ((m : Int) < 0) = false := by simp
  have d2 : decide (s.np ≤ m) = true := by simp; omega
  go_enter Tryz.func149, Tryz.ntmps149
  go_wp2_with fail
  go_quiet (fail)
  go_wp2_with fail
  go_ret
  exact ⟨rfl, ((Fr.refl no w).alloc _).drewN _⟩
set_option maxRecDepth 100000 in
set_option maxHeartbeats 1000000 in
theorem held1_wneg (s : StV) (Bs Bt : Nat) (wy t n : Int) (m g o : Nat) (w : World) (b1 : ∀ ob, (w.alloc ob).cell? ⟨Bs, 1, none⟩ = some (.slice s.P s.np s.cp)) (b2 : ∀ ob, (w.alloc ob).cell? ⟨Bt, 0, none⟩ = some (.int .i64 t)) (hP : s.P = some ⟨g, o, none⟩) (hA : Option Addr) (hl hc : Nat) (a3 : ∀ ob, (w.alloc ob).cell? ⟨g, o + m * 4 + 3, none⟩ = some (.slice hA hl hc)) (i1 : (m : Int) < s.np) (h2 : wy < 0) :
    Calls Tryz.prog 149 #[.agg #[.int .i64 m, .int .i64 wy, .int .i64 n], .pointer (some ⟨Bs, 0, none⟩), .pointer (some ⟨Bt, 0, none⟩)] w fun e w' => e = .returned (.int .i64 0) ∧ Fr no w w' := by
  have _u : True := (fun _ _ _ => trivial) b1 b2 a3
  have i0 : (0 : Int) ≤ m := by omega
  have d1 : decide ((m : Int) < 0) = false := by simp
  have d2 : decide (s.np ≤ m) = false := by simp; omega
  have d3 : decide (wy < 0) = true := by simp; omega
  go_enter Tryz.func149, Tryz.ntmps149
  go_wp2_with fail
  go_quiet (fail)
  go_wp2_with fail
  go_ret
  exact ⟨rfl, ((Fr.refl no w).alloc _).drewN _⟩
set_option maxRecDepth 100000 in
set_option maxHeartbeats 1000000 in
theorem held1_wbig (s : StV) (Bs Bt : Nat) (wy t n : Int) (m g o : Nat) (w : World) (b1 : ∀ ob, (w.alloc ob).cell? ⟨Bs, 1, none⟩ = some (.slice s.P s.np s.cp)) (b2 : ∀ ob, (w.alloc ob).cell? ⟨Bt, 0, none⟩ = some (.int .i64 t)) (hP : s.P = some ⟨g, o, none⟩) (hA : Option Addr) (hl hc : Nat) (a3 : ∀ ob, (w.alloc ob).cell? ⟨g, o + m * 4 + 3, none⟩ = some (.slice hA hl hc)) (i1 : (m : Int) < s.np) (h2 : 1 < wy) :
    Calls Tryz.prog 149 #[.agg #[.int .i64 m, .int .i64 wy, .int .i64 n], .pointer (some ⟨Bs, 0, none⟩), .pointer (some ⟨Bt, 0, none⟩)] w fun e w' => e = .returned (.int .i64 0) ∧ Fr no w w' := by
  have _u : True := (fun _ _ _ => trivial) b1 b2 a3
  have i0 : (0 : Int) ≤ m := by omega
  have d1 : decide ((m : Int) < 0) = false := by simp
  have d2 : decide (s.np ≤ m) = false := by simp; omega
  have d3 : decide (wy < 0) = false := by simp; omega
  have d4 : decide (1 < wy) = true := by simp; omega
  go_enter Tryz.func149, Tryz.ntmps149
  go_wp2_with fail
  go_quiet (fail)
  go_wp2_with fail
  go_ret
  exact ⟨rfl, ((Fr.refl no w).alloc _).drewN _⟩
set_option maxRecDepth 100000 in
set_option maxHeartbeats 1000000 in
theorem held1_tneg (s : StV) (Bs Bt : Nat) (wy t n : Int) (m g o : Nat) (w : World) (b1 : ∀ ob, (w.alloc ob).cell? ⟨Bs, 1, none⟩ = some (.slice s.P s.np s.cp)) (b2 : ∀ ob, (w.alloc ob).cell? ⟨Bt, 0, none⟩ = some (.int .i64 t)) (hP : s.P = some ⟨g, o, none⟩) (hA : Option Addr) (hl hc : Nat) (a3 : ∀ ob, (w.alloc ob).cell? ⟨g, o + m * 4 + 3, none⟩ = some (.slice hA hl hc)) (i1 : (m : Int) < s.np) (h2 : ¬ wy < 0) (h3 : ¬ 1 < wy) (h4 : t < 0) :
    Calls Tryz.prog 149 #[.agg #[.int .i64 m, .int .i64 wy, .int .i64 n], .pointer (some ⟨Bs, 0, none⟩), .pointer (some ⟨Bt, 0, none⟩)] w fun e w' => e = .returned (.int .i64 0) ∧ Fr no w w' := by
  have _u : True := (fun _ _ _ => trivial) b1 b2 a3
  have i0 : (0 : Int) ≤ m := by omega
  have d1 : decide ((m : Int) < 0) = false := by simp
  have d2 : decide (s.np ≤ m) = false := by simp; omega
  have d3 : decide (wy < 0) = false := by simp; omega
  have d4 : decide (1 < wy) = false := by simp; omega
  have d5 : decide (t < 0) = true := by simp; omega
  go_enter Tryz.func149, Tryz.ntmps149
  go_wp2_with fail
  go_quiet (fail)
  go_wp2_with fail
  go_ret
  exact ⟨rfl, ((Fr.refl no w).alloc _).drewN _⟩
set_option maxRecDepth 100000 in
set_option maxHeartbeats 1000000 in
theorem held1_tfar (s : StV) (Bs Bt : Nat) (wy n : Int) (m g o k : Nat) (w : World) (b1 : ∀ ob, (w.alloc ob).cell? ⟨Bs, 1, none⟩ = some (.slice s.P s.np s.cp)) (b2 : ∀ ob, (w.alloc ob).cell? ⟨Bt, 0, none⟩ = some (.int .i64 k)) (hP : s.P = some ⟨g, o, none⟩) (hA : Option Addr) (hl hc : Nat) (a3 : ∀ ob, (w.alloc ob).cell? ⟨g, o + m * 4 + 3, none⟩ = some (.slice hA hl hc)) (i1 : (m : Int) < s.np) (h2 : ¬ wy < 0) (h3 : ¬ 1 < wy) (j1 : ¬ (k : Int) < hl) :
    Calls Tryz.prog 149 #[.agg #[.int .i64 m, .int .i64 wy, .int .i64 n], .pointer (some ⟨Bs, 0, none⟩), .pointer (some ⟨Bt, 0, none⟩)] w fun e w' => e = .returned (.int .i64 0) ∧ Fr no w w' := by
  have _u : True := (fun _ _ _ => trivial) b1 b2 a3
  have i0 : (0 : Int) ≤ m := by omega
  have d1 : decide ((m : Int) < 0) = false := by simp
  have d2 : decide (s.np ≤ m) = false := by simp; omega
  have d3 : decide (wy < 0) = false := by simp; omega
  have d4 : decide (1 < wy) = false := by simp; omega
  have d5 : decide ((k : Int) < 0) = false := by simp
  have d6 : decide (hl ≤ k) = true := by simp; omega
  go_enter Tryz.func149, Tryz.ntmps149
  go_wp2_with fail
  go_quiet (fail)
  go_wp2_with fail
  go_ret
  exact ⟨rfl, ((Fr.refl no w).alloc _).drewN _⟩
set_option maxRecDepth 100000 in
set_option maxHeartbeats 1000000 in
theorem held1_at0 (s : StV) (Bs Bt : Nat) (n : Int) (m g o k g2 o2 : Nat) (w : World) (b1 : ∀ ob, (w.alloc ob).cell? ⟨Bs, 1, none⟩ = some (.slice s.P s.np s.cp)) (b2 : ∀ ob, (w.alloc ob).cell? ⟨Bt, 0, none⟩ = some (.int .i64 k)) (hP : s.P = some ⟨g, o, none⟩) (hl hc : Nat) (a3 : ∀ ob, (w.alloc ob).cell? ⟨g, o + m * 4 + 3, none⟩ = some (.slice (some ⟨g2, o2, none⟩) hl hc)) (i1 : (m : Int) < s.np) (j1 : (k : Int) < hl) (v : Int) (e0 : ∀ ob, (w.alloc ob).cell? ⟨g2, o2 + k * 2, none⟩ = some (.int .i64 v)) :
    Calls Tryz.prog 149 #[.agg #[.int .i64 m, .int .i64 0, .int .i64 n], .pointer (some ⟨Bs, 0, none⟩), .pointer (some ⟨Bt, 0, none⟩)] w fun e w' => e = .returned (.int .i64 v) ∧ Fr no w w' := by
  have _u : True := (fun _ _ _ => trivial) b1 b2 a3
  have i0 : (0 : Int) ≤ m := by omega
  have d1 : decide ((m : Int) < 0) = false := by simp
  have d2 : decide (s.np ≤ m) = false := by simp; omega
  have j0 : (0 : Int) ≤ k := by omega
  have d5 : decide ((k : Int) < 0) = false := by simp
  have d6 : decide (hl ≤ k) = false := by simp; omega
  go_enter Tryz.func149, Tryz.ntmps149
  go_wp2_with fail
  go_quiet (fail)
  go_wp2_with fail
  go_quiet (fail)
  go_wp2_with fail
  go_ret
  exact ⟨rfl, (((Fr.refl no w).alloc _).drewN _).drewN _⟩
set_option maxRecDepth 100000 in
set_option maxHeartbeats 1000000 in
theorem held1_at1 (s : StV) (Bs Bt : Nat) (n : Int) (m g o k g2 o2 : Nat) (w : World) (b1 : ∀ ob, (w.alloc ob).cell? ⟨Bs, 1, none⟩ = some (.slice s.P s.np s.cp)) (b2 : ∀ ob, (w.alloc ob).cell? ⟨Bt, 0, none⟩ = some (.int .i64 k)) (hP : s.P = some ⟨g, o, none⟩) (hl hc : Nat) (a3 : ∀ ob, (w.alloc ob).cell? ⟨g, o + m * 4 + 3, none⟩ = some (.slice (some ⟨g2, o2, none⟩) hl hc)) (i1 : (m : Int) < s.np) (j1 : (k : Int) < hl) (v : Int) (e0 : ∀ ob, (w.alloc ob).cell? ⟨g2, o2 + k * 2 + 1, none⟩ = some (.int .i64 v)) :
    Calls Tryz.prog 149 #[.agg #[.int .i64 m, .int .i64 1, .int .i64 n], .pointer (some ⟨Bs, 0, none⟩), .pointer (some ⟨Bt, 0, none⟩)] w fun e w' => e = .returned (.int .i64 v) ∧ Fr no w w' := by
  have _u : True := (fun _ _ _ => trivial) b1 b2 a3
  have i0 : (0 : Int) ≤ m := by omega
  have d1 : decide ((m : Int) < 0) = false := by simp
  have d2 : decide (s.np ≤ m) = false := by simp; omega
  have j0 : (0 : Int) ≤ k := by omega
  have d5 : decide ((k : Int) < 0) = false := by simp
  have d6 : decide (hl ≤ k) = false := by simp; omega
  go_enter Tryz.func149, Tryz.ntmps149
  go_wp2_with fail
  go_quiet (fail)
  go_wp2_with fail
  go_quiet (fail)
  go_wp2_with fail
  go_ret
  exact ⟨rfl, (((Fr.refl no w).alloc _).drewN _).drewN _⟩
theorem held1_c (s : StV) (ps : List PoolD) (hn : s.np = ps.length) (Bs Bt : Nat) (t c wy n : Int) (w : World) (hB : Blk w Bs 77 #[.int .u64 s.q, .slice s.P s.np s.cp, .slice s.R s.nr s.cr, .slice s.L s.nl s.cl, .slice s.G s.ng s.cg, .slice s.O s.no s.co]) (hT : Blk w Bt 3 #[.int .i64 t]) (h : kPool.Row w s.P s.cp ps) :
    Calls Tryz.prog 149 #[.agg #[.int .i64 c, .int .i64 wy, .int .i64 n], .pointer (some ⟨Bs, 0, none⟩), .pointer (some ⟨Bt, 0, none⟩)] w fun e w' => e = .returned (.int .i64 (heldD ps t c wy)) ∧ Fr no w w' := by
  have b1 := fun ob => cell_any (show w.cell? ⟨Bs, 1, none⟩ = some (.slice s.P s.np s.cp) from hB.cell 1) ob
  have b2 := fun ob => cell_any (show w.cell? ⟨Bt, 0, none⟩ = some (.int .i64 t) from hT.cell 0) ob
  by_cases h0 : c < 0
  · rw [heldD_neg ps t c wy h0]
    exact held1_neg s Bs Bt c wy t n w b1 b2 h0
  · obtain ⟨m, rfl⟩ : ∃ m : Nat, c = m := ⟨c.toNat, by omega⟩
    by_cases h1 : m < ps.length
    · obtain ⟨g, o, hP, _, _, _, hA, hc, a3, hr⟩ := pool_cells h m h1
      have a3' := fun ob => cell_any a3 ob
      have i1 : (m : Int) < s.np := by omega
      by_cases h2 : wy < 0
      · rw [heldD_out ps t m wy h1 (.inl h2)]
        exact held1_wneg s Bs Bt wy t n m g o w b1 b2 hP hA _ hc a3' i1 h2
      · by_cases h3 : 1 < wy
        · rw [heldD_out ps t m wy h1 (.inr (.inl h3))]
          exact held1_wbig s Bs Bt wy t n m g o w b1 b2 hP hA _ hc a3' i1 h3
        · by_cases h4 : t < 0
          · rw [heldD_out ps t m wy h1 (.inr (.inr h4))]
            exact held1_tneg s Bs Bt wy t n m g o w b1 b2 hP hA _ hc a3' i1 h2 h3 h4
          · obtain ⟨k, rfl⟩ : ∃ k : Nat, t = k := ⟨t.toNat, by omega⟩
            by_cases h5 : k < ps[m].2.2.length
            · obtain ⟨g2, o2, rfl, hat⟩ := hr.2.2.1 (List.length_pos_iff.1 (by omega))
              obtain ⟨cells, ⟨c1, c2, rfl, k1, k2⟩, hcell⟩ := hat k h5
              obtain rfl : c1 = _ := k1
              obtain rfl : c2 = _ := k2
              have e0 := fun ob => cell_any (show w.cell? ⟨g2, o2 + k * 2, none⟩ = some (.int .i64 ps[m].2.2[k].1) from hcell 0 (by decide)) ob
              have e1 := fun ob => cell_any (show w.cell? ⟨g2, o2 + k * 2 + 1, none⟩ = some (.int .i64 ps[m].2.2[k].2) from hcell 1 (by decide)) ob
              have hwy : wy = 0 ∨ wy = 1 := by omega
              rw [heldD_at ps k m wy h1 hwy h5]
              rcases hwy with rfl | rfl
              · rw [if_pos rfl]
                exact held1_at0 s Bs Bt n m g o k g2 o2 w b1 b2 hP _ hc a3' i1 (by omega) _ e0
              · rw [if_neg (by omega)]
                exact held1_at1 s Bs Bt n m g o k g2 o2 w b1 b2 hP _ hc a3' i1 (by omega) _ e1
            · rw [heldD_none ps k m wy h1 (by omega) h5]
              exact held1_tfar s Bs Bt wy n m g o k w b1 b2 hP hA _ hc a3' i1 h2 h3 (by omega)
    · rw [heldD_far ps t m wy h1]
      exact held1_far s Bs Bt wy t n m w b1 b2 (by omega)
theorem free_c (s : StV) (w : World) : Calls Tryz.prog 85 #[.agg #[.int .u64 s.q, .slice s.P s.np s.cp, .slice s.R s.nr s.cr, .slice s.L s.nl s.cl, .slice s.G s.ng s.cg, .slice s.O s.no s.co]] w fun e w' => e = .returned (.func (.func 148) #[] #[.pointer (some ⟨w.heap.size, 0, none⟩)]) ∧ w' = w.alloc (.cells #[.int .u64 s.q, .slice s.P s.np s.cp, .slice s.R s.nr s.cr, .slice s.L s.nl s.cl, .slice s.G s.ng s.cg, .slice s.O s.no s.co] 77) := by
  go_enter Tryz.func85, Tryz.ntmps85
  go_wp2_with fail
  go_ret
  exact ⟨rfl, rfl⟩
theorem held_c (s : StV) (t : Int) (w : World) : Calls Tryz.prog 86 #[.agg #[.int .u64 s.q, .slice s.P s.np s.cp, .slice s.R s.nr s.cr, .slice s.L s.nl s.cl, .slice s.G s.ng s.cg, .slice s.O s.no s.co], .int .i64 t] w fun e w' => e = .returned (.func (.func 149) #[] #[.pointer (some ⟨w.heap.size, 0, none⟩), .pointer (some ⟨w.heap.size + 1, 0, none⟩)]) ∧ w' = (w.alloc (.cells #[.int .u64 s.q, .slice s.P s.np s.cp, .slice s.R s.nr s.cr, .slice s.L s.nl s.cl, .slice s.G s.ng s.cg, .slice s.O s.no s.co] 77)).alloc (.cells #[.int .i64 t] 3) := by
  go_enter Tryz.func86, Tryz.ntmps86
  go_wp2_with fail
  go_ret
  exact ⟨rfl, rfl⟩
end Go.Proofs.YtmnajpkmglmipaaGreat
