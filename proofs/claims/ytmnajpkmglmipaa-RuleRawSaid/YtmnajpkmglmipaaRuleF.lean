/- Contracts of package rule: slices.Clone at lines; settings renewed. -/
import Derived.Test.YtmnajpkmglmipaaRuleE
import Derived.Test.YtmnajpkmglmipaaOwn
import Derived.Deep.RegionHeldLaw
import Derived.Lib.SliceRun
namespace Go.Proofs.Ytmnajpkmglmipaa
open Go.RowKit

theorem sl_row {α : Type} {f : Flat α} {w : World} {A : Option Addr} {c : Nat} {xs : List α} (h : Sl f w A c xs) : ∀ ad, A = some ad → ∀ j u, (f.all xs)[j]? = some u → w.cell? (ad.add j) = some u := by
  intro ad ha j u hj
  have hlt : j < (f.all xs).length := (List.getElem?_eq_some_iff.1 hj).1
  rw [f.all_length] at hlt
  have hi : j / f.sz < xs.length := Nat.div_lt_of_lt_mul (by rw [Nat.mul_comm]; exact hlt)
  have hr : j % f.sz < f.sz := Nat.mod_lt _ f.pos
  have e : j = j / f.sz * f.sz + j % f.sz := by rw [Nat.mul_comm]; exact (Nat.div_add_mod _ _).symm
  obtain ⟨g, o, hA, hc⟩ := h.cells (List.length_pos_iff.1 (Nat.lt_of_le_of_lt (Nat.zero_le _) hi))
  rw [ha] at hA
  obtain rfl := Option.some.inj hA
  have := hc (j / f.sz) hi (j % f.sz) hr
  rw [Nat.add_assoc, ← e] at this
  rw [Kd.addr_add, this, ← hj]
  rw [e] at hj
  rw [f.all_get xs _ _ hi hr] at hj
  conv => rhs; rw [e]
  rw [f.all_get xs _ _ hi hr]
set_option maxRecDepth 100000 in
set_option maxHeartbeats 1000000 in
theorem clone_c (A : Option Addr) (c : Nat) (xs : List LineD) (hb : xs.length * 16 ≤ 140737488351232) (w : World) (h : Sl fLine w A c xs) :
    Calls Try.prog 54 #[.slice A xs.length c] w fun e w' => ∃ A' c', e = .returned (.slice A' xs.length c') ∧ Om fLine 104 w.heap.size w' A' c' xs ∧ Fr no w w' := by
  obtain ⟨i0, hi, hz0, hz1, hz2⟩ := info_parts info_line
  have q36 : ∀ (w : World) (a : Option Addr) (n c n' c' : Nat), (binOp .eql 36 (.slice a n c) (.slice none n' c')).run Try.prog w = .ok (.bool a.isNone) w := fun w a n c n' c' => Lib.run_eql_slice_nil w _ _ a n c n' c' Try.underlying36
  cases A with
  | none =>
    have h0 := h.none rfl
    have hl := h.le
    have hx : xs = [] := List.eq_nil_of_length_eq_zero (by omega)
    subst hx
    clear h
    go_enter Try.func54, Try.ntmps54
    go_wp2_with fail
    go_ret
    exact ⟨none, 0, rfl, om_none _ _ _ _, Fr.refl _ _⟩
  | some ad =>
    have HR := hide (sl_row (h.below ((Fr.refl no w).alloc (.cells #[] 104)).below) ad rfl)
    have HL := hide (fLine.all_length xs)
    have HO := hide (fLine.all_one xs)
    clear h
    go_enter Try.func54, Try.ntmps54
    go_wp2_with (at_builtin; refine wpList_append_own _ rfl _ _ 36 rfl w.heap.size 104 i0 (.agg #[.int .i64 0, .int .i64 0]) 2 16 Try.underlying36 hi hz0 hz1 hz2 rfl (by decide) _ 0 [] rfl (World.ownsRow_made w #[] 0 (Nat.le_refl _) (Nat.zero_le _) (by simp)) ad xs.length c (fLine.all xs) rfl HL.out HR.out HO.out (by simp only [maxLen]; omega) (by omega) (by simp) ?_; intro v' w1 hown hgrow hnil)
    have HOWN := hide hown
    have F1 := hide (((Fr.refl no w).alloc (.cells #[] 104)).thru (Fr.of_grown hgrow) (fun i hlt e => by have e2 : i = w.heap.size := Option.some.inj e; omega))
    clear hown hgrow hnil
    go_wp2_with fail
    go_ret
    have q := HOWN.out
    rw [Nat.zero_add, List.nil_append] at q
    obtain ⟨A', c', rfl, hs⟩ := om_of (f := fLine) (xs := xs) q
    exact ⟨A', c', rfl, hs, F1.out⟩
/-- Settings with their prices' next versions. -/
def renewD (vs : List PricedD) (x : SetD) : SetD := (x.1, IntKind.i64.wrap (versionD vs x.1 + 1), x.2.2)
set_option maxRecDepth 100000 in
set_option maxHeartbeats 2000000 in
theorem renewed_c (s : StV) (vs : List PricedD) (hv : s.nr = vs.length) (A : Option Addr) (c : Nat) (xs : List SetD) (hb : xs.length * 24 ≤ 140737488351232) (w : World) (h' : Sl fPriced w s.R s.cr vs) (hs : Sl fSet w A c xs) :
    Calls Try.prog 55 #[.agg #[.int .u64 s.q, .slice s.P s.np s.cp, .slice s.R s.nr s.cr, .slice s.L s.nl s.cl, .slice s.G s.ng s.cg, .slice s.O s.no s.co], .slice A xs.length c] w fun e w' => ∃ A' c', e = .returned (.slice A' xs.length c') ∧ Om fSet 85 w.heap.size w' A' c' (xs.map (renewD vs)) ∧ Fr no w w' := by
  obtain ⟨i0, hi, hz0, hz1, hz2⟩ := info_parts info_set
  have hle := hs.le
  have htop := hs.top
  simp only [maxLen] at htop
  have HQ : Hid (∀ W, Fr no w W → Sl fPriced W s.R s.cr vs ∧ Sl fSet W A c xs) := hide (fun W F => ⟨h'.below F.below, hs.below F.below⟩)
  have HB0 := hide (Blk.new w 32 #[.int .u64 s.q, .slice s.P s.np s.cp, .slice s.R s.nr s.cr, .slice s.L s.nl s.cl, .slice s.G s.ng s.cg, .slice s.O s.no s.co])
  have HNV := hide hv
  clear h' hs hv
  go_enter Try.func55, Try.ntmps55
  go_wp2_with fail
  go_loopw [5, 10] (fun u i wr => ∃ m : Nat, i = .int .i64 m ∧ m ≤ xs.length ∧ Fr no w wr ∧ Blk wr w.heap.size 32 #[.int .u64 s.q, .slice s.P s.np s.cp, .slice s.R s.nr s.cr, .slice s.L s.nl s.cl, .slice s.G s.ng s.cg, .slice s.O s.no s.co] ∧ wr.ownsRow (w.heap.size + 1) 85 3 u m (fSet.all ((xs.take m).map (renewD vs))) ∧ w.heap.size + 1 ≤ wr.heap.size) (fun _ i _ => xs.length - (intOf i).toNat)
  case atStart => exact ⟨0, rfl, Nat.zero_le _, (Fr.refl no w).alloc _, HB0.out, World.ownsRow_nil _ _ _ _, by simp⟩
  case round =>
    obtain ⟨m, rfl, hm, F, hB, own, hsz⟩ := hrel
    by_cases hlt : m < xs.length
    · obtain ⟨g, o, rfl, hc⟩ := (HQ.out wr F).2.cells (List.length_pos_iff.1 (by omega))
      obtain ⟨r1, r2, r3, hrm⟩ : ∃ r1 r2 r3, xs[m] = (r1, r2, r3) := ⟨_, _, _, rfl⟩
      have a0 : wr.cell? ⟨g, o + m * 3, none⟩ = some (.int .i64 r1) := by
        have := hc m hlt 0 (by decide)
        rw [hrm] at this; exact this
      have a1 : wr.cell? ⟨g, o + m * 3 + 1, none⟩ = some (.int .i64 r2) := by
        have := hc m hlt 1 (by decide)
        rw [hrm] at this; exact this
      have a2 : wr.cell? ⟨g, o + m * 3 + 2, none⟩ = some (.int .i64 r3) := by
        have := hc m hlt 2 (by decide)
        rw [hrm] at this; exact this
      have HT := hide (show xs.take (m + 1) = xs.take m ++ [(r1, r2, r3)] by rw [← hrm]; exact (List.take_append_getElem hlt).symm)
      have hi0 : (0 : Int) ≤ m := by omega
      have hi1 : (m : Int) < xs.length := by omega
      obtain ⟨v, hv⟩ : ∃ v, v = versionD vs r1 := ⟨_, rfl⟩
      have HV := hide hv
      have HC : Hid (∀ W, Fr no w W → Calls Try.prog 34 #[.agg #[.int .u64 s.q, .slice s.P s.np s.cp, .slice s.R s.nr s.cr, .slice s.L s.nl s.cl, .slice s.G s.ng s.cg, .slice s.O s.no s.co], .int .i64 r1] W fun e w' => e = .returned (.int .i64 v) ∧ Fr no W w') := hide (fun W F' => by
        rw [HV.out]; exact version_c s vs HNV.out r1 W (HQ.out W F').1)
      have HF := hide F
      have HOWN := hide own
      have HOB := hide (own_base own)
      have HOL := hide (show ∀ i, some i = u5.ownBlock → i < wr.heap.size from fun i hi => by
        rcases own.2 with ⟨rfl, _⟩ | ⟨g', cap, cur, rfl, _, hg', _⟩
        · simp [Value.ownBlock] at hi
        · simp [Value.ownBlock] at hi; subst hi; exact (Array.getElem?_eq_some_iff.1 hg').1)
      have HB := hide hB
      clear hc hrm hv hB own
      go_wp2_with fail
      have HQ2 : Hid (∀ W', Fr (fun i => some i = u5.ownBlock) (wr.alloc (.cells #[.int .i64 r1, .int .i64 r2, .int .i64 r3] 85)) W' → Fr no w W') := hide (fun W' F' => (HF.out.alloc _).thru F' (fun i hi e => by have := HOB.out i e; omega))
      have HK : Hid (∀ W', Fr (fun i => some i = u5.ownBlock) (wr.alloc (.cells #[.int .i64 r1, .int .i64 r2, .int .i64 r3] 85)) W' → W'.cell? ⟨wr.heap.size, 0, none⟩ = some (.int .i64 r1) ∧ W'.cell? ⟨wr.heap.size, 2, none⟩ = some (.int .i64 r3) ∧ W'.cell? ⟨w.heap.size, 0, none⟩ = some (.int .u64 s.q) ∧ W'.cell? ⟨w.heap.size, 1, none⟩ = some (.slice s.P s.np s.cp) ∧ W'.cell? ⟨w.heap.size, 2, none⟩ = some (.slice s.R s.nr s.cr) ∧ W'.cell? ⟨w.heap.size, 3, none⟩ = some (.slice s.L s.nl s.cl) ∧ W'.cell? ⟨w.heap.size, 4, none⟩ = some (.slice s.G s.ng s.cg) ∧ W'.cell? ⟨w.heap.size, 5, none⟩ = some (.slice s.O s.no s.co) ∧ Fr (fun i => some i = u5.ownBlock) (wr.alloc (.cells #[.int .i64 r1, .int .i64 r2, .int .i64 r3] 85)) W') :=
        hide (fun W' F' => by
          have n1 : ¬ some wr.heap.size = u5.ownBlock := fun e => absurd (HOL.out _ e) (Nat.lt_irrefl _)
          have n2 : ¬ some w.heap.size = u5.ownBlock := fun e => by have := HOB.out _ e; omega
          have B1 := (Blk.new wr 85 #[.int .i64 r1, .int .i64 r2, .int .i64 r3]).kept F' n1
          have B2 := (HB.out.alloc (.cells #[.int .i64 r1, .int .i64 r2, .int .i64 r3] 85)).kept F' n2
          exact ⟨B1.cell 0, B1.cell 2, B2.cell 0, B2.cell 1, B2.cell 2, B2.cell 3, B2.cell 4, B2.cell 5, F'⟩)
      have HBX : Hid (∀ W', Fr (fun i => some i = u5.ownBlock) (wr.alloc (.cells #[.int .i64 r1, .int .i64 r2, .int .i64 r3] 85)) W' → Blk W' w.heap.size 32 #[.int .u64 s.q, .slice s.P s.np s.cp, .slice s.R s.nr s.cr, .slice s.L s.nl s.cl, .slice s.G s.ng s.cg, .slice s.O s.no s.co]) := hide (fun W' F' =>
          (HB.out.alloc (.cells #[.int .i64 r1, .int .i64 r2, .int .i64 r3] 85)).kept F' (fun e => by have := HOB.out _ e; omega))
      have HOWN2 := hide (own_kept HOWN.out ((Fr.refl no wr).alloc (.cells #[.int .i64 r1, .int .i64 r2, .int .i64 r3] 85)))
      have hsz0 : w.heap.size + 1 ≤ (wr.alloc (.cells #[.int .i64 r1, .int .i64 r2, .int .i64 r3] 85)).heap.size := by simp; omega
      generalize wr.alloc (.cells #[.int .i64 r1, .int .i64 r2, .int .i64 r3] 85) = W0 at *
      go_region_held_law (fun W' => W'.cell? ⟨wr.heap.size, 0, none⟩ = some (.int .i64 r1) ∧ W'.cell? ⟨wr.heap.size, 2, none⟩ = some (.int .i64 r3) ∧ W'.cell? ⟨w.heap.size, 0, none⟩ = some (.int .u64 s.q) ∧ W'.cell? ⟨w.heap.size, 1, none⟩ = some (.slice s.P s.np s.cp) ∧ W'.cell? ⟨w.heap.size, 2, none⟩ = some (.slice s.R s.nr s.cr) ∧ W'.cell? ⟨w.heap.size, 3, none⟩ = some (.slice s.L s.nl s.cl) ∧ W'.cell? ⟨w.heap.size, 4, none⟩ = some (.slice s.G s.ng s.cg) ∧ W'.cell? ⟨w.heap.size, 5, none⟩ = some (.slice s.O s.no s.co) ∧ Fr (fun i => some i = u5.ownBlock) W0 W')
        (first | exact HK.out _ (Fr.refl _ _).drew | exact HK.out _ HF6.out | exact HK.out _ (HF6.out.alloc _) | exact HK.out _ HF8.out)
        (first
          | (go_at_call 34; refine (HC.out _ (HQ2.out _ (Fr.refl _ _).drew)).mono ?_; rintro e w1 ⟨rfl, F5⟩; have HF6 := hide (show Fr (fun i => some i = u5.ownBlock) W0 w1 from ((Fr.refl _ _).drew).trans0 F5); have HF7 := hide (show Fr no W0 w1 from ((Fr.refl _ _).drew).trans F5); clear F5)
          | (refine step_append_one rfl _ _ 38 rfl (w.heap.size + 1) 85 i0 (.agg #[.int .i64 0, .int .i64 0, .int .i64 0]) 3 24 Try.underlying38 hi hz0 hz1 hz2 rfl (by decide) (by decide) _ m _ rfl (own_kept HOWN2.out (HF7.out.alloc _)) _ 1 [.int .i64 r1, .int .i64 (IntKind.i64.wrap (v + 1)), .int .i64 r3] rfl rfl (new_cells _ _ _) (fun u hu => by simp at hu; rcases hu with rfl | rfl | rfl <;> rfl) (by simp only [maxLen]; omega) (by omega) (by have := HF7.out.size; simp; omega) ?_; intro v' w2 own2 grow2; have HO2 := hide own2; have HF8 := hide (show Fr (fun i => some i = u5.ownBlock) W0 w2 from (HF6.out.alloc _).trans (Fr.of_grown grow2)); clear own2 grow2))
      have HT2 : Hid (w2.ownsRow (w.heap.size + 1) 85 3 v' (m + 1) (fSet.all ((xs.take (m + 1)).map (renewD vs)))) := hide (by
        rw [HT.out, List.map_append, Flat.all_append]
        have q := HO2.out
        rw [HV.out] at q
        exact q)
      have F9 := hide (HQ2.out _ HF8.out)
      have B9 := hide (HBX.out _ HF8.out)
      have S9 : w.heap.size + 1 ≤ w2.heap.size := Nat.le_trans hsz0 HF8.out.size
      go_wp2_with fail
      exact ⟨⟨m + 1, by simp, hlt, F9.out, B9.out, HT2.out, S9⟩, by simp [intOf]; omega⟩
    · obtain rfl : m = xs.length := by omega
      rw [List.take_of_length_le (Nat.le_refl _)] at own
      have HOWN := hide own
      clear own
      go_wp2_with fail
      go_ret
      have q := HOWN.out
      obtain ⟨A', c', rfl, hs⟩ := om_of (f := fSet) (xs := xs.map (renewD vs)) (by rw [List.length_map]; exact q)
      exact ⟨A', c', by rw [List.length_map]; rfl, hs.down (Nat.le_succ _), F⟩
end Go.Proofs.Ytmnajpkmglmipaa
