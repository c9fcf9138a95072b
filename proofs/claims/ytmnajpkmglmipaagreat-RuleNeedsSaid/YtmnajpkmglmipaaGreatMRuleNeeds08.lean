/- RuleC Quiet -/
import Derived.Test.YtmnajpkmglmipaaGreatMRuleNeeds07
import Derived.Test.YtmnajpkmglmipaaGreatMRuleNeeds00
import Derived.Deep.QuietTactic
import Derived.OrdersIn
import Derived.RangeFuncCalls
import Derived.TacticsIn
/- Contracts of package rule: whether there is enough; free and held rights of lines. -/
namespace Go.Proofs.YtmnajpkmglmipaaGreat
open Go.RowKit

set_option maxRecDepth 100000 in
set_option maxHeartbeats 1000000 in
theorem enoughF_c (s : StV) (ps : List PoolD) (hn : s.np = ps.length) (Bs : Nat) (A : Option Addr) (c : Nat) (rs : List RightD) (w : World) (hB : Blk w Bs 77 #[.int .u64 s.q, .slice s.P s.np s.cp, .slice s.R s.nr s.cr, .slice s.L s.nl s.cl, .slice s.G s.ng s.cg, .slice s.O s.no s.co]) (h : kPool.Row w s.P s.cp ps) (hr : Sl fRight w A c rs) :
    Calls Tryz.prog 84 #[.slice A rs.length c, .func (.func 148) #[] #[.pointer (some ⟨Bs, 0, none⟩)]] w fun e w' => e = .returned (.bool (rs.all fun r => decide (r.2.2 ≤ freeD ps r.1 r.2.1))) ∧ Fr no w w' := by
  have hle := hr.le
  have htop := hr.top
  simp only [maxLen] at htop
  have HQ : Hid (∀ W, Fr no w W → Blk W Bs 77 #[.int .u64 s.q, .slice s.P s.np s.cp, .slice s.R s.nr s.cr, .slice s.L s.nl s.cl, .slice s.G s.ng s.cg, .slice s.O s.no s.co] ∧ kPool.Row W s.P s.cp ps ∧ Sl fRight W A c rs) := hide (fun W F => ⟨hB.kept0 F, h.keep F, hr.below F.below⟩)
  clear hB h hr
  go_enter Tryz.func84, Tryz.ntmps84
  go_wp2_with fail
  go_loopw [9] (fun i wr => ∃ m : Nat, i = .int .i64 m ∧ m ≤ rs.length ∧ Fr no w wr ∧ ((rs.take m).all fun r => decide (r.2.2 ≤ freeD ps r.1 r.2.1)) = true) (fun i _ => rs.length - (intOf i).toNat)
  case atStart => exact ⟨0, rfl, Nat.zero_le _, Fr.refl _ _, rfl⟩
  case round =>
    obtain ⟨m, rfl, hm, F, hall⟩ := hrel
    by_cases hlt : m < rs.length
    · obtain ⟨g, o, rfl, hc⟩ := (HQ.out wr F).2.2.cells (List.length_pos_iff.1 (by omega))
      obtain ⟨r1, r2, r3, hrm⟩ : ∃ r1 r2 r3, rs[m] = (r1, r2, r3) := ⟨_, _, _, rfl⟩
      have a0 : wr.cell? ⟨g, o + m * 3, none⟩ = some (.int .i64 r1) := by
        have := hc m hlt 0 (by decide)
        rw [hrm] at this; exact this
      have a1 : wr.cell? ⟨g, o + m * 3 + 1, none⟩ = some (.int .i64 r2) := by
        have := hc m hlt 1 (by decide)
        rw [hrm] at this; exact this
      have a2 : wr.cell? ⟨g, o + m * 3 + 2, none⟩ = some (.int .i64 r3) := by
        have := hc m hlt 2 (by decide)
        rw [hrm] at this; exact this
      have HA := hide hall
      have HT := hide (show rs.take (m + 1) = rs.take m ++ [(r1, r2, r3)] by rw [← hrm]; exact (List.take_append_getElem hlt).symm)
      have HM := hide (show (r1, r2, r3) ∈ rs by rw [← hrm]; exact List.getElem_mem hlt)
      have hi0 : (0 : Int) ≤ m := by omega
      have hi1 : (m : Int) < rs.length := by omega
      clear hc hrm hall
      obtain ⟨v, hv⟩ : ∃ v, v = freeD ps r1 r2 := ⟨_, rfl⟩
      have HV := hide hv
      clear hv
      have hC : ∀ W, Fr no w W → Calls Tryz.prog 148 #[.agg #[.int .i64 r1, .int .i64 r2, .int .i64 r3], .pointer (some ⟨Bs, 0, none⟩)] W fun e w' => e = .returned (.int .i64 v) ∧ Fr no W w' := fun W F' => by
        rw [HV.out]; exact free1_c s ps hn Bs r1 r2 r3 W (HQ.out W F').1 (HQ.out W F').2.1
      have HC := hide hC
      clear hC
      go_wp2_with fail
      have HK : Hid (∀ W', Fr no (wr.alloc (.cells #[.int .i64 r1, .int .i64 r2, .int .i64 r3] 86)) W' → W'.cell? ⟨wr.heap.size, 0, none⟩ = some (.int .i64 r1) ∧ W'.cell? ⟨wr.heap.size, 1, none⟩ = some (.int .i64 r2) ∧ W'.cell? ⟨wr.heap.size, 2, none⟩ = some (.int .i64 r3) ∧ Fr no (wr.alloc (.cells #[.int .i64 r1, .int .i64 r2, .int .i64 r3] 86)) W') :=
        hide (fun W' F' => ⟨((Blk.new wr _ _).kept0 F').cell 0, ((Blk.new wr _ _).kept0 F').cell 1, ((Blk.new wr _ _).kept0 F').cell 2, F'⟩)
      have FA : Fr no w (wr.alloc (.cells #[.int .i64 r1, .int .i64 r2, .int .i64 r3] 86)) := F.alloc _
      have HFA := hide FA
      clear FA
      generalize wr.alloc (.cells #[.int .i64 r1, .int .i64 r2, .int .i64 r3] 86) = W0 at *
      go_region_held3 (fun W' => W'.cell? ⟨wr.heap.size, 0, none⟩ = some (.int .i64 r1) ∧ W'.cell? ⟨wr.heap.size, 1, none⟩ = some (.int .i64 r2) ∧ W'.cell? ⟨wr.heap.size, 2, none⟩ = some (.int .i64 r3) ∧ Fr no W0 W')
        (first | exact HK.out _ (Fr.refl _ _).drew | exact HK.out _ ‹_›)
        (first
          | (go_at_call 148; refine (HC.out _ (HFA.out.trans (by first | exact (Fr.refl _ _).drew | assumption))).mono ?_; rintro e w' ⟨rfl, F5⟩; have F6 := (show Fr no W0 w' from (by first | exact ((Fr.refl _ _).drew).trans F5 | exact Fr.trans (by assumption) F5)); clear F5))
      rename_i hH
      have F7 := HFA.out.trans hH.2.2.2
      have HF7 := hide F7
      clear F7 hH
      by_cases hvn : v < r3
      · go_wp2_with fail
        go_ret
        refine ⟨?_, HF7.out⟩
        rw [show (rs.all fun r => decide (r.2.2 ≤ freeD ps r.1 r.2.1)) = false from ?_]
        · rfl
        · rw [List.all_eq_false]
          exact ⟨_, HM.out, by rw [← HV.out]; simp; omega⟩
      · have REL : Hid (((rs.take (m + 1)).all fun r => decide (r.2.2 ≤ freeD ps r.1 r.2.1)) = true) := hide (by
          rw [HT.out, List.all_append, HA.out]
          simp only [List.all_cons, List.all_nil, Bool.and_true, Bool.true_and, ← HV.out, decide_eq_true_eq]
          omega)
        go_wp2_with fail
        exact ⟨⟨m + 1, by simp, hlt, HF7.out, REL.out⟩, by simp [intOf]; omega⟩
    · obtain rfl : m = rs.length := by omega
      rw [List.take_of_length_le (Nat.le_refl _)] at hall
      have HA := hide hall
      clear hall
      go_wp2_with fail
      go_ret
      exact ⟨by rw [HA.out]; rfl, F⟩
set_option maxRecDepth 100000 in
set_option maxHeartbeats 1000000 in
theorem enoughH_c (s : StV) (ps : List PoolD) (hn : s.np = ps.length) (Bs Bt : Nat) (t : Int) (A : Option Addr) (c : Nat) (rs : List RightD) (w : World) (hB : Blk w Bs 77 #[.int .u64 s.q, .slice s.P s.np s.cp, .slice s.R s.nr s.cr, .slice s.L s.nl s.cl, .slice s.G s.ng s.cg, .slice s.O s.no s.co]) (hT : Blk w Bt 3 #[.int .i64 t]) (h : kPool.Row w s.P s.cp ps) (hr : Sl fRight w A c rs) :
    Calls Tryz.prog 84 #[.slice A rs.length c, .func (.func 149) #[] #[.pointer (some ⟨Bs, 0, none⟩), .pointer (some ⟨Bt, 0, none⟩)]] w fun e w' => e = .returned (.bool (rs.all fun r => decide (r.2.2 ≤ heldD ps t r.1 r.2.1))) ∧ Fr no w w' := by
  have hle := hr.le
  have htop := hr.top
  simp only [maxLen] at htop
  have HQ : Hid (∀ W, Fr no w W → Blk W Bs 77 #[.int .u64 s.q, .slice s.P s.np s.cp, .slice s.R s.nr s.cr, .slice s.L s.nl s.cl, .slice s.G s.ng s.cg, .slice s.O s.no s.co] ∧ Blk W Bt 3 #[.int .i64 t] ∧ kPool.Row W s.P s.cp ps ∧ Sl fRight W A c rs) := hide (fun W F => ⟨hB.kept0 F, hT.kept0 F, h.keep F, hr.below F.below⟩)
  clear hB h hr hT
  go_enter Tryz.func84, Tryz.ntmps84
  go_wp2_with fail
  go_loopw [9] (fun i wr => ∃ m : Nat, i = .int .i64 m ∧ m ≤ rs.length ∧ Fr no w wr ∧ ((rs.take m).all fun r => decide (r.2.2 ≤ heldD ps t r.1 r.2.1)) = true) (fun i _ => rs.length - (intOf i).toNat)
  case atStart => exact ⟨0, rfl, Nat.zero_le _, Fr.refl _ _, rfl⟩
  case round =>
    obtain ⟨m, rfl, hm, F, hall⟩ := hrel
    by_cases hlt : m < rs.length
    · obtain ⟨g, o, rfl, hc⟩ := (HQ.out wr F).2.2.2.cells (List.length_pos_iff.1 (by omega))
      obtain ⟨r1, r2, r3, hrm⟩ : ∃ r1 r2 r3, rs[m] = (r1, r2, r3) := ⟨_, _, _, rfl⟩
      have a0 : wr.cell? ⟨g, o + m * 3, none⟩ = some (.int .i64 r1) := by
        have := hc m hlt 0 (by decide)
        rw [hrm] at this; exact this
      have a1 : wr.cell? ⟨g, o + m * 3 + 1, none⟩ = some (.int .i64 r2) := by
        have := hc m hlt 1 (by decide)
        rw [hrm] at this; exact this
      have a2 : wr.cell? ⟨g, o + m * 3 + 2, none⟩ = some (.int .i64 r3) := by
        have := hc m hlt 2 (by decide)
        rw [hrm] at this; exact this
      have HA := hide hall
      have HT := hide (show rs.take (m + 1) = rs.take m ++ [(r1, r2, r3)] by rw [← hrm]; exact (List.take_append_getElem hlt).symm)
      have HM := hide (show (r1, r2, r3) ∈ rs by rw [← hrm]; exact List.getElem_mem hlt)
      have hi0 : (0 : Int) ≤ m := by omega
      have hi1 : (m : Int) < rs.length := by omega
      clear hc hrm hall
      obtain ⟨v, hv⟩ : ∃ v, v = heldD ps t r1 r2 := ⟨_, rfl⟩
      have HV := hide hv
      clear hv
      have hC : ∀ W, Fr no w W → Calls Tryz.prog 149 #[.agg #[.int .i64 r1, .int .i64 r2, .int .i64 r3], .pointer (some ⟨Bs, 0, none⟩), .pointer (some ⟨Bt, 0, none⟩)] W fun e w' => e = .returned (.int .i64 v) ∧ Fr no W w' := fun W F' => by
        rw [HV.out]; exact held1_c s ps hn Bs Bt t r1 r2 r3 W (HQ.out W F').1 (HQ.out W F').2.1 (HQ.out W F').2.2.1
      have HC := hide hC
      clear hC
      go_wp2_with fail
      have HK : Hid (∀ W', Fr no (wr.alloc (.cells #[.int .i64 r1, .int .i64 r2, .int .i64 r3] 86)) W' → W'.cell? ⟨wr.heap.size, 0, none⟩ = some (.int .i64 r1) ∧ W'.cell? ⟨wr.heap.size, 1, none⟩ = some (.int .i64 r2) ∧ W'.cell? ⟨wr.heap.size, 2, none⟩ = some (.int .i64 r3) ∧ Fr no (wr.alloc (.cells #[.int .i64 r1, .int .i64 r2, .int .i64 r3] 86)) W') :=
        hide (fun W' F' => ⟨((Blk.new wr _ _).kept0 F').cell 0, ((Blk.new wr _ _).kept0 F').cell 1, ((Blk.new wr _ _).kept0 F').cell 2, F'⟩)
      have FA : Fr no w (wr.alloc (.cells #[.int .i64 r1, .int .i64 r2, .int .i64 r3] 86)) := F.alloc _
      have HFA := hide FA
      clear FA
      generalize wr.alloc (.cells #[.int .i64 r1, .int .i64 r2, .int .i64 r3] 86) = W0 at *
      go_region_held3 (fun W' => W'.cell? ⟨wr.heap.size, 0, none⟩ = some (.int .i64 r1) ∧ W'.cell? ⟨wr.heap.size, 1, none⟩ = some (.int .i64 r2) ∧ W'.cell? ⟨wr.heap.size, 2, none⟩ = some (.int .i64 r3) ∧ Fr no W0 W')
        (first | exact HK.out _ (Fr.refl _ _).drew | exact HK.out _ ‹_›)
        (first
          | (go_at_call 149; refine (HC.out _ (HFA.out.trans (by first | exact (Fr.refl _ _).drew | assumption))).mono ?_; rintro e w' ⟨rfl, F5⟩; have F6 := (show Fr no W0 w' from (by first | exact ((Fr.refl _ _).drew).trans F5 | exact Fr.trans (by assumption) F5)); clear F5))
      rename_i hH
      have F7 := HFA.out.trans hH.2.2.2
      have HF7 := hide F7
      clear F7 hH
      by_cases hvn : v < r3
      · go_wp2_with fail
        go_ret
        refine ⟨?_, HF7.out⟩
        rw [show (rs.all fun r => decide (r.2.2 ≤ heldD ps t r.1 r.2.1)) = false from ?_]
        · rfl
        · rw [List.all_eq_false]
          exact ⟨_, HM.out, by rw [← HV.out]; simp; omega⟩
      · have REL : Hid (((rs.take (m + 1)).all fun r => decide (r.2.2 ≤ heldD ps t r.1 r.2.1)) = true) := hide (by
          rw [HT.out, List.all_append, HA.out]
          simp only [List.all_cons, List.all_nil, Bool.and_true, Bool.true_and, ← HV.out, decide_eq_true_eq]
          omega)
        go_wp2_with fail
        exact ⟨⟨m + 1, by simp, hlt, HF7.out, REL.out⟩, by simp [intOf]; omega⟩
    · obtain rfl : m = rs.length := by omega
      rw [List.take_of_length_le (Nat.le_refl _)] at hall
      have HA := hide hall
      clear hall
      go_wp2_with fail
      go_ret
      exact ⟨by rw [HA.out]; rfl, F⟩
theorem blk_new2 (X : World) (o : Obj) (T : TypeId) (cs : Array Value) : Blk ((X.alloc o).alloc (.cells cs T)) (X.heap.size + 1) T cs := by
  have := Blk.new (X.alloc o) T cs
  rwa [World.size_alloc] at this
/-- Are there so many free rights; does a till hold them? -/
def freeL (ps : List PoolD) (xs : List LineD) : Bool := (needsD xs).all fun r => decide (r.2.2 ≤ freeD ps r.1 r.2.1)
def holdsL (ps : List PoolD) (t : Int) (xs : List LineD) : Bool := (needsD xs).all fun r => decide (r.2.2 ≤ heldD ps t r.1 r.2.1)
set_option maxRecDepth 100000 in
set_option maxHeartbeats 1000000 in
theorem Free_c (s : StV) (ps : List PoolD) (hn : s.np = ps.length) (A : Option Addr) (c : Nat) (xs : List LineD) (hx : ∀ x ∈ xs, WfL x) (hb : xs.length * 16 ≤ 140737488351232) (w : World) (h : kPool.Row w s.P s.cp ps) (hl : Sl fLine w A c xs) :
    Calls Tryz.prog 42 #[.agg #[.int .u64 s.q, .slice s.P s.np s.cp, .slice s.R s.nr s.cr, .slice s.L s.nl s.cl, .slice s.G s.ng s.cg, .slice s.O s.no s.co], .slice A xs.length c] w fun e w' => e = .returned (.bool (freeL ps xs)) ∧ Fr no w w' := by
  obtain ⟨v, hv⟩ : ∃ v, v = freeL ps xs := ⟨_, rfl⟩
  have HV := hide hv
  rw [← hv]
  clear hv
  obtain ⟨rs, hrs⟩ : ∃ rs, rs = needsD xs := ⟨_, rfl⟩
  have HN' := hide hn
  have HQ : Hid (∀ W, Fr no w W → kPool.Row W s.P s.cp ps ∧ Sl fLine W A c xs) := hide (fun W F => ⟨h.keep F, hl.below F.below⟩)
  have HN : Hid (∀ W, Fr no w W → Calls Tryz.prog 13 #[.slice A xs.length c] W fun e w' => ∃ A' c', e = .returned (.slice A' rs.length c') ∧ Sl fRight w' A' c' rs ∧ Fr no W w') := hide (fun W F => by
    rw [hrs]; exact Needs_c A c xs hx hb W (HQ.out W F).2)
  have HE : Hid (∀ (W : World) (Bs : Nat) (A' : Option Addr) (c' : Nat), Blk W Bs 77 #[.int .u64 s.q, .slice s.P s.np s.cp, .slice s.R s.nr s.cr, .slice s.L s.nl s.cl, .slice s.G s.ng s.cg, .slice s.O s.no s.co] → Fr no w W → Sl fRight W A' c' rs → Calls Tryz.prog 84 #[.slice A' rs.length c', .func (.func 148) #[] #[.pointer (some ⟨Bs, 0, none⟩)]] W fun e w' => e = .returned (.bool v) ∧ Fr no W w') := hide (fun W Bs A' c' hB F hs => by
    rw [HV.out]
    have := enoughF_c s ps hn Bs A' c' rs W hB (HQ.out W F).1 hs
    rw [hrs] at this ⊢
    exact this)
  clear h hl hx hrs hn
  go_enter Tryz.func42, Tryz.ntmps42
  go_wp2_with fail
  have HK : Hid (∀ W', Fr no (w.alloc (.cells #[.int .u64 s.q, .slice s.P s.np s.cp, .slice s.R s.nr s.cr, .slice s.L s.nl s.cl, .slice s.G s.ng s.cg, .slice s.O s.no s.co] 77)) W' → W'.cell? ⟨w.heap.size, 0, none⟩ = some (.int .u64 s.q) ∧ W'.cell? ⟨w.heap.size, 1, none⟩ = some (.slice s.P s.np s.cp) ∧ W'.cell? ⟨w.heap.size, 2, none⟩ = some (.slice s.R s.nr s.cr) ∧ W'.cell? ⟨w.heap.size, 3, none⟩ = some (.slice s.L s.nl s.cl) ∧ W'.cell? ⟨w.heap.size, 4, none⟩ = some (.slice s.G s.ng s.cg) ∧ W'.cell? ⟨w.heap.size, 5, none⟩ = some (.slice s.O s.no s.co) ∧ Fr no w W') :=
    hide (fun W' F' => ⟨((Blk.new w _ _).kept0 F').cell 0, ((Blk.new w _ _).kept0 F').cell 1, ((Blk.new w _ _).kept0 F').cell 2, ((Blk.new w _ _).kept0 F').cell 3, ((Blk.new w _ _).kept0 F').cell 4, ((Blk.new w _ _).kept0 F').cell 5, ((Fr.refl no w).alloc _).trans F'⟩)
  generalize w.alloc (.cells #[.int .u64 s.q, .slice s.P s.np s.cp, .slice s.R s.nr s.cr, .slice s.L s.nl s.cl, .slice s.G s.ng s.cg, .slice s.O s.no s.co] 77) = W0 at *
  generalize w.heap.size = g at *
  go_region_held3 (fun W' => W'.cell? ⟨g, 0, none⟩ = some (.int .u64 s.q) ∧ W'.cell? ⟨g, 1, none⟩ = some (.slice s.P s.np s.cp) ∧ W'.cell? ⟨g, 2, none⟩ = some (.slice s.R s.nr s.cr) ∧ W'.cell? ⟨g, 3, none⟩ = some (.slice s.L s.nl s.cl) ∧ W'.cell? ⟨g, 4, none⟩ = some (.slice s.G s.ng s.cg) ∧ W'.cell? ⟨g, 5, none⟩ = some (.slice s.O s.no s.co) ∧ Fr no w W')
    (first | exact HK.out _ (Fr.refl _ _).drew | exact HK.out _ ‹_›)
    (first
      | (go_at_call 13; refine (HN.out _ (HK.out _ (by first | exact (Fr.refl _ _).drew | assumption)).2.2.2.2.2.2).mono ?_; rintro e w1 ⟨A', c', rfl, hs1, F5⟩; have F6 := (show Fr no W0 w1 from (by first | exact ((Fr.refl _ _).drew).trans F5 | exact Fr.trans (by assumption) F5)); have HS1 := hide hs1; have HF5 := hide F5; clear F5 hs1)
      | (go_at_call 85; refine (free_c s _).mono ?_; rintro e w2 ⟨rfl, hw2⟩; have HB1 := hide (show Blk w2 _ 77 #[.int .u64 s.q, .slice s.P s.np s.cp, .slice s.R s.nr s.cr, .slice s.L s.nl s.cl, .slice s.G s.ng s.cg, .slice s.O s.no s.co] by rw [hw2]; exact Blk.new _ _ _); have HF2 := hide (show Fr no _ w2 by rw [hw2]; exact (Fr.refl no _).alloc _); have F6 := (show Fr no W0 w2 from (by first | exact ((Fr.refl _ _).drew).trans HF2.out | exact Fr.trans (by assumption) HF2.out)); clear hw2)
      | (go_at_call 84; refine (HE.out _ _ _ _ (by first | exact HB1.out | exact HB1.out.kept0 HF5.out) (HK.out _ (by assumption)).2.2.2.2.2.2 (by first | exact HS1.out | exact HS1.out.below HF2.out.below)).mono ?_; rintro e w3 ⟨rfl, F7⟩; have F8 := (show Fr no W0 w3 from Fr.trans (by assumption) F7); clear F7))
  all_goals
    rename_i hH
    have F9 := hH.2.2.2.2.2.2
    go_wp2_with fail
    go_ret
    exact ⟨rfl, F9⟩
set_option maxRecDepth 100000 in
set_option maxHeartbeats 1000000 in
theorem Holds_c (s : StV) (ps : List PoolD) (hn : s.np = ps.length) (t : Int) (A : Option Addr) (c : Nat) (xs : List LineD) (hx : ∀ x ∈ xs, WfL x) (hb : xs.length * 16 ≤ 140737488351232) (w : World) (h : kPool.Row w s.P s.cp ps) (hl : Sl fLine w A c xs) :
    Calls Tryz.prog 44 #[.agg #[.int .u64 s.q, .slice s.P s.np s.cp, .slice s.R s.nr s.cr, .slice s.L s.nl s.cl, .slice s.G s.ng s.cg, .slice s.O s.no s.co], .int .i64 t, .slice A xs.length c] w fun e w' => e = .returned (.bool (holdsL ps t xs)) ∧ Fr no w w' := by
  obtain ⟨v, hv⟩ : ∃ v, v = holdsL ps t xs := ⟨_, rfl⟩
  have HV := hide hv
  rw [← hv]
  clear hv
  obtain ⟨rs, hrs⟩ : ∃ rs, rs = needsD xs := ⟨_, rfl⟩
  have HN' := hide hn
  have HQ : Hid (∀ W, Fr no w W → kPool.Row W s.P s.cp ps ∧ Sl fLine W A c xs) := hide (fun W F => ⟨h.keep F, hl.below F.below⟩)
  have HN : Hid (∀ W, Fr no w W → Calls Tryz.prog 13 #[.slice A xs.length c] W fun e w' => ∃ A' c', e = .returned (.slice A' rs.length c') ∧ Sl fRight w' A' c' rs ∧ Fr no W w') := hide (fun W F => by
    rw [hrs]; exact Needs_c A c xs hx hb W (HQ.out W F).2)
  have HE : Hid (∀ (W : World) (Bs Bt : Nat) (A' : Option Addr) (c' : Nat), Blk W Bs 77 #[.int .u64 s.q, .slice s.P s.np s.cp, .slice s.R s.nr s.cr, .slice s.L s.nl s.cl, .slice s.G s.ng s.cg, .slice s.O s.no s.co] → Blk W Bt 3 #[.int .i64 t] → Fr no w W → Sl fRight W A' c' rs → Calls Tryz.prog 84 #[.slice A' rs.length c', .func (.func 149) #[] #[.pointer (some ⟨Bs, 0, none⟩), .pointer (some ⟨Bt, 0, none⟩)]] W fun e w' => e = .returned (.bool v) ∧ Fr no W w') := hide (fun W Bs Bt A' c' hB hT F hs => by
    rw [HV.out]
    have := enoughH_c s ps hn Bs Bt t A' c' rs W hB hT (HQ.out W F).1 hs
    rw [hrs] at this ⊢
    exact this)
  clear h hl hx hrs hn
  go_enter Tryz.func44, Tryz.ntmps44
  go_wp2_with fail
  have HK : Hid (∀ W', Fr no (w.alloc (.cells #[.int .u64 s.q, .slice s.P s.np s.cp, .slice s.R s.nr s.cr, .slice s.L s.nl s.cl, .slice s.G s.ng s.cg, .slice s.O s.no s.co] 77)) W' → W'.cell? ⟨w.heap.size, 0, none⟩ = some (.int .u64 s.q) ∧ W'.cell? ⟨w.heap.size, 1, none⟩ = some (.slice s.P s.np s.cp) ∧ W'.cell? ⟨w.heap.size, 2, none⟩ = some (.slice s.R s.nr s.cr) ∧ W'.cell? ⟨w.heap.size, 3, none⟩ = some (.slice s.L s.nl s.cl) ∧ W'.cell? ⟨w.heap.size, 4, none⟩ = some (.slice s.G s.ng s.cg) ∧ W'.cell? ⟨w.heap.size, 5, none⟩ = some (.slice s.O s.no s.co) ∧ Fr no w W') :=
    hide (fun W' F' => ⟨((Blk.new w _ _).kept0 F').cell 0, ((Blk.new w _ _).kept0 F').cell 1, ((Blk.new w _ _).kept0 F').cell 2, ((Blk.new w _ _).kept0 F').cell 3, ((Blk.new w _ _).kept0 F').cell 4, ((Blk.new w _ _).kept0 F').cell 5, ((Fr.refl no w).alloc _).trans F'⟩)
  generalize w.alloc (.cells #[.int .u64 s.q, .slice s.P s.np s.cp, .slice s.R s.nr s.cr, .slice s.L s.nl s.cl, .slice s.G s.ng s.cg, .slice s.O s.no s.co] 77) = W0 at *
  generalize w.heap.size = g at *
  go_region_held3 (fun W' => W'.cell? ⟨g, 0, none⟩ = some (.int .u64 s.q) ∧ W'.cell? ⟨g, 1, none⟩ = some (.slice s.P s.np s.cp) ∧ W'.cell? ⟨g, 2, none⟩ = some (.slice s.R s.nr s.cr) ∧ W'.cell? ⟨g, 3, none⟩ = some (.slice s.L s.nl s.cl) ∧ W'.cell? ⟨g, 4, none⟩ = some (.slice s.G s.ng s.cg) ∧ W'.cell? ⟨g, 5, none⟩ = some (.slice s.O s.no s.co) ∧ Fr no w W')
    (first | exact HK.out _ (Fr.refl _ _).drew | exact HK.out _ ‹_›)
    (first
      | (go_at_call 13; refine (HN.out _ (HK.out _ (by first | exact (Fr.refl _ _).drew | assumption)).2.2.2.2.2.2).mono ?_; rintro e w1 ⟨A', c', rfl, hs1, F5⟩; have F6 := (show Fr no W0 w1 from (by first | exact ((Fr.refl _ _).drew).trans F5 | exact Fr.trans (by assumption) F5)); have HS1 := hide hs1; have HF5 := hide F5; clear F5 hs1)
      | (go_at_call 86; refine (held_c s t _).mono ?_; rintro e w2 ⟨rfl, hw2⟩; have HB1 := hide (show Blk w2 _ 77 #[.int .u64 s.q, .slice s.P s.np s.cp, .slice s.R s.nr s.cr, .slice s.L s.nl s.cl, .slice s.G s.ng s.cg, .slice s.O s.no s.co] by rw [hw2]; exact (Blk.new _ _ _).alloc _); have HB2 := hide (show Blk w2 _ 3 #[.int .i64 t] by rw [hw2]; exact blk_new2 _ _ _ _); have HF2 := hide (show Fr no _ w2 by rw [hw2]; exact ((Fr.refl no _).alloc _).alloc _); have F6 := (show Fr no W0 w2 from (by first | exact ((Fr.refl _ _).drew).trans HF2.out | exact Fr.trans (by assumption) HF2.out)); clear hw2)
      | (go_at_call 84; refine (HE.out _ _ _ _ _ (by first | exact HB1.out | exact HB1.out.kept0 HF5.out) (by first | exact HB2.out | exact HB2.out.kept0 HF5.out) (HK.out _ (by assumption)).2.2.2.2.2.2 (by first | exact HS1.out | exact HS1.out.below HF2.out.below)).mono ?_; rintro e w3 ⟨rfl, F7⟩; have F8 := (show Fr no W0 w3 from Fr.trans (by assumption) F7); clear F7))
  all_goals
    rename_i hH
    have F9 := hH.2.2.2.2.2.2
    go_wp2_with fail
    go_ret
    exact ⟨rfl, F9⟩
end Go.Proofs.YtmnajpkmglmipaaGreat

/- Regions that draw their order, whose operations read and whose callees make new memory alone: one walk in the text's order. -/
namespace Go.Proofs.YtmnajpkmglmipaaGreat
open Go.RowKit

/-- A world behind W0 in which nothing has changed. -/
structure FrBy (W0 : World) where
  w : World
  fr : Fr no W0 w
instance (W0 : World) : Inhabited (FrBy W0) := ⟨⟨W0, Fr.refl _ _⟩⟩
theorem wp_region_fr {P : Program} (W0 : World) {id : Nat} {Q : Exit → Act → World → Prop} {a : Act} {w : World} {l : List Oper} (hm : P.follows .mixedOrders = true) (hB : Region.lexB .any l.toArray = true) (hC : Fr no W0 w)
    (h : wpQuiet P l.toArray (fun w' => ∃ p : FrBy W0, w' = p.w) (fun a' => ∀ w', (∃ p : FrBy W0, w' = p.w) → Q .normal a' w') l a) : (Code.region id l.toArray true).wp P Q a w :=
  wp_region_quiet (C := fun w' => ∃ p : FrBy W0, w' = p.w) hm hB ⟨⟨w.drew, hC.drew⟩, rfl⟩ (by simpa using h)
theorem calls_fr {P : Program} {f : FuncId} {args : Array Value} {W0 : World} {p : FrBy W0} {v : Value} (h : Calls P f args p.w fun e w' => e = .returned v ∧ Fr no p.w w') : Calls P f args p.w fun e w'' => e = .returned v ∧ ∃ q : FrBy W0, w'' = q.w :=
  h.mono fun _ w' ⟨he, hF⟩ => ⟨he, ⟨w', p.fr.trans hF⟩, rfl⟩

section
variable {P : Program} {ops : Array Oper} {md : Region.Mode} {C : World → Prop}
/-- In a round: an operation that is quiet. -/
theorem wpIn_of_quietR {l n : Nat} {o : Oper} {a : Act} {K : Act → Prop} {K' : Act → World → Prop} {Q' : Exit → Act → World → Prop} {w : World} (hw : C w) (h : ∀ a w', C w' → K a → K' a w') (hh : o.quiet P a C K) :
    o.wpIn (Fence.wide.inRound l) n P a w K' Q' := by
  obtain ⟨v, h1, h2⟩ := hh
  have h3 := h1 w hw
  have hnd : ∀ c, o.op ≠ .defer c := by
    intro c hc
    simp only [Oper.quietAt, execOp, hc] at h3
    simp only [Sem.run_bind] at h3
    cases hr : (resolve a.eval c o.type).run P w with
    | ok x w1 => rw [hr] at h3; simp [Result.andThen, Oper.quietUpon, Sem.run_pure] at h3
    | halt x w1 => rw [hr] at h3; simp [Result.andThen, Oper.quietUpon] at h3
  unfold Oper.wpIn
  refine ⟨fun _ _ => trivial, ?_⟩
  rw [Fence.inRound_round, Oper.semAt_some l _ _ hnd]
  unfold Oper.quietAt at h3
  generalize (execOp a.eval o).run P w = r at *
  cases r with
  | ok x w' =>
    cases x <;> simp only [Oper.quietUpon] at h3 <;> simp only [Oper.uponIn]
    case value u => rw [h3.1, h3.2]; exact h _ _ hw h2
    case skip => rw [h3.1, ← h3.2]; exact h _ _ hw h2
    case enter f args =>
      rw [h3.1]
      exact ⟨fun e => (by cases e), (CallsIn.inRound l (callsIn_wide.2 h3.2)).mono fun e w'' ⟨he, hw''⟩ => by subst he; exact h _ _ hw'' h2⟩
  | halt x w' => simp only [Oper.quietUpon] at h3
theorem wpOpIn_of_qOpR {l n i : Nat} {a : Act} {K : Act → Prop} {K' : Act → World → Prop} {Q' : Exit → Act → World → Prop} {w : World} (hC : C w) (h : ∀ a w', C w' → K a → K' a w') (hh : qOp P ops C i K a) :
    wpOpIn (Fence.wide.inRound l) n P ops Q' i K' a w := by
  unfold qOp at hh
  unfold wpOpIn
  split
  · rename_i ho; simp only [ho] at hh; exact h _ _ hC hh
  · rename_i o ho
    simp only [ho] at hh
    split
    · rename_i hw; simp only [hw, if_true] at hh; exact wpIn_of_quietR hC h hh
    · rename_i hw; simp only [hw] at hh; exact ⟨fun _ _ => trivial, h _ _ hC hh⟩
theorem wpAnyIn_of_quietR {l n : Nat} {Q : Act → Prop} {Q' : Exit → Act → World → Prop} (hQ : ∀ a w, C w → Q a → Q' .normal a w) : ∀ (fuel : Nat) (listed : Array Bool) (a : Act) (w : World), C w →
    wpAnyQ P md ops C Q fuel listed a → wpAnyIn (Fence.wide.inRound l) n P md ops Q' fuel listed a w
  | 0, _, _, _, hw, h => ⟨h.1, hQ _ _ hw h.2⟩
  | fuel + 1, _, _, _, hw, h => ⟨fun h0 => hQ _ _ hw (h.1 h0), fun i hi => wpOpIn_of_qOpR hw (fun a' w' hw' => wpAnyIn_of_quietR hQ fuel _ a' w' hw') (h.2 i hi)⟩
/-- One walk in the text's order, in a round. -/
theorem wpIn_region_fr (W0 : World) {l n id : Nat} {Q : Exit → Act → World → Prop} {a : Act} {w : World} {os : List Oper} (hm : P.follows .mixedOrders = true) (hB : Region.lexB .any os.toArray = true) (hC : Fr no W0 w)
    (h : wpQuiet P os.toArray (fun w' => ∃ p : FrBy W0, w' = p.w) (fun a' => ∀ w', (∃ p : FrBy W0, w' = p.w) → Q .normal a' w') os a) : (Code.region id os.toArray true).wpIn (Fence.wide.inRound l) n P Q a w := by
  simp only [Region.lexB, Bool.and_eq_true] at hB
  refine wpIn_region_any hm (wpAnyIn_of_quietR (C := fun w' => ∃ p : FrBy W0, w' = p.w) (Q := fun a' => ∀ w', (∃ p : FrBy W0, w' = p.w) → Q .normal a' w') (fun _ w' hw' h => h w' hw') _ _ _ _ ⟨⟨w.drew, hC.drew⟩, rfl⟩ ?_)
  have := wpAnyQ_lex (C := fun w' => ∃ p : FrBy W0, w' = p.w) (md := .any) hB.1 os 0 (Array.replicate os.toArray.size false) a (by simp) (by simpa using hB.2) h
  simpa using this
end
end Go.Proofs.YtmnajpkmglmipaaGreat
