/- Contracts of package rule: whether there is enough; free and held rights of lines. -/
import Derived.Test.YtmnajpkmglmipaaRuleB
namespace Go.Proofs.Ytmnajpkmglmipaa
open Go.RowKit

set_option maxRecDepth 100000 in
set_option maxHeartbeats 1000000 in
theorem enoughF_c (s : StV) (ps : List PoolD) (hn : s.np = ps.length) (Bs : Nat) (A : Option Addr) (c : Nat) (rs : List RightD) (w : World) (hB : Blk w Bs 32 #[.int .u64 s.q, .slice s.P s.np s.cp, .slice s.R s.nr s.cr, .slice s.L s.nl s.cl, .slice s.G s.ng s.cg, .slice s.O s.no s.co]) (h : kPool.Row w s.P s.cp ps) (hr : Sl fRight w A c rs) :
    Calls Try.prog 28 #[.slice A rs.length c, .func (.func 51) #[] #[.pointer (some ⟨Bs, 0, none⟩)]] w fun e w' => e = .returned (.bool (rs.all fun r => decide (r.2.2 ≤ freeD ps r.1 r.2.1))) ∧ Fr no w w' := by
  have hle := hr.le
  have htop := hr.top
  simp only [maxLen] at htop
  have HQ : Hid (∀ W, Fr no w W → Blk W Bs 32 #[.int .u64 s.q, .slice s.P s.np s.cp, .slice s.R s.nr s.cr, .slice s.L s.nl s.cl, .slice s.G s.ng s.cg, .slice s.O s.no s.co] ∧ kPool.Row W s.P s.cp ps ∧ Sl fRight W A c rs) := hide (fun W F => ⟨hB.kept0 F, h.keep F, hr.below F.below⟩)
  clear hB h hr
  go_enter Try.func28, Try.ntmps28
  go_wp2_with fail
  go_loopw [9] (fun i wr => ∃ m : Nat, i = .int .i64 m ∧ m ≤ rs.length ∧ Fr no w wr ∧ ((rs.take m).all fun r => decide (r.2.2 ≤ freeD ps r.1 r.2.1)) = true) (fun i _ => rs.length - (intOf i).toNat)
  case atStart => exact ⟨0, rfl, Nat.zero_le _, Fr.refl _ _, rfl⟩
  case round =>
    obtain ⟨m, rfl, hm, F, hall⟩ := hrel
    by_cases hlt : m < rs.length
    · obtain ⟨g, o, rfl, hc⟩ := (HQ.out wr F).2.2.cells (List.length_pos_iff.1 (by omega))
      obtain ⟨r1, r2, r3, hrm⟩ : ∃ r1 r2 r3, rs[m] = (r1, r2, r3) := ⟨_, _, _, rfl⟩
      have a0 : wr.cell? ⟨g, o + m * 3, none⟩ = some (.int .i64 r1) := by
        have := hc m hlt 0 (by decide)
        rw [hrm] at this; exact this
      have a1 : wr.cell? ⟨g, o + m * 3 + 1, none⟩ = some (.int .i64 r2) := by
        have := hc m hlt 1 (by decide)
        rw [hrm] at this; exact this
      have a2 : wr.cell? ⟨g, o + m * 3 + 2, none⟩ = some (.int .i64 r3) := by
        have := hc m hlt 2 (by decide)
        rw [hrm] at this; exact this
      have HA := hide hall
      have HT := hide (show rs.take (m + 1) = rs.take m ++ [(r1, r2, r3)] by rw [← hrm]; exact (List.take_append_getElem hlt).symm)
      have HM := hide (show (r1, r2, r3) ∈ rs by rw [← hrm]; exact List.getElem_mem hlt)
      have hi0 : (0 : Int) ≤ m := by omega
      have hi1 : (m : Int) < rs.length := by omega
      clear hc hrm hall
      obtain ⟨v, hv⟩ : ∃ v, v = freeD ps r1 r2 := ⟨_, rfl⟩
      have HV := hide hv
      clear hv
      have hC : ∀ W, Fr no w W → Calls Try.prog 51 #[.agg #[.int .i64 r1, .int .i64 r2, .int .i64 r3], .pointer (some ⟨Bs, 0, none⟩)] W fun e w' => e = .returned (.int .i64 v) ∧ Fr no W w' := fun W F' => by
        rw [HV.out]; exact free1_c s ps hn Bs r1 r2 r3 W (HQ.out W F').1 (HQ.out W F').2.1
      have HC := hide hC
      clear hC
      go_wp2_with fail
      have HK : Hid (∀ W', Fr no (wr.alloc (.cells #[.int .i64 r1, .int .i64 r2, .int .i64 r3] 42)) W' → W'.cell? ⟨wr.heap.size, 0, none⟩ = some (.int .i64 r1) ∧ W'.cell? ⟨wr.heap.size, 1, none⟩ = some (.int .i64 r2) ∧ W'.cell? ⟨wr.heap.size, 2, none⟩ = some (.int .i64 r3) ∧ Fr no (wr.alloc (.cells #[.int .i64 r1, .int .i64 r2, .int .i64 r3] 42)) W') :=
        hide (fun W' F' => ⟨((Blk.new wr _ _).kept0 F').cell 0, ((Blk.new wr _ _).kept0 F').cell 1, ((Blk.new wr _ _).kept0 F').cell 2, F'⟩)
      have FA : Fr no w (wr.alloc (.cells #[.int .i64 r1, .int .i64 r2, .int .i64 r3] 42)) := F.alloc _
      have HFA := hide FA
      clear FA
      generalize wr.alloc (.cells #[.int .i64 r1, .int .i64 r2, .int .i64 r3] 42) = W0 at *
      go_region_held3 (fun W' => W'.cell? ⟨wr.heap.size, 0, none⟩ = some (.int .i64 r1) ∧ W'.cell? ⟨wr.heap.size, 1, none⟩ = some (.int .i64 r2) ∧ W'.cell? ⟨wr.heap.size, 2, none⟩ = some (.int .i64 r3) ∧ Fr no W0 W')
        (first | exact HK.out _ (Fr.refl _ _).drew | exact HK.out _ ‹_›)
        (first
          | (go_at_call 51; refine (HC.out _ (HFA.out.trans (by first | exact (Fr.refl _ _).drew | assumption))).mono ?_; rintro e w' ⟨rfl, F5⟩; have F6 := (show Fr no W0 w' from (by first | exact ((Fr.refl _ _).drew).trans F5 | exact Fr.trans (by assumption) F5)); clear F5))
      rename_i hH
      have F7 := HFA.out.trans hH.2.2.2
      have HF7 := hide F7
      clear F7 hH
      by_cases hvn : v < r3
      · go_wp2_with fail
        go_ret
        refine ⟨?_, HF7.out⟩
        rw [show (rs.all fun r => decide (r.2.2 ≤ freeD ps r.1 r.2.1)) = false from ?_]
        · rfl
        · rw [List.all_eq_false]
          exact ⟨_, HM.out, by rw [← HV.out]; simp; omega⟩
      · have REL : Hid (((rs.take (m + 1)).all fun r => decide (r.2.2 ≤ freeD ps r.1 r.2.1)) = true) := hide (by
          rw [HT.out, List.all_append, HA.out]
          simp only [List.all_cons, List.all_nil, Bool.and_true, Bool.true_and, ← HV.out, decide_eq_true_eq]
          omega)
        go_wp2_with fail
        exact ⟨⟨m + 1, by simp, hlt, HF7.out, REL.out⟩, by simp [intOf]; omega⟩
    · obtain rfl : m = rs.length := by omega
      rw [List.take_of_length_le (Nat.le_refl _)] at hall
      have HA := hide hall
      clear hall
      go_wp2_with fail
      go_ret
      exact ⟨by rw [HA.out]; rfl, F⟩
set_option maxRecDepth 100000 in
set_option maxHeartbeats 1000000 in
theorem enoughH_c (s : StV) (ps : List PoolD) (hn : s.np = ps.length) (Bs Bt : Nat) (t : Int) (A : Option Addr) (c : Nat) (rs : List RightD) (w : World) (hB : Blk w Bs 32 #[.int .u64 s.q, .slice s.P s.np s.cp, .slice s.R s.nr s.cr, .slice s.L s.nl s.cl, .slice s.G s.ng s.cg, .slice s.O s.no s.co]) (hT : Blk w Bt 3 #[.int .i64 t]) (h : kPool.Row w s.P s.cp ps) (hr : Sl fRight w A c rs) :
    Calls Try.prog 28 #[.slice A rs.length c, .func (.func 52) #[] #[.pointer (some ⟨Bs, 0, none⟩), .pointer (some ⟨Bt, 0, none⟩)]] w fun e w' => e = .returned (.bool (rs.all fun r => decide (r.2.2 ≤ heldD ps t r.1 r.2.1))) ∧ Fr no w w' := by
  have hle := hr.le
  have htop := hr.top
  simp only [maxLen] at htop
  have HQ : Hid (∀ W, Fr no w W → Blk W Bs 32 #[.int .u64 s.q, .slice s.P s.np s.cp, .slice s.R s.nr s.cr, .slice s.L s.nl s.cl, .slice s.G s.ng s.cg, .slice s.O s.no s.co] ∧ Blk W Bt 3 #[.int .i64 t] ∧ kPool.Row W s.P s.cp ps ∧ Sl fRight W A c rs) := hide (fun W F => ⟨hB.kept0 F, hT.kept0 F, h.keep F, hr.below F.below⟩)
  clear hB h hr hT
  go_enter Try.func28, Try.ntmps28
  go_wp2_with fail
  go_loopw [9] (fun i wr => ∃ m : Nat, i = .int .i64 m ∧ m ≤ rs.length ∧ Fr no w wr ∧ ((rs.take m).all fun r => decide (r.2.2 ≤ heldD ps t r.1 r.2.1)) = true) (fun i _ => rs.length - (intOf i).toNat)
  case atStart => exact ⟨0, rfl, Nat.zero_le _, Fr.refl _ _, rfl⟩
  case round =>
    obtain ⟨m, rfl, hm, F, hall⟩ := hrel
    by_cases hlt : m < rs.length
    · obtain ⟨g, o, rfl, hc⟩ := (HQ.out wr F).2.2.2.cells (List.length_pos_iff.1 (by omega))
      obtain ⟨r1, r2, r3, hrm⟩ : ∃ r1 r2 r3, rs[m] = (r1, r2, r3) := ⟨_, _, _, rfl⟩
      have a0 : wr.cell? ⟨g, o + m * 3, none⟩ = some (.int .i64 r1) := by
        have := hc m hlt 0 (by decide)
        rw [hrm] at this; exact this
      have a1 : wr.cell? ⟨g, o + m * 3 + 1, none⟩ = some (.int .i64 r2) := by
        have := hc m hlt 1 (by decide)
        rw [hrm] at this; exact this
      have a2 : wr.cell? ⟨g, o + m * 3 + 2, none⟩ = some (.int .i64 r3) := by
        have := hc m hlt 2 (by decide)
        rw [hrm] at this; exact this
      have HA := hide hall
      have HT := hide (show rs.take (m + 1) = rs.take m ++ [(r1, r2, r3)] by rw [← hrm]; exact (List.take_append_getElem hlt).symm)
      have HM := hide (show (r1, r2, r3) ∈ rs by rw [← hrm]; exact List.getElem_mem hlt)
      have hi0 : (0 : Int) ≤ m := by omega
      have hi1 : (m : Int) < rs.length := by omega
      clear hc hrm hall
      obtain ⟨v, hv⟩ : ∃ v, v = heldD ps t r1 r2 := ⟨_, rfl⟩
      have HV := hide hv
      clear hv
      have hC : ∀ W, Fr no w W → Calls Try.prog 52 #[.agg #[.int .i64 r1, .int .i64 r2, .int .i64 r3], .pointer (some ⟨Bs, 0, none⟩), .pointer (some ⟨Bt, 0, none⟩)] W fun e w' => e = .returned (.int .i64 v) ∧ Fr no W w' := fun W F' => by
        rw [HV.out]; exact held1_c s ps hn Bs Bt t r1 r2 r3 W (HQ.out W F').1 (HQ.out W F').2.1 (HQ.out W F').2.2.1
      have HC := hide hC
      clear hC
      go_wp2_with fail
      have HK : Hid (∀ W', Fr no (wr.alloc (.cells #[.int .i64 r1, .int .i64 r2, .int .i64 r3] 42)) W' → W'.cell? ⟨wr.heap.size, 0, none⟩ = some (.int .i64 r1) ∧ W'.cell? ⟨wr.heap.size, 1, none⟩ = some (.int .i64 r2) ∧ W'.cell? ⟨wr.heap.size, 2, none⟩ = some (.int .i64 r3) ∧ Fr no (wr.alloc (.cells #[.int .i64 r1, .int .i64 r2, .int .i64 r3] 42)) W') :=
        hide (fun W' F' => ⟨((Blk.new wr _ _).kept0 F').cell 0, ((Blk.new wr _ _).kept0 F').cell 1, ((Blk.new wr _ _).kept0 F').cell 2, F'⟩)
      have FA : Fr no w (wr.alloc (.cells #[.int .i64 r1, .int .i64 r2, .int .i64 r3] 42)) := F.alloc _
      have HFA := hide FA
      clear FA
      generalize wr.alloc (.cells #[.int .i64 r1, .int .i64 r2, .int .i64 r3] 42) = W0 at *
      go_region_held3 (fun W' => W'.cell? ⟨wr.heap.size, 0, none⟩ = some (.int .i64 r1) ∧ W'.cell? ⟨wr.heap.size, 1, none⟩ = some (.int .i64 r2) ∧ W'.cell? ⟨wr.heap.size, 2, none⟩ = some (.int .i64 r3) ∧ Fr no W0 W')
        (first | exact HK.out _ (Fr.refl _ _).drew | exact HK.out _ ‹_›)
        (first
          | (go_at_call 52; refine (HC.out _ (HFA.out.trans (by first | exact (Fr.refl _ _).drew | assumption))).mono ?_; rintro e w' ⟨rfl, F5⟩; have F6 := (show Fr no W0 w' from (by first | exact ((Fr.refl _ _).drew).trans F5 | exact Fr.trans (by assumption) F5)); clear F5))
      rename_i hH
      have F7 := HFA.out.trans hH.2.2.2
      have HF7 := hide F7
      clear F7 hH
      by_cases hvn : v < r3
      · go_wp2_with fail
        go_ret
        refine ⟨?_, HF7.out⟩
        rw [show (rs.all fun r => decide (r.2.2 ≤ heldD ps t r.1 r.2.1)) = false from ?_]
        · rfl
        · rw [List.all_eq_false]
          exact ⟨_, HM.out, by rw [← HV.out]; simp; omega⟩
      · have REL : Hid (((rs.take (m + 1)).all fun r => decide (r.2.2 ≤ heldD ps t r.1 r.2.1)) = true) := hide (by
          rw [HT.out, List.all_append, HA.out]
          simp only [List.all_cons, List.all_nil, Bool.and_true, Bool.true_and, ← HV.out, decide_eq_true_eq]
          omega)
        go_wp2_with fail
        exact ⟨⟨m + 1, by simp, hlt, HF7.out, REL.out⟩, by simp [intOf]; omega⟩
    · obtain rfl : m = rs.length := by omega
      rw [List.take_of_length_le (Nat.le_refl _)] at hall
      have HA := hide hall
      clear hall
      go_wp2_with fail
      go_ret
      exact ⟨by rw [HA.out]; rfl, F⟩
theorem blk_new2 (X : World) (o : Obj) (T : TypeId) (cs : Array Value) : Blk ((X.alloc o).alloc (.cells cs T)) (X.heap.size + 1) T cs := by
  have := Blk.new (X.alloc o) T cs
  rwa [World.size_alloc] at this
/-- Are there so many free rights; does a till hold them? -/
def freeL (ps : List PoolD) (xs : List LineD) : Bool := (needsD xs).all fun r => decide (r.2.2 ≤ freeD ps r.1 r.2.1)
def holdsL (ps : List PoolD) (t : Int) (xs : List LineD) : Bool := (needsD xs).all fun r => decide (r.2.2 ≤ heldD ps t r.1 r.2.1)
set_option maxRecDepth 100000 in
set_option maxHeartbeats 1000000 in
theorem Free_c (s : StV) (ps : List PoolD) (hn : s.np = ps.length) (A : Option Addr) (c : Nat) (xs : List LineD) (hx : ∀ x ∈ xs, WfL x) (hb : xs.length * 16 ≤ 140737488351232) (w : World) (h : kPool.Row w s.P s.cp ps) (hl : Sl fLine w A c xs) :
    Calls Try.prog 7 #[.agg #[.int .u64 s.q, .slice s.P s.np s.cp, .slice s.R s.nr s.cr, .slice s.L s.nl s.cl, .slice s.G s.ng s.cg, .slice s.O s.no s.co], .slice A xs.length c] w fun e w' => e = .returned (.bool (freeL ps xs)) ∧ Fr no w w' := by
  obtain ⟨v, hv⟩ : ∃ v, v = freeL ps xs := ⟨_, rfl⟩
  have HV := hide hv
  rw [← hv]
  clear hv
  obtain ⟨rs, hrs⟩ : ∃ rs, rs = needsD xs := ⟨_, rfl⟩
  have HN' := hide hn
  have HQ : Hid (∀ W, Fr no w W → kPool.Row W s.P s.cp ps ∧ Sl fLine W A c xs) := hide (fun W F => ⟨h.keep F, hl.below F.below⟩)
  have HN : Hid (∀ W, Fr no w W → Calls Try.prog 6 #[.slice A xs.length c] W fun e w' => ∃ A' c', e = .returned (.slice A' rs.length c') ∧ Sl fRight w' A' c' rs ∧ Fr no W w') := hide (fun W F => by
    rw [hrs]; exact Needs_c A c xs hx hb W (HQ.out W F).2)
  have HE : Hid (∀ (W : World) (Bs : Nat) (A' : Option Addr) (c' : Nat), Blk W Bs 32 #[.int .u64 s.q, .slice s.P s.np s.cp, .slice s.R s.nr s.cr, .slice s.L s.nl s.cl, .slice s.G s.ng s.cg, .slice s.O s.no s.co] → Fr no w W → Sl fRight W A' c' rs → Calls Try.prog 28 #[.slice A' rs.length c', .func (.func 51) #[] #[.pointer (some ⟨Bs, 0, none⟩)]] W fun e w' => e = .returned (.bool v) ∧ Fr no W w') := hide (fun W Bs A' c' hB F hs => by
    rw [HV.out]
    have := enoughF_c s ps hn Bs A' c' rs W hB (HQ.out W F).1 hs
    rw [hrs] at this ⊢
    exact this)
  clear h hl hx hrs hn
  go_enter Try.func7, Try.ntmps7
  go_wp2_with fail
  have HK : Hid (∀ W', Fr no (w.alloc (.cells #[.int .u64 s.q, .slice s.P s.np s.cp, .slice s.R s.nr s.cr, .slice s.L s.nl s.cl, .slice s.G s.ng s.cg, .slice s.O s.no s.co] 32)) W' → W'.cell? ⟨w.heap.size, 0, none⟩ = some (.int .u64 s.q) ∧ W'.cell? ⟨w.heap.size, 1, none⟩ = some (.slice s.P s.np s.cp) ∧ W'.cell? ⟨w.heap.size, 2, none⟩ = some (.slice s.R s.nr s.cr) ∧ W'.cell? ⟨w.heap.size, 3, none⟩ = some (.slice s.L s.nl s.cl) ∧ W'.cell? ⟨w.heap.size, 4, none⟩ = some (.slice s.G s.ng s.cg) ∧ W'.cell? ⟨w.heap.size, 5, none⟩ = some (.slice s.O s.no s.co) ∧ Fr no w W') :=
    hide (fun W' F' => ⟨((Blk.new w _ _).kept0 F').cell 0, ((Blk.new w _ _).kept0 F').cell 1, ((Blk.new w _ _).kept0 F').cell 2, ((Blk.new w _ _).kept0 F').cell 3, ((Blk.new w _ _).kept0 F').cell 4, ((Blk.new w _ _).kept0 F').cell 5, ((Fr.refl no w).alloc _).trans F'⟩)
  generalize w.alloc (.cells #[.int .u64 s.q, .slice s.P s.np s.cp, .slice s.R s.nr s.cr, .slice s.L s.nl s.cl, .slice s.G s.ng s.cg, .slice s.O s.no s.co] 32) = W0 at *
  generalize w.heap.size = g at *
  go_region_held3 (fun W' => W'.cell? ⟨g, 0, none⟩ = some (.int .u64 s.q) ∧ W'.cell? ⟨g, 1, none⟩ = some (.slice s.P s.np s.cp) ∧ W'.cell? ⟨g, 2, none⟩ = some (.slice s.R s.nr s.cr) ∧ W'.cell? ⟨g, 3, none⟩ = some (.slice s.L s.nl s.cl) ∧ W'.cell? ⟨g, 4, none⟩ = some (.slice s.G s.ng s.cg) ∧ W'.cell? ⟨g, 5, none⟩ = some (.slice s.O s.no s.co) ∧ Fr no w W')
    (first | exact HK.out _ (Fr.refl _ _).drew | exact HK.out _ ‹_›)
    (first
      | (go_at_call 6; refine (HN.out _ (HK.out _ (by first | exact (Fr.refl _ _).drew | assumption)).2.2.2.2.2.2).mono ?_; rintro e w1 ⟨A', c', rfl, hs1, F5⟩; have F6 := (show Fr no W0 w1 from (by first | exact ((Fr.refl _ _).drew).trans F5 | exact Fr.trans (by assumption) F5)); have HS1 := hide hs1; have HF5 := hide F5; clear F5 hs1)
      | (go_at_call 29; refine (free_c s _).mono ?_; rintro e w2 ⟨rfl, hw2⟩; have HB1 := hide (show Blk w2 _ 32 #[.int .u64 s.q, .slice s.P s.np s.cp, .slice s.R s.nr s.cr, .slice s.L s.nl s.cl, .slice s.G s.ng s.cg, .slice s.O s.no s.co] by rw [hw2]; exact Blk.new _ _ _); have HF2 := hide (show Fr no _ w2 by rw [hw2]; exact (Fr.refl no _).alloc _); have F6 := (show Fr no W0 w2 from (by first | exact ((Fr.refl _ _).drew).trans HF2.out | exact Fr.trans (by assumption) HF2.out)); clear hw2)
      | (go_at_call 28; refine (HE.out _ _ _ _ (by first | exact HB1.out | exact HB1.out.kept0 HF5.out) (HK.out _ (by assumption)).2.2.2.2.2.2 (by first | exact HS1.out | exact HS1.out.below HF2.out.below)).mono ?_; rintro e w3 ⟨rfl, F7⟩; have F8 := (show Fr no W0 w3 from Fr.trans (by assumption) F7); clear F7))
  all_goals
    rename_i hH
    have F9 := hH.2.2.2.2.2.2
    go_wp2_with fail
    go_ret
    exact ⟨rfl, F9⟩
set_option maxRecDepth 100000 in
set_option maxHeartbeats 1000000 in
theorem Holds_c (s : StV) (ps : List PoolD) (hn : s.np = ps.length) (t : Int) (A : Option Addr) (c : Nat) (xs : List LineD) (hx : ∀ x ∈ xs, WfL x) (hb : xs.length * 16 ≤ 140737488351232) (w : World) (h : kPool.Row w s.P s.cp ps) (hl : Sl fLine w A c xs) :
    Calls Try.prog 8 #[.agg #[.int .u64 s.q, .slice s.P s.np s.cp, .slice s.R s.nr s.cr, .slice s.L s.nl s.cl, .slice s.G s.ng s.cg, .slice s.O s.no s.co], .int .i64 t, .slice A xs.length c] w fun e w' => e = .returned (.bool (holdsL ps t xs)) ∧ Fr no w w' := by
  obtain ⟨v, hv⟩ : ∃ v, v = holdsL ps t xs := ⟨_, rfl⟩
  have HV := hide hv
  rw [← hv]
  clear hv
  obtain ⟨rs, hrs⟩ : ∃ rs, rs = needsD xs := ⟨_, rfl⟩
  have HN' := hide hn
  have HQ : Hid (∀ W, Fr no w W → kPool.Row W s.P s.cp ps ∧ Sl fLine W A c xs) := hide (fun W F => ⟨h.keep F, hl.below F.below⟩)
  have HN : Hid (∀ W, Fr no w W → Calls Try.prog 6 #[.slice A xs.length c] W fun e w' => ∃ A' c', e = .returned (.slice A' rs.length c') ∧ Sl fRight w' A' c' rs ∧ Fr no W w') := hide (fun W F => by
    rw [hrs]; exact Needs_c A c xs hx hb W (HQ.out W F).2)
  have HE : Hid (∀ (W : World) (Bs Bt : Nat) (A' : Option Addr) (c' : Nat), Blk W Bs 32 #[.int .u64 s.q, .slice s.P s.np s.cp, .slice s.R s.nr s.cr, .slice s.L s.nl s.cl, .slice s.G s.ng s.cg, .slice s.O s.no s.co] → Blk W Bt 3 #[.int .i64 t] → Fr no w W → Sl fRight W A' c' rs → Calls Try.prog 28 #[.slice A' rs.length c', .func (.func 52) #[] #[.pointer (some ⟨Bs, 0, none⟩), .pointer (some ⟨Bt, 0, none⟩)]] W fun e w' => e = .returned (.bool v) ∧ Fr no W w') := hide (fun W Bs Bt A' c' hB hT F hs => by
    rw [HV.out]
    have := enoughH_c s ps hn Bs Bt t A' c' rs W hB hT (HQ.out W F).1 hs
    rw [hrs] at this ⊢
    exact this)
  clear h hl hx hrs hn
  go_enter Try.func8, Try.ntmps8
  go_wp2_with fail
  have HK : Hid (∀ W', Fr no (w.alloc (.cells #[.int .u64 s.q, .slice s.P s.np s.cp, .slice s.R s.nr s.cr, .slice s.L s.nl s.cl, .slice s.G s.ng s.cg, .slice s.O s.no s.co] 32)) W' → W'.cell? ⟨w.heap.size, 0, none⟩ = some (.int .u64 s.q) ∧ W'.cell? ⟨w.heap.size, 1, none⟩ = some (.slice s.P s.np s.cp) ∧ W'.cell? ⟨w.heap.size, 2, none⟩ = some (.slice s.R s.nr s.cr) ∧ W'.cell? ⟨w.heap.size, 3, none⟩ = some (.slice s.L s.nl s.cl) ∧ W'.cell? ⟨w.heap.size, 4, none⟩ = some (.slice s.G s.ng s.cg) ∧ W'.cell? ⟨w.heap.size, 5, none⟩ = some (.slice s.O s.no s.co) ∧ Fr no w W') :=
    hide (fun W' F' => ⟨((Blk.new w _ _).kept0 F').cell 0, ((Blk.new w _ _).kept0 F').cell 1, ((Blk.new w _ _).kept0 F').cell 2, ((Blk.new w _ _).kept0 F').cell 3, ((Blk.new w _ _).kept0 F').cell 4, ((Blk.new w _ _).kept0 F').cell 5, ((Fr.refl no w).alloc _).trans F'⟩)
  generalize w.alloc (.cells #[.int .u64 s.q, .slice s.P s.np s.cp, .slice s.R s.nr s.cr, .slice s.L s.nl s.cl, .slice s.G s.ng s.cg, .slice s.O s.no s.co] 32) = W0 at *
  generalize w.heap.size = g at *
  go_region_held3 (fun W' => W'.cell? ⟨g, 0, none⟩ = some (.int .u64 s.q) ∧ W'.cell? ⟨g, 1, none⟩ = some (.slice s.P s.np s.cp) ∧ W'.cell? ⟨g, 2, none⟩ = some (.slice s.R s.nr s.cr) ∧ W'.cell? ⟨g, 3, none⟩ = some (.slice s.L s.nl s.cl) ∧ W'.cell? ⟨g, 4, none⟩ = some (.slice s.G s.ng s.cg) ∧ W'.cell? ⟨g, 5, none⟩ = some (.slice s.O s.no s.co) ∧ Fr no w W')
    (first | exact HK.out _ (Fr.refl _ _).drew | exact HK.out _ ‹_›)
    (first
      | (go_at_call 6; refine (HN.out _ (HK.out _ (by first | exact (Fr.refl _ _).drew | assumption)).2.2.2.2.2.2).mono ?_; rintro e w1 ⟨A', c', rfl, hs1, F5⟩; have F6 := (show Fr no W0 w1 from (by first | exact ((Fr.refl _ _).drew).trans F5 | exact Fr.trans (by assumption) F5)); have HS1 := hide hs1; have HF5 := hide F5; clear F5 hs1)
      | (go_at_call 30; refine (held_c s t _).mono ?_; rintro e w2 ⟨rfl, hw2⟩; have HB1 := hide (show Blk w2 _ 32 #[.int .u64 s.q, .slice s.P s.np s.cp, .slice s.R s.nr s.cr, .slice s.L s.nl s.cl, .slice s.G s.ng s.cg, .slice s.O s.no s.co] by rw [hw2]; exact (Blk.new _ _ _).alloc _); have HB2 := hide (show Blk w2 _ 3 #[.int .i64 t] by rw [hw2]; exact blk_new2 _ _ _ _); have HF2 := hide (show Fr no _ w2 by rw [hw2]; exact ((Fr.refl no _).alloc _).alloc _); have F6 := (show Fr no W0 w2 from (by first | exact ((Fr.refl _ _).drew).trans HF2.out | exact Fr.trans (by assumption) HF2.out)); clear hw2)
      | (go_at_call 28; refine (HE.out _ _ _ _ _ (by first | exact HB1.out | exact HB1.out.kept0 HF5.out) (by first | exact HB2.out | exact HB2.out.kept0 HF5.out) (HK.out _ (by assumption)).2.2.2.2.2.2 (by first | exact HS1.out | exact HS1.out.below HF2.out.below)).mono ?_; rintro e w3 ⟨rfl, F7⟩; have F8 := (show Fr no W0 w3 from Fr.trans (by assumption) F7); clear F7))
  all_goals
    rename_i hH
    have F9 := hH.2.2.2.2.2.2
    go_wp2_with fail
    go_ret
    exact ⟨rfl, F9⟩
end Go.Proofs.Ytmnajpkmglmipaa
