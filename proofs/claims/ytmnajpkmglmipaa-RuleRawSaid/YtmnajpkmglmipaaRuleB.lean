/- Contracts of package rule: held rights; whether there is enough. -/
import Derived.Test.YtmnajpkmglmipaaRuleA
namespace Go.Proofs.Ytmnajpkmglmipaa
open Go.RowKit

/-- What a till holds of a kind. -/
def heldD (ps : List PoolD) (t c w : Int) : Int := if c < 0 then 0 else match ps[c.toNat]? with | none => 0 | some p => if w < 0 ∨ 1 < w ∨ t < 0 then 0 else match p.2.2[t.toNat]? with | none => 0 | some h => if w = 0 then h.1 else h.2
theorem heldD_neg (ps : List PoolD) (t c w : Int) (h : c < 0) : heldD ps t c w = 0 := by simp [heldD, h]
theorem heldD_far (ps : List PoolD) (t : Int) (m : Nat) (w : Int) (h : ¬ m < ps.length) : heldD ps t m w = 0 := by
  unfold heldD
  rw [if_neg (by omega)]
  simp [h]
theorem heldD_out (ps : List PoolD) (t : Int) (m : Nat) (w : Int) (h : m < ps.length) (hw : w < 0 ∨ 1 < w ∨ t < 0) : heldD ps t m w = 0 := by
  unfold heldD
  rw [if_neg (by omega)]
  simp [h, hw]
theorem heldD_none (ps : List PoolD) (k m : Nat) (w : Int) (h : m < ps.length) (hw : ¬ (w < 0 ∨ 1 < w)) (hk : ¬ k < ps[m].2.2.length) : heldD ps k m w = 0 := by
  unfold heldD
  rw [if_neg (by omega)]
  have h3 : ¬ (w < 0 ∨ 1 < w ∨ (k : Int) < 0) := by omega
  simp [h, h3, hk]
theorem heldD_at (ps : List PoolD) (k m : Nat) (w : Int) (h : m < ps.length) (hw : w = 0 ∨ w = 1) (hk : k < ps[m].2.2.length) : heldD ps k m w = if w = 0 then ps[m].2.2[k].1 else ps[m].2.2[k].2 := by
  unfold heldD
  rw [if_neg (by omega)]
  have h3 : ¬ (w < 0 ∨ 1 < w ∨ (k : Int) < 0) := by omega
  simp [h, h3, hk]
set_option maxRecDepth 100000 in
set_option maxHeartbeats 1000000 in
theorem held1_neg (s : StV) (Bs Bt : Nat) (c wy t n : Int) (w : World) (b1 : ∀ ob, (w.alloc ob).cell? ⟨Bs, 1, none⟩ = some (.slice s.P s.np s.cp)) (b2 : ∀ ob, (w.alloc ob).cell? ⟨Bt, 0, none⟩ = some (.int .i64 t)) (h0 : c < 0) :
    Calls Try.prog 52 #[.agg #[.int .i64 c, .int .i64 wy, .int .i64 n], .pointer (some ⟨Bs, 0, none⟩), .pointer (some ⟨Bt, 0, none⟩)] w fun e w' => e = .returned (.int .i64 0) ∧ Fr no w w' := by
  have _u : True := (fun _ _ => trivial) b1 b2
  go_enter Try.func52, Try.ntmps52
  go_wp2_with fail
  go_quiet (fail)
  go_wp2_with fail
  go_ret
  exact ⟨rfl, ((Fr.refl no w).alloc _).drewN _⟩
set_option maxRecDepth 100000 in
set_option maxHeartbeats 1000000 in
theorem held1_far (s : StV) (Bs Bt : Nat) (wy t n : Int) (m : Nat) (w : World) (b1 : ∀ ob, (w.alloc ob).cell? ⟨Bs, 1, none⟩ = some (.slice s.P s.np s.cp)) (b2 : ∀ ob, (w.alloc ob).cell? ⟨Bt, 0, none⟩ = some (.int .i64 t)) (i1 : ¬ (m : Int) < s.np) :
    Calls Try.prog 52 #[.agg #[.int .i64 m, .int .i64 wy, .int .i64 n], .pointer (some ⟨Bs, 0, none⟩), .pointer (some ⟨Bt, 0, none⟩)] w fun e w' => e = .returned (.int .i64 0) ∧ Fr no w w' := by
  have _u : True := (fun _ _ => trivial) b1 b2
  have d1 : decide ((m : Int) < 0) = false := by simp
  have d2 : decide (s.np ≤ m) = true := by simp; omega
  go_enter Try.func52, Try.ntmps52
  go_wp2_with fail
  go_quiet (fail)
  go_wp2_with fail
  go_ret
  exact ⟨rfl, ((Fr.refl no w).alloc _).drewN _⟩
set_option maxRecDepth 100000 in
set_option maxHeartbeats 1000000 in
theorem held1_wneg (s : StV) (Bs Bt : Nat) (wy t n : Int) (m g o : Nat) (w : World) (b1 : ∀ ob, (w.alloc ob).cell? ⟨Bs, 1, none⟩ = some (.slice s.P s.np s.cp)) (b2 : ∀ ob, (w.alloc ob).cell? ⟨Bt, 0, none⟩ = some (.int .i64 t)) (hP : s.P = some ⟨g, o, none⟩) (hA : Option Addr) (hl hc : Nat) (a3 : ∀ ob, (w.alloc ob).cell? ⟨g, o + m * 4 + 3, none⟩ = some (.slice hA hl hc)) (i1 : (m : Int) < s.np) (h2 : wy < 0) :
    Calls Try.prog 52 #[.agg #[.int .i64 m, .int .i64 wy, .int .i64 n], .pointer (some ⟨Bs, 0, none⟩), .pointer (some ⟨Bt, 0, none⟩)] w fun e w' => e = .returned (.int .i64 0) ∧ Fr no w w' := by
  have _u : True := (fun _ _ _ => trivial) b1 b2 a3
  have i0 : (0 : Int) ≤ m := by omega
  have d1 : decide ((m : Int) < 0) = false := by simp
  have d2 : decide (s.np ≤ m) = false := by simp; omega
  have d3 : decide (wy < 0) = true := by simp; omega
  go_enter Try.func52, Try.ntmps52
  go_wp2_with fail
  go_quiet (fail)
  go_wp2_with fail
  go_ret
  exact ⟨rfl, ((Fr.refl no w).alloc _).drewN _⟩
set_option maxRecDepth 100000 in
set_option maxHeartbeats 1000000 in
theorem held1_wbig (s : StV) (Bs Bt : Nat) (wy t n : Int) (m g o : Nat) (w : World) (b1 : ∀ ob, (w.alloc ob).cell? ⟨Bs, 1, none⟩ = some (.slice s.P s.np s.cp)) (b2 : ∀ ob, (w.alloc ob).cell? ⟨Bt, 0, none⟩ = some (.int .i64 t)) (hP : s.P = some ⟨g, o, none⟩) (hA : Option Addr) (hl hc : Nat) (a3 : ∀ ob, (w.alloc ob).cell? ⟨g, o + m * 4 + 3, none⟩ = some (.slice hA hl hc)) (i1 : (m : Int) < s.np) (h2 : 1 < wy) :
    Calls Try.prog 52 #[.agg #[.int .i64 m, .int .i64 wy, .int .i64 n], .pointer (some ⟨Bs, 0, none⟩), .pointer (some ⟨Bt, 0, none⟩)] w fun e w' => e = .returned (.int .i64 0) ∧ Fr no w w' := by
  have _u : True := (fun _ _ _ => trivial) b1 b2 a3
  have i0 : (0 : Int) ≤ m := by omega
  have d1 : decide ((m : Int) < 0) = false := by simp
  have d2 : decide (s.np ≤ m) = false := by simp; omega
  have d3 : decide (wy < 0) = false := by simp; omega
  have d4 : decide (1 < wy) = true := by simp; omega
  go_enter Try.func52, Try.ntmps52
  go_wp2_with fail
  go_quiet (fail)
  go_wp2_with fail
  go_ret
  exact ⟨rfl, ((Fr.refl no w).alloc _).drewN _⟩
set_option maxRecDepth 100000 in
set_option maxHeartbeats 1000000 in
theorem held1_tneg (s : StV) (Bs Bt : Nat) (wy t n : Int) (m g o : Nat) (w : World) (b1 : ∀ ob, (w.alloc ob).cell? ⟨Bs, 1, none⟩ = some (.slice s.P s.np s.cp)) (b2 : ∀ ob, (w.alloc ob).cell? ⟨Bt, 0, none⟩ = some (.int .i64 t)) (hP : s.P = some ⟨g, o, none⟩) (hA : Option Addr) (hl hc : Nat) (a3 : ∀ ob, (w.alloc ob).cell? ⟨g, o + m * 4 + 3, none⟩ = some (.slice hA hl hc)) (i1 : (m : Int) < s.np) (h2 : ¬ wy < 0) (h3 : ¬ 1 < wy) (h4 : t < 0) :
    Calls Try.prog 52 #[.agg #[.int .i64 m, .int .i64 wy, .int .i64 n], .pointer (some ⟨Bs, 0, none⟩), .pointer (some ⟨Bt, 0, none⟩)] w fun e w' => e = .returned (.int .i64 0) ∧ Fr no w w' := by
  have _u : True := (fun _ _ _ => trivial) b1 b2 a3
  have i0 : (0 : Int) ≤ m := by omega
  have d1 : decide ((m : Int) < 0) = false := by simp
  have d2 : decide (s.np ≤ m) = false := by simp; omega
  have d3 : decide (wy < 0) = false := by simp; omega
  have d4 : decide (1 < wy) = false := by simp; omega
  have d5 : decide (t < 0) = true := by simp; omega
  go_enter Try.func52, Try.ntmps52
  go_wp2_with fail
  go_quiet (fail)
  go_wp2_with fail
  go_ret
  exact ⟨rfl, ((Fr.refl no w).alloc _).drewN _⟩
set_option maxRecDepth 100000 in
set_option maxHeartbeats 1000000 in
theorem held1_tfar (s : StV) (Bs Bt : Nat) (wy n : Int) (m g o k : Nat) (w : World) (b1 : ∀ ob, (w.alloc ob).cell? ⟨Bs, 1, none⟩ = some (.slice s.P s.np s.cp)) (b2 : ∀ ob, (w.alloc ob).cell? ⟨Bt, 0, none⟩ = some (.int .i64 k)) (hP : s.P = some ⟨g, o, none⟩) (hA : Option Addr) (hl hc : Nat) (a3 : ∀ ob, (w.alloc ob).cell? ⟨g, o + m * 4 + 3, none⟩ = some (.slice hA hl hc)) (i1 : (m : Int) < s.np) (h2 : ¬ wy < 0) (h3 : ¬ 1 < wy) (j1 : ¬ (k : Int) < hl) :
    Calls Try.prog 52 #[.agg #[.int .i64 m, .int .i64 wy, .int .i64 n], .pointer (some ⟨Bs, 0, none⟩), .pointer (some ⟨Bt, 0, none⟩)] w fun e w' => e = .returned (.int .i64 0) ∧ Fr no w w' := by
  have _u : True := (fun _ _ _ => trivial) b1 b2 a3
  have i0 : (0 : Int) ≤ m := by omega
  have d1 : decide ((m : Int) < 0) = false := by simp
  have d2 : decide (s.np ≤ m) = false := by simp; omega
  have d3 : decide (wy < 0) = false := by simp; omega
  have d4 : decide (1 < wy) = false := by simp; omega
  have d5 : decide ((k : Int) < 0) = false := by simp
  have d6 : decide (hl ≤ k) = true := by simp; omega
  go_enter Try.func52, Try.ntmps52
  go_wp2_with fail
  go_quiet (fail)
  go_wp2_with fail
  go_ret
  exact ⟨rfl, ((Fr.refl no w).alloc _).drewN _⟩
set_option maxRecDepth 100000 in
set_option maxHeartbeats 1000000 in
theorem held1_at0 (s : StV) (Bs Bt : Nat) (n : Int) (m g o k g2 o2 : Nat) (w : World) (b1 : ∀ ob, (w.alloc ob).cell? ⟨Bs, 1, none⟩ = some (.slice s.P s.np s.cp)) (b2 : ∀ ob, (w.alloc ob).cell? ⟨Bt, 0, none⟩ = some (.int .i64 k)) (hP : s.P = some ⟨g, o, none⟩) (hl hc : Nat) (a3 : ∀ ob, (w.alloc ob).cell? ⟨g, o + m * 4 + 3, none⟩ = some (.slice (some ⟨g2, o2, none⟩) hl hc)) (i1 : (m : Int) < s.np) (j1 : (k : Int) < hl) (v : Int) (e0 : ∀ ob, (w.alloc ob).cell? ⟨g2, o2 + k * 2, none⟩ = some (.int .i64 v)) :
    Calls Try.prog 52 #[.agg #[.int .i64 m, .int .i64 0, .int .i64 n], .pointer (some ⟨Bs, 0, none⟩), .pointer (some ⟨Bt, 0, none⟩)] w fun e w' => e = .returned (.int .i64 v) ∧ Fr no w w' := by
  have _u : True := (fun _ _ _ => trivial) b1 b2 a3
  have i0 : (0 : Int) ≤ m := by omega
  have d1 : decide ((m : Int) < 0) = false := by simp
  have d2 : decide (s.np ≤ m) = false := by simp; omega
  have j0 : (0 : Int) ≤ k := by omega
  have d5 : decide ((k : Int) < 0) = false := by simp
  have d6 : decide (hl ≤ k) = false := by simp; omega
  go_enter Try.func52, Try.ntmps52
  go_wp2_with fail
  go_quiet (fail)
  go_wp2_with fail
  go_quiet (fail)
  go_wp2_with fail
  go_ret
  exact ⟨rfl, (((Fr.refl no w).alloc _).drewN _).drewN _⟩
set_option maxRecDepth 100000 in
set_option maxHeartbeats 1000000 in
theorem held1_at1 (s : StV) (Bs Bt : Nat) (n : Int) (m g o k g2 o2 : Nat) (w : World) (b1 : ∀ ob, (w.alloc ob).cell? ⟨Bs, 1, none⟩ = some (.slice s.P s.np s.cp)) (b2 : ∀ ob, (w.alloc ob).cell? ⟨Bt, 0, none⟩ = some (.int .i64 k)) (hP : s.P = some ⟨g, o, none⟩) (hl hc : Nat) (a3 : ∀ ob, (w.alloc ob).cell? ⟨g, o + m * 4 + 3, none⟩ = some (.slice (some ⟨g2, o2, none⟩) hl hc)) (i1 : (m : Int) < s.np) (j1 : (k : Int) < hl) (v : Int) (e0 : ∀ ob, (w.alloc ob).cell? ⟨g2, o2 + k * 2 + 1, none⟩ = some (.int .i64 v)) :
    Calls Try.prog 52 #[.agg #[.int .i64 m, .int .i64 1, .int .i64 n], .pointer (some ⟨Bs, 0, none⟩), .pointer (some ⟨Bt, 0, none⟩)] w fun e w' => e = .returned (.int .i64 v) ∧ Fr no w w' := by
  have _u : True := (fun _ _ _ => trivial) b1 b2 a3
  have i0 : (0 : Int) ≤ m := by omega
  have d1 : decide ((m : Int) < 0) = false := by simp
  have d2 : decide (s.np ≤ m) = false := by simp; omega
  have j0 : (0 : Int) ≤ k := by omega
  have d5 : decide ((k : Int) < 0) = false := by simp
  have d6 : decide (hl ≤ k) = false := by simp; omega
  go_enter Try.func52, Try.ntmps52
  go_wp2_with fail
  go_quiet (fail)
  go_wp2_with fail
  go_quiet (fail)
  go_wp2_with fail
  go_ret
  exact ⟨rfl, (((Fr.refl no w).alloc _).drewN _).drewN _⟩
theorem held1_c (s : StV) (ps : List PoolD) (hn : s.np = ps.length) (Bs Bt : Nat) (t c wy n : Int) (w : World) (hB : Blk w Bs 32 #[.int .u64 s.q, .slice s.P s.np s.cp, .slice s.R s.nr s.cr, .slice s.L s.nl s.cl, .slice s.G s.ng s.cg, .slice s.O s.no s.co]) (hT : Blk w Bt 3 #[.int .i64 t]) (h : kPool.Row w s.P s.cp ps) :
    Calls Try.prog 52 #[.agg #[.int .i64 c, .int .i64 wy, .int .i64 n], .pointer (some ⟨Bs, 0, none⟩), .pointer (some ⟨Bt, 0, none⟩)] w fun e w' => e = .returned (.int .i64 (heldD ps t c wy)) ∧ Fr no w w' := by
  have b1 := fun ob => cell_any (show w.cell? ⟨Bs, 1, none⟩ = some (.slice s.P s.np s.cp) from hB.cell 1) ob
  have b2 := fun ob => cell_any (show w.cell? ⟨Bt, 0, none⟩ = some (.int .i64 t) from hT.cell 0) ob
  by_cases h0 : c < 0
  · rw [heldD_neg ps t c wy h0]
    exact held1_neg s Bs Bt c wy t n w b1 b2 h0
  · obtain ⟨m, rfl⟩ : ∃ m : Nat, c = m := ⟨c.toNat, by omega⟩
    by_cases h1 : m < ps.length
    · obtain ⟨g, o, hP, _, _, _, hA, hc, a3, hr⟩ := pool_cells h m h1
      have a3' := fun ob => cell_any a3 ob
      have i1 : (m : Int) < s.np := by omega
      by_cases h2 : wy < 0
      · rw [heldD_out ps t m wy h1 (.inl h2)]
        exact held1_wneg s Bs Bt wy t n m g o w b1 b2 hP hA _ hc a3' i1 h2
      · by_cases h3 : 1 < wy
        · rw [heldD_out ps t m wy h1 (.inr (.inl h3))]
          exact held1_wbig s Bs Bt wy t n m g o w b1 b2 hP hA _ hc a3' i1 h3
        · by_cases h4 : t < 0
          · rw [heldD_out ps t m wy h1 (.inr (.inr h4))]
            exact held1_tneg s Bs Bt wy t n m g o w b1 b2 hP hA _ hc a3' i1 h2 h3 h4
          · obtain ⟨k, rfl⟩ : ∃ k : Nat, t = k := ⟨t.toNat, by omega⟩
            by_cases h5 : k < ps[m].2.2.length
            · obtain ⟨g2, o2, rfl, hat⟩ := hr.2.2.1 (List.length_pos_iff.1 (by omega))
              obtain ⟨cells, ⟨c1, c2, rfl, k1, k2⟩, hcell⟩ := hat k h5
              obtain rfl : c1 = _ := k1
              obtain rfl : c2 = _ := k2
              have e0 := fun ob => cell_any (show w.cell? ⟨g2, o2 + k * 2, none⟩ = some (.int .i64 ps[m].2.2[k].1) from hcell 0 (by decide)) ob
              have e1 := fun ob => cell_any (show w.cell? ⟨g2, o2 + k * 2 + 1, none⟩ = some (.int .i64 ps[m].2.2[k].2) from hcell 1 (by decide)) ob
              have hwy : wy = 0 ∨ wy = 1 := by omega
              rw [heldD_at ps k m wy h1 hwy h5]
              rcases hwy with rfl | rfl
              · rw [if_pos rfl]
                exact held1_at0 s Bs Bt n m g o k g2 o2 w b1 b2 hP _ hc a3' i1 (by omega) _ e0
              · rw [if_neg (by omega)]
                exact held1_at1 s Bs Bt n m g o k g2 o2 w b1 b2 hP _ hc a3' i1 (by omega) _ e1
            · rw [heldD_none ps k m wy h1 (by omega) h5]
              exact held1_tfar s Bs Bt wy n m g o k w b1 b2 hP hA _ hc a3' i1 h2 h3 (by omega)
    · rw [heldD_far ps t m wy h1]
      exact held1_far s Bs Bt wy t n m w b1 b2 (by omega)
theorem free_c (s : StV) (w : World) : Calls Try.prog 29 #[.agg #[.int .u64 s.q, .slice s.P s.np s.cp, .slice s.R s.nr s.cr, .slice s.L s.nl s.cl, .slice s.G s.ng s.cg, .slice s.O s.no s.co]] w fun e w' => e = .returned (.func (.func 51) #[] #[.pointer (some ⟨w.heap.size, 0, none⟩)]) ∧ w' = w.alloc (.cells #[.int .u64 s.q, .slice s.P s.np s.cp, .slice s.R s.nr s.cr, .slice s.L s.nl s.cl, .slice s.G s.ng s.cg, .slice s.O s.no s.co] 32) := by
  go_enter Try.func29, Try.ntmps29
  go_wp2_with fail
  go_ret
  exact ⟨rfl, rfl⟩
theorem held_c (s : StV) (t : Int) (w : World) : Calls Try.prog 30 #[.agg #[.int .u64 s.q, .slice s.P s.np s.cp, .slice s.R s.nr s.cr, .slice s.L s.nl s.cl, .slice s.G s.ng s.cg, .slice s.O s.no s.co], .int .i64 t] w fun e w' => e = .returned (.func (.func 52) #[] #[.pointer (some ⟨w.heap.size, 0, none⟩), .pointer (some ⟨w.heap.size + 1, 0, none⟩)]) ∧ w' = (w.alloc (.cells #[.int .u64 s.q, .slice s.P s.np s.cp, .slice s.R s.nr s.cr, .slice s.L s.nl s.cl, .slice s.G s.ng s.cg, .slice s.O s.no s.co] 32)).alloc (.cells #[.int .i64 t] 3) := by
  go_enter Try.func30, Try.ntmps30
  go_wp2_with fail
  go_ret
  exact ⟨rfl, rfl⟩
end Go.Proofs.Ytmnajpkmglmipaa
