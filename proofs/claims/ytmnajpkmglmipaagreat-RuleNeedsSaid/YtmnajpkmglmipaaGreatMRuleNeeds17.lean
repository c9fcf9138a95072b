/- BookT Grow0 Look0 -/
import Derived.Test.YtmnajpkmglmipaaGreatMRuleNeeds14
import Derived.Test.YtmnajpkmglmipaaGreatMRuleNeeds15
import Derived.Test.YtmnajpkmglmipaaGreatMRuleNeeds16
import Derived.Test.YtmnajpkmglmipaaGreatMRuleNeeds05
/- The law's book: do lines, guards, sets, rights hold their marks? Printed by gen_told.py. -/
namespace Go.Proofs.YtmnajpkmglmipaaGreat
open Go.RowKit
set_option maxRecDepth 100000 in
set_option maxHeartbeats 8000000 in
theorem told_c (w : World) (base B : Nat) (b : BookV) (hbk : BookOk w base B b) (hG : b.G.es.length = 0) :
    Calls Tryz.prog 112 #[.pointer (some ⟨B, 0, none⟩)] w fun e w' => e = .returned (.bool true) ∧ Fr no w w' := by
  have HB := hide hbk
  have HGZ := hide hG
  have f1 := hbk.L.few
  have f2 := hbk.S.few
  have f3 := hbk.R.few
  have f4 := hbk.room
  have f5 : b.L.es.length ≤ 12582 := by omega
  have f6 : b.S.es.length ≤ 12582 := by omega
  have f7 : b.R.es.length ≤ 12582 := by omega
  have f8 : b.G.es.length ≤ 0 := by omega
  have kz18 : ∀ p : FrBy w, p.w.cell? ⟨B, 18, none⟩ = some (.slice b.L.A b.L.es.length b.L.c) := fun p => fr_cell p.fr ((hbk.blk.cell 18).trans (c18 b))
  have kz21 : ∀ p : FrBy w, p.w.cell? ⟨B, 21, none⟩ = some (.slice b.G.A b.G.es.length b.G.c) := fun p => fr_cell p.fr ((hbk.blk.cell 21).trans (c21 b))
  have kz24 : ∀ p : FrBy w, p.w.cell? ⟨B, 24, none⟩ = some (.slice b.S.A b.S.es.length b.S.c) := fun p => fr_cell p.fr ((hbk.blk.cell 24).trans (c24 b))
  have kz27 : ∀ p : FrBy w, p.w.cell? ⟨B, 27, none⟩ = some (.slice b.R.A b.R.es.length b.R.c) := fun p => fr_cell p.fr ((hbk.blk.cell 27).trans (c27 b))
  clear hbk hG f1 f2 f3 f4
  go_enter Tryz.func112, Tryz.ntmps112
  go_wp2_with fail
  obtain ⟨p, hp⟩ : ∃ p : FrBy w, p.w = w := ⟨⟨w, Fr.refl _ _⟩, rfl⟩
  rw [← hp]
  clear hp
  go_loopw [3] (fun i wr => ∃ m : Nat, i = .int .i64 m ∧ m ≤ b.L.es.length ∧ ∃ p : FrBy w, wr = p.w) (fun i _ => b.L.es.length - (intOf i).toNat)
  case atStart => exact ⟨0, rfl, Nat.zero_le _, p, rfl⟩
  case round =>
    clear p
    obtain ⟨m, rfl, hm, p, rfl⟩ := hrel
    by_cases hlt : m < b.L.es.length
    · obtain ⟨g1, e1, k1⟩ := HB.out.L.hdr m hlt
      obtain ⟨g2, e2, k2⟩ := HB.out.L.num m hlt
      obtain ⟨x, hx⟩ : ∃ x, b.L.es[m] = x := ⟨_, rfl⟩
      have HE := HB.out.L.elt m
      have hsh := (HB.out.L.short m hlt).1
      rw [hx] at k1 k2 hsh
      have HEL : Hid (∀ j, j < x.1.2.1 → ∃ g, x.1.1 = some ⟨g, 0, none⟩ ∧ ∀ r, r < fLine.sz → w.cell? ⟨g, j * fLine.sz + r, none⟩ = (fLine.enc (lineMk x.2))[r]?) := hide (fun j hj => by have := HE j hlt (by rw [hx]; exact hj); rwa [hx] at this)
      clear HE hx
      obtain ⟨⟨xA, xn, xc⟩, xm⟩ := x
      dsimp only at k1 k2 hsh
      obtain ⟨mk, hmk⟩ : ∃ mk, mk = wrap64 (1000 + xm) := ⟨_, rfl⟩
      have HM : Hid (fLine.enc (lineMk xm) = [.int .i64 mk, .int .i64 0]) := hide (by rw [hmk]; rfl)
      have CM : Hid (∀ p : FrBy w, Calls Tryz.prog 164 #[.int .i64 xm] p.w fun e w' => e = .returned (.agg #[.int .i64 mk, .int .i64 0]) ∧ ∃ q : FrBy w, w' = q.w) := hide (fun p => by rw [hmk]; exact calls_fr (mark_line xm p.w))
      have q1 := equal_line_b mk 0 mk 0 true (by simp)
      clear hmk
      have kA : ∀ p : FrBy w, p.w.cell? ⟨B, 18, none⟩ = some (.slice (some ⟨g1, 0, none⟩) b.L.es.length b.L.c) := fun p => fr_cell p.fr (by rw [← e1]; exact (HB.out.blk.cell 18).trans (c18 b))
      have kO : ∀ p : FrBy w, p.w.cell? ⟨B, 19, none⟩ = some (.slice (some ⟨g2, 0, none⟩) b.L.es.length b.L.oc) := fun p => fr_cell p.fr (by rw [← e2]; exact (HB.out.blk.cell 19).trans (c19 b))
      have kx : ∀ p : FrBy w, p.w.cell? ⟨g1, m, none⟩ = some (.slice xA xn xc) := fun p => fr_cell p.fr k1
      have ky : ∀ p : FrBy w, p.w.cell? ⟨g2, m, none⟩ = some (.int .i64 xm) := fun p => fr_cell p.fr k2
      have hi0 : (0 : Int) ≤ m := by omega
      have hi1 : (m : Int) < b.L.es.length := by omega
      clear e1 e2 k1 k2 kz18
      go_wp2_with fail
      go_loopw [4] (fun i wr => ∃ j : Nat, i = .int .i64 j ∧ j ≤ xn ∧ ∃ p : FrBy w, wr = p.w) (fun i _ => xn - (intOf i).toNat)
      case atStart => exact ⟨0, rfl, Nat.zero_le _, p, rfl⟩
      case round =>
        clear p
        obtain ⟨j, rfl, hj, p, rfl⟩ := hrel
        by_cases hlj : j < xn
        · obtain ⟨g3, e3, k3⟩ := HEL.out j hlj
          subst e3
          rw [HM.out] at k3
          have z0 : ∀ p : FrBy w, p.w.cell? ⟨g3, j * 2, none⟩ = some (.int .i64 mk) := fun p => fr_cell p.fr (k3 0 (by decide))
          have z1 : ∀ p : FrBy w, p.w.cell? ⟨g3, j * 2 + 1, none⟩ = some (.int .i64 0) := fun p => fr_cell p.fr (k3 1 (by decide))
          have hj0 : (0 : Int) ≤ j := by omega
          have hj1 : (j : Int) < xn := by omega
          clear k3
          go_wp2_with fail
          refine wp_region_fr w (by kernel_rfl) (by kernel_rfl) p.fr ?_
          (repeat (first | go_big_quiet_step (exact CM.out _) | quiet_step (exact CM.out _)))
          refine wpQuiet_nil ?_
          intro wz hw'
          obtain ⟨p, rfl⟩ := hw'
          go_wp2_with fail
          exact ⟨⟨j + 1, by simp, hlj, p, rfl⟩, by simp [intOf]; omega⟩
        · obtain rfl : j = xn := by omega
          go_wp2_with fail
          exact ⟨⟨m + 1, by simp, hlt, p, rfl⟩, by simp [intOf]; omega⟩
    · obtain rfl : m = b.L.es.length := by omega
      go_wp2_with fail
      go_loopw [5] (fun i wr => ∃ m : Nat, i = .int .i64 m ∧ m ≤ b.G.es.length ∧ ∃ p : FrBy w, wr = p.w) (fun i _ => b.G.es.length - (intOf i).toNat)
      case atStart => exact ⟨0, rfl, Nat.zero_le _, p, rfl⟩
      case round =>
        clear p
        obtain ⟨m, rfl, hm, p, rfl⟩ := hrel
        by_cases hlt : m < b.G.es.length
        · exact absurd hlt (by omega)
        · obtain rfl : m = b.G.es.length := by omega
          go_wp2_with fail
          go_loopw [7] (fun i wr => ∃ m : Nat, i = .int .i64 m ∧ m ≤ b.S.es.length ∧ ∃ p : FrBy w, wr = p.w) (fun i _ => b.S.es.length - (intOf i).toNat)
          case atStart => exact ⟨0, rfl, Nat.zero_le _, p, rfl⟩
          case round =>
            clear p
            obtain ⟨m, rfl, hm, p, rfl⟩ := hrel
            by_cases hlt : m < b.S.es.length
            · obtain ⟨g1, e1, k1⟩ := HB.out.S.hdr m hlt
              obtain ⟨g2, e2, k2⟩ := HB.out.S.num m hlt
              obtain ⟨x, hx⟩ : ∃ x, b.S.es[m] = x := ⟨_, rfl⟩
              have HE := HB.out.S.elt m
              have hsh := (HB.out.S.short m hlt).1
              rw [hx] at k1 k2 hsh
              have HEL : Hid (∀ j, j < x.1.2.1 → ∃ g, x.1.1 = some ⟨g, 0, none⟩ ∧ ∀ r, r < fSet.sz → w.cell? ⟨g, j * fSet.sz + r, none⟩ = (fSet.enc (setMk x.2))[r]?) := hide (fun j hj => by have := HE j hlt (by rw [hx]; exact hj); rwa [hx] at this)
              clear HE hx
              obtain ⟨⟨xA, xn, xc⟩, xm⟩ := x
              dsimp only at k1 k2 hsh
              obtain ⟨mk, hmk⟩ : ∃ mk, mk = wrap64 (1000 + xm) := ⟨_, rfl⟩
              have HM : Hid (fSet.enc (setMk xm) = [.int .i64 mk, .int .i64 0, .int .i64 0]) := hide (by rw [hmk]; rfl)
              have CM : Hid (∀ p : FrBy w, Calls Tryz.prog 165 #[.int .i64 xm] p.w fun e w' => e = .returned (.agg #[.int .i64 mk, .int .i64 0, .int .i64 0]) ∧ ∃ q : FrBy w, w' = q.w) := hide (fun p => by rw [hmk]; exact calls_fr (mark_set xm p.w))
              have q1 := equal_set_b mk 0 0 mk 0 0 true (by simp)
              clear hmk
              have kA : ∀ p : FrBy w, p.w.cell? ⟨B, 24, none⟩ = some (.slice (some ⟨g1, 0, none⟩) b.S.es.length b.S.c) := fun p => fr_cell p.fr (by rw [← e1]; exact (HB.out.blk.cell 24).trans (c24 b))
              have kO : ∀ p : FrBy w, p.w.cell? ⟨B, 25, none⟩ = some (.slice (some ⟨g2, 0, none⟩) b.S.es.length b.S.oc) := fun p => fr_cell p.fr (by rw [← e2]; exact (HB.out.blk.cell 25).trans (c25 b))
              have kx : ∀ p : FrBy w, p.w.cell? ⟨g1, m, none⟩ = some (.slice xA xn xc) := fun p => fr_cell p.fr k1
              have ky : ∀ p : FrBy w, p.w.cell? ⟨g2, m, none⟩ = some (.int .i64 xm) := fun p => fr_cell p.fr k2
              have hi0 : (0 : Int) ≤ m := by omega
              have hi1 : (m : Int) < b.S.es.length := by omega
              clear e1 e2 k1 k2 kz24
              go_wp2_with fail
              go_loopw [8] (fun i wr => ∃ j : Nat, i = .int .i64 j ∧ j ≤ xn ∧ ∃ p : FrBy w, wr = p.w) (fun i _ => xn - (intOf i).toNat)
              case atStart => exact ⟨0, rfl, Nat.zero_le _, p, rfl⟩
              case round =>
                clear p
                obtain ⟨j, rfl, hj, p, rfl⟩ := hrel
                by_cases hlj : j < xn
                · obtain ⟨g3, e3, k3⟩ := HEL.out j hlj
                  subst e3
                  rw [HM.out] at k3
                  have z0 : ∀ p : FrBy w, p.w.cell? ⟨g3, j * 3, none⟩ = some (.int .i64 mk) := fun p => fr_cell p.fr (k3 0 (by decide))
                  have z1 : ∀ p : FrBy w, p.w.cell? ⟨g3, j * 3 + 1, none⟩ = some (.int .i64 0) := fun p => fr_cell p.fr (k3 1 (by decide))
                  have z2 : ∀ p : FrBy w, p.w.cell? ⟨g3, j * 3 + 2, none⟩ = some (.int .i64 0) := fun p => fr_cell p.fr (k3 2 (by decide))
                  have hj0 : (0 : Int) ≤ j := by omega
                  have hj1 : (j : Int) < xn := by omega
                  clear k3
                  go_wp2_with fail
                  refine wp_region_fr w (by kernel_rfl) (by kernel_rfl) p.fr ?_
                  (repeat (first | go_big_quiet_step (exact CM.out _) | quiet_step (exact CM.out _)))
                  refine wpQuiet_nil ?_
                  intro wz hw'
                  obtain ⟨p, rfl⟩ := hw'
                  go_wp2_with fail
                  exact ⟨⟨j + 1, by simp, hlj, p, rfl⟩, by simp [intOf]; omega⟩
                · obtain rfl : j = xn := by omega
                  go_wp2_with fail
                  exact ⟨⟨m + 1, by simp, hlt, p, rfl⟩, by simp [intOf]; omega⟩
            · obtain rfl : m = b.S.es.length := by omega
              go_wp2_with fail
              go_loopw [9] (fun i wr => ∃ m : Nat, i = .int .i64 m ∧ m ≤ b.R.es.length ∧ ∃ p : FrBy w, wr = p.w) (fun i _ => b.R.es.length - (intOf i).toNat)
              case atStart => exact ⟨0, rfl, Nat.zero_le _, p, rfl⟩
              case round =>
                clear p
                obtain ⟨m, rfl, hm, p, rfl⟩ := hrel
                by_cases hlt : m < b.R.es.length
                · obtain ⟨g1, e1, k1⟩ := HB.out.R.hdr m hlt
                  obtain ⟨g2, e2, k2⟩ := HB.out.R.num m hlt
                  obtain ⟨x, hx⟩ : ∃ x, b.R.es[m] = x := ⟨_, rfl⟩
                  have HE := HB.out.R.elt m
                  have hsh := (HB.out.R.short m hlt).1
                  rw [hx] at k1 k2 hsh
                  have HEL : Hid (∀ j, j < x.1.2.1 → ∃ g, x.1.1 = some ⟨g, 0, none⟩ ∧ ∀ r, r < fRight.sz → w.cell? ⟨g, j * fRight.sz + r, none⟩ = (fRight.enc (rightMk x.2))[r]?) := hide (fun j hj => by have := HE j hlt (by rw [hx]; exact hj); rwa [hx] at this)
                  clear HE hx
                  obtain ⟨⟨xA, xn, xc⟩, xm⟩ := x
                  dsimp only at k1 k2 hsh
                  obtain ⟨mk, hmk⟩ : ∃ mk, mk = wrap64 (1000 + xm) := ⟨_, rfl⟩
                  have HM : Hid (fRight.enc (rightMk xm) = [.int .i64 mk, .int .i64 0, .int .i64 0]) := hide (by rw [hmk]; rfl)
                  have CM : Hid (∀ p : FrBy w, Calls Tryz.prog 59 #[.int .i64 xm] p.w fun e w' => e = .returned (.agg #[.int .i64 mk, .int .i64 0, .int .i64 0]) ∧ ∃ q : FrBy w, w' = q.w) := hide (fun p => by rw [hmk]; exact calls_fr (mark_right xm p.w))
                  have q1 := equal_right_b mk 0 0 mk 0 0 true (by simp)
                  clear hmk
                  have kA : ∀ p : FrBy w, p.w.cell? ⟨B, 27, none⟩ = some (.slice (some ⟨g1, 0, none⟩) b.R.es.length b.R.c) := fun p => fr_cell p.fr (by rw [← e1]; exact (HB.out.blk.cell 27).trans (c27 b))
                  have kO : ∀ p : FrBy w, p.w.cell? ⟨B, 28, none⟩ = some (.slice (some ⟨g2, 0, none⟩) b.R.es.length b.R.oc) := fun p => fr_cell p.fr (by rw [← e2]; exact (HB.out.blk.cell 28).trans (c28 b))
                  have kx : ∀ p : FrBy w, p.w.cell? ⟨g1, m, none⟩ = some (.slice xA xn xc) := fun p => fr_cell p.fr k1
                  have ky : ∀ p : FrBy w, p.w.cell? ⟨g2, m, none⟩ = some (.int .i64 xm) := fun p => fr_cell p.fr k2
                  have hi0 : (0 : Int) ≤ m := by omega
                  have hi1 : (m : Int) < b.R.es.length := by omega
                  clear e1 e2 k1 k2 kz27
                  go_wp2_with fail
                  go_loopw [10] (fun i wr => ∃ j : Nat, i = .int .i64 j ∧ j ≤ xn ∧ ∃ p : FrBy w, wr = p.w) (fun i _ => xn - (intOf i).toNat)
                  case atStart => exact ⟨0, rfl, Nat.zero_le _, p, rfl⟩
                  case round =>
                    clear p
                    obtain ⟨j, rfl, hj, p, rfl⟩ := hrel
                    by_cases hlj : j < xn
                    · obtain ⟨g3, e3, k3⟩ := HEL.out j hlj
                      subst e3
                      rw [HM.out] at k3
                      have z0 : ∀ p : FrBy w, p.w.cell? ⟨g3, j * 3, none⟩ = some (.int .i64 mk) := fun p => fr_cell p.fr (k3 0 (by decide))
                      have z1 : ∀ p : FrBy w, p.w.cell? ⟨g3, j * 3 + 1, none⟩ = some (.int .i64 0) := fun p => fr_cell p.fr (k3 1 (by decide))
                      have z2 : ∀ p : FrBy w, p.w.cell? ⟨g3, j * 3 + 2, none⟩ = some (.int .i64 0) := fun p => fr_cell p.fr (k3 2 (by decide))
                      have hj0 : (0 : Int) ≤ j := by omega
                      have hj1 : (j : Int) < xn := by omega
                      clear k3
                      go_wp2_with fail
                      refine wp_region_fr w (by kernel_rfl) (by kernel_rfl) p.fr ?_
                      (repeat (first | go_big_quiet_step (exact CM.out _) | quiet_step (exact CM.out _)))
                      refine wpQuiet_nil ?_
                      intro wz hw'
                      obtain ⟨p, rfl⟩ := hw'
                      go_wp2_with fail
                      exact ⟨⟨j + 1, by simp, hlj, p, rfl⟩, by simp [intOf]; omega⟩
                    · obtain rfl : j = xn := by omega
                      go_wp2_with fail
                      exact ⟨⟨m + 1, by simp, hlt, p, rfl⟩, by simp [intOf]; omega⟩
                · obtain rfl : m = b.R.es.length := by omega
                  go_wp2_with fail
                  go_ret
                  exact ⟨rfl, p.fr⟩
end Go.Proofs.YtmnajpkmglmipaaGreat

/- The law's book grows lists of kinds of which nothing was kept: nothing changes. Printed by gen_grow0.py. -/
namespace Go.Proofs.YtmnajpkmglmipaaGreat
open Go.RowKit

theorem set_same {cs : Array Value} {i : Nat} {v : Value} (h : cs[i]? = some v) : cs.setIfInBounds i v = cs := by
  apply Array.ext_getElem?
  intro j
  rw [Array.getElem?_setIfInBounds]
  split
  · rename_i e
    subst e
    split
    · exact h.symm
    · rename_i hn
      rw [Array.getElem?_eq_none (by omega)]
  · rfl
set_option maxRecDepth 100000 in
set_option maxHeartbeats 4000000 in
theorem grow0_bytes (w : World) (B : Nat) (cs : Array Value) (h : Blk w B 54 cs) (h0 : cs[0]? = some (.slice none 0 0)) (h2 : cs[2]? = some (.int .i64 0)) :
    Calls Tryz.prog 115 #[.pointer (some ⟨B, 0, none⟩)] w fun e w' => e = .returned (.tuple #[]) ∧ Blk w' B 54 cs ∧ Fr (fun k => k = B) w w' := by
  have k0 : w.cell? ⟨B, 0, none⟩ = some (.slice none 0 0) := (h.cell 0).trans h0
  have k2 : w.cell? ⟨B, 2, none⟩ = some (.int .i64 0) := (h.cell 2).trans h2
  have f2 := h.free 2
  have h1 := h.set 2 (.int .i64 0)
  rw [set_same h2] at h1
  have HB := hide h1
  clear h h1 h0 h2
  go_enter Tryz.func115, Tryz.ntmps115
  go_wp2_with fail
  go_loopw [3] (fun k wr => k = .int .i64 0 ∧ wr = w) (fun _ _ => 0)
  case atStart => exact ⟨rfl, rfl⟩
  case round =>
    obtain ⟨rfl, rfl⟩ := hrel
    go_wp2_with fail
    exact bodyPost_end (results_none rfl _ _ _) rfl ⟨rfl, HB.out, Fr.setCell _ _ _ _⟩
set_option maxRecDepth 100000 in
set_option maxHeartbeats 4000000 in
theorem grow0_rows (w : World) (B : Nat) (cs : Array Value) (h : Blk w B 54 cs) (h0 : cs[3]? = some (.slice none 0 0)) (h2 : cs[5]? = some (.int .i64 0)) :
    Calls Tryz.prog 116 #[.pointer (some ⟨B, 0, none⟩)] w fun e w' => e = .returned (.tuple #[]) ∧ Blk w' B 54 cs ∧ Fr (fun k => k = B) w w' := by
  have k0 : w.cell? ⟨B, 3, none⟩ = some (.slice none 0 0) := (h.cell 3).trans h0
  have k2 : w.cell? ⟨B, 5, none⟩ = some (.int .i64 0) := (h.cell 5).trans h2
  have f2 := h.free 5
  have h1 := h.set 5 (.int .i64 0)
  rw [set_same h2] at h1
  have HB := hide h1
  clear h h1 h0 h2
  go_enter Tryz.func116, Tryz.ntmps116
  go_wp2_with fail
  go_loopw [3] (fun k wr => k = .int .i64 0 ∧ wr = w) (fun _ _ => 0)
  case atStart => exact ⟨rfl, rfl⟩
  case round =>
    obtain ⟨rfl, rfl⟩ := hrel
    go_wp2_with fail
    exact bodyPost_end (results_none rfl _ _ _) rfl ⟨rfl, HB.out, Fr.setCell _ _ _ _⟩
set_option maxRecDepth 100000 in
set_option maxHeartbeats 4000000 in
theorem grow0_texts (w : World) (B : Nat) (cs : Array Value) (h : Blk w B 54 cs) (h0 : cs[6]? = some (.slice none 0 0)) (h2 : cs[8]? = some (.int .i64 0)) :
    Calls Tryz.prog 117 #[.pointer (some ⟨B, 0, none⟩)] w fun e w' => e = .returned (.tuple #[]) ∧ Blk w' B 54 cs ∧ Fr (fun k => k = B) w w' := by
  have k0 : w.cell? ⟨B, 6, none⟩ = some (.slice none 0 0) := (h.cell 6).trans h0
  have k2 : w.cell? ⟨B, 8, none⟩ = some (.int .i64 0) := (h.cell 8).trans h2
  have f2 := h.free 8
  have h1 := h.set 8 (.int .i64 0)
  rw [set_same h2] at h1
  have HB := hide h1
  clear h h1 h0 h2
  go_enter Tryz.func117, Tryz.ntmps117
  go_wp2_with fail
  go_loopw [3] (fun k wr => k = .int .i64 0 ∧ wr = w) (fun _ _ => 0)
  case atStart => exact ⟨rfl, rfl⟩
  case round =>
    obtain ⟨rfl, rfl⟩ := hrel
    go_wp2_with fail
    exact bodyPost_end (results_none rfl _ _ _) rfl ⟨rfl, HB.out, Fr.setCell _ _ _ _⟩
set_option maxRecDepth 100000 in
set_option maxHeartbeats 4000000 in
theorem grow0_ints (w : World) (B : Nat) (cs : Array Value) (h : Blk w B 54 cs) (h0 : cs[9]? = some (.slice none 0 0)) (h2 : cs[11]? = some (.int .i64 0)) :
    Calls Tryz.prog 118 #[.pointer (some ⟨B, 0, none⟩)] w fun e w' => e = .returned (.tuple #[]) ∧ Blk w' B 54 cs ∧ Fr (fun k => k = B) w w' := by
  have k0 : w.cell? ⟨B, 9, none⟩ = some (.slice none 0 0) := (h.cell 9).trans h0
  have k2 : w.cell? ⟨B, 11, none⟩ = some (.int .i64 0) := (h.cell 11).trans h2
  have f2 := h.free 11
  have h1 := h.set 11 (.int .i64 0)
  rw [set_same h2] at h1
  have HB := hide h1
  clear h h1 h0 h2
  go_enter Tryz.func118, Tryz.ntmps118
  go_wp2_with fail
  go_loopw [3] (fun k wr => k = .int .i64 0 ∧ wr = w) (fun _ _ => 0)
  case atStart => exact ⟨rfl, rfl⟩
  case round =>
    obtain ⟨rfl, rfl⟩ := hrel
    go_wp2_with fail
    exact bodyPost_end (results_none rfl _ _ _) rfl ⟨rfl, HB.out, Fr.setCell _ _ _ _⟩
set_option maxRecDepth 100000 in
set_option maxHeartbeats 4000000 in
theorem grow0_words (w : World) (B : Nat) (cs : Array Value) (h : Blk w B 54 cs) (h0 : cs[12]? = some (.slice none 0 0)) (h2 : cs[14]? = some (.int .i64 0)) :
    Calls Tryz.prog 119 #[.pointer (some ⟨B, 0, none⟩)] w fun e w' => e = .returned (.tuple #[]) ∧ Blk w' B 54 cs ∧ Fr (fun k => k = B) w w' := by
  have k0 : w.cell? ⟨B, 12, none⟩ = some (.slice none 0 0) := (h.cell 12).trans h0
  have k2 : w.cell? ⟨B, 14, none⟩ = some (.int .i64 0) := (h.cell 14).trans h2
  have f2 := h.free 14
  have h1 := h.set 14 (.int .i64 0)
  rw [set_same h2] at h1
  have HB := hide h1
  clear h h1 h0 h2
  go_enter Tryz.func119, Tryz.ntmps119
  go_wp2_with fail
  go_loopw [3] (fun k wr => k = .int .i64 0 ∧ wr = w) (fun _ _ => 0)
  case atStart => exact ⟨rfl, rfl⟩
  case round =>
    obtain ⟨rfl, rfl⟩ := hrel
    go_wp2_with fail
    exact bodyPost_end (results_none rfl _ _ _) rfl ⟨rfl, HB.out, Fr.setCell _ _ _ _⟩
set_option maxRecDepth 100000 in
set_option maxHeartbeats 4000000 in
theorem grow0_bools (w : World) (B : Nat) (cs : Array Value) (h : Blk w B 54 cs) (h0 : cs[15]? = some (.slice none 0 0)) (h2 : cs[17]? = some (.int .i64 0)) :
    Calls Tryz.prog 120 #[.pointer (some ⟨B, 0, none⟩)] w fun e w' => e = .returned (.tuple #[]) ∧ Blk w' B 54 cs ∧ Fr (fun k => k = B) w w' := by
  have k0 : w.cell? ⟨B, 15, none⟩ = some (.slice none 0 0) := (h.cell 15).trans h0
  have k2 : w.cell? ⟨B, 17, none⟩ = some (.int .i64 0) := (h.cell 17).trans h2
  have f2 := h.free 17
  have h1 := h.set 17 (.int .i64 0)
  rw [set_same h2] at h1
  have HB := hide h1
  clear h h1 h0 h2
  go_enter Tryz.func120, Tryz.ntmps120
  go_wp2_with fail
  go_loopw [3] (fun k wr => k = .int .i64 0 ∧ wr = w) (fun _ _ => 0)
  case atStart => exact ⟨rfl, rfl⟩
  case round =>
    obtain ⟨rfl, rfl⟩ := hrel
    go_wp2_with fail
    exact bodyPost_end (results_none rfl _ _ _) rfl ⟨rfl, HB.out, Fr.setCell _ _ _ _⟩
set_option maxRecDepth 100000 in
set_option maxHeartbeats 4000000 in
theorem grow0_guards (w : World) (B : Nat) (cs : Array Value) (h : Blk w B 54 cs) (h0 : cs[21]? = some (.slice none 0 0)) (h2 : cs[23]? = some (.int .i64 0)) :
    Calls Tryz.prog 122 #[.pointer (some ⟨B, 0, none⟩)] w fun e w' => e = .returned (.tuple #[]) ∧ Blk w' B 54 cs ∧ Fr (fun k => k = B) w w' := by
  have k0 : w.cell? ⟨B, 21, none⟩ = some (.slice none 0 0) := (h.cell 21).trans h0
  have k2 : w.cell? ⟨B, 23, none⟩ = some (.int .i64 0) := (h.cell 23).trans h2
  have f2 := h.free 23
  have h1 := h.set 23 (.int .i64 0)
  rw [set_same h2] at h1
  have HB := hide h1
  clear h h1 h0 h2
  go_enter Tryz.func122, Tryz.ntmps122
  go_wp2_with fail
  go_loopw [3] (fun k wr => k = .int .i64 0 ∧ wr = w) (fun _ _ => 0)
  case atStart => exact ⟨rfl, rfl⟩
  case round =>
    obtain ⟨rfl, rfl⟩ := hrel
    go_wp2_with fail
    exact bodyPost_end (results_none rfl _ _ _) rfl ⟨rfl, HB.out, Fr.setCell _ _ _ _⟩
set_option maxRecDepth 100000 in
set_option maxHeartbeats 4000000 in
theorem grow0_prices (w : World) (B : Nat) (cs : Array Value) (h : Blk w B 54 cs) (h0 : cs[30]? = some (.slice none 0 0)) (h2 : cs[32]? = some (.int .i64 0)) :
    Calls Tryz.prog 125 #[.pointer (some ⟨B, 0, none⟩)] w fun e w' => e = .returned (.tuple #[]) ∧ Blk w' B 54 cs ∧ Fr (fun k => k = B) w w' := by
  have k0 : w.cell? ⟨B, 30, none⟩ = some (.slice none 0 0) := (h.cell 30).trans h0
  have k2 : w.cell? ⟨B, 32, none⟩ = some (.int .i64 0) := (h.cell 32).trans h2
  have f2 := h.free 32
  have h1 := h.set 32 (.int .i64 0)
  rw [set_same h2] at h1
  have HB := hide h1
  clear h h1 h0 h2
  go_enter Tryz.func125, Tryz.ntmps125
  go_wp2_with fail
  go_loopw [3] (fun k wr => k = .int .i64 0 ∧ wr = w) (fun _ _ => 0)
  case atStart => exact ⟨rfl, rfl⟩
  case round =>
    obtain ⟨rfl, rfl⟩ := hrel
    go_wp2_with fail
    exact bodyPost_end (results_none rfl _ _ _) rfl ⟨rfl, HB.out, Fr.setCell _ _ _ _⟩
set_option maxRecDepth 100000 in
set_option maxHeartbeats 4000000 in
theorem grow0_helds (w : World) (B : Nat) (cs : Array Value) (h : Blk w B 54 cs) (h0 : cs[33]? = some (.slice none 0 0)) (h2 : cs[35]? = some (.int .i64 0)) :
    Calls Tryz.prog 126 #[.pointer (some ⟨B, 0, none⟩)] w fun e w' => e = .returned (.tuple #[]) ∧ Blk w' B 54 cs ∧ Fr (fun k => k = B) w w' := by
  have k0 : w.cell? ⟨B, 33, none⟩ = some (.slice none 0 0) := (h.cell 33).trans h0
  have k2 : w.cell? ⟨B, 35, none⟩ = some (.int .i64 0) := (h.cell 35).trans h2
  have f2 := h.free 35
  have h1 := h.set 35 (.int .i64 0)
  rw [set_same h2] at h1
  have HB := hide h1
  clear h h1 h0 h2
  go_enter Tryz.func126, Tryz.ntmps126
  go_wp2_with fail
  go_loopw [3] (fun k wr => k = .int .i64 0 ∧ wr = w) (fun _ _ => 0)
  case atStart => exact ⟨rfl, rfl⟩
  case round =>
    obtain ⟨rfl, rfl⟩ := hrel
    go_wp2_with fail
    exact bodyPost_end (results_none rfl _ _ _) rfl ⟨rfl, HB.out, Fr.setCell _ _ _ _⟩
set_option maxRecDepth 100000 in
set_option maxHeartbeats 4000000 in
theorem grow0_pools (w : World) (B : Nat) (cs : Array Value) (h : Blk w B 54 cs) (h0 : cs[36]? = some (.slice none 0 0)) (h2 : cs[38]? = some (.int .i64 0)) :
    Calls Tryz.prog 127 #[.pointer (some ⟨B, 0, none⟩)] w fun e w' => e = .returned (.tuple #[]) ∧ Blk w' B 54 cs ∧ Fr (fun k => k = B) w w' := by
  have k0 : w.cell? ⟨B, 36, none⟩ = some (.slice none 0 0) := (h.cell 36).trans h0
  have k2 : w.cell? ⟨B, 38, none⟩ = some (.int .i64 0) := (h.cell 38).trans h2
  have f2 := h.free 38
  have h1 := h.set 38 (.int .i64 0)
  rw [set_same h2] at h1
  have HB := hide h1
  clear h h1 h0 h2
  go_enter Tryz.func127, Tryz.ntmps127
  go_wp2_with fail
  go_loopw [3] (fun k wr => k = .int .i64 0 ∧ wr = w) (fun _ _ => 0)
  case atStart => exact ⟨rfl, rfl⟩
  case round =>
    obtain ⟨rfl, rfl⟩ := hrel
    go_wp2_with fail
    exact bodyPost_end (results_none rfl _ _ _) rfl ⟨rfl, HB.out, Fr.setCell _ _ _ _⟩
set_option maxRecDepth 100000 in
set_option maxHeartbeats 4000000 in
theorem grow0_acts (w : World) (B : Nat) (cs : Array Value) (h : Blk w B 54 cs) (h0 : cs[39]? = some (.slice none 0 0)) (h2 : cs[41]? = some (.int .i64 0)) :
    Calls Tryz.prog 128 #[.pointer (some ⟨B, 0, none⟩)] w fun e w' => e = .returned (.tuple #[]) ∧ Blk w' B 54 cs ∧ Fr (fun k => k = B) w w' := by
  have k0 : w.cell? ⟨B, 39, none⟩ = some (.slice none 0 0) := (h.cell 39).trans h0
  have k2 : w.cell? ⟨B, 41, none⟩ = some (.int .i64 0) := (h.cell 41).trans h2
  have f2 := h.free 41
  have h1 := h.set 41 (.int .i64 0)
  rw [set_same h2] at h1
  have HB := hide h1
  clear h h1 h0 h2
  go_enter Tryz.func128, Tryz.ntmps128
  go_wp2_with fail
  go_loopw [3] (fun k wr => k = .int .i64 0 ∧ wr = w) (fun _ _ => 0)
  case atStart => exact ⟨rfl, rfl⟩
  case round =>
    obtain ⟨rfl, rfl⟩ := hrel
    go_wp2_with fail
    exact bodyPost_end (results_none rfl _ _ _) rfl ⟨rfl, HB.out, Fr.setCell _ _ _ _⟩
set_option maxRecDepth 100000 in
set_option maxHeartbeats 4000000 in
theorem grow0_entries (w : World) (B : Nat) (cs : Array Value) (h : Blk w B 54 cs) (h0 : cs[42]? = some (.slice none 0 0)) (h2 : cs[44]? = some (.int .i64 0)) :
    Calls Tryz.prog 129 #[.pointer (some ⟨B, 0, none⟩)] w fun e w' => e = .returned (.tuple #[]) ∧ Blk w' B 54 cs ∧ Fr (fun k => k = B) w w' := by
  have k0 : w.cell? ⟨B, 42, none⟩ = some (.slice none 0 0) := (h.cell 42).trans h0
  have k2 : w.cell? ⟨B, 44, none⟩ = some (.int .i64 0) := (h.cell 44).trans h2
  have f2 := h.free 44
  have h1 := h.set 44 (.int .i64 0)
  rw [set_same h2] at h1
  have HB := hide h1
  clear h h1 h0 h2
  go_enter Tryz.func129, Tryz.ntmps129
  go_wp2_with fail
  go_loopw [3] (fun k wr => k = .int .i64 0 ∧ wr = w) (fun _ _ => 0)
  case atStart => exact ⟨rfl, rfl⟩
  case round =>
    obtain ⟨rfl, rfl⟩ := hrel
    go_wp2_with fail
    exact bodyPost_end (results_none rfl _ _ _) rfl ⟨rfl, HB.out, Fr.setCell _ _ _ _⟩
set_option maxRecDepth 100000 in
set_option maxHeartbeats 4000000 in
theorem grow0_flights (w : World) (B : Nat) (cs : Array Value) (h : Blk w B 54 cs) (h0 : cs[45]? = some (.slice none 0 0)) (h2 : cs[47]? = some (.int .i64 0)) :
    Calls Tryz.prog 130 #[.pointer (some ⟨B, 0, none⟩)] w fun e w' => e = .returned (.tuple #[]) ∧ Blk w' B 54 cs ∧ Fr (fun k => k = B) w w' := by
  have k0 : w.cell? ⟨B, 45, none⟩ = some (.slice none 0 0) := (h.cell 45).trans h0
  have k2 : w.cell? ⟨B, 47, none⟩ = some (.int .i64 0) := (h.cell 47).trans h2
  have f2 := h.free 47
  have h1 := h.set 47 (.int .i64 0)
  rw [set_same h2] at h1
  have HB := hide h1
  clear h h1 h0 h2
  go_enter Tryz.func130, Tryz.ntmps130
  go_wp2_with fail
  go_loopw [3] (fun k wr => k = .int .i64 0 ∧ wr = w) (fun _ _ => 0)
  case atStart => exact ⟨rfl, rfl⟩
  case round =>
    obtain ⟨rfl, rfl⟩ := hrel
    go_wp2_with fail
    exact bodyPost_end (results_none rfl _ _ _) rfl ⟨rfl, HB.out, Fr.setCell _ _ _ _⟩
set_option maxRecDepth 100000 in
set_option maxHeartbeats 4000000 in
theorem grow0_files (w : World) (B : Nat) (cs : Array Value) (h : Blk w B 54 cs) (h0 : cs[48]? = some (.slice none 0 0)) (h2 : cs[50]? = some (.int .i64 0)) :
    Calls Tryz.prog 131 #[.pointer (some ⟨B, 0, none⟩)] w fun e w' => e = .returned (.tuple #[]) ∧ Blk w' B 54 cs ∧ Fr (fun k => k = B) w w' := by
  have k0 : w.cell? ⟨B, 48, none⟩ = some (.slice none 0 0) := (h.cell 48).trans h0
  have k2 : w.cell? ⟨B, 50, none⟩ = some (.int .i64 0) := (h.cell 50).trans h2
  have f2 := h.free 50
  have h1 := h.set 50 (.int .i64 0)
  rw [set_same h2] at h1
  have HB := hide h1
  clear h h1 h0 h2
  go_enter Tryz.func131, Tryz.ntmps131
  go_wp2_with fail
  go_loopw [3] (fun k wr => k = .int .i64 0 ∧ wr = w) (fun _ _ => 0)
  case atStart => exact ⟨rfl, rfl⟩
  case round =>
    obtain ⟨rfl, rfl⟩ := hrel
    go_wp2_with fail
    exact bodyPost_end (results_none rfl _ _ _) rfl ⟨rfl, HB.out, Fr.setCell _ _ _ _⟩
set_option maxRecDepth 100000 in
set_option maxHeartbeats 4000000 in
theorem grow0_items (w : World) (B : Nat) (cs : Array Value) (h : Blk w B 54 cs) (h0 : cs[51]? = some (.slice none 0 0)) (h2 : cs[53]? = some (.int .i64 0)) :
    Calls Tryz.prog 132 #[.pointer (some ⟨B, 0, none⟩)] w fun e w' => e = .returned (.tuple #[]) ∧ Blk w' B 54 cs ∧ Fr (fun k => k = B) w w' := by
  have k0 : w.cell? ⟨B, 51, none⟩ = some (.slice none 0 0) := (h.cell 51).trans h0
  have k2 : w.cell? ⟨B, 53, none⟩ = some (.int .i64 0) := (h.cell 53).trans h2
  have f2 := h.free 53
  have h1 := h.set 53 (.int .i64 0)
  rw [set_same h2] at h1
  have HB := hide h1
  clear h h1 h0 h2
  go_enter Tryz.func132, Tryz.ntmps132
  go_wp2_with fail
  go_loopw [3] (fun k wr => k = .int .i64 0 ∧ wr = w) (fun _ _ => 0)
  case atStart => exact ⟨rfl, rfl⟩
  case round =>
    obtain ⟨rfl, rfl⟩ := hrel
    go_wp2_with fail
    exact bodyPost_end (results_none rfl _ _ _) rfl ⟨rfl, HB.out, Fr.setCell _ _ _ _⟩
end Go.Proofs.YtmnajpkmglmipaaGreat

/- The law's book looks at lists of kinds of which nothing was kept: true. Printed by gen_look0.py. -/
namespace Go.Proofs.YtmnajpkmglmipaaGreat
open Go.RowKit

set_option maxRecDepth 100000 in
set_option maxHeartbeats 4000000 in
theorem look_plain (w : World) (B : Nat) (cs : Array Value) (h : Blk w B 54 cs) (h0 : cs[0]? = some (.slice none 0 0)) (h3 : cs[3]? = some (.slice none 0 0)) :
    Calls Tryz.prog 110 #[.pointer (some ⟨B, 0, none⟩)] w fun e w' => e = .returned (.bool true) ∧ w' = w := by
  have k0 : w.cell? ⟨B, 0, none⟩ = some (.slice none 0 0) := (h.cell 0).trans h0
  have k3 : w.cell? ⟨B, 3, none⟩ = some (.slice none 0 0) := (h.cell 3).trans h3
  clear h h0 h3
  go_enter Tryz.func110, Tryz.ntmps110
  go_wp2_with fail
  go_loopw [3] (fun k wr => k = .int .i64 0 ∧ w = wr) (fun _ _ => 0)
  case atStart => exact ⟨rfl, rfl⟩
  case round =>
    obtain ⟨rfl, rfl⟩ := hrel
    go_wp2_with fail
    go_loopw [5] (fun k wr => k = .int .i64 0 ∧ w = wr) (fun _ _ => 0)
    case atStart => exact ⟨rfl, rfl⟩
    case round =>
      obtain ⟨rfl, rfl⟩ := hrel
      go_wp2_with fail
      go_ret
      exact ⟨rfl, rfl⟩
set_option maxRecDepth 100000 in
set_option maxHeartbeats 4000000 in
theorem look_kept (w : World) (B : Nat) (cs : Array Value) (h : Blk w B 54 cs) (h6 : cs[6]? = some (.slice none 0 0)) (h9 : cs[9]? = some (.slice none 0 0)) (h12 : cs[12]? = some (.slice none 0 0)) (h15 : cs[15]? = some (.slice none 0 0)) :
    Calls Tryz.prog 111 #[.pointer (some ⟨B, 0, none⟩)] w fun e w' => e = .returned (.bool true) ∧ w' = w := by
  have k6 : w.cell? ⟨B, 6, none⟩ = some (.slice none 0 0) := (h.cell 6).trans h6
  have k9 : w.cell? ⟨B, 9, none⟩ = some (.slice none 0 0) := (h.cell 9).trans h9
  have k12 : w.cell? ⟨B, 12, none⟩ = some (.slice none 0 0) := (h.cell 12).trans h12
  have k15 : w.cell? ⟨B, 15, none⟩ = some (.slice none 0 0) := (h.cell 15).trans h15
  clear h h6 h9 h12 h15
  go_enter Tryz.func111, Tryz.ntmps111
  go_wp2_with fail
  go_loopw [3] (fun k wr => k = .int .i64 0 ∧ w = wr) (fun _ _ => 0)
  case atStart => exact ⟨rfl, rfl⟩
  case round =>
    obtain ⟨rfl, rfl⟩ := hrel
    go_wp2_with fail
    go_loopw [5] (fun k wr => k = .int .i64 0 ∧ w = wr) (fun _ _ => 0)
    case atStart => exact ⟨rfl, rfl⟩
    case round =>
      obtain ⟨rfl, rfl⟩ := hrel
      go_wp2_with fail
      go_loopw [7] (fun k wr => k = .int .i64 0 ∧ w = wr) (fun _ _ => 0)
      case atStart => exact ⟨rfl, rfl⟩
      case round =>
        obtain ⟨rfl, rfl⟩ := hrel
        go_wp2_with fail
        go_loopw [9] (fun k wr => k = .int .i64 0 ∧ w = wr) (fun _ _ => 0)
        case atStart => exact ⟨rfl, rfl⟩
        case round =>
          obtain ⟨rfl, rfl⟩ := hrel
          go_wp2_with fail
          go_ret
          exact ⟨rfl, rfl⟩
set_option maxRecDepth 100000 in
set_option maxHeartbeats 4000000 in
theorem look_held (w : World) (B : Nat) (cs : Array Value) (h : Blk w B 54 cs) (h30 : cs[30]? = some (.slice none 0 0)) (h33 : cs[33]? = some (.slice none 0 0)) (h36 : cs[36]? = some (.slice none 0 0)) (h39 : cs[39]? = some (.slice none 0 0)) :
    Calls Tryz.prog 113 #[.pointer (some ⟨B, 0, none⟩)] w fun e w' => e = .returned (.bool true) ∧ w' = w := by
  have k30 : w.cell? ⟨B, 30, none⟩ = some (.slice none 0 0) := (h.cell 30).trans h30
  have k33 : w.cell? ⟨B, 33, none⟩ = some (.slice none 0 0) := (h.cell 33).trans h33
  have k36 : w.cell? ⟨B, 36, none⟩ = some (.slice none 0 0) := (h.cell 36).trans h36
  have k39 : w.cell? ⟨B, 39, none⟩ = some (.slice none 0 0) := (h.cell 39).trans h39
  clear h h30 h33 h36 h39
  go_enter Tryz.func113, Tryz.ntmps113
  go_wp2_with fail
  go_loopw [3] (fun k wr => k = .int .i64 0 ∧ w = wr) (fun _ _ => 0)
  case atStart => exact ⟨rfl, rfl⟩
  case round =>
    obtain ⟨rfl, rfl⟩ := hrel
    go_wp2_with fail
    go_loopw [5] (fun k wr => k = .int .i64 0 ∧ w = wr) (fun _ _ => 0)
    case atStart => exact ⟨rfl, rfl⟩
    case round =>
      obtain ⟨rfl, rfl⟩ := hrel
      go_wp2_with fail
      go_loopw [7] (fun k wr => k = .int .i64 0 ∧ w = wr) (fun _ _ => 0)
      case atStart => exact ⟨rfl, rfl⟩
      case round =>
        obtain ⟨rfl, rfl⟩ := hrel
        go_wp2_with fail
        go_loopw [11] (fun k wr => k = .int .i64 0 ∧ w = wr) (fun _ _ => 0)
        case atStart => exact ⟨rfl, rfl⟩
        case round =>
          obtain ⟨rfl, rfl⟩ := hrel
          go_wp2_with fail
          go_ret
          exact ⟨rfl, rfl⟩
set_option maxRecDepth 100000 in
set_option maxHeartbeats 4000000 in
theorem look_sent (w : World) (B : Nat) (cs : Array Value) (h : Blk w B 54 cs) (h42 : cs[42]? = some (.slice none 0 0)) (h45 : cs[45]? = some (.slice none 0 0)) (h48 : cs[48]? = some (.slice none 0 0)) (h51 : cs[51]? = some (.slice none 0 0)) :
    Calls Tryz.prog 114 #[.pointer (some ⟨B, 0, none⟩)] w fun e w' => e = .returned (.bool true) ∧ w' = w := by
  have k42 : w.cell? ⟨B, 42, none⟩ = some (.slice none 0 0) := (h.cell 42).trans h42
  have k45 : w.cell? ⟨B, 45, none⟩ = some (.slice none 0 0) := (h.cell 45).trans h45
  have k48 : w.cell? ⟨B, 48, none⟩ = some (.slice none 0 0) := (h.cell 48).trans h48
  have k51 : w.cell? ⟨B, 51, none⟩ = some (.slice none 0 0) := (h.cell 51).trans h51
  clear h h42 h45 h48 h51
  go_enter Tryz.func114, Tryz.ntmps114
  go_wp2_with fail
  go_loopw [3] (fun k wr => k = .int .i64 0 ∧ w = wr) (fun _ _ => 0)
  case atStart => exact ⟨rfl, rfl⟩
  case round =>
    obtain ⟨rfl, rfl⟩ := hrel
    go_wp2_with fail
    go_loopw [7] (fun k wr => k = .int .i64 0 ∧ w = wr) (fun _ _ => 0)
    case atStart => exact ⟨rfl, rfl⟩
    case round =>
      obtain ⟨rfl, rfl⟩ := hrel
      go_wp2_with fail
      go_loopw [11] (fun k wr => k = .int .i64 0 ∧ w = wr) (fun _ _ => 0)
      case atStart => exact ⟨rfl, rfl⟩
      case round =>
        obtain ⟨rfl, rfl⟩ := hrel
        go_wp2_with fail
        go_loopw [15] (fun k wr => k = .int .i64 0 ∧ w = wr) (fun _ _ => 0)
        case atStart => exact ⟨rfl, rfl⟩
        case round =>
          obtain ⟨rfl, rfl⟩ := hrel
          go_wp2_with fail
          go_ret
          exact ⟨rfl, rfl⟩
end Go.Proofs.YtmnajpkmglmipaaGreat
