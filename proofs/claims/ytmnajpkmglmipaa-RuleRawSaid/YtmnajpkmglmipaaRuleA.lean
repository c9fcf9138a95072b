/- Contracts of package rule: versions, guards, open settings, free and held rights. -/
import Derived.Test.YtmnajpkmglmipaaNeeds
import Derived.Test.YtmnajpkmglmipaaLendS
namespace Go.Proofs.Ytmnajpkmglmipaa
open Go.RowKit

/-- A state's value by its parts. -/
structure StV where
  q : Int
  P : Option Addr
  np : Nat
  cp : Nat
  R : Option Addr
  nr : Nat
  cr : Nat
  L : Option Addr
  nl : Nat
  cl : Nat
  G : Option Addr
  ng : Nat
  cg : Nat
  O : Option Addr
  no : Nat
  co : Nat
abbrev PoolD := Int × (Int × Int) × List HeldD
def kPool : Kd PoolD := .pair (.int .i64) (.pair (.pair (.int .i64) (.int .i64)) (.slice 16 kHeld))
theorem cell_any {w : World} {p : Addr} {v : Value} (h : w.cell? p = some v) (o : Obj) : (w.alloc o).cell? p = some v := ((Gr.refl w).alloc o).cell h
theorem cell_any2 {w : World} {p : Addr} {v : Value} (h : w.cell? p = some v) (o o' : Obj) : ((w.alloc o).alloc o').cell? p = some v := (((Gr.refl w).alloc o).alloc o').cell h
theorem cell_any3 {w : World} {p : Addr} {v : Value} (h : w.cell? p = some v) (o o' o'' : Obj) : (((w.alloc o).alloc o').alloc o'').cell? p = some v := ((((Gr.refl w).alloc o).alloc o').alloc o'').cell h

/-- How often a price has been set. -/
def versionD (xs : List PricedD) (p : Int) : Int := if p < 0 then 1099511627776 else ((xs[p.toNat]?).map (·.2)).getD 1099511627776
set_option maxRecDepth 100000 in
set_option maxHeartbeats 1000000 in
theorem version_c (s : StV) (xs : List PricedD) (hn : s.nr = xs.length) (p : Int) (w : World) (h : Sl fPriced w s.R s.cr xs) :
    Calls Try.prog 34 #[.agg #[.int .u64 s.q, .slice s.P s.np s.cp, .slice s.R s.nr s.cr, .slice s.L s.nl s.cl, .slice s.G s.ng s.cg, .slice s.O s.no s.co], .int .i64 p] w fun e w' => e = .returned (.int .i64 (versionD xs p)) ∧ Fr no w w' := by
  have H := hide h
  have hle := h.le
  have htop := h.top
  simp only [maxLen] at htop
  clear h
  by_cases h0 : p < 0
  · rw [show versionD xs p = 1099511627776 by simp [versionD, h0]]
    go_enter Try.func34, Try.ntmps34
    go_wp2_with fail
    go_ret
    exact ⟨rfl, (Fr.refl no w).alloc _⟩
  · obtain ⟨m, rfl⟩ : ∃ m : Nat, p = m := ⟨p.toNat, by omega⟩
    by_cases h1 : m < xs.length
    · rw [show versionD xs (m : Int) = xs[m].2 by unfold versionD; rw [if_neg h0]; simp [h1]]
      obtain ⟨g, o, hR, hc⟩ := H.out.cells (List.length_pos_iff.1 (by omega))
      have a1 := fun ob => cell_any (show w.cell? ⟨g, o + m * 2 + 1, none⟩ = some (.int .i64 xs[m].2) from hc m h1 1 (by decide)) ob
      have i1 : (m : Int) < s.nr := by omega
      have i0 : (0 : Int) ≤ m := by omega
      clear hc
      go_enter Try.func34, Try.ntmps34
      go_wp2_with fail
      go_ret
      exact ⟨rfl, (Fr.refl no w).alloc _⟩
    · rw [show versionD xs (m : Int) = 1099511627776 by unfold versionD; rw [if_neg h0]; simp [h1]]
      have i1 : ¬ (m : Int) < s.nr := by omega
      go_enter Try.func34, Try.ntmps34
      go_wp2_with fail
      go_ret
      exact ⟨rfl, (Fr.refl no w).alloc _⟩
theorem pool_cells {w : World} {A : Option Addr} {c : Nat} {ps : List PoolD} (h : kPool.Row w A c ps) (i : Nat) (hi : i < ps.length) : ∃ g o, A = some ⟨g, o, none⟩ ∧ w.cell? ⟨g, o + i * 4, none⟩ = some (.int .i64 ps[i].1) ∧
    w.cell? ⟨g, o + i * 4 + 1, none⟩ = some (.int .i64 ps[i].2.1.1) ∧ w.cell? ⟨g, o + i * 4 + 2, none⟩ = some (.int .i64 ps[i].2.1.2) ∧ ∃ hA hc, w.cell? ⟨g, o + i * 4 + 3, none⟩ = some (.slice hA ps[i].2.2.length hc) ∧ kHeld.Row w hA hc ps[i].2.2 := by
  obtain ⟨g, o, rfl, ha⟩ := h.2.2.1 (List.length_pos_iff.1 (by omega))
  obtain ⟨cells, ⟨c1, c2, rfl, k1, c3, c4, rfl, ⟨c5, c6, rfl, k5, k6⟩, hA, hc, rfl, hr⟩, hcell⟩ := ha i hi
  obtain rfl : c1 = _ := k1
  obtain rfl : c5 = _ := k5
  obtain rfl : c6 = _ := k6
  exact ⟨g, o, rfl, hcell 0 (by decide), hcell 1 (by decide), hcell 2 (by decide), hA, hc, hcell 3 (by decide), hr⟩
/-- The free rights of a kind. -/
def freeD (ps : List PoolD) (c w : Int) : Int := if c < 0 then 0 else match ps[c.toNat]? with | none => 0 | some p => if w = 0 then p.2.1.1 else if w = 1 then p.2.1.2 else 0
theorem freeD_neg (ps : List PoolD) (c w : Int) (h : c < 0) : freeD ps c w = 0 := by simp [freeD, h]
theorem freeD_far (ps : List PoolD) (m : Nat) (w : Int) (h : ¬ m < ps.length) : freeD ps m w = 0 := by
  unfold freeD
  rw [if_neg (by omega)]
  simp [h]
theorem freeD_at (ps : List PoolD) (m : Nat) (w : Int) (h : m < ps.length) : freeD ps m w = if w = 0 then ps[m].2.1.1 else if w = 1 then ps[m].2.1.2 else 0 := by
  unfold freeD
  rw [if_neg (by omega)]
  simp [h]
set_option maxRecDepth 100000 in
set_option maxHeartbeats 1000000 in
theorem free1_c (s : StV) (ps : List PoolD) (hn : s.np = ps.length) (Bs : Nat) (c wy n : Int) (w : World) (hB : Blk w Bs 32 #[.int .u64 s.q, .slice s.P s.np s.cp, .slice s.R s.nr s.cr, .slice s.L s.nl s.cl, .slice s.G s.ng s.cg, .slice s.O s.no s.co]) (h : kPool.Row w s.P s.cp ps) :
    Calls Try.prog 51 #[.agg #[.int .i64 c, .int .i64 wy, .int .i64 n], .pointer (some ⟨Bs, 0, none⟩)] w fun e w' => e = .returned (.int .i64 (freeD ps c wy)) ∧ Fr no w w' := by
  have H := hide h
  have hle := h.1
  have htop := h.2.1
  simp only [maxLen] at htop
  have b1 := fun ob => cell_any (show w.cell? ⟨Bs, 1, none⟩ = some (.slice s.P s.np s.cp) from hB.cell 1) ob
  clear h hB
  by_cases h0 : c < 0
  · rw [freeD_neg ps c wy h0]
    go_enter Try.func51, Try.ntmps51
    go_wp2_with fail
    go_ret
    exact ⟨rfl, (Fr.refl no w).alloc _⟩
  · obtain ⟨m, rfl⟩ : ∃ m : Nat, c = m := ⟨c.toNat, by omega⟩
    by_cases h1 : m < ps.length
    · rw [freeD_at ps m wy h1]
      obtain ⟨g, o, hP, _, a1, a2, _⟩ := pool_cells H.out m h1
      have a1' := fun ob => cell_any a1 ob
      have a2' := fun ob => cell_any a2 ob
      have i1 : (m : Int) < s.np := by omega
      have i0 : (0 : Int) ≤ m := by omega
      clear a1 a2
      by_cases h2 : wy < 0
      · rw [if_neg (by omega), if_neg (by omega)]
        go_enter Try.func51, Try.ntmps51
        go_wp2_with fail
        go_ret
        exact ⟨rfl, (Fr.refl no w).alloc _⟩
      · by_cases h3 : 1 < wy
        · rw [if_neg (by omega), if_neg (by omega)]
          go_enter Try.func51, Try.ntmps51
          go_wp2_with fail
          go_ret
          exact ⟨rfl, (Fr.refl no w).alloc _⟩
        · rcases (show wy = 0 ∨ wy = 1 by omega) with rfl | rfl
          · rw [if_pos rfl]
            go_enter Try.func51, Try.ntmps51
            go_wp2_with fail
            go_quiet (fail)
            go_wp2_with fail
            go_ret
            exact ⟨rfl, ((Fr.refl no w).alloc _).drewN _⟩
          · rw [if_neg (by omega), if_pos rfl]
            go_enter Try.func51, Try.ntmps51
            go_wp2_with fail
            go_quiet (fail)
            go_wp2_with fail
            go_ret
            exact ⟨rfl, ((Fr.refl no w).alloc _).drewN _⟩
    · rw [freeD_far ps m wy h1]
      have i1 : ¬ (m : Int) < s.np := by omega
      go_enter Try.func51, Try.ntmps51
      go_wp2_with fail
      go_ret
      exact ⟨rfl, (Fr.refl no w).alloc _⟩
end Go.Proofs.Ytmnajpkmglmipaa
