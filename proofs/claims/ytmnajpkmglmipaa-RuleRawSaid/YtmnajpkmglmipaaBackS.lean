/- Contracts of tilllaw1's BackNumbers, backPools, BackState, BackAct at what is as it was. -/
import Derived.Test.YtmnajpkmglmipaaEqS
import Derived.Test.YtmnajpkmglmipaaLendQ
import Derived.IntWalk
namespace Go.Proofs.Ytmnajpkmglmipaa
open Go.RowKit

/-- The cells of a row that is owned, element by element. -/
theorem own_at {α : Type} (f : Flat α) {w : World} {base g c : Nat} {T : TypeId} {n : Nat} {xs : List α} (h : w.ownsRow base T f.sz (.slice (some ⟨g, 0, none⟩) n c) n (f.all xs)) (i r : Nat) (hi : i < xs.length) (hr : r < f.sz) : w.cell? ⟨g, i * f.sz + r, none⟩ = (f.enc xs[i])[r]? := by
  have e := f.all_get xs i r hi hr
  have hl : r < (f.enc xs[i]).length := by rw [f.len]; exact hr
  rw [List.getElem?_eq_getElem hl] at e ⊢
  have := h.cells (g := g) rfl _ _ e
  rwa [Kd.addr_add, Nat.zero_add] at this
theorem own_sl' {α : Type} (f : Flat α) {w : World} {base g c n : Nat} {T : TypeId} {xs : List α} (h : w.ownsRow base T f.sz (.slice (some ⟨g, 0, none⟩) n c) n (f.all xs)) (hn : n = xs.length) (hc : c ≤ maxLen) : Sl f w (some ⟨g, 0, none⟩) c xs := by
  subst hn
  refine ⟨?_, hc, fun hne => ⟨g, 0, rfl, fun i hi r hr => by rw [Nat.zero_add]; exact own_at f h i r hi hr⟩, fun e => by cases e⟩
  rcases h.2 with ⟨e, _⟩ | ⟨g', cap, cur, e, _, _, hle, _⟩
  · cases e
  · obtain ⟨_, rfl⟩ : g = g' ∧ c = cap := by simpa using e
    exact hle
theorem own_cap {w : World} {base g c n size : Nat} {T : TypeId} {xs : List Value} (h : w.ownsRow base T size (.slice (some ⟨g, 0, none⟩) n c) n xs) : c ≤ maxLen := by
  rcases h.2 with ⟨e, _⟩ | ⟨g', cap, cur, e, _, _, _, hle, _⟩
  · cases e
  · obtain ⟨_, rfl⟩ : g = g' ∧ c = cap := by simpa using e
    exact hle
set_option maxRecDepth 100000 in
set_option maxHeartbeats 1000000 in
theorem back_num (A : Option Addr) (g c : Nat) (xs : List NumD) (w : World) (hx : Sl fNum w (some ⟨g, 0, none⟩) (xs.length + 9) (xs ++ List.replicate 9 777)) (h : Sl fNum w A c xs) :
    Calls Try.prog 38 #[.slice (some ⟨g, 0, none⟩) xs.length (xs.length + 9), .slice A xs.length c] w fun e w' => e = .returned (.bool true) ∧ Fr no w w' := by
  have ht : xs.length + 9 ≤ 9223372036854775807 := by have := hx.top; simp only [maxLen] at this; omega
  have hx1 := hx.take (show xs.length ≤ xs.length + 9 by omega) hx.top (fun e => by cases e)
  have hq : ∀ W, Fr no w W → ∀ i, xs.length ≤ i → i < xs.length + 9 → W.cell? ⟨g, i, none⟩ = some (.int .u64 777) := by
    intro W F i h1 h2
    obtain ⟨g', o', e, k⟩ := hx.cells (by simp)
    obtain ⟨rfl, rfl⟩ : g = g' ∧ 0 = o' := by simpa using e
    have hi : i < (xs ++ List.replicate 9 (777 : NumD)).length := by simp; omega
    have hv : (xs ++ List.replicate 9 (777 : NumD))[i] = 777 := by rw [List.getElem_append_right h1, List.getElem_replicate]
    have k0 := k i hi 0 (by decide)
    rw [hv] at k0
    refine fr_cell F ?_
    simpa [fNum] using k0
  have HQ := hide hq
  have H := hide h
  have H1 := hide hx1
  clear h hq hx hx1
  go_enter Try.func38, Try.ntmps38
  go_wp2_with fail
  refine (eq_num _ _ _ _ xs _ H1.out H.out).mono ?_
  rintro e W1 ⟨rfl, F1⟩
  go_wp2_with fail
  go_loopw [6] (fun i wr => ∃ m : Nat, i = .int .i64 m ∧ xs.length ≤ m ∧ m ≤ xs.length + 9 ∧ wr = W1) (fun i _ => xs.length + 9 - (intOf i).toNat)
  case atStart => exact ⟨xs.length, rfl, Nat.le_refl _, by omega, rfl⟩
  case round =>
    obtain ⟨m, rfl, hm0, hm, rfl⟩ := hrel
    by_cases hlt : m < xs.length + 9
    · have a0 := HQ.out _ F1 m hm0 hlt
      go_wp2_with fail
      exact ⟨⟨m + 1, by simp, by omega, hlt, trivial⟩, by simp [intOf]; omega⟩
    · go_wp2_with fail
      go_ret
      exact ⟨rfl, F1⟩
/-- Two pairs told apart, or alike, where they are compared. -/
theorem lent_cells {W : World} {base g : Nat} {rs : List PoolR} {ps : List PoolD} (h : LentTo W base g rs ps ps.length)
    (own : W.ownsRow base 102 4 (.slice (some ⟨g, 0, none⟩) (ps.length + 9) (ps.length + 9)) (ps.length + 9) (fPoolR.all (rs ++ List.replicate 9 (777, (0, 0), (none, 0, 0))))) (m : Nat) (hm : m < ps.length) :
    ∃ gi, gi ≠ g ∧ W.cell? ⟨g, m * 4, none⟩ = some (.int .i64 ps[m].1) ∧ W.cell? ⟨g, m * 4 + 1, none⟩ = some (.int .i64 ps[m].2.1.1) ∧ W.cell? ⟨g, m * 4 + 2, none⟩ = some (.int .i64 ps[m].2.1.2) ∧
      W.cell? ⟨g, m * 4 + 3, none⟩ = some (.slice (some ⟨gi, 0, none⟩) ps[m].2.2.length (ps[m].2.2.length + 9)) ∧ ps[m].2.2.length + 9 ≤ maxLen ∧ Sl fHeld W (some ⟨gi, 0, none⟩) (ps[m].2.2.length + 9) (ps[m].2.2 ++ List.replicate 9 (777, 778)) := by
  have hl := h.1
  have hr : m < rs.length := by omega
  obtain ⟨h1, h2, gi, h3, h4, h5, h6⟩ := h.2.2 m hr hm
  have hi : m < (rs ++ List.replicate 9 ((777, (0, 0), (none, 0, 0)) : PoolR)).length := by simp; omega
  have ev : (rs ++ List.replicate 9 ((777, (0, 0), (none, 0, 0)) : PoolR))[m] = rs[m] := List.getElem_append_left hr
  have k0 := own_at fPoolR own m 0 hi (by decide)
  have k1 := own_at fPoolR own m 1 hi (by decide)
  have k2 := own_at fPoolR own m 2 hi (by decide)
  have k3 := own_at fPoolR own m 3 hi (by decide)
  rw [ev] at k0 k1 k2 k3
  refine ⟨gi, h3, ?_, ?_, ?_, ?_, own_cap h6, own_sl' fHeld h6 (by simp) (own_cap h6)⟩
  · rw [← h1]; exact k0
  · rw [← h2]; exact k1
  · rw [← h2]; exact k2
  · have := k3; simp only [fPoolR] at this; rw [h5] at this; exact this
theorem lent_marks {W : World} {base g : Nat} {rs : List PoolR} {ps : List PoolD} (hl : rs.length = ps.length)
    (own : W.ownsRow base 102 4 (.slice (some ⟨g, 0, none⟩) (ps.length + 9) (ps.length + 9)) (ps.length + 9) (fPoolR.all (rs ++ List.replicate 9 (777, (0, 0), (none, 0, 0))))) (m : Nat) (hm : ps.length ≤ m) (hm' : m < ps.length + 9) :
    W.cell? ⟨g, m * 4, none⟩ = some (.int .i64 777) ∧ W.cell? ⟨g, m * 4 + 3, none⟩ = some (.slice none 0 0) := by
  have hi : m < (rs ++ List.replicate 9 ((777, (0, 0), (none, 0, 0)) : PoolR)).length := by simp; omega
  have ev : (rs ++ List.replicate 9 ((777, (0, 0), (none, 0, 0)) : PoolR))[m] = (777, (0, 0), (none, 0, 0)) := by rw [List.getElem_append_right (by omega), List.getElem_replicate]
  have k0 := own_at fPoolR own m 0 hi (by decide)
  have k3 := own_at fPoolR own m 3 hi (by decide)
  rw [ev] at k0 k3
  exact ⟨k0, k3⟩
theorem eHeld : ∀ (w : World) (x : HeldD), kHeld.K w x (fHeld.enc x) := fun _ _ => ⟨_, _, rfl, rfl, rfl⟩
/-- A lent state reads as the state. -/
theorem LentState.ok {W : World} {base : Nat} {z : LentZ} {d : StL} (q : Int) (h : LentState W base z d) : StOk W (stLent q d z) d where
  np := rfl
  nr := rfl
  nl := rfl
  ng := rfl
  nw := rfl
  pools := by
    refine ⟨by show d.ps.length ≤ d.ps.length + 9; omega, own_cap h.pools, fun _ => ⟨z.gP, 0, rfl, fun i hi => ?_⟩, fun e => by cases e⟩
    obtain ⟨gi, _, a0, a1, a2, a3, ht, sl⟩ := lent_cells h.helds h.pools i hi
    refine ⟨[.int .i64 d.ps[i].1, .int .i64 d.ps[i].2.1.1, .int .i64 d.ps[i].2.1.2, .slice (some ⟨gi, 0, none⟩) d.ps[i].2.2.length (d.ps[i].2.2.length + 9)], ⟨_, _, rfl, rfl, _, _, rfl, ⟨_, _, rfl, rfl, rfl⟩, some ⟨gi, 0, none⟩, d.ps[i].2.2.length + 9, rfl, ?_⟩, fun j hj => ?_⟩
    · exact ((sl.take (show d.ps[i].2.2.length ≤ d.ps[i].2.2.length + 9 by omega) ht (fun e => by cases e)).to_row rfl eHeld)
    · rw [show 0 + i * kPool.sz + j = i * 4 + j by show 0 + i * 4 + j = _; omega]
      have hj' : j < 4 := hj
      match j, hj' with
      | 0, _ => exact a0
      | 1, _ => exact a1
      | 2, _ => exact a2
      | 3, _ => exact a3
  prices := (own_sl' fPriced h.prices (by simp) (own_cap h.prices)).take (show d.vs.length ≤ d.vs.length + 9 by omega) (own_cap h.prices) (fun e => by cases e)
  lasts := (own_sl' fNum h.lasts (by simp) (own_cap h.lasts)).take (show d.ls.length ≤ d.ls.length + 9 by omega) (own_cap h.lasts) (fun e => by cases e)
  gens := (own_sl' fNum h.gens (by simp) (own_cap h.gens)).take (show d.gs.length ≤ d.gs.length + 9 by omega) (own_cap h.gens) (fun e => by cases e)
  owed := (own_sl' fOwe h.owed (by simp [oweMarks]) (own_cap h.owed)).take (show d.os.length ≤ d.os.length + 9 by omega) (own_cap h.owed) (fun e => by cases e)
/-- A lent act reads as the act. -/
theorem LentAct.ok {W w : World} {base : Nat} {z : LentY} {a : ActV} {l : ActL} (ha : ActOk w a l) (h : LentAct W base z l) : ActOk W (actLent a l z) l where
  ln := rfl
  gn := rfl
  sn := rfl
  on := rfl
  hn := rfl
  wx := ha.wx
  wo := ha.wo
  bx := ha.bx
  bs := ha.bs
  bo := ha.bo
  lines := (own_sl' fLine h.lines (by simp) (own_cap h.lines)).take (show l.xs.length ≤ l.xs.length + 9 by omega) (own_cap h.lines) (fun e => by cases e)
  guards := (own_sl' fGuard h.guards (by simp) (own_cap h.guards)).take (show l.gs.length ≤ l.gs.length + 9 by omega) (own_cap h.guards) (fun e => by cases e)
  sets := (own_sl' fSet h.sets (by simp) (own_cap h.sets)).take (show l.ss.length ≤ l.ss.length + 9 by omega) (own_cap h.sets) (fun e => by cases e)
  other := (own_sl' fLine h.other (by simp) (own_cap h.other)).take (show l.os.length ≤ l.os.length + 9 by omega) (own_cap h.other) (fun e => by cases e)
  rights := (own_sl' fRight h.rights (by simp) (own_cap h.rights)).take (show l.rs.length ≤ l.rs.length + 9 by omega) (own_cap h.rights) (fun e => by cases e)
set_option maxRecDepth 100000 in
set_option maxHeartbeats 2000000 in
theorem back_pools (base g : Nat) (rs : List PoolR) (ps : List PoolD) (W0 : World) (h : LentTo W0 base g rs ps ps.length)
    (own : W0.ownsRow base 102 4 (.slice (some ⟨g, 0, none⟩) (ps.length + 9) (ps.length + 9)) (ps.length + 9) (fPoolR.all (rs ++ List.replicate 9 (777, (0, 0), (none, 0, 0))))) :
    Calls Try.prog 39 #[.slice (some ⟨g, 0, none⟩) ps.length (ps.length + 9)] W0 fun e w' => e = .returned (.bool true) ∧ Fr no W0 w' := by
  have ht : ps.length + 9 ≤ 9223372036854775807 := by have := own_cap own; simp only [maxLen] at this; omega
  have H := hide h
  have HO := hide own
  clear h own
  obtain ⟨p, hp⟩ : ∃ p : FrBy W0, p.w = W0 := ⟨⟨W0, Fr.refl _ _⟩, rfl⟩
  have he := pair_same 777 778
  rw [show Calls Try.prog 39 #[.slice (some ⟨g, 0, none⟩) ps.length (ps.length + 9)] W0 (fun e w' => e = .returned (.bool true) ∧ Fr no W0 w') = Calls Try.prog 39 #[.slice (some ⟨g, 0, none⟩) ps.length (ps.length + 9)] p.w (fun e w' => e = .returned (.bool true) ∧ Fr no W0 w') by rw [hp]]
  clear hp
  go_enter Try.func39, Try.ntmps39
  go_wp2_with fail
  go_loopw [3] (fun i wr => ∃ m : Nat, i = .int .i64 m ∧ m ≤ ps.length ∧ ∃ p : FrBy W0, wr = p.w) (fun i _ => ps.length - (intOf i).toNat)
  case atStart => exact ⟨0, rfl, Nat.zero_le _, p, rfl⟩
  case round =>
    clear p
    obtain ⟨m, rfl, hm, p, rfl⟩ := hrel
    by_cases hlt : m < ps.length
    · obtain ⟨gi, _, _, _, _, q3, hk, sl⟩ := lent_cells H.out HO.out m hlt
      have a3 : ∀ p : FrBy W0, p.w.cell? ⟨g, m * 4 + 3, none⟩ = some (.slice (some ⟨gi, 0, none⟩) ps[m].2.2.length (ps[m].2.2.length + 9)) := fun p => fr_cell p.fr q3
      have hq : Hid (∀ i, ps[m].2.2.length ≤ i → i < ps[m].2.2.length + 9 → (∀ p : FrBy W0, p.w.cell? ⟨gi, i * 2, none⟩ = some (.int .i64 777)) ∧ ∀ p : FrBy W0, p.w.cell? ⟨gi, i * 2 + 1, none⟩ = some (.int .i64 778)) := hide (by
        intro i h1 h2
        obtain ⟨g', o', e, k⟩ := sl.cells (by simp)
        obtain ⟨rfl, rfl⟩ : gi = g' ∧ 0 = o' := by simpa using e
        have hi : i < (ps[m].2.2 ++ List.replicate 9 ((777, 778) : HeldD)).length := by simp; omega
        have hv : (ps[m].2.2 ++ List.replicate 9 ((777, 778) : HeldD))[i] = (777, 778) := by rw [List.getElem_append_right h1, List.getElem_replicate]
        have k0 := k i hi 0 (by decide)
        have k1 := k i hi 1 (by decide)
        rw [hv] at k0 k1
        simp only [Nat.zero_add, fHeld] at k0 k1
        exact ⟨fun p => fr_cell p.fr k0, fun p => fr_cell p.fr k1⟩)
      have hk' : ps[m].2.2.length + 9 ≤ 9223372036854775807 := by simp only [maxLen] at hk; omega
      have hi0 : (0 : Int) ≤ m := by omega
      have hi1 : (m : Int) < ps.length := by omega
      obtain ⟨kk, hkk⟩ : ∃ kk, kk = ps[m].2.2.length := ⟨_, rfl⟩
      rw [← hkk] at a3 hq hk'
      clear q3 hk sl hkk
      go_wp2_with fail
      have s1 : IntKind.i64.wrap ((kk : Int) + 9) = (kk : Int) + 9 := IntWalk.i64_in _ (by omega)
      have s2 : 0 ≤ (kk : Int) + 9 := by clear s1; omega
      have s3 : ((kk : Int) + 9).toNat = kk + 9 := by clear s1; omega
      (refine wp_region_fr W0 (by kernel_rfl) (by kernel_rfl) p.fr ?_; (repeat (quiet_step (fail))); refine wpQuiet_nil ?_; intro wz hw'; obtain ⟨p, rfl⟩ := hw')
      clear s1 s2 s3
      go_wp2_with fail
      go_loopw [5] (fun i wr => ∃ j : Nat, i = .int .i64 j ∧ kk ≤ j ∧ j ≤ kk + 9 ∧ ∃ p : FrBy W0, wr = p.w) (fun i _ => kk + 9 - (intOf i).toNat)
      case atStart => exact ⟨kk, rfl, Nat.le_refl _, by omega, p, rfl⟩
      case round =>
        clear p
        obtain ⟨j, rfl, hj0, hj, p, rfl⟩ := hrel
        by_cases hjt : j < kk + 9
        · obtain ⟨c0, c1⟩ := hq.out j hj0 hjt
          have hj2 : (0 : Int) ≤ j := by omega
          have hj1 : (j : Int) < kk + 9 := by omega
          go_wp2_with fail
          exact ⟨⟨j + 1, by simp, by omega, hjt, p, rfl⟩, by simp [intOf]; omega⟩
        · obtain rfl : j = kk + 9 := by omega
          go_wp2_with fail
          exact ⟨⟨m + 1, by simp, hlt, p, rfl⟩, by simp [intOf]; omega⟩
    · obtain rfl : m = ps.length := by omega
      go_wp2_with fail
      go_loopw [7] (fun i wr => ∃ j : Nat, i = .int .i64 j ∧ ps.length ≤ j ∧ j ≤ ps.length + 9 ∧ ∃ p : FrBy W0, wr = p.w) (fun i _ => ps.length + 9 - (intOf i).toNat)
      case atStart => exact ⟨ps.length, rfl, Nat.le_refl _, by omega, p, rfl⟩
      case round =>
        clear p
        obtain ⟨j, rfl, hj0, hj, p, rfl⟩ := hrel
        by_cases hjt : j < ps.length + 9
        · obtain ⟨q0, q3⟩ := lent_marks H.out.1 HO.out j hj0 hjt
          have c0 : ∀ p : FrBy W0, p.w.cell? ⟨g, j * 4, none⟩ = some (.int .i64 777) := fun p => fr_cell p.fr q0
          have c3 : ∀ p : FrBy W0, p.w.cell? ⟨g, j * 4 + 3, none⟩ = some (.slice none 0 0) := fun p => fr_cell p.fr q3
          have hj2 : (0 : Int) ≤ j := by omega
          have hj1 : (j : Int) < ps.length + 9 := by omega
          clear q0 q3
          go_wp2_with fail
          exact ⟨⟨j + 1, by simp, by omega, hjt, p, rfl⟩, by simp [intOf]; omega⟩
        · obtain rfl : j = ps.length + 9 := by omega
          go_wp2_with fail
          go_ret
          exact ⟨rfl, p.fr⟩
end Go.Proofs.Ytmnajpkmglmipaa
