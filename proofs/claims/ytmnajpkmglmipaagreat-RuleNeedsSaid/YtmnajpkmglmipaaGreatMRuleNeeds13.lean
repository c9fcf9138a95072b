/- BackS BookR GrowA GrowB GrowP GrowQ GrowR -/
import Derived.Test.YtmnajpkmglmipaaGreatMRuleNeeds11
import Derived.Test.YtmnajpkmglmipaaGreatMRuleNeeds12
import Derived.IntWalk
import Derived.Test.YtmnajpkmglmipaaGreatMRuleNeeds06
/- Contracts of tilllaw1's BackNumbers, backPools, BackState, BackAct at what is as it was. -/
namespace Go.Proofs.YtmnajpkmglmipaaGreat
open Go.RowKit

/-- The cells of a row that is owned, element by element. -/
theorem own_at {α : Type} (f : Flat α) {w : World} {base g c : Nat} {T : TypeId} {n : Nat} {xs : List α} (h : w.ownsRow base T f.sz (.slice (some ⟨g, 0, none⟩) n c) n (f.all xs)) (i r : Nat) (hi : i < xs.length) (hr : r < f.sz) : w.cell? ⟨g, i * f.sz + r, none⟩ = (f.enc xs[i])[r]? := by
  have e := f.all_get xs i r hi hr
  have hl : r < (f.enc xs[i]).length := by rw [f.len]; exact hr
  rw [List.getElem?_eq_getElem hl] at e ⊢
  have := h.cells (g := g) rfl _ _ e
  rwa [Kd.addr_add, Nat.zero_add] at this
theorem own_sl' {α : Type} (f : Flat α) {w : World} {base g c n : Nat} {T : TypeId} {xs : List α} (h : w.ownsRow base T f.sz (.slice (some ⟨g, 0, none⟩) n c) n (f.all xs)) (hn : n = xs.length) (hc : c ≤ maxLen) : Sl f w (some ⟨g, 0, none⟩) c xs := by
  subst hn
  refine ⟨?_, hc, fun hne => ⟨g, 0, rfl, fun i hi r hr => by rw [Nat.zero_add]; exact own_at f h i r hi hr⟩, fun e => by cases e⟩
  rcases h.2 with ⟨e, _⟩ | ⟨g', cap, cur, e, _, _, hle, _⟩
  · cases e
  · obtain ⟨_, rfl⟩ : g = g' ∧ c = cap := by simpa using e
    exact hle
theorem own_cap {w : World} {base g c n size : Nat} {T : TypeId} {xs : List Value} (h : w.ownsRow base T size (.slice (some ⟨g, 0, none⟩) n c) n xs) : c ≤ maxLen := by
  rcases h.2 with ⟨e, _⟩ | ⟨g', cap, cur, e, _, _, _, hle, _⟩
  · cases e
  · obtain ⟨_, rfl⟩ : g = g' ∧ c = cap := by simpa using e
    exact hle
set_option maxRecDepth 100000 in
set_option maxHeartbeats 1000000 in
theorem back_num (A : Option Addr) (g c : Nat) (xs : List NumD) (w : World) (hx : Sl fNum w (some ⟨g, 0, none⟩) (xs.length + 9) (xs ++ List.replicate 9 777)) (h : Sl fNum w A c xs) :
    Calls Tryz.prog 156 #[.slice (some ⟨g, 0, none⟩) xs.length (xs.length + 9), .slice A xs.length c] w fun e w' => e = .returned (.bool true) ∧ Fr no w w' := by
  have ht : xs.length + 9 ≤ 9223372036854775807 := by have := hx.top; simp only [maxLen] at this; omega
  have hx1 := hx.take (show xs.length ≤ xs.length + 9 by omega) hx.top (fun e => by cases e)
  have hq : ∀ W, Fr no w W → ∀ i, xs.length ≤ i → i < xs.length + 9 → W.cell? ⟨g, i, none⟩ = some (.int .u64 777) := by
    intro W F i h1 h2
    obtain ⟨g', o', e, k⟩ := hx.cells (by simp)
    obtain ⟨rfl, rfl⟩ : g = g' ∧ 0 = o' := by simpa using e
    have hi : i < (xs ++ List.replicate 9 (777 : NumD)).length := by simp; omega
    have hv : (xs ++ List.replicate 9 (777 : NumD))[i] = 777 := by rw [List.getElem_append_right h1, List.getElem_replicate]
    have k0 := k i hi 0 (by decide)
    rw [hv] at k0
    refine fr_cell F ?_
    simpa [fNum] using k0
  have HQ := hide hq
  have H := hide h
  have H1 := hide hx1
  clear h hq hx hx1
  go_enter Tryz.func156, Tryz.ntmps156
  go_wp2_with fail
  refine (eq_num _ _ _ _ xs _ H1.out H.out).mono ?_
  rintro e W1 ⟨rfl, F1⟩
  go_wp2_with fail
  go_loopw [6] (fun i wr => ∃ m : Nat, i = .int .i64 m ∧ xs.length ≤ m ∧ m ≤ xs.length + 9 ∧ wr = W1) (fun i _ => xs.length + 9 - (intOf i).toNat)
  case atStart => exact ⟨xs.length, rfl, Nat.le_refl _, by omega, rfl⟩
  case round =>
    obtain ⟨m, rfl, hm0, hm, rfl⟩ := hrel
    by_cases hlt : m < xs.length + 9
    · have a0 := HQ.out _ F1 m hm0 hlt
      go_wp2_with fail
      exact ⟨⟨m + 1, by simp, by omega, hlt, trivial⟩, by simp [intOf]; omega⟩
    · go_wp2_with fail
      go_ret
      exact ⟨rfl, F1⟩
/-- Two pairs told apart, or alike, where they are compared. -/
theorem lent_cells {W : World} {base g : Nat} {rs : List PoolR} {ps : List PoolD} (h : LentTo W base g rs ps ps.length)
    (own : W.ownsRow base 144 4 (.slice (some ⟨g, 0, none⟩) (ps.length + 9) (ps.length + 9)) (ps.length + 9) (fPoolR.all (rs ++ List.replicate 9 (777, (0, 0), (none, 0, 0))))) (m : Nat) (hm : m < ps.length) :
    ∃ gi, gi ≠ g ∧ W.cell? ⟨g, m * 4, none⟩ = some (.int .i64 ps[m].1) ∧ W.cell? ⟨g, m * 4 + 1, none⟩ = some (.int .i64 ps[m].2.1.1) ∧ W.cell? ⟨g, m * 4 + 2, none⟩ = some (.int .i64 ps[m].2.1.2) ∧
      W.cell? ⟨g, m * 4 + 3, none⟩ = some (.slice (some ⟨gi, 0, none⟩) ps[m].2.2.length (ps[m].2.2.length + 9)) ∧ ps[m].2.2.length + 9 ≤ maxLen ∧ Sl fHeld W (some ⟨gi, 0, none⟩) (ps[m].2.2.length + 9) (ps[m].2.2 ++ List.replicate 9 (777, 778)) := by
  have hl := h.1
  have hr : m < rs.length := by omega
  obtain ⟨h1, h2, gi, h3, h4, h5, h6⟩ := h.2.2 m hr hm
  have hi : m < (rs ++ List.replicate 9 ((777, (0, 0), (none, 0, 0)) : PoolR)).length := by simp; omega
  have ev : (rs ++ List.replicate 9 ((777, (0, 0), (none, 0, 0)) : PoolR))[m] = rs[m] := List.getElem_append_left hr
  have k0 := own_at fPoolR own m 0 hi (by decide)
  have k1 := own_at fPoolR own m 1 hi (by decide)
  have k2 := own_at fPoolR own m 2 hi (by decide)
  have k3 := own_at fPoolR own m 3 hi (by decide)
  rw [ev] at k0 k1 k2 k3
  refine ⟨gi, h3, ?_, ?_, ?_, ?_, own_cap h6, own_sl' fHeld h6 (by simp) (own_cap h6)⟩
  · rw [← h1]; exact k0
  · rw [← h2]; exact k1
  · rw [← h2]; exact k2
  · have := k3; simp only [fPoolR] at this; rw [h5] at this; exact this
theorem lent_marks {W : World} {base g : Nat} {rs : List PoolR} {ps : List PoolD} (hl : rs.length = ps.length)
    (own : W.ownsRow base 144 4 (.slice (some ⟨g, 0, none⟩) (ps.length + 9) (ps.length + 9)) (ps.length + 9) (fPoolR.all (rs ++ List.replicate 9 (777, (0, 0), (none, 0, 0))))) (m : Nat) (hm : ps.length ≤ m) (hm' : m < ps.length + 9) :
    W.cell? ⟨g, m * 4, none⟩ = some (.int .i64 777) ∧ W.cell? ⟨g, m * 4 + 3, none⟩ = some (.slice none 0 0) := by
  have hi : m < (rs ++ List.replicate 9 ((777, (0, 0), (none, 0, 0)) : PoolR)).length := by simp; omega
  have ev : (rs ++ List.replicate 9 ((777, (0, 0), (none, 0, 0)) : PoolR))[m] = (777, (0, 0), (none, 0, 0)) := by rw [List.getElem_append_right (by omega), List.getElem_replicate]
  have k0 := own_at fPoolR own m 0 hi (by decide)
  have k3 := own_at fPoolR own m 3 hi (by decide)
  rw [ev] at k0 k3
  exact ⟨k0, k3⟩
theorem eHeld : ∀ (w : World) (x : HeldD), kHeld.K w x (fHeld.enc x) := fun _ _ => ⟨_, _, rfl, rfl, rfl⟩
/-- A lent state reads as the state. -/
theorem LentState.ok {W : World} {base : Nat} {z : LentZ} {d : StL} (q : Int) (h : LentState W base z d) : StOk W (stLent q d z) d where
  np := rfl
  nr := rfl
  nl := rfl
  ng := rfl
  nw := rfl
  pools := by
    refine ⟨by show d.ps.length ≤ d.ps.length + 9; omega, own_cap h.pools, fun _ => ⟨z.gP, 0, rfl, fun i hi => ?_⟩, fun e => by cases e⟩
    obtain ⟨gi, _, a0, a1, a2, a3, ht, sl⟩ := lent_cells h.helds h.pools i hi
    refine ⟨[.int .i64 d.ps[i].1, .int .i64 d.ps[i].2.1.1, .int .i64 d.ps[i].2.1.2, .slice (some ⟨gi, 0, none⟩) d.ps[i].2.2.length (d.ps[i].2.2.length + 9)], ⟨_, _, rfl, rfl, _, _, rfl, ⟨_, _, rfl, rfl, rfl⟩, some ⟨gi, 0, none⟩, d.ps[i].2.2.length + 9, rfl, ?_⟩, fun j hj => ?_⟩
    · exact ((sl.take (show d.ps[i].2.2.length ≤ d.ps[i].2.2.length + 9 by omega) ht (fun e => by cases e)).to_row rfl eHeld)
    · rw [show 0 + i * kPool.sz + j = i * 4 + j by show 0 + i * 4 + j = _; omega]
      have hj' : j < 4 := hj
      match j, hj' with
      | 0, _ => exact a0
      | 1, _ => exact a1
      | 2, _ => exact a2
      | 3, _ => exact a3
  prices := (own_sl' fPriced h.prices (by simp) (own_cap h.prices)).take (show d.vs.length ≤ d.vs.length + 9 by omega) (own_cap h.prices) (fun e => by cases e)
  lasts := (own_sl' fNum h.lasts (by simp) (own_cap h.lasts)).take (show d.ls.length ≤ d.ls.length + 9 by omega) (own_cap h.lasts) (fun e => by cases e)
  gens := (own_sl' fNum h.gens (by simp) (own_cap h.gens)).take (show d.gs.length ≤ d.gs.length + 9 by omega) (own_cap h.gens) (fun e => by cases e)
  owed := (own_sl' fOwe h.owed (by simp [oweMarks]) (own_cap h.owed)).take (show d.os.length ≤ d.os.length + 9 by omega) (own_cap h.owed) (fun e => by cases e)
/-- A lent act reads as the act. -/
theorem LentAct.ok {W w : World} {base : Nat} {z : LentY} {a : ActV} {l : ActL} (ha : ActOk w a l) (h : LentAct W base z l) : ActOk W (actLent a l z) l where
  ln := rfl
  gn := rfl
  sn := rfl
  on := rfl
  hn := rfl
  wx := ha.wx
  wo := ha.wo
  bx := ha.bx
  bs := ha.bs
  bo := ha.bo
  lines := (own_sl' fLine h.lines (by simp) (own_cap h.lines)).take (show l.xs.length ≤ l.xs.length + 9 by omega) (own_cap h.lines) (fun e => by cases e)
  guards := (own_sl' fGuard h.guards (by simp) (own_cap h.guards)).take (show l.gs.length ≤ l.gs.length + 9 by omega) (own_cap h.guards) (fun e => by cases e)
  sets := (own_sl' fSet h.sets (by simp) (own_cap h.sets)).take (show l.ss.length ≤ l.ss.length + 9 by omega) (own_cap h.sets) (fun e => by cases e)
  other := (own_sl' fLine h.other (by simp) (own_cap h.other)).take (show l.os.length ≤ l.os.length + 9 by omega) (own_cap h.other) (fun e => by cases e)
  rights := (own_sl' fRight h.rights (by simp) (own_cap h.rights)).take (show l.rs.length ≤ l.rs.length + 9 by omega) (own_cap h.rights) (fun e => by cases e)
set_option maxRecDepth 100000 in
set_option maxHeartbeats 2000000 in
theorem back_pools (base g : Nat) (rs : List PoolR) (ps : List PoolD) (W0 : World) (h : LentTo W0 base g rs ps ps.length)
    (own : W0.ownsRow base 144 4 (.slice (some ⟨g, 0, none⟩) (ps.length + 9) (ps.length + 9)) (ps.length + 9) (fPoolR.all (rs ++ List.replicate 9 (777, (0, 0), (none, 0, 0))))) :
    Calls Tryz.prog 157 #[.slice (some ⟨g, 0, none⟩) ps.length (ps.length + 9)] W0 fun e w' => e = .returned (.bool true) ∧ Fr no W0 w' := by
  have ht : ps.length + 9 ≤ 9223372036854775807 := by have := own_cap own; simp only [maxLen] at this; omega
  have H := hide h
  have HO := hide own
  clear h own
  obtain ⟨p, hp⟩ : ∃ p : FrBy W0, p.w = W0 := ⟨⟨W0, Fr.refl _ _⟩, rfl⟩
  have he := pair_same 777 778
  rw [show Calls Tryz.prog 157 #[.slice (some ⟨g, 0, none⟩) ps.length (ps.length + 9)] W0 (fun e w' => e = .returned (.bool true) ∧ Fr no W0 w') = Calls Tryz.prog 157 #[.slice (some ⟨g, 0, none⟩) ps.length (ps.length + 9)] p.w (fun e w' => e = .returned (.bool true) ∧ Fr no W0 w') by rw [hp]]
  clear hp
  go_enter Tryz.func157, Tryz.ntmps157
  go_wp2_with fail
  go_loopw [3] (fun i wr => ∃ m : Nat, i = .int .i64 m ∧ m ≤ ps.length ∧ ∃ p : FrBy W0, wr = p.w) (fun i _ => ps.length - (intOf i).toNat)
  case atStart => exact ⟨0, rfl, Nat.zero_le _, p, rfl⟩
  case round =>
    clear p
    obtain ⟨m, rfl, hm, p, rfl⟩ := hrel
    by_cases hlt : m < ps.length
    · obtain ⟨gi, _, _, _, _, q3, hk, sl⟩ := lent_cells H.out HO.out m hlt
      have a3 : ∀ p : FrBy W0, p.w.cell? ⟨g, m * 4 + 3, none⟩ = some (.slice (some ⟨gi, 0, none⟩) ps[m].2.2.length (ps[m].2.2.length + 9)) := fun p => fr_cell p.fr q3
      have hq : Hid (∀ i, ps[m].2.2.length ≤ i → i < ps[m].2.2.length + 9 → (∀ p : FrBy W0, p.w.cell? ⟨gi, i * 2, none⟩ = some (.int .i64 777)) ∧ ∀ p : FrBy W0, p.w.cell? ⟨gi, i * 2 + 1, none⟩ = some (.int .i64 778)) := hide (by
        intro i h1 h2
        obtain ⟨g', o', e, k⟩ := sl.cells (by simp)
        obtain ⟨rfl, rfl⟩ : gi = g' ∧ 0 = o' := by simpa using e
        have hi : i < (ps[m].2.2 ++ List.replicate 9 ((777, 778) : HeldD)).length := by simp; omega
        have hv : (ps[m].2.2 ++ List.replicate 9 ((777, 778) : HeldD))[i] = (777, 778) := by rw [List.getElem_append_right h1, List.getElem_replicate]
        have k0 := k i hi 0 (by decide)
        have k1 := k i hi 1 (by decide)
        rw [hv] at k0 k1
        simp only [Nat.zero_add, fHeld] at k0 k1
        exact ⟨fun p => fr_cell p.fr k0, fun p => fr_cell p.fr k1⟩)
      have hk' : ps[m].2.2.length + 9 ≤ 9223372036854775807 := by simp only [maxLen] at hk; omega
      have hi0 : (0 : Int) ≤ m := by omega
      have hi1 : (m : Int) < ps.length := by omega
      obtain ⟨kk, hkk⟩ : ∃ kk, kk = ps[m].2.2.length := ⟨_, rfl⟩
      rw [← hkk] at a3 hq hk'
      clear q3 hk sl hkk
      go_wp2_with fail
      have s1 : IntKind.i64.wrap ((kk : Int) + 9) = (kk : Int) + 9 := IntWalk.i64_in _ (by omega)
      have s2 : 0 ≤ (kk : Int) + 9 := by clear s1; omega
      have s3 : ((kk : Int) + 9).toNat = kk + 9 := by clear s1; omega
      (refine wp_region_fr W0 (by kernel_rfl) (by kernel_rfl) p.fr ?_; (repeat (quiet_step (fail))); refine wpQuiet_nil ?_; intro wz hw'; obtain ⟨p, rfl⟩ := hw')
      clear s1 s2 s3
      go_wp2_with fail
      go_loopw [5] (fun i wr => ∃ j : Nat, i = .int .i64 j ∧ kk ≤ j ∧ j ≤ kk + 9 ∧ ∃ p : FrBy W0, wr = p.w) (fun i _ => kk + 9 - (intOf i).toNat)
      case atStart => exact ⟨kk, rfl, Nat.le_refl _, by omega, p, rfl⟩
      case round =>
        clear p
        obtain ⟨j, rfl, hj0, hj, p, rfl⟩ := hrel
        by_cases hjt : j < kk + 9
        · obtain ⟨c0, c1⟩ := hq.out j hj0 hjt
          have hj2 : (0 : Int) ≤ j := by omega
          have hj1 : (j : Int) < kk + 9 := by omega
          go_wp2_with fail
          exact ⟨⟨j + 1, by simp, by omega, hjt, p, rfl⟩, by simp [intOf]; omega⟩
        · obtain rfl : j = kk + 9 := by omega
          go_wp2_with fail
          exact ⟨⟨m + 1, by simp, hlt, p, rfl⟩, by simp [intOf]; omega⟩
    · obtain rfl : m = ps.length := by omega
      go_wp2_with fail
      go_loopw [7] (fun i wr => ∃ j : Nat, i = .int .i64 j ∧ ps.length ≤ j ∧ j ≤ ps.length + 9 ∧ ∃ p : FrBy W0, wr = p.w) (fun i _ => ps.length + 9 - (intOf i).toNat)
      case atStart => exact ⟨ps.length, rfl, Nat.le_refl _, by omega, p, rfl⟩
      case round =>
        clear p
        obtain ⟨j, rfl, hj0, hj, p, rfl⟩ := hrel
        by_cases hjt : j < ps.length + 9
        · obtain ⟨q0, q3⟩ := lent_marks H.out.1 HO.out j hj0 hjt
          have c0 : ∀ p : FrBy W0, p.w.cell? ⟨g, j * 4, none⟩ = some (.int .i64 777) := fun p => fr_cell p.fr q0
          have c3 : ∀ p : FrBy W0, p.w.cell? ⟨g, j * 4 + 3, none⟩ = some (.slice none 0 0) := fun p => fr_cell p.fr q3
          have hj2 : (0 : Int) ≤ j := by omega
          have hj1 : (j : Int) < ps.length + 9 := by omega
          clear q0 q3
          go_wp2_with fail
          exact ⟨⟨j + 1, by simp, by omega, hjt, p, rfl⟩, by simp [intOf]; omega⟩
        · obtain rfl : j = ps.length + 9 := by omega
          go_wp2_with fail
          go_ret
          exact ⟨rfl, p.fr⟩
end Go.Proofs.YtmnajpkmglmipaaGreat

/- The law's book: what is read of what it keeps. -/
namespace Go.Proofs.YtmnajpkmglmipaaGreat
open Go.RowKit

theorem own_some {w : World} {base size n c : Nat} {A : Option Addr} {e : TypeId} {xs : List Value} (h : w.ownsRow base e size (.slice A n c) n xs) (hn : 0 < n) : ∃ g, A = some ⟨g, 0, none⟩ := by
  rcases h.2 with ⟨_, h0⟩ | ⟨g, cap, cur, e, _⟩
  · omega
  · cases e; exact ⟨g, rfl⟩
theorem KeptOk.hdr {α : Type} {f : Flat α} {T TT TI : TypeId} {mk : Int → α} {base : Nat} {W : World} {k : KeptV} (h : KeptOk f T TT TI mk base W k) (i : Nat) (hi : i < k.es.length) :
    ∃ g, k.A = some ⟨g, 0, none⟩ ∧ W.cell? ⟨g, i, none⟩ = some (.slice k.es[i].1.1 k.es[i].1.2.1 k.es[i].1.2.2) := by
  obtain ⟨g, hg⟩ := own_some h.outer (by omega)
  refine ⟨g, hg, ?_⟩
  have ho := h.outer
  rw [hg] at ho
  have := own_at fHdr (xs := k.es.map (·.1)) ho i 0 (by simpa using hi) (by decide)
  simpa [fHdr] using this
theorem KeptOk.num {α : Type} {f : Flat α} {T TT TI : TypeId} {mk : Int → α} {base : Nat} {W : World} {k : KeptV} (h : KeptOk f T TT TI mk base W k) (i : Nat) (hi : i < k.es.length) :
    ∃ g, k.OA = some ⟨g, 0, none⟩ ∧ W.cell? ⟨g, i, none⟩ = some (.int .i64 k.es[i].2) := by
  obtain ⟨g, hg⟩ := own_some h.of (by omega)
  refine ⟨g, hg, ?_⟩
  have ho := h.of
  rw [hg] at ho
  have := own_at fInt (xs := k.es.map (·.2)) ho i 0 (by simpa using hi) (by decide)
  simpa [fInt] using this
theorem KeptOk.elt {α : Type} {f : Flat α} {T TT TI : TypeId} {mk : Int → α} {base : Nat} {W : World} {k : KeptV} (h : KeptOk f T TT TI mk base W k) (i j : Nat) (hi : i < k.es.length) (hj : j < k.es[i].1.2.1) :
    ∃ g, k.es[i].1.1 = some ⟨g, 0, none⟩ ∧ ∀ r, r < f.sz → W.cell? ⟨g, j * f.sz + r, none⟩ = (f.enc (mk k.es[i].2))[r]? := by
  have he := h.ent _ (List.getElem_mem hi)
  obtain ⟨g, hg⟩ := own_some he (by omega)
  refine ⟨g, hg, fun r hr => ?_⟩
  rw [hg] at he
  have := own_at f (xs := List.replicate k.es[i].1.2.1 (mk k.es[i].2)) he j r (by simpa using hj) hr
  rw [List.getElem_replicate] at this
  exact this
/-- All that is kept stays when no block is written. -/
theorem KeptOk.keep {α : Type} {f : Flat α} {T TT TI : TypeId} {mk : Int → α} {base : Nat} {W W' : World} {k : KeptV} (h : KeptOk f T TT TI mk base W k) (F : Fr no W W') : KeptOk f T TT TI mk base W' k :=
  h.but F (fun _ _ e => e) (fun _ _ e => e) (fun _ _ _ _ e => e)
theorem BookOk.keep {W W' : World} {base B : Nat} {b : BookV} (h : BookOk W base B b) (F : Fr no W W') : BookOk W' base B b :=
  { h with blk := h.blk.kept0 F, L := h.L.keep F, G := h.G.keep F, S := h.S.keep F, R := h.R.keep F }
end Go.Proofs.YtmnajpkmglmipaaGreat

/- Growing what the law's book keeps: append in place or anew; what other entries of the same block keep. -/
namespace Go.Proofs.YtmnajpkmglmipaaGreat
open Go.RowKit

/-- Two rows at the head of one block have one capacity; the shorter is the longer's beginning. -/
theorem own_same {w : World} {base base' size g n c m c' : Nat} {T : TypeId} {xs ys : List Value} (hs : 0 < size) (h : w.ownsRow base T size (.slice (some ⟨g, 0, none⟩) n c) n xs)
    (hm : w.ownsRow base' T size (.slice (some ⟨g, 0, none⟩) m c') m ys) (hle : m ≤ n) : c' = c ∧ ys = xs.take (m * size) := by
  rcases h.2 with ⟨e, _⟩ | ⟨g1, cap, cur, e, h2, h3, h4, h5, h6, h7⟩
  · cases e
  · rcases hm.2 with ⟨e', _⟩ | ⟨g2, cap', cur', e', k2, k3, k4, k5, k6, k7⟩
    · cases e'
    · obtain ⟨rfl, rfl⟩ : g = g1 ∧ c = cap := by simpa using e
      obtain ⟨rfl, rfl⟩ : g = g2 ∧ c' = cap' := by simpa using e'
      rw [h3] at k3
      obtain rfl : cur = cur' := by simpa using k3
      refine ⟨Nat.eq_of_mul_eq_mul_right hs (k6.symm.trans h6), ?_⟩
      rw [← h7, ← k7, List.take_take, Nat.min_eq_left (Nat.mul_le_mul_right size hle)]
/-- A row grew in its place: a shorter one at the same head stays. -/
theorem own_prefix {w w' : World} {base base' size g n c m c' : Nat} {T : TypeId} {xs ys news : List Value} (hs : 0 < size) (h : w.ownsRow base T size (.slice (some ⟨g, 0, none⟩) n c) n xs)
    (hm : w.ownsRow base' T size (.slice (some ⟨g, 0, none⟩) m c') m ys) (hle : m ≤ n) (h' : w'.ownsRow base T size (.slice (some ⟨g, 0, none⟩) (n + 1) c) (n + 1) (xs ++ news)) :
    w'.ownsRow base' T size (.slice (some ⟨g, 0, none⟩) m c') m ys := by
  obtain ⟨rfl, rfl⟩ := own_same hs h hm hle
  refine ⟨hm.1, ?_⟩
  have hb : base' ≤ g := (hm.lt g rfl).1
  rcases h'.2 with ⟨e, _⟩ | ⟨g1, cap, cur, e, h2, h3, h4, h5, h6, h7⟩
  · cases e
  · obtain ⟨rfl, rfl⟩ : g = g1 ∧ c' = cap := by simpa using e
    have hl : xs.length = n * size := h.1
    refine .inr ⟨g, c', cur, rfl, hb, h3, by omega, h5, h6, ?_⟩
    have h8 := congrArg (List.take (m * size)) h7
    rw [List.take_take, Nat.min_eq_left (Nat.mul_le_mul_right size (by omega)), List.take_append_of_le_length (by rw [hl]; exact Nat.mul_le_mul_right size hle)] at h8
    exact h8
theorem run_append_at {P : Program} (w : World) (base : Nat) (t ty e : TypeId) (i : TypeInfo) (z : Value) (size bytes : Nat) (ht : P.underlying t = some (.slice e)) (hi : P.info? e = some i) (hz : i.zero = some z)
    (hsize : i.size = size) (hby : i.bytes = bytes) (hzs : z.cells.size = size) (hsz : 0 < size)
    (v : Value) (k : Nat) (xs : List Value) (hown : w.ownsRow base e size v k xs) (ad : Addr) (c : Nat) (news : List Value) (hl : news.length = size) (hnews : ∀ j u, news[j]? = some u → w.cell? (ad.add j) = some u) (h1 : ∀ u ∈ news, u.oneCell' = true)
    (h63 : k + 1 ≤ maxLen) (hbytes : (k + 1) * bytes ≤ 140737488355328) (hbase : base ≤ w.heap.size) :
    ∃ g' c' w', (Builtin.append_ #[t, t] ty #[v, .slice (some ad) 1 c]).run P w = .ok (.slice (some ⟨g', 0, none⟩) (k + 1) c') w' ∧ w'.ownsRow base e size (.slice (some ⟨g', 0, none⟩) (k + 1) c') (k + 1) (xs ++ news) ∧ w.grownBy w' v.ownBlock ∧ (v = .slice (some ⟨g', 0, none⟩) k c' ∨ (w.heap.size ≤ g' ∧ w.grownBy w' none)) := by
  have hl1 : news.length = 1 * size := by rw [Nat.one_mul]; exact hl
  rcases hown.2 with ⟨rfl, rfl⟩ | ⟨g, cap, cur, rfl, hbg, hg, hnc, hcm, hcs, htake⟩
  · have hx : xs = [] := List.eq_nil_of_length_eq_zero (by simpa using hown.1)
    subst hx
    obtain ⟨v', w', hr, ho, hgr, hv⟩ := run_append_own (P := P) w w.heap.size t ty e i z size bytes ht hi hz hsize hby hzs hsz _ 0 [] (World.ownsRow_nil w w.heap.size e size) ad 1 c news hl1 hnews h1 h63 hbytes (Nat.le_refl _)
    rcases ho.2 with ⟨_, hn⟩ | ⟨g', cap', cur', rfl, h2, h3⟩
    · omega
    · exact ⟨g', cap', w', hr, own_lower ho hbase, hgr, .inr ⟨h2, hgr⟩⟩
  · by_cases hroom : k + 1 ≤ cap
    · obtain ⟨w', hr, ho, hgr⟩ := run_append_fits (P := P) w base t ty e i size ht hi hsize g k cap xs hown ad 1 c news hl1 hnews h1 hroom
      exact ⟨g, cap, w', hr, ho, hgr, .inl rfl⟩
    · have hlen : (xs ++ news).length = (k + 1) * size := by rw [List.length_append, hown.1, hl, Nat.add_mul, Nat.one_mul]
      subst hsize
      subst hby
      have hr := run_append_grow (P := P) w t ty e i z ht hi hz ⟨g, 0, none⟩ k cap xs hown.1 (hown.cells (g := g) rfl) ad 1 c news hl1 hnews (by omega) (by simp only [maxLen] at h63; omega) (growslice_fits (by omega) hbytes)
      have hge := grownCap_ge w (k + 1) cap e
      refine ⟨_, _, _, hr, ⟨hlen, .inr ⟨w.heap.size, _, _, rfl, hbase, heap_alloc_new w.drew _, hge, grownCap_le_maxLen w (k + 1) cap e h63, ?_, ?_⟩⟩, ⟨rfl, rfl, rfl, by simp, fun j hj _ => heap_alloc_old w.drew _ hj⟩, .inr ⟨Nat.le_refl _, ⟨rfl, rfl, rfl, by simp, fun j hj _ => heap_alloc_old w.drew _ hj⟩⟩⟩
      · simp only [Array.size_append, List.size_toArray, size_zeroCells, hzs, hown.1, hl]
        rw [Nat.sub_mul, Nat.add_mul, Nat.one_mul]
        have := Nat.mul_le_mul_right i.size hge
        rw [Nat.add_mul, Nat.one_mul] at this
        omega
      · simp only [Array.toList_append, List.append_assoc]
        rw [← List.append_assoc, ← hlen]
        exact List.take_left
theorem wpList_append_at {P : Program} (w : World) {ops : Array Oper} {rest : List Oper} {o : Oper} {a : Act} {Q : Exit → Act → World → Prop}
    (hg : o.guard = none) (s x : Operand) (t : TypeId) (hop : o.op = Op.call { callee := Callee.builtin Builtin.append, args := #[s, x], argTypes := #[t, t] })
    (base : Nat) (e : TypeId) (i : TypeInfo) (z : Value) (size bytes : Nat) (h1 : P.underlying t = some (.slice e)) (h2 : P.info? e = some i) (h3 : i.zero = some z) (h4 : i.size = size) (h5 : i.bytes = bytes) (h6 : z.cells.size = size) (h7 : 0 < size)
    (v : Value) (k : Nat) (xs : List Value) (hs : a.eval s = v) (hown : w.ownsRow base e size v k xs) (ad : Addr) (c : Nat) (news : List Value) (hx : a.eval x = .slice (some ad) 1 c) (hn : news.length = size)
    (hc : ∀ j u, news[j]? = some u → w.cell? (ad.add j) = some u) (h1c : ∀ u ∈ news, u.oneCell' = true) (b1 : k + 1 ≤ maxLen) (b2 : (k + 1) * bytes ≤ 140737488355328) (b3 : base ≤ w.heap.size)
    (hK : ∀ g' c' w', w'.ownsRow base e size (.slice (some ⟨g', 0, none⟩) (k + 1) c') (k + 1) (xs ++ news) → w.grownBy w' v.ownBlock → (v = .slice (some ⟨g', 0, none⟩) k c' ∨ (w.heap.size ≤ g' ∧ w.grownBy w' none)) → wpList P ops Q rest (a.put o.dst (.slice (some ⟨g', 0, none⟩) (k + 1) c')) w') :
    wpList P ops Q (o :: rest) a w := by
  refine wpList_plain hg fun K hK' => ?_
  obtain ⟨g', c', w', hrun, r1, r2, r3⟩ := run_append_at (P := P) w base t o.type e i z size bytes h1 h2 h3 h4 h5 h6 h7 v k xs hown ad c news hn hc h1c b1 b2 b3
  unfold Oper.wp
  simp [execOp, hop, resolve, invoke, builtin, hs, hx, hrun, Result.andThen]
  exact hK' _ _ (hK g' c' w' r1 r2 r3)
/-- What stands while entry j0 grows, of those that were there at the start (n0): the list g, its mark m. -/
structure GrowI {α : Type} (f : Flat α) (T TT TI : TypeId) (mk : Int → α) (base : Nat) (W : World) (k : KeptV) (n0 j0 : Nat) (gA : Option Addr) (gn gc : Nat) (m : Int) : Prop where
  outer : W.ownsRow base TT 1 (.slice k.A k.es.length k.c) k.es.length (fHdr.all (k.es.map (·.1)))
  of : W.ownsRow base TI 1 (.slice k.OA k.es.length k.oc) k.es.length (fInt.all (k.es.map (·.2)))
  ent : ∀ e ∈ k.es, W.ownsRow base T f.sz (.slice e.1.1 e.1.2.1 e.1.2.2) e.1.2.1 (f.all (List.replicate e.1.2.1 (mk e.2)))
  g : W.ownsRow base T f.sz (.slice gA gn gc) gn (f.all (List.replicate gn (mk m)))
  n0le : n0 ≤ k.es.length
  later : ∀ i j (hi : i < k.es.length) (hj : j < k.es.length), j0 < j → j < n0 → i ≠ j → blkOf k.es[j] = none ∨ blkOf k.es[i] ≠ blkOf k.es[j]
  laterG : ∀ j (hj : j < k.es.length), j0 < j → j < n0 → blkOf k.es[j] = none ∨ gA.map (·.block) ≠ blkOf k.es[j]
  same : ∀ e ∈ k.es, blkOf e = gA.map (·.block) → e.1.2.1 ≤ gn
  short : ∀ i (hi : i < k.es.length), k.es[i].1.2.1 ≤ 60032 ∧ (j0 < i → i < n0 → k.es[i].1.2.1 ≤ 60000)
/-- One element is appended to g. -/
theorem GrowI.append {α : Type} {f : Flat α} {T TT TI : TypeId} {mk : Int → α} {base : Nat} {w w' : World} {k : KeptV} {n0 j0 : Nat} {gA : Option Addr} {gn gc g' gc' : Nat} {m : Int}
    (h : GrowI f T TT TI mk base w k n0 j0 gA gn gc m) (d1 : T ≠ TT) (d2 : T ≠ TI) (ho : w'.ownsRow base T f.sz (.slice (some ⟨g', 0, none⟩) (gn + 1) gc') (gn + 1) (f.all (List.replicate gn (mk m)) ++ f.enc (mk m)))
    (hg : w.grownBy w' (Value.slice gA gn gc).ownBlock) (hat : Value.slice gA gn gc = .slice (some ⟨g', 0, none⟩) gn gc' ∨ (w.heap.size ≤ g' ∧ w.grownBy w' none)) :
    GrowI f T TT TI mk base w' k n0 j0 (some ⟨g', 0, none⟩) (gn + 1) gc' m := by
  have hlt : ∀ e ∈ k.es, ∀ a, e.1.1 = some a → a.block < w.heap.size := fun e he a ha => ((h.ent e he).lt a.block (by rw [ha]; rfl)).2
  have hF := Fr.of_grown hg
  rw [own_opt] at hF
  have hrep : f.all (List.replicate (gn + 1) (mk m)) = f.all (List.replicate gn (mk m)) ++ f.enc (mk m) := by rw [List.replicate_succ', Flat.snoc]
  refine ⟨own_butv h.outer hF (fun a ha => opt_blk (fun a' ha' => own_typev h.outer h.g d1.symm a a' ha ha')), own_butv h.of hF (fun a ha => opt_blk (fun a' ha' => own_typev h.of h.g d2.symm a a' ha ha')), ?_, by rw [hrep]; exact ho, h.n0le, h.later, ?_, ?_, h.short⟩
  · intro e he
    rcases hat with hat | ⟨h1, h2⟩
    · cases hat
      by_cases hb : blkOf e = some g'
      · cases hA : e.1.1 with
        | none => rw [blkOf, hA] at hb; cases hb
        | some a =>
          have hh := own_head (h.ent e he) a hA
          have hbk : a.block = g' := by rw [blkOf, hA] at hb; simpa using hb
          have hm := h.ent e he
          rw [hA, hh, hbk] at hm
          have := own_prefix f.pos h.g hm (h.same e he hb) ho
          rw [hh, hbk]
          exact this
      · refine own_butv (h.ent e he) hF (fun a ha e' => hb ?_)
        rw [blkOf, ha]
        exact e'
    · exact own_butv (h.ent e he) (Fr.of_grown h2) (fun a _ e' => by cases e')
  · intro j hj h1 h2
    rcases hat with hat | ⟨h3, _⟩
    · cases hat
      exact h.laterG j hj h1 h2
    · cases hA : k.es[j].1.1 with
      | none => left; rw [blkOf, hA]; rfl
      | some a =>
        right
        have := hlt _ (List.getElem_mem hj) a hA
        rw [blkOf, hA]
        show some g' ≠ some a.block
        intro e
        cases e
        omega
  · intro e he hb
    rcases hat with hat | ⟨h3, _⟩
    · cases hat
      exact Nat.le_succ_of_le (h.same e he hb)
    · cases hA : e.1.1 with
      | none => rw [blkOf, hA] at hb; cases hb
      | some a =>
        have := hlt e he a hA
        rw [blkOf, hA] at hb
        have hb' : a.block = g' := by simpa using hb
        omega
end Go.Proofs.YtmnajpkmglmipaaGreat

/- Growing what the law's book keeps: from entry to entry. -/
namespace Go.Proofs.YtmnajpkmglmipaaGreat
open Go.RowKit

/-- What stands before entry j0 grows. -/
structure GrowB {α : Type} (f : Flat α) (T TT TI : TypeId) (mk : Int → α) (base : Nat) (W : World) (k : KeptV) (n0 j0 : Nat) : Prop where
  outer : W.ownsRow base TT 1 (.slice k.A k.es.length k.c) k.es.length (fHdr.all (k.es.map (·.1)))
  of : W.ownsRow base TI 1 (.slice k.OA k.es.length k.oc) k.es.length (fInt.all (k.es.map (·.2)))
  ent : ∀ e ∈ k.es, W.ownsRow base T f.sz (.slice e.1.1 e.1.2.1 e.1.2.2) e.1.2.1 (f.all (List.replicate e.1.2.1 (mk e.2)))
  n0le : n0 ≤ k.es.length
  later : ∀ i j (hi : i < k.es.length) (hj : j < k.es.length), j0 ≤ j → j < n0 → i ≠ j → blkOf k.es[j] = none ∨ blkOf k.es[i] ≠ blkOf k.es[j]
  short : ∀ i (hi : i < k.es.length), k.es[i].1.2.1 ≤ 60032 ∧ (j0 ≤ i → i < n0 → k.es[i].1.2.1 ≤ 60000)
theorem KeptOk.growB {α : Type} {f : Flat α} {T TT TI : TypeId} {mk : Int → α} {base : Nat} {W : World} {k : KeptV} (h : KeptOk f T TT TI mk base W k) : GrowB f T TT TI mk base W k k.es.length k.at' :=
  ⟨h.outer, h.of, h.ent, Nat.le_refl _, fun i j hi hj h1 _ h3 => h.apart i j hi hj h1 h3, fun i hi => ⟨(h.short i hi).1, fun h1 _ => (h.short i hi).2 h1⟩⟩
theorem GrowB.kept {α : Type} {f : Flat α} {T TT TI : TypeId} {mk : Int → α} {base : Nat} {W : World} {k : KeptV} {n0 j0 : Nat} (h : GrowB f T TT TI mk base W k n0 j0) (hf : k.es.length ≤ 6 * k.t) :
    KeptOk f T TT TI mk base W { k with at' := k.es.length } :=
  ⟨h.outer, h.of, h.ent, Nat.le_refl _, fun _ j _ hj h1 _ => absurd hj (Nat.not_lt_of_le h1), by show k.es.length + 5 * (k.es.length - k.es.length) ≤ 6 * k.t; omega, fun i hi => ⟨(h.short i hi).1, fun h1 => absurd hi (Nat.not_lt_of_le h1)⟩⟩
theorem GrowB.start {α : Type} {f : Flat α} {T TT TI : TypeId} {mk : Int → α} {base : Nat} {W : World} {k : KeptV} {n0 j0 : Nat} (h : GrowB f T TT TI mk base W k n0 j0) (hj : j0 < n0) (hl : j0 < k.es.length) :
    GrowI f T TT TI mk base W k n0 j0 k.es[j0].1.1 k.es[j0].1.2.1 k.es[j0].1.2.2 k.es[j0].2 where
  outer := h.outer
  of := h.of
  ent := h.ent
  g := h.ent _ (List.getElem_mem hl)
  n0le := h.n0le
  later := fun i j hi hj' h1 h2 h3 => h.later i j hi hj' (by omega) h2 h3
  laterG := fun j hj' h1 h2 => h.later j0 j hl hj' (by omega) h2 (by omega)
  same := by
    intro e he hb
    obtain ⟨i, hi, rfl⟩ := List.getElem_of_mem he
    by_cases hij : i = j0
    · subst hij; exact Nat.le_refl _
    · rcases h.later i j0 hi hl (Nat.le_refl _) hj hij with h0 | h0
      · have hb' : blkOf k.es[i] = none := hb.trans h0
        rcases (h.ent _ he).2 with ⟨_, e0⟩ | ⟨g, cap, cur, e0, _⟩
        · omega
        · injection e0 with e1
          rw [blkOf, e1] at hb'
          cases hb'
      · exact absurd hb h0
  short := fun i hi => ⟨(h.short i hi).1, fun h1 h2 => (h.short i hi).2 (by omega) h2⟩
theorem GrowI.next {α : Type} {f : Flat α} {T TT TI : TypeId} {mk : Int → α} {base : Nat} {W : World} {k : KeptV} {n0 j0 : Nat} {gA : Option Addr} {gn gc : Nat} {m : Int} (h : GrowI f T TT TI mk base W k n0 j0 gA gn gc m) :
    GrowB f T TT TI mk base W k n0 (j0 + 1) :=
  ⟨h.outer, h.of, h.ent, h.n0le, fun i j hi hj h1 h2 h3 => h.later i j hi hj (by omega) h2 h3, fun i hi => ⟨(h.short i hi).1, fun h1 h2 => (h.short i hi).2 (by omega) h2⟩⟩
/-- g is kept too. -/
theorem GrowI.push {α : Type} {f : Flat α} {T TT TI TB : TypeId} {mk : Int → α} {base B g1 c1 g2 c2 : Nat} {W W' : World} {k : KeptV} {n0 j0 : Nat} {gA : Option Addr} {gn gc : Nat} {m : Int} {cs : Array Value}
    (h : GrowI f T TT TI mk base W k n0 j0 gA gn gc m) (hB : Blk W B TB cs) (d2 : TT ≠ T) (d3 : TI ≠ T) (m1 : T ≠ TB) (hn : gn ≤ 60032)
    (F : Fr (fun i => i = B ∨ some i = k.A.map (·.block) ∨ some i = k.OA.map (·.block)) W W')
    (o1 : W'.ownsRow base TT 1 (.slice (some ⟨g1, 0, none⟩) (k.es.length + 1) c1) (k.es.length + 1) (fHdr.all (k.es.map (·.1)) ++ [.slice gA gn gc]))
    (o2 : W'.ownsRow base TI 1 (.slice (some ⟨g2, 0, none⟩) (k.es.length + 1) c2) (k.es.length + 1) (fInt.all (k.es.map (·.2)) ++ [.int .i64 m])) :
    GrowI f T TT TI mk base W' { k.add g1 c1 g2 c2 ((gA, gn, gc), m) with t := k.t } n0 j0 gA gn gc m := by
  have hl : (k.es ++ [(((gA, gn, gc), m) : KEntry)]).length = k.es.length + 1 := by simp
  have keep : ∀ (n' c' : Nat) (A' : Option Addr) (xs : List Value), W.ownsRow base T f.sz (.slice A' n' c') n' xs → W'.ownsRow base T f.sz (.slice A' n' c') n' xs := by
    intro n' c' A' xs ho
    refine own_butv ho F ?_
    rintro a ha (e | e | e)
    · exact own_blkv ho hB m1 a ha e
    · exact opt_blk (fun a' ha' => own_typev ho h.outer d2.symm a a' ha ha') e
    · exact opt_blk (fun a' ha' => own_typev ho h.of d3.symm a a' ha ha') e
  have hle := h.n0le
  refine ⟨?_, ?_, ?_, keep _ _ _ _ h.g, ?_, ?_, ?_, ?_, ?_⟩
  · show W'.ownsRow base TT 1 (.slice (some ⟨g1, 0, none⟩) (k.es ++ [((gA, gn, gc), m)]).length c1) (k.es ++ [((gA, gn, gc), m)]).length (fHdr.all ((k.es ++ [((gA, gn, gc), m)]).map (·.1)))
    rw [hl, List.map_append, List.map_cons, List.map_nil, fHdr.snoc]
    exact o1
  · show W'.ownsRow base TI 1 (.slice (some ⟨g2, 0, none⟩) (k.es ++ [((gA, gn, gc), m)]).length c2) (k.es ++ [((gA, gn, gc), m)]).length (fInt.all ((k.es ++ [((gA, gn, gc), m)]).map (·.2)))
    rw [hl, List.map_append, List.map_cons, List.map_nil, fInt.snoc]
    exact o2
  · intro e he
    rcases List.mem_append.1 he with he | he
    · exact keep _ _ _ _ (h.ent e he)
    · rw [List.mem_singleton] at he
      subst he
      exact keep _ _ _ _ h.g
  · show n0 ≤ (k.es ++ [(((gA, gn, gc), m) : KEntry)]).length
    omega
  · show ∀ i j (hi : i < (k.es ++ [(((gA, gn, gc), m) : KEntry)]).length) (hj : j < (k.es ++ [(((gA, gn, gc), m) : KEntry)]).length), j0 < j → j < n0 → i ≠ j → blkOf (k.es ++ [(((gA, gn, gc), m) : KEntry)])[j] = none ∨ blkOf (k.es ++ [(((gA, gn, gc), m) : KEntry)])[i] ≠ blkOf (k.es ++ [(((gA, gn, gc), m) : KEntry)])[j]
    intro i j hi hj h1 h2 h3
    rw [hl] at hi hj
    have hj' : j < k.es.length := by omega
    rw [List.getElem_append_left hj']
    by_cases hi' : i < k.es.length
    · rw [List.getElem_append_left hi']
      exact h.later i j hi' hj' h1 h2 h3
    · obtain rfl : i = k.es.length := by omega
      rw [List.getElem_concat_length rfl]
      exact h.laterG j hj' h1 h2
  · show ∀ j (hj : j < (k.es ++ [(((gA, gn, gc), m) : KEntry)]).length), j0 < j → j < n0 → blkOf (k.es ++ [(((gA, gn, gc), m) : KEntry)])[j] = none ∨ gA.map (·.block) ≠ blkOf (k.es ++ [(((gA, gn, gc), m) : KEntry)])[j]
    intro j hj h1 h2
    have hj' : j < k.es.length := by omega
    rw [List.getElem_append_left hj']
    exact h.laterG j hj' h1 h2
  · intro e he hb
    rcases List.mem_append.1 he with he | he
    · exact h.same e he hb
    · rw [List.mem_singleton] at he
      subst he
      exact Nat.le_refl _
  · show ∀ i (hi : i < (k.es ++ [(((gA, gn, gc), m) : KEntry)]).length), (k.es ++ [(((gA, gn, gc), m) : KEntry)])[i].1.2.1 ≤ 60032 ∧ (j0 < i → i < n0 → (k.es ++ [(((gA, gn, gc), m) : KEntry)])[i].1.2.1 ≤ 60000)
    intro i hi
    rw [hl] at hi
    by_cases hi' : i < k.es.length
    · rw [List.getElem_append_left hi']
      exact h.short i hi'
    · obtain rfl : i = k.es.length := by omega
      rw [List.getElem_concat_length rfl]
      exact ⟨hn, fun _ h2 => by omega⟩
end Go.Proofs.YtmnajpkmglmipaaGreat

/- The law's book grows its rights: the book beside what grows. -/
namespace Go.Proofs.YtmnajpkmglmipaaGreat
open Go.RowKit

theorem opt_blkB {w : World} {b size n c B : Nat} {A : Option Addr} {T T' : TypeId} {xs : List Value} {cs : Array Value} (h : w.ownsRow b T size (.slice A n c) n xs) (h' : Blk w B T' cs) (hT : T ≠ T') : ¬ some B = A.map (·.block) := by
  intro e
  cases A with
  | none => cases e
  | some a => exact own_blkv h h' hT a rfl (by simpa using e.symm)
/-- The book, but for its rights: the rights' lists are k's. -/
structure RestR (W : World) (base B : Nat) (b : BookV) (k : KeptV) : Prop where
  blk : Blk W B 54 (cellsOf { b with R := k })
  lo : base ≤ B
  L : KeptOk fLine 57 55 3 lineMk base W b.L
  G : KeptOk fGuard 105 81 3 guardMk base W b.G
  S : KeptOk fSet 108 82 3 setMk base W b.S
  dLG : Dif b.L.OA b.G.OA
  dLS : Dif b.L.OA b.S.OA
  dLR : Dif b.L.OA k.OA
  dGS : Dif b.G.OA b.S.OA
  dGR : Dif b.G.OA k.OA
  dSR : Dif b.S.OA k.OA
abbrev GrowIR := GrowI fRight 86 59 3 rightMk
abbrev GrowBR := GrowB fRight 86 59 3 rightMk
theorem BookOk.restR {W : World} {base B : Nat} {b : BookV} (h : BookOk W base B b) : RestR W base B b b.R ∧ GrowBR base W b.R b.R.es.length b.R.at' :=
  ⟨⟨h.blk, h.lo, h.L, h.G, h.S, h.dLG, h.dLS, h.dLR, h.dGS, h.dGR, h.dSR⟩, h.R.growB⟩
theorem RestR.book {W : World} {base B n0 j0 : Nat} {b : BookV} {k : KeptV} (h : RestR W base B b k) (hR : GrowBR base W k n0 j0) (hf : k.es.length ≤ 6 * k.t) (ht : k.t = b.R.t)
    (hr : 8000 * ((b.L.t + b.G.t + b.S.t + b.R.t : Nat) : Int) ≤ b.used ∧ b.used ≤ 16777216)
    (hB : Blk W B 54 (cellsOf { b with R := { k with at' := k.es.length } })) : BookOk W base B { b with R := { k with at' := k.es.length } } where
  blk := hB
  lo := h.lo
  L := h.L
  G := h.G
  S := h.S
  R := hR.kept hf
  dLG := h.dLG
  dLS := h.dLS
  dLR := h.dLR
  dGS := h.dGS
  dGR := h.dGR
  dSR := h.dSR
  room := by
    show 8000 * ((b.L.t + b.G.t + b.S.t + k.t : Nat) : Int) ≤ b.used ∧ b.used ≤ 16777216
    rw [ht]
    exact hr
/-- A list of rights is appended to: the rest stays. -/
theorem RestR.append {w w' : World} {base base' B n c : Nat} {b : BookV} {k : KeptV} {A : Option Addr} {xs : List Value} (h : RestR w base B b k) (o : w.ownsRow base' 86 3 (.slice A n c) n xs)
    (F : Fr (fun i => some i = A.map (·.block)) w w') : RestR w' base B b k := by
  have F' : Fr (fun i => i = B ∨ some i = A.map (·.block)) w w' := F.mono (fun _ _ e => .inr e)
  exact { h with
    blk := h.blk.kept F (fun e => opt_blkB o h.blk (by decide) e)
    L := h.L.far o h.blk (by decide) (by decide) (by decide) (by decide) (by decide) (by decide) F'
    G := h.G.far o h.blk (by decide) (by decide) (by decide) (by decide) (by decide) (by decide) F'
    S := h.S.far o h.blk (by decide) (by decide) (by decide) (by decide) (by decide) (by decide) F' }
end Go.Proofs.YtmnajpkmglmipaaGreat

/- The law's book grows its rights: g is kept. -/
namespace Go.Proofs.YtmnajpkmglmipaaGreat
open Go.RowKit

set_option maxHeartbeats 8000000 in
set_option maxRecDepth 20000 in
/-- g is kept: the rest stays. -/
theorem RestR.push {W W' : World} {base B g1 c1 g2 c2 n0 j0 gn gc : Nat} {b : BookV} {k : KeptV} {gA : Option Addr} {m : Int} (h : RestR W base B b k) (hR : GrowIR base W k n0 j0 gA gn gc m) (hn : gn ≤ 60032)
    (F : Fr (fun i => i = B ∨ some i = k.A.map (·.block) ∨ some i = k.OA.map (·.block)) W W')
    (o1 : W'.ownsRow base 59 1 (.slice (some ⟨g1, 0, none⟩) (k.es.length + 1) c1) (k.es.length + 1) (fHdr.all (k.es.map (·.1)) ++ [.slice gA gn gc]))
    (o2 : W'.ownsRow base 3 1 (.slice (some ⟨g2, 0, none⟩) (k.es.length + 1) c2) (k.es.length + 1) (fInt.all (k.es.map (·.2)) ++ [.int .i64 m]))
    (hg2 : k.OA.map (·.block) = some g2 ∨ W.heap.size ≤ g2)
    (hB : Blk W' B 54 (((cellsOf { b with R := k }).setIfInBounds 27 (.slice (some ⟨g1, 0, none⟩) (k.es.length + 1) c1)).setIfInBounds 28 (.slice (some ⟨g2, 0, none⟩) (k.es.length + 1) c2))) :
    RestR W' base B b { k.add g1 c1 g2 c2 ((gA, gn, gc), m) with t := k.t } ∧ GrowIR base W' { k.add g1 c1 g2 c2 ((gA, gn, gc), m) with t := k.t } n0 j0 gA gn gc m := by
  refine ⟨⟨?_, h.lo, h.L.off hR.outer hR.of h.blk h.dLR (by decide) (by decide) (by decide) (by decide) (by decide) (by decide) (by decide) (by decide) F, h.G.off hR.outer hR.of h.blk h.dGR (by decide) (by decide) (by decide) (by decide) (by decide) (by decide) (by decide) (by decide) F,
    h.S.off hR.outer hR.of h.blk h.dSR (by decide) (by decide) (by decide) (by decide) (by decide) (by decide) (by decide) (by decide) F, h.dLG, h.dLS, h.dLR.new h.L.of hg2, h.dGS, h.dGR.new h.G.of hg2, h.dSR.new h.S.of hg2⟩,
    hR.push h.blk (by decide) (by decide) (by decide) hn F o1 o2⟩
  have e : (k.es ++ [(((gA, gn, gc), m) : KEntry)]).length = k.es.length + 1 := by simp
  have h2 : cellsOf { b with R := { k.add g1 c1 g2 c2 ((gA, gn, gc), m) with t := k.t } } = ((cellsOf { b with R := k }).setIfInBounds 27 (.slice (some ⟨g1, 0, none⟩) (k.es.length + 1) c1)).setIfInBounds 28 (.slice (some ⟨g2, 0, none⟩) (k.es.length + 1) c2) := by
    simp only [cellsOf, kc, KeptV.add, e]
    rfl
  rw [h2]
  exact hB
end Go.Proofs.YtmnajpkmglmipaaGreat

/- The law's book has grown its rights: the end. -/
namespace Go.Proofs.YtmnajpkmglmipaaGreat
open Go.RowKit

theorem KeptOk.wrote {α : Type} {f : Flat α} {T TT TI TB : TypeId} {mk : Int → α} {base B : Nat} {W W' : World} {k : KeptV} {cs : Array Value} (h : KeptOk f T TT TI mk base W k) (hB : Blk W B TB cs) (m1 : T ≠ TB) (m2 : TT ≠ TB) (m3 : TI ≠ TB)
    (F : Fr (fun i => i = B) W W') : KeptOk f T TT TI mk base W' k :=
  h.but F (fun a ha e => own_blkv h.outer hB m2 a ha e) (fun a ha e => own_blkv h.of hB m3 a ha e) (fun x hx a ha e => own_blkv (h.ent x hx) hB m1 a ha e)
theorem GrowB.wrote {α : Type} {f : Flat α} {T TT TI TB : TypeId} {mk : Int → α} {base B n0 j0 : Nat} {W W' : World} {k : KeptV} {cs : Array Value} (h : GrowB f T TT TI mk base W k n0 j0) (hB : Blk W B TB cs) (m1 : T ≠ TB) (m2 : TT ≠ TB) (m3 : TI ≠ TB)
    (F : Fr (fun i => i = B) W W') : GrowB f T TT TI mk base W' k n0 j0 :=
  ⟨own_butv h.outer F (fun a ha e => own_blkv h.outer hB m2 a ha e), own_butv h.of F (fun a ha e => own_blkv h.of hB m3 a ha e), fun x hx => own_butv (h.ent x hx) F (fun a ha e => own_blkv (h.ent x hx) hB m1 a ha e), h.n0le, h.later, h.short⟩
theorem RestR.done {w w' : World} {base B n0 j0 : Nat} {b : BookV} {k : KeptV} (h : RestR w base B b k) (hR : GrowBR base w k n0 j0) (F : Fr (fun i => i = B) w w') (hf : k.es.length ≤ 6 * k.t) (ht : k.t = b.R.t)
    (hr : 8000 * ((b.L.t + b.G.t + b.S.t + b.R.t : Nat) : Int) ≤ b.used ∧ b.used ≤ 16777216)
    (hB : Blk w' B 54 (cellsOf { b with R := { k with at' := k.es.length } })) : BookOk w' base B { b with R := { k with at' := k.es.length } } where
  blk := hB
  lo := h.lo
  L := h.L.wrote h.blk (by decide) (by decide) (by decide) F
  G := h.G.wrote h.blk (by decide) (by decide) (by decide) F
  S := h.S.wrote h.blk (by decide) (by decide) (by decide) F
  R := (hR.wrote h.blk (by decide) (by decide) (by decide) F).kept hf
  dLG := h.dLG
  dLS := h.dLS
  dLR := h.dLR
  dGS := h.dGS
  dGR := h.dGR
  dSR := h.dSR
  room := by
    show 8000 * ((b.L.t + b.G.t + b.S.t + k.t : Nat) : Int) ≤ b.used ∧ b.used ≤ 16777216
    rw [ht]
    exact hr
/-- What is read of the lists of lists. -/
theorem outer_hdr {W : World} {base : Nat} {TT : TypeId} {k : KeptV} (h : W.ownsRow base TT 1 (.slice k.A k.es.length k.c) k.es.length (fHdr.all (k.es.map (·.1)))) (i : Nat) (hi : i < k.es.length) :
    ∃ g, k.A = some ⟨g, 0, none⟩ ∧ W.cell? ⟨g, i, none⟩ = some (.slice k.es[i].1.1 k.es[i].1.2.1 k.es[i].1.2.2) := by
  obtain ⟨g, hg⟩ := own_some h (by omega)
  refine ⟨g, hg, ?_⟩
  rw [hg] at h
  have := own_at fHdr (xs := k.es.map (·.1)) h i 0 (by simpa using hi) (by decide)
  simpa [fHdr] using this
theorem of_num {W : World} {base : Nat} {TI : TypeId} {k : KeptV} (h : W.ownsRow base TI 1 (.slice k.OA k.es.length k.oc) k.es.length (fInt.all (k.es.map (·.2)))) (i : Nat) (hi : i < k.es.length) :
    ∃ g, k.OA = some ⟨g, 0, none⟩ ∧ W.cell? ⟨g, i, none⟩ = some (.int .i64 k.es[i].2) := by
  obtain ⟨g, hg⟩ := own_some h (by omega)
  refine ⟨g, hg, ?_⟩
  rw [hg] at h
  have := own_at fInt (xs := k.es.map (·.2)) h i 0 (by simpa using hi) (by decide)
  simpa [fInt] using this
end Go.Proofs.YtmnajpkmglmipaaGreat
