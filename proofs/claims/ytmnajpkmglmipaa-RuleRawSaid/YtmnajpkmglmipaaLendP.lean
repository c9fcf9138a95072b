/- Contracts of package tilllaw1's lending of what states owe, and of pools. -/
import Derived.Test.YtmnajpkmglmipaaRuleA
import Derived.Test.YtmnajpkmglmipaaEq
import Derived.Test.YtmnajpkmglmipaaOwn
namespace Go.Proofs.Ytmnajpkmglmipaa
open Go.RowKit

/-- The marks behind a list of bools. -/
def oweMarks (m : Nat) : List Bool := (List.range m).map fun (i : Nat) => ((i : Int) % 2 == 0)
theorem oweMarks_succ (m : Nat) : oweMarks m ++ [((m : Int) % 2 == 0)] = oweMarks (m + 1) := by simp [oweMarks, List.range_succ]
theorem oweMarks_len (m : Nat) : (oweMarks m).length = m := by simp [oweMarks]
set_option maxRecDepth 100000 in
set_option maxHeartbeats 1000000 in
theorem lend_owe (A : Option Addr) (c : Nat) (xs : List OweD) (w : World) (h : kOwe.Row w A c xs) (hb : xs.length * 1 ≤ 140737488351232) :
    Calls Try.prog 18 #[.slice A xs.length c] w fun e w' => (∃ g, e = .returned (.slice (some ⟨g, 0, none⟩) xs.length (xs.length + 9)) ∧ w.heap.size ≤ g ∧
      w'.ownsRow w.heap.size 4 1 (.slice (some ⟨g, 0, none⟩) (xs.length + 9) (xs.length + 9)) (xs.length + 9) (fOwe.all (xs ++ oweMarks 9))) ∧ Fr no w w' := by
  obtain ⟨i0, hi, hz0, hz1, hz2⟩ := info_parts info_owe
  have H := hide h
  clear h
  go_enter Try.func18, Try.ntmps18
  have hn9 : Hid (((xs.length : Int) + 9) = ((xs.length + 9 : Nat) : Int)) := hide (by omega)
  go_wp2_with (at_make; refine wpList_make_own _ rfl _ _ 30 rfl w.heap.size 4 i0 (.bool false) 1 Try.underlying30 hi hz0 hz1 _ _ _ (xs.length + 9) rfl rfl hn9.out (by rw [hz2]; omega) (by simp only [maxLen]; omega) (Nat.le_refl _) ?_)
  intro w1 own1 grow1
  have F1 : Fr no w w1 := (Fr.of_grown grow1).mono (fun _ _ e => by simp at e)
  have none1 := fun e => (Flat.row_none H.out e)
  go_wp2_with (at_builtin; refine wpList_append_fits_any _ rfl _ _ 30 rfl w.heap.size 4 i0 1 Try.underlying30 hi hz1 w.heap.size 0 (xs.length + 9) [] rfl own1 A xs.length c (fOwe.all xs) rfl (fOwe.all_length xs) none1 (rOwe.row (H.out.keep F1)) (fOwe.all_one xs) (by omega) ?_)
  intro w2 own2 grow2
  have F2 : Fr no w w2 := F1.thru (Fr.of_grown grow2) (fun i hi e => by simp at e; omega)
  have O2 := hide (show w2.ownsRow w.heap.size 4 1 (.slice (some ⟨w.heap.size, 0, none⟩) (xs.length + 0) (xs.length + 9)) (xs.length + 0) (fOwe.all (xs ++ oweMarks 0)) from by simpa [oweMarks] using own2)
  clear own1 grow1 own2 grow2 none1 F1
  generalize hg : w.heap.size = g at *
  have hgl : w.heap.size ≤ g := Nat.le_of_eq hg
  have HG := hide hg
  clear hg
  go_wp2_with fail
  go_loopw [3, 4] (fun v i wr => ∃ m : Nat, i = .int .i64 m ∧ m ≤ 9 ∧ v = .slice (some ⟨g, 0, none⟩) (xs.length + m) (xs.length + 9) ∧ wr.ownsRow g 4 1 (.slice (some ⟨g, 0, none⟩) (xs.length + m) (xs.length + 9)) (xs.length + m) (fOwe.all (xs ++ oweMarks m)) ∧ Fr no w wr) (fun _ i _ => 9 - (intOf i).toNat)
  case atStart => exact ⟨0, rfl, by decide, rfl, O2.out, F2⟩
  case round =>
    obtain ⟨m, rfl, hm, rfl, own, F⟩ := hrel
    have hm0 : (0 : Int) ≤ m := by omega
    by_cases hlt : m < 9
    · go_wp2_with (at_builtin; refine wpList_append_fits _ rfl _ _ 30 rfl g 4 i0 1 Try.underlying30 hi hz1 g (xs.length + m) (xs.length + 9) _ rfl (own_kept own ((Fr.refl no wr).alloc _)) ⟨wr.heap.size, 0, none⟩ 1 1 [.bool _] rfl rfl (new_cells wr _ _) (fun u hu => by simp at hu; subst hu; rfl) (by omega) ?_)
      intro w3 own3 grow3
      have F3 : Fr no w w3 := (F.alloc _).thru (Fr.of_grown grow3) (fun i hi e => by have := HG.out; simp at e; omega)
      rw [show fOwe.all (xs ++ oweMarks m) ++ [Value.bool ((m : Int) % 2 == 0)] = fOwe.all (xs ++ oweMarks (m + 1)) by rw [← oweMarks_succ, ← List.append_assoc, Flat.all_append _ _ [((m : Int) % 2 == 0)]]; rfl] at own3
      have REL := hide (⟨m + 1, by simp, hlt, rfl, own3, F3⟩ : ∃ k : Nat, Value.int .i64 ((m : Int) + 1) = .int .i64 k ∧ k ≤ 9 ∧ Value.slice (some ⟨g, 0, none⟩) (xs.length + (m + 1)) (xs.length + 9) = .slice (some ⟨g, 0, none⟩) (xs.length + k) (xs.length + 9) ∧ w3.ownsRow g 4 1 (.slice (some ⟨g, 0, none⟩) (xs.length + k) (xs.length + 9)) (xs.length + k) (fOwe.all (xs ++ oweMarks k)) ∧ Fr no w w3)
      clear own3 grow3 F3 own F
      go_wp2_with fail
      exact ⟨REL.out, by simp [intOf]; omega⟩
    · obtain rfl : m = 9 := by omega
      go_wp2_with fail
      go_ret
      exact ⟨⟨g, rfl, hgl, by rw [HG.out]; exact own⟩, F⟩
theorem new_cells' (w : World) (g : Nat) (hg : w.heap.size = g) (cs : List Value) (T : TypeId) : ∀ j u, cs[j]? = some u → (w.alloc (.cells cs.toArray T)).cell? ((⟨g, 0, none⟩ : Addr).add j) = some u := by
  subst hg; exact new_cells w cs T
/-- A pool as its cells say it: the held rights' header alone. -/
abbrev PoolR := Int × (Int × Int) × (Option Addr × Nat × Nat)
def fPoolR : Flat PoolR where
  sz := 4
  enc := fun x => [.int .i64 x.1, .int .i64 x.2.1.1, .int .i64 x.2.1.2, .slice x.2.2.1 x.2.2.2.1 x.2.2.2.2]
  len := fun _ => rfl
  pos := by decide
  one := fun x u hu => by simp at hu; rcases hu with rfl | rfl | rfl | rfl <;> rfl
theorem info_pool : (Try.prog.info? 102).map (fun i => (i.zero, i.size, i.bytes)) = some (some (.agg #[.int .i64 0, .int .i64 0, .int .i64 0, .slice none 0 0]), 4, 48) := by kernel_rfl
/-- A lent pool: its held rights lie in a list of their own, with marks behind them; g: where the pools lie. -/
def LentHeld (W : World) (base g : Nat) (r : PoolR) (p : PoolD) : Prop :=
  r.1 = p.1 ∧ r.2.1 = p.2.1 ∧ ∃ gi, gi ≠ g ∧ base ≤ gi ∧ r.2.2 = (some ⟨gi, 0, none⟩, p.2.2.length, p.2.2.length + 9) ∧
    W.ownsRow base 99 2 (.slice (some ⟨gi, 0, none⟩) (p.2.2.length + 9) (p.2.2.length + 9)) (p.2.2.length + 9) (fHeld.all (p.2.2 ++ List.replicate 9 (777, 778)))
theorem LentHeld.kept {W W' : World} {base g : Nat} {r : PoolR} {p : PoolD} (h : LentHeld W base g r p) (f : Fr (fun k => k = g) W W') : LentHeld W' base g r p := by
  obtain ⟨h1, h2, gi, h3, h4, h5, h6⟩ := h
  exact ⟨h1, h2, gi, h3, h4, h5, own_but h6 f h3⟩
theorem LentHeld.base {W : World} {base base' g : Nat} {r : PoolR} {p : PoolD} (h : LentHeld W base g r p) (hb : base' ≤ base) : LentHeld W base' g r p := by
  obtain ⟨h1, h2, gi, h3, h4, h5, h6⟩ := h
  exact ⟨h1, h2, gi, h3, by omega, h5, own_down h6 hb⟩
/-- The pools' raw cells, as far as they are laid. -/
def LentTo (W : World) (base g : Nat) (rs : List PoolR) (ps : List PoolD) (m : Nat) : Prop :=
  rs.length = m ∧ m ≤ ps.length ∧ ∀ i (h : i < rs.length) (h' : i < ps.length), LentHeld W base g rs[i] ps[i]
theorem LentTo.kept {W W' : World} {base g m : Nat} {rs : List PoolR} {ps : List PoolD} (h : LentTo W base g rs ps m) (f : Fr (fun k => k = g) W W') : LentTo W' base g rs ps m :=
  ⟨h.1, h.2.1, fun i hi hi' => (h.2.2 i hi hi').kept f⟩
theorem LentTo.snoc {W : World} {base g m : Nat} {rs : List PoolR} {ps : List PoolD} {r : PoolR} (h : LentTo W base g rs ps m) (hm : m < ps.length) (hr : LentHeld W base g r ps[m]) : LentTo W base g (rs ++ [r]) ps (m + 1) := by
  refine ⟨by simp [h.1], hm, fun i hi hi' => ?_⟩
  by_cases e : i < rs.length
  · rw [List.getElem_append_left e]; exact h.2.2 i e hi'
  · have := h.1
    obtain rfl : i = m := by simp at hi; omega
    rw [List.getElem_append_right (by omega)]
    simp only [h.1, Nat.sub_self, List.getElem_cons_zero]
    exact hr
theorem LentTo.and {W W' : World} {S : Nat → Prop} {base base' g m : Nat} {rs : List PoolR} {ps : List PoolD} (h : LentTo W base g rs ps m) (f : Fr S W W') (hS : ∀ k, base ≤ k → ¬ S k) (hb : base' ≤ base) : LentTo W' base' g rs ps m := by
  refine ⟨h.1, h.2.1, fun i hi hi' => ?_⟩
  obtain ⟨h1, h2, gi, h3, h4, h5, h6⟩ := h.2.2 i hi hi'
  exact ⟨h1, h2, gi, h3, by omega, h5, own_down (own_but h6 f (hS gi h4)) hb⟩
theorem LentTo.upto {W : World} {base g m : Nat} {rs : List PoolR} {ps : List PoolD} (h : LentTo W base g rs ps m) : ∀ r ∈ rs, ∀ a, r.2.2.1 = some a → base ≤ a.block ∧ a.block ≠ g ∧ a.block < W.heap.size := by
  intro r hr a ha
  obtain ⟨i, hi, rfl⟩ := List.getElem_of_mem hr
  obtain ⟨h1, h2, gi, h3, h4, h5, h6⟩ := h.2.2 i hi (by have := h.1; have := h.2.1; omega)
  rw [h5] at ha
  obtain rfl : _ = a := Option.some.inj ha
  exact ⟨h4, h3, (h6.lt gi rfl).2⟩
set_option maxRecDepth 100000 in
set_option maxHeartbeats 1000000 in
theorem lend_pools (A : Option Addr) (c : Nat) (ps : List PoolD) (w : World) (h : kPool.Row w A c ps) (hb : ps.length * 48 ≤ 140737488351232) (hf : ∀ p ∈ ps, p.2.2.length * 16 ≤ 140737488351232) :
    Calls Try.prog 16 #[.slice A ps.length c] w fun e w' => (∃ g rs, e = .returned (.slice (some ⟨g, 0, none⟩) ps.length (ps.length + 9)) ∧ w.heap.size ≤ g ∧ LentTo w' w.heap.size g rs ps ps.length ∧
      w'.ownsRow w.heap.size 102 4 (.slice (some ⟨g, 0, none⟩) (ps.length + 9) (ps.length + 9)) (ps.length + 9) (fPoolR.all (rs ++ List.replicate 9 (777, (0, 0), (none, 0, 0))))) ∧ Fr no w w' := by
  obtain ⟨i0, hi, hz0, hz1, hz2⟩ := info_parts info_pool
  have H := hide h
  have HF := hide hf
  clear h hf
  go_enter Try.func16, Try.ntmps16
  have hn9 : Hid (((ps.length : Int) + 9) = ((ps.length + 9 : Nat) : Int)) := hide (by omega)
  go_wp2_with (at_make; refine wpList_make_own _ rfl _ _ 27 rfl w.heap.size 102 i0 (.agg #[.int .i64 0, .int .i64 0, .int .i64 0, .slice none 0 0]) 4 Try.underlying27 hi hz0 hz1 _ _ _ (ps.length + 9) rfl rfl hn9.out (by rw [hz2]; omega) (by simp only [maxLen]; omega) (Nat.le_refl _) ?_)
  intro w1 own1 grow1
  have F1 : Fr no w w1 := (Fr.of_grown grow1).mono (fun _ _ e => by simp at e)
  clear grow1
  generalize hg : w.heap.size = g at *
  have hgl : w.heap.size ≤ g := Nat.le_of_eq hg
  have HG := hide hg
  clear hg
  have hgw : g < w1.heap.size := (own1.lt g rfl).2
  go_wp2_with fail
  go_loopw [3, 4] (fun v i wr => ∃ (m : Nat) (rs : List PoolR), i = .int .i64 m ∧ m ≤ ps.length ∧ v = .slice (some ⟨g, 0, none⟩) m (ps.length + 9) ∧ wr.ownsRow g 102 4 (.slice (some ⟨g, 0, none⟩) m (ps.length + 9)) m (fPoolR.all rs) ∧ LentTo wr g g rs ps m ∧ Fr no w wr ∧ g < wr.heap.size) (fun _ i _ => ps.length - (intOf i).toNat)
  case atStart => exact ⟨0, [], rfl, Nat.zero_le _, rfl, own1, ⟨rfl, Nat.zero_le _, fun i h => absurd h (by simp)⟩, F1, hgw⟩
  case round =>
    obtain ⟨m, rs, rfl, hm, rfl, own, lt, F, hgr⟩ := hrel
    have hm0 : (0 : Int) ≤ m := by omega
    by_cases hlt : m < ps.length
    · obtain ⟨g', o, rfl, a0, a1, a2, hA, hc, a3, hrow⟩ := pool_cells (H.out.keep F) m hlt
      have hfm := HF.out ps[m] (List.getElem_mem _)
      have LT := hide lt
      have a3' := fun ob => cell_any a3 ob
      have HR := hide (fun W (q : Fr no wr W) => hrow.keep q)
      clear lt own1 F1 hrow
      go_wp2_with fail
      have hB : Blk (wr.alloc (.cells #[.int .i64 ps[m].1, .int .i64 ps[m].2.1.1, .int .i64 ps[m].2.1.2, .slice hA ps[m].2.2.length hc] 102)) wr.heap.size 102 #[.int .i64 ps[m].1, .int .i64 ps[m].2.1.1, .int .i64 ps[m].2.1.2, .slice hA ps[m].2.2.length hc] := Blk.new _ _ _
      have hFa : Fr no wr (wr.alloc (.cells #[.int .i64 ps[m].1, .int .i64 ps[m].2.1.1, .int .i64 ps[m].2.1.2, .slice hA ps[m].2.2.length hc] 102)) := (Fr.refl no wr).alloc _
      refine (lend_held hA hc ps[m].2.2 _ (HR.out _ hFa) hfm).mono ?_
      rintro e W1 ⟨⟨gi, rfl, hgi, ogi⟩, Fi⟩
      have hB1 := hB.kept0 Fi
      have FW1 := hFa.trans Fi
      have b0 := hB1.cell 0
      have b1 := hB1.cell 1
      have b2 := hB1.cell 2
      have b3 := hB1.cell 3
      have f3 := hB1.free 3
      have hsz : wr.heap.size < W1.heap.size := hB1.lt
      have HB1 := hide hB1
      have OGI := hide ogi
      have HFI := hide Fi
      have HFW := hide FW1
      clear hB hFa Fi FW1 hB1 ogi a0 a1 a2 a3 a3'
      have FS : Fr (fun k => k = wr.heap.size) wr (W1.setCell ⟨wr.heap.size, 3, none⟩ (.slice (some ⟨gi, 0, none⟩) ps[m].2.2.length (ps[m].2.2.length + 9))) := (HFW.out.mono (fun _ _ e => e.elim)).trans (Fr.setCell _ _ _ _)
      have own2 := own_but own FS (show g ≠ wr.heap.size by omega)
      have OWN2 := hide own2
      have HFS := hide FS
      clear own own2 FS
      go_wp2_with (at_builtin; go_loud (refine wpList_append_fits _ rfl _ _ 27 rfl g 102 i0 4 Try.underlying27 hi hz1 g m (ps.length + 9) _ rfl (own_kept OWN2.out ((Fr.refl no _).alloc _)) ⟨W1.heap.size, 0, none⟩ 1 1 [.int .i64 ps[m].1, .int .i64 ps[m].2.1.1, .int .i64 ps[m].2.1.2, .slice (some ⟨gi, 0, none⟩) ps[m].2.2.length (ps[m].2.2.length + 9)] rfl rfl (new_cells' (W1.setCell ⟨wr.heap.size, 3, none⟩ (.slice (some ⟨gi, 0, none⟩) ps[m].2.2.length (ps[m].2.2.length + 9))) W1.heap.size (by simp [World.setCell]) _ _) (fun u hu => by simp at hu; rcases hu with rfl | rfl | rfl | rfl <;> rfl) (by omega) ?_))
      intro w3 own3 grow3
      have F0 : Fr no wr (W1.setCell ⟨wr.heap.size, 3, none⟩ (.slice (some ⟨gi, 0, none⟩) ps[m].2.2.length (ps[m].2.2.length + 9))) := HFS.out.mono (fun i hi e => absurd hi (by omega))
      have G3 := (Fr.of_grown grow3).mono (S' := fun k => k = g) (fun _ _ e => by simpa using e)
      have F3 : Fr (fun k => k = g) wr w3 := ((F0.alloc _).mono (fun _ _ e => e.elim)).trans G3
      have F4 : Fr (fun k => k = g ∨ k = wr.heap.size) W1 w3 := (((Fr.setCell _ _ _ _).alloc _).mono (fun _ _ e => .inr e)).trans (G3.mono (fun _ _ e => .inl e))
      have hgi' : wr.heap.size + 1 ≤ gi := by simpa using hgi
      have ogi := own_down (own_but OGI.out F4 (by omega)) (show g ≤ (wr.alloc (.cells #[.int .i64 ps[m].1, .int .i64 ps[m].2.1.1, .int .i64 ps[m].2.1.2, .slice hA ps[m].2.2.length hc] 102)).heap.size by simp; omega)
      have lt3 := (LT.out.kept F3).snoc (r := (ps[m].1, ps[m].2.1, (some ⟨gi, 0, none⟩, ps[m].2.2.length, ps[m].2.2.length + 9))) hlt ⟨rfl, rfl, gi, by omega, by omega, rfl, ogi⟩
      have F5 : Fr no w w3 := F.thru F3 (fun i hi e => absurd hi (by omega))
      have e3 : fPoolR.all rs ++ [.int .i64 ps[m].1, .int .i64 ps[m].2.1.1, .int .i64 ps[m].2.1.2, .slice (some ⟨gi, 0, none⟩) ps[m].2.2.length (ps[m].2.2.length + 9)] = fPoolR.all (rs ++ [(ps[m].1, ps[m].2.1, (some ⟨gi, 0, none⟩, ps[m].2.2.length, ps[m].2.2.length + 9))]) := by
        rw [Flat.all_append _ _ [_]]; rfl
      rw [e3] at own3
      have hg3 : g < w3.heap.size := Nat.lt_of_lt_of_le hgr F3.size
      have REL := hide (⟨m + 1, _, by simp, hlt, rfl, own3, lt3, F5, hg3⟩ : ∃ (k : Nat) (rs : List PoolR), Value.int .i64 ((m : Int) + 1) = .int .i64 k ∧ k ≤ ps.length ∧ Value.slice (some ⟨g, 0, none⟩) (m + 1) (ps.length + 9) = .slice (some ⟨g, 0, none⟩) k (ps.length + 9) ∧ w3.ownsRow g 102 4 (.slice (some ⟨g, 0, none⟩) k (ps.length + 9)) k (fPoolR.all rs) ∧ LentTo w3 g g rs ps k ∧ Fr no w w3 ∧ g < w3.heap.size)
      clear own3 grow3 F0 G3 F3 F4 ogi lt3 F5 e3 hg3 b0 b1 b2 b3 f3
      go_wp2_with fail
      exact ⟨REL.out, by simp [intOf]; omega⟩
    · obtain rfl : m = ps.length := by omega
      obtain ⟨wo, rfl⟩ : ∃ wo : World, wo = wr := ⟨_, rfl⟩
      have O2 := hide (show wo.ownsRow g 102 4 (.slice (some ⟨g, 0, none⟩) (ps.length + 0) (ps.length + 9)) (ps.length + 0) (fPoolR.all (rs ++ List.replicate 0 (777, (0, 0), (none, 0, 0)))) from by simpa using own)
      have LT := hide lt
      clear own lt own1 F1
      go_wp2_with fail
      go_loopw [3, 6] (fun v i wr => ∃ m : Nat, i = .int .i64 m ∧ m ≤ 9 ∧ v = .slice (some ⟨g, 0, none⟩) (ps.length + m) (ps.length + 9) ∧ wr.ownsRow g 102 4 (.slice (some ⟨g, 0, none⟩) (ps.length + m) (ps.length + 9)) (ps.length + m) (fPoolR.all (rs ++ List.replicate m (777, (0, 0), (none, 0, 0)))) ∧ LentTo wr g g rs ps ps.length ∧ Fr no w wr) (fun _ i _ => 9 - (intOf i).toNat)
      case atStart => exact ⟨0, rfl, by decide, rfl, O2.out, LT.out, F⟩
      case round =>
        obtain ⟨m, rfl, hm, rfl, own, lt, F⟩ := hrel
        by_cases hlt : m < 9
        · have LT := hide lt
          clear lt
          go_wp2_with (at_builtin; refine wpList_append_fits _ rfl _ _ 27 rfl g 102 i0 4 Try.underlying27 hi hz1 g (ps.length + m) (ps.length + 9) _ rfl (own_kept own ((Fr.refl no wr).alloc _)) ⟨wr.heap.size, 0, none⟩ 1 1 [.int .i64 777, .int .i64 0, .int .i64 0, .slice none 0 0] rfl rfl (new_cells wr _ _) (fun u hu => by simp at hu; rcases hu with rfl | rfl | rfl <;> rfl) (by omega) ?_)
          intro w3 own3 grow3
          have G3 := (Fr.of_grown grow3).mono (S' := fun k => k = g) (fun _ _ e => by simpa using e)
          have G4 : Fr (fun k => k = g) wr w3 := ((Fr.refl _ wr).alloc _).trans G3
          have lt3 := LT.out.kept G4
          have F3 : Fr no w w3 := F.thru G4 (fun i hi e => absurd hi (by omega))
          rw [show fPoolR.all (rs ++ List.replicate m (777, (0, 0), (none, 0, 0))) ++ [.int .i64 777, .int .i64 0, .int .i64 0, .slice none 0 0] = fPoolR.all (rs ++ List.replicate (m + 1) (777, (0, 0), (none, 0, 0))) by rw [← reps_succ, ← List.append_assoc, Flat.all_append _ _ [_]]; rfl] at own3
          have REL := hide (⟨m + 1, by simp, hlt, rfl, own3, lt3, F3⟩ : ∃ k : Nat, Value.int .i64 ((m : Int) + 1) = .int .i64 k ∧ k ≤ 9 ∧ Value.slice (some ⟨g, 0, none⟩) (ps.length + (m + 1)) (ps.length + 9) = .slice (some ⟨g, 0, none⟩) (ps.length + k) (ps.length + 9) ∧ w3.ownsRow g 102 4 (.slice (some ⟨g, 0, none⟩) (ps.length + k) (ps.length + 9)) (ps.length + k) (fPoolR.all (rs ++ List.replicate k (777, (0, 0), (none, 0, 0)))) ∧ LentTo w3 g g rs ps ps.length ∧ Fr no w w3)
          clear own3 grow3 G3 G4 lt3 F3 own F
          go_wp2_with fail
          exact ⟨REL.out, by simp [intOf]; omega⟩
        · obtain rfl : m = 9 := by omega
          have LT := hide lt
          clear lt
          go_wp2_with fail
          go_ret
          exact ⟨⟨g, rs, rfl, hgl, by rw [HG.out]; exact LT.out, by rw [HG.out]; exact own⟩, F⟩
end Go.Proofs.Ytmnajpkmglmipaa
