/- RuleA Own LendP BookA BookB -/
import Derived.Test.YtmnajpkmglmipaaGreatMRuleNeeds04
import Derived.Test.YtmnajpkmglmipaaGreatMRuleNeeds02
/- Contracts of package rule: versions, guards, open settings, free and held rights. -/
namespace Go.Proofs.YtmnajpkmglmipaaGreat
open Go.RowKit

/-- A state's value by its parts. -/
structure StV where
  q : Int
  P : Option Addr
  np : Nat
  cp : Nat
  R : Option Addr
  nr : Nat
  cr : Nat
  L : Option Addr
  nl : Nat
  cl : Nat
  G : Option Addr
  ng : Nat
  cg : Nat
  O : Option Addr
  no : Nat
  co : Nat
abbrev PoolD := Int × (Int × Int) × List HeldD
def kPool : Kd PoolD := .pair (.int .i64) (.pair (.pair (.int .i64) (.int .i64)) (.slice 16 kHeld))
theorem cell_any {w : World} {p : Addr} {v : Value} (h : w.cell? p = some v) (o : Obj) : (w.alloc o).cell? p = some v := ((Gr.refl w).alloc o).cell h
theorem cell_any2 {w : World} {p : Addr} {v : Value} (h : w.cell? p = some v) (o o' : Obj) : ((w.alloc o).alloc o').cell? p = some v := (((Gr.refl w).alloc o).alloc o').cell h
theorem cell_any3 {w : World} {p : Addr} {v : Value} (h : w.cell? p = some v) (o o' o'' : Obj) : (((w.alloc o).alloc o').alloc o'').cell? p = some v := ((((Gr.refl w).alloc o).alloc o').alloc o'').cell h

/-- How often a price has been set. -/
def versionD (xs : List PricedD) (p : Int) : Int := if p < 0 then 1099511627776 else ((xs[p.toNat]?).map (·.2)).getD 1099511627776
set_option maxRecDepth 100000 in
set_option maxHeartbeats 1000000 in
theorem version_c (s : StV) (xs : List PricedD) (hn : s.nr = xs.length) (p : Int) (w : World) (h : Sl fPriced w s.R s.cr xs) :
    Calls Tryz.prog 91 #[.agg #[.int .u64 s.q, .slice s.P s.np s.cp, .slice s.R s.nr s.cr, .slice s.L s.nl s.cl, .slice s.G s.ng s.cg, .slice s.O s.no s.co], .int .i64 p] w fun e w' => e = .returned (.int .i64 (versionD xs p)) ∧ Fr no w w' := by
  have H := hide h
  have hle := h.le
  have htop := h.top
  simp only [maxLen] at htop
  clear h
  by_cases h0 : p < 0
  · rw [show versionD xs p = 1099511627776 by simp [versionD, h0]]
    go_enter Tryz.func91, Tryz.ntmps91
    go_wp2_with fail
    go_ret
    exact ⟨rfl, (Fr.refl no w).alloc _⟩
  · obtain ⟨m, rfl⟩ : ∃ m : Nat, p = m := ⟨p.toNat, by omega⟩
    by_cases h1 : m < xs.length
    · rw [show versionD xs (m : Int) = xs[m].2 by unfold versionD; rw [if_neg h0]; simp [h1]]
      obtain ⟨g, o, hR, hc⟩ := H.out.cells (List.length_pos_iff.1 (by omega))
      have a1 := fun ob => cell_any (show w.cell? ⟨g, o + m * 2 + 1, none⟩ = some (.int .i64 xs[m].2) from hc m h1 1 (by decide)) ob
      have i1 : (m : Int) < s.nr := by omega
      have i0 : (0 : Int) ≤ m := by omega
      clear hc
      go_enter Tryz.func91, Tryz.ntmps91
      go_wp2_with fail
      go_ret
      exact ⟨rfl, (Fr.refl no w).alloc _⟩
    · rw [show versionD xs (m : Int) = 1099511627776 by unfold versionD; rw [if_neg h0]; simp [h1]]
      have i1 : ¬ (m : Int) < s.nr := by omega
      go_enter Tryz.func91, Tryz.ntmps91
      go_wp2_with fail
      go_ret
      exact ⟨rfl, (Fr.refl no w).alloc _⟩
theorem pool_cells {w : World} {A : Option Addr} {c : Nat} {ps : List PoolD} (h : kPool.Row w A c ps) (i : Nat) (hi : i < ps.length) : ∃ g o, A = some ⟨g, o, none⟩ ∧ w.cell? ⟨g, o + i * 4, none⟩ = some (.int .i64 ps[i].1) ∧
    w.cell? ⟨g, o + i * 4 + 1, none⟩ = some (.int .i64 ps[i].2.1.1) ∧ w.cell? ⟨g, o + i * 4 + 2, none⟩ = some (.int .i64 ps[i].2.1.2) ∧ ∃ hA hc, w.cell? ⟨g, o + i * 4 + 3, none⟩ = some (.slice hA ps[i].2.2.length hc) ∧ kHeld.Row w hA hc ps[i].2.2 := by
  obtain ⟨g, o, rfl, ha⟩ := h.2.2.1 (List.length_pos_iff.1 (by omega))
  obtain ⟨cells, ⟨c1, c2, rfl, k1, c3, c4, rfl, ⟨c5, c6, rfl, k5, k6⟩, hA, hc, rfl, hr⟩, hcell⟩ := ha i hi
  obtain rfl : c1 = _ := k1
  obtain rfl : c5 = _ := k5
  obtain rfl : c6 = _ := k6
  exact ⟨g, o, rfl, hcell 0 (by decide), hcell 1 (by decide), hcell 2 (by decide), hA, hc, hcell 3 (by decide), hr⟩
/-- The free rights of a kind. -/
def freeD (ps : List PoolD) (c w : Int) : Int := if c < 0 then 0 else match ps[c.toNat]? with | none => 0 | some p => if w = 0 then p.2.1.1 else if w = 1 then p.2.1.2 else 0
theorem freeD_neg (ps : List PoolD) (c w : Int) (h : c < 0) : freeD ps c w = 0 := by simp [freeD, h]
theorem freeD_far (ps : List PoolD) (m : Nat) (w : Int) (h : ¬ m < ps.length) : freeD ps m w = 0 := by
  unfold freeD
  rw [if_neg (by omega)]
  simp [h]
theorem freeD_at (ps : List PoolD) (m : Nat) (w : Int) (h : m < ps.length) : freeD ps m w = if w = 0 then ps[m].2.1.1 else if w = 1 then ps[m].2.1.2 else 0 := by
  unfold freeD
  rw [if_neg (by omega)]
  simp [h]
set_option maxRecDepth 100000 in
set_option maxHeartbeats 1000000 in
theorem free1_c (s : StV) (ps : List PoolD) (hn : s.np = ps.length) (Bs : Nat) (c wy n : Int) (w : World) (hB : Blk w Bs 77 #[.int .u64 s.q, .slice s.P s.np s.cp, .slice s.R s.nr s.cr, .slice s.L s.nl s.cl, .slice s.G s.ng s.cg, .slice s.O s.no s.co]) (h : kPool.Row w s.P s.cp ps) :
    Calls Tryz.prog 148 #[.agg #[.int .i64 c, .int .i64 wy, .int .i64 n], .pointer (some ⟨Bs, 0, none⟩)] w fun e w' => e = .returned (.int .i64 (freeD ps c wy)) ∧ Fr no w w' := by
  have H := hide h
  have hle := h.1
  have htop := h.2.1
  simp only [maxLen] at htop
  have b1 := fun ob => cell_any (show w.cell? ⟨Bs, 1, none⟩ = some (.slice s.P s.np s.cp) from hB.cell 1) ob
  clear h hB
  by_cases h0 : c < 0
  · rw [freeD_neg ps c wy h0]
    go_enter Tryz.func148, Tryz.ntmps148
    go_wp2_with fail
    go_ret
    exact ⟨rfl, (Fr.refl no w).alloc _⟩
  · obtain ⟨m, rfl⟩ : ∃ m : Nat, c = m := ⟨c.toNat, by omega⟩
    by_cases h1 : m < ps.length
    · rw [freeD_at ps m wy h1]
      obtain ⟨g, o, hP, _, a1, a2, _⟩ := pool_cells H.out m h1
      have a1' := fun ob => cell_any a1 ob
      have a2' := fun ob => cell_any a2 ob
      have i1 : (m : Int) < s.np := by omega
      have i0 : (0 : Int) ≤ m := by omega
      clear a1 a2
      by_cases h2 : wy < 0
      · rw [if_neg (by omega), if_neg (by omega)]
        go_enter Tryz.func148, Tryz.ntmps148
        go_wp2_with fail
        go_ret
        exact ⟨rfl, (Fr.refl no w).alloc _⟩
      · by_cases h3 : 1 < wy
        · rw [if_neg (by omega), if_neg (by omega)]
          go_enter Tryz.func148, Tryz.ntmps148
          go_wp2_with fail
          go_ret
          exact ⟨rfl, (Fr.refl no w).alloc _⟩
        · rcases (show wy = 0 ∨ wy = 1 by omega) with rfl | rfl
          · rw [if_pos rfl]
            go_enter Tryz.func148, Tryz.ntmps148
            go_wp2_with fail
            go_quiet (fail)
            go_wp2_with fail
            go_ret
            exact ⟨rfl, ((Fr.refl no w).alloc _).drewN _⟩
          · rw [if_neg (by omega), if_pos rfl]
            go_enter Tryz.func148, Tryz.ntmps148
            go_wp2_with fail
            go_quiet (fail)
            go_wp2_with fail
            go_ret
            exact ⟨rfl, ((Fr.refl no w).alloc _).drewN _⟩
    · rw [freeD_far ps m wy h1]
      have i1 : ¬ (m : Int) < s.np := by omega
      go_enter Tryz.func148, Tryz.ntmps148
      go_wp2_with fail
      go_ret
      exact ⟨rfl, (Fr.refl no w).alloc _⟩
end Go.Proofs.YtmnajpkmglmipaaGreat

/- Rows that a call owns: slices that read as lists and lie in new memory of their own. -/
namespace Go.Proofs.YtmnajpkmglmipaaGreat
open Go.RowKit

/-- What a call owns is a slice that holds these elements. -/
theorem own_sl {α : Type} (f : Flat α) {w : World} {base : Nat} {T : TypeId} {v : Value} {xs : List α} (h : w.ownsRow base T f.sz v xs.length (f.all xs)) : ∃ A c, v = .slice A xs.length c ∧ Sl f w A c xs := by
  rcases h.2 with ⟨rfl, h0⟩ | ⟨g, cap, cur, rfl, hbg, hg, hnc, hcm, hcs, htake⟩
  · have hx : xs = [] := List.eq_nil_of_length_eq_zero h0
    subst hx
    exact ⟨none, 0, rfl, Nat.le_refl _, Nat.zero_le _, fun e => absurd rfl e, fun _ => rfl⟩
  · refine ⟨some ⟨g, 0, none⟩, cap, rfl, hnc, hcm, fun _ => ⟨g, 0, rfl, fun i hi r hr => ?_⟩, fun e => by cases e⟩
    have h1 := f.all_get xs i r hi hr
    have h2 : r < (f.enc xs[i]).length := by rw [f.len]; exact hr
    rw [List.getElem?_eq_getElem h2] at h1 ⊢
    have := h.cells (g := g) rfl _ _ h1
    rw [Kd.addr_add] at this
    rw [Nat.add_assoc]; exact this
theorem own_but {w w' : World} {S : Nat → Prop} {base size n gi c : Nat} {e : TypeId} {xs : List Value} (h : w.ownsRow base e size (.slice (some ⟨gi, 0, none⟩) n c) n xs) (f : Fr S w w') (hg : ¬ S gi) : w'.ownsRow base e size (.slice (some ⟨gi, 0, none⟩) n c) n xs := by
  refine ⟨h.1, ?_⟩
  rcases h.2 with h | ⟨g', cap, cur, h1, h2, h3, h4⟩
  · exact .inl h
  · obtain ⟨e1, rfl⟩ : gi = g' ∧ c = cap := by simpa using h1
    subst e1
    exact .inr ⟨gi, c, cur, h1, h2, (f.block gi (Array.getElem?_eq_some_iff.1 h3).1 hg).trans h3, h4⟩
theorem own_down {w : World} {base base' size n : Nat} {e : TypeId} {v : Value} {xs : List Value} (h : w.ownsRow base e size v n xs) (hb : base' ≤ base) : w.ownsRow base' e size v n xs := by
  refine ⟨h.1, ?_⟩
  rcases h.2 with h | ⟨g', cap, cur, k1, k2, k3⟩
  · exact .inl h
  · exact .inr ⟨g', cap, cur, k1, Nat.le_trans hb k2, k3⟩
/-- A list in new memory of its own: it lies at the head of a block from base on. -/
structure Om {α : Type} (f : Flat α) (T : TypeId) (base : Nat) (w : World) (A : Option Addr) (c : Nat) (xs : List α) : Prop where
  own : w.ownsRow base T f.sz (.slice A xs.length c) xs.length (f.all xs)
section
variable {α : Type} {f : Flat α} {T : TypeId} {base : Nat} {w w' : World} {A : Option Addr} {c : Nat} {xs : List α}
theorem Om.sl (h : Om f T base w A c xs) : Sl f w A c xs := by
  obtain ⟨A', c', e, hs⟩ := own_sl f h.own
  cases e
  exact hs
theorem Om.keep (h : Om f T base w A c xs) (F : Fr no w w') : Om f T base w' A c xs := ⟨own_kept h.own F⟩
theorem Om.below (h : Om f T base w A c xs) (k : Below w.heap.size w w') : Om f T base w' A c xs := h.keep (Fr.of_below k)
theorem Om.down {b : Nat} (h : Om f T base w A c xs) (hb : b ≤ base) : Om f T b w A c xs := ⟨own_down h.own hb⟩
theorem om_none (f : Flat α) (T : TypeId) (base : Nat) (w : World) : Om f T base w none 0 [] := ⟨World.ownsRow_nil _ _ _ _⟩
theorem Om.put {D : Nat} {l : Option (List Deferred)} (h : Om f T base w A c xs) (hD : w.heap[D]? = some (.deferred l)) (o : Obj) : Om f T base (w.putObj D o) A c xs := by
  refine ⟨h.own.1, ?_⟩
  rcases h.own.2 with e | ⟨g, cap, cur, e, h2, h3, h4⟩
  · exact .inl e
  · refine .inr ⟨g, cap, cur, e, h2, ((Fr.put w D o).block g (Array.getElem?_eq_some_iff.1 h3).1 ?_).trans h3, h4⟩
    rintro rfl
    rw [h3] at hD
    simp at hD
/-- An owned row as a slice's parts. -/
theorem om_of {base : Nat} {v : Value} (h : w.ownsRow base T f.sz v xs.length (f.all xs)) : ∃ A c, v = .slice A xs.length c ∧ Om f T base w A c xs := by
  obtain ⟨A, c, rfl, _⟩ := own_sl f h
  exact ⟨A, c, rfl, ⟨h⟩⟩
end
end Go.Proofs.YtmnajpkmglmipaaGreat

/- Contracts of package tilllaw1's lending of what states owe, and of pools. -/
namespace Go.Proofs.YtmnajpkmglmipaaGreat
open Go.RowKit

/-- The marks behind a list of bools. -/
def oweMarks (m : Nat) : List Bool := (List.range m).map fun (i : Nat) => ((i : Int) % 2 == 0)
theorem oweMarks_succ (m : Nat) : oweMarks m ++ [((m : Int) % 2 == 0)] = oweMarks (m + 1) := by simp [oweMarks, List.range_succ]
theorem oweMarks_len (m : Nat) : (oweMarks m).length = m := by simp [oweMarks]
set_option maxRecDepth 100000 in
set_option maxHeartbeats 1000000 in
theorem lend_owe (A : Option Addr) (c : Nat) (xs : List OweD) (w : World) (h : kOwe.Row w A c xs) (hb : xs.length * 1 ≤ 140737488351232) :
    Calls Tryz.prog 154 #[.slice A xs.length c] w fun e w' => (∃ g, e = .returned (.slice (some ⟨g, 0, none⟩) xs.length (xs.length + 9)) ∧ w.heap.size ≤ g ∧
      w'.ownsRow w.heap.size 4 1 (.slice (some ⟨g, 0, none⟩) (xs.length + 9) (xs.length + 9)) (xs.length + 9) (fOwe.all (xs ++ oweMarks 9))) ∧ Fr no w w' := by
  obtain ⟨i0, hi, hz0, hz1, hz2⟩ := info_parts info_owe
  have H := hide h
  clear h
  go_enter Tryz.func154, Tryz.ntmps154
  have hn9 : Hid (((xs.length : Int) + 9) = ((xs.length + 9 : Nat) : Int)) := hide (by omega)
  go_wp2_with (at_make; refine wpList_make_own _ rfl _ _ 75 rfl w.heap.size 4 i0 (.bool false) 1 Tryz.underlying75 hi hz0 hz1 _ _ _ (xs.length + 9) rfl rfl hn9.out (by rw [hz2]; omega) (by simp only [maxLen]; omega) (Nat.le_refl _) ?_)
  intro w1 own1 grow1
  have F1 : Fr no w w1 := (Fr.of_grown grow1).mono (fun _ _ e => by simp at e)
  have none1 := fun e => (Flat.row_none H.out e)
  go_wp2_with (at_builtin; refine wpList_append_fits_any _ rfl _ _ 75 rfl w.heap.size 4 i0 1 Tryz.underlying75 hi hz1 w.heap.size 0 (xs.length + 9) [] rfl own1 A xs.length c (fOwe.all xs) rfl (fOwe.all_length xs) none1 (rOwe.row (H.out.keep F1)) (fOwe.all_one xs) (by omega) ?_)
  intro w2 own2 grow2
  have F2 : Fr no w w2 := F1.thru (Fr.of_grown grow2) (fun i hi e => by simp at e; omega)
  have O2 := hide (show w2.ownsRow w.heap.size 4 1 (.slice (some ⟨w.heap.size, 0, none⟩) (xs.length + 0) (xs.length + 9)) (xs.length + 0) (fOwe.all (xs ++ oweMarks 0)) from by simpa [oweMarks] using own2)
  clear own1 grow1 own2 grow2 none1 F1
  generalize hg : w.heap.size = g at *
  have hgl : w.heap.size ≤ g := Nat.le_of_eq hg
  have HG := hide hg
  clear hg
  go_wp2_with fail
  go_loopw [3, 4] (fun v i wr => ∃ m : Nat, i = .int .i64 m ∧ m ≤ 9 ∧ v = .slice (some ⟨g, 0, none⟩) (xs.length + m) (xs.length + 9) ∧ wr.ownsRow g 4 1 (.slice (some ⟨g, 0, none⟩) (xs.length + m) (xs.length + 9)) (xs.length + m) (fOwe.all (xs ++ oweMarks m)) ∧ Fr no w wr) (fun _ i _ => 9 - (intOf i).toNat)
  case atStart => exact ⟨0, rfl, by decide, rfl, O2.out, F2⟩
  case round =>
    obtain ⟨m, rfl, hm, rfl, own, F⟩ := hrel
    have hm0 : (0 : Int) ≤ m := by omega
    by_cases hlt : m < 9
    · go_wp2_with (at_builtin; refine wpList_append_fits _ rfl _ _ 75 rfl g 4 i0 1 Tryz.underlying75 hi hz1 g (xs.length + m) (xs.length + 9) _ rfl (own_kept own ((Fr.refl no wr).alloc _)) ⟨wr.heap.size, 0, none⟩ 1 1 [.bool _] rfl rfl (new_cells wr _ _) (fun u hu => by simp at hu; subst hu; rfl) (by omega) ?_)
      intro w3 own3 grow3
      have F3 : Fr no w w3 := (F.alloc _).thru (Fr.of_grown grow3) (fun i hi e => by have := HG.out; simp at e; omega)
      rw [show fOwe.all (xs ++ oweMarks m) ++ [Value.bool ((m : Int) % 2 == 0)] = fOwe.all (xs ++ oweMarks (m + 1)) by rw [← oweMarks_succ, ← List.append_assoc, Flat.all_append _ _ [((m : Int) % 2 == 0)]]; rfl] at own3
      have REL := hide (⟨m + 1, by simp, hlt, rfl, own3, F3⟩ : ∃ k : Nat, Value.int .i64 ((m : Int) + 1) = .int .i64 k ∧ k ≤ 9 ∧ Value.slice (some ⟨g, 0, none⟩) (xs.length + (m + 1)) (xs.length + 9) = .slice (some ⟨g, 0, none⟩) (xs.length + k) (xs.length + 9) ∧ w3.ownsRow g 4 1 (.slice (some ⟨g, 0, none⟩) (xs.length + k) (xs.length + 9)) (xs.length + k) (fOwe.all (xs ++ oweMarks k)) ∧ Fr no w w3)
      clear own3 grow3 F3 own F
      go_wp2_with fail
      exact ⟨REL.out, by simp [intOf]; omega⟩
    · obtain rfl : m = 9 := by omega
      go_wp2_with fail
      go_ret
      exact ⟨⟨g, rfl, hgl, by rw [HG.out]; exact own⟩, F⟩
theorem new_cells' (w : World) (g : Nat) (hg : w.heap.size = g) (cs : List Value) (T : TypeId) : ∀ j u, cs[j]? = some u → (w.alloc (.cells cs.toArray T)).cell? ((⟨g, 0, none⟩ : Addr).add j) = some u := by
  subst hg; exact new_cells w cs T
/-- A pool as its cells say it: the held rights' header alone. -/
abbrev PoolR := Int × (Int × Int) × (Option Addr × Nat × Nat)
def fPoolR : Flat PoolR where
  sz := 4
  enc := fun x => [.int .i64 x.1, .int .i64 x.2.1.1, .int .i64 x.2.1.2, .slice x.2.2.1 x.2.2.2.1 x.2.2.2.2]
  len := fun _ => rfl
  pos := by decide
  one := fun x u hu => by simp at hu; rcases hu with rfl | rfl | rfl | rfl <;> rfl
theorem info_pool : (Tryz.prog.info? 144).map (fun i => (i.zero, i.size, i.bytes)) = some (some (.agg #[.int .i64 0, .int .i64 0, .int .i64 0, .slice none 0 0]), 4, 48) := by kernel_rfl
/-- A lent pool: its held rights lie in a list of their own, with marks behind them; g: where the pools lie. -/
def LentHeld (W : World) (base g : Nat) (r : PoolR) (p : PoolD) : Prop :=
  r.1 = p.1 ∧ r.2.1 = p.2.1 ∧ ∃ gi, gi ≠ g ∧ base ≤ gi ∧ r.2.2 = (some ⟨gi, 0, none⟩, p.2.2.length, p.2.2.length + 9) ∧
    W.ownsRow base 141 2 (.slice (some ⟨gi, 0, none⟩) (p.2.2.length + 9) (p.2.2.length + 9)) (p.2.2.length + 9) (fHeld.all (p.2.2 ++ List.replicate 9 (777, 778)))
theorem LentHeld.kept {W W' : World} {base g : Nat} {r : PoolR} {p : PoolD} (h : LentHeld W base g r p) (f : Fr (fun k => k = g) W W') : LentHeld W' base g r p := by
  obtain ⟨h1, h2, gi, h3, h4, h5, h6⟩ := h
  exact ⟨h1, h2, gi, h3, h4, h5, own_but h6 f h3⟩
theorem LentHeld.base {W : World} {base base' g : Nat} {r : PoolR} {p : PoolD} (h : LentHeld W base g r p) (hb : base' ≤ base) : LentHeld W base' g r p := by
  obtain ⟨h1, h2, gi, h3, h4, h5, h6⟩ := h
  exact ⟨h1, h2, gi, h3, by omega, h5, own_down h6 hb⟩
/-- The pools' raw cells, as far as they are laid. -/
def LentTo (W : World) (base g : Nat) (rs : List PoolR) (ps : List PoolD) (m : Nat) : Prop :=
  rs.length = m ∧ m ≤ ps.length ∧ ∀ i (h : i < rs.length) (h' : i < ps.length), LentHeld W base g rs[i] ps[i]
theorem LentTo.kept {W W' : World} {base g m : Nat} {rs : List PoolR} {ps : List PoolD} (h : LentTo W base g rs ps m) (f : Fr (fun k => k = g) W W') : LentTo W' base g rs ps m :=
  ⟨h.1, h.2.1, fun i hi hi' => (h.2.2 i hi hi').kept f⟩
theorem LentTo.snoc {W : World} {base g m : Nat} {rs : List PoolR} {ps : List PoolD} {r : PoolR} (h : LentTo W base g rs ps m) (hm : m < ps.length) (hr : LentHeld W base g r ps[m]) : LentTo W base g (rs ++ [r]) ps (m + 1) := by
  refine ⟨by simp [h.1], hm, fun i hi hi' => ?_⟩
  by_cases e : i < rs.length
  · rw [List.getElem_append_left e]; exact h.2.2 i e hi'
  · have := h.1
    obtain rfl : i = m := by simp at hi; omega
    rw [List.getElem_append_right (by omega)]
    simp only [h.1, Nat.sub_self, List.getElem_cons_zero]
    exact hr
theorem LentTo.and {W W' : World} {S : Nat → Prop} {base base' g m : Nat} {rs : List PoolR} {ps : List PoolD} (h : LentTo W base g rs ps m) (f : Fr S W W') (hS : ∀ k, base ≤ k → ¬ S k) (hb : base' ≤ base) : LentTo W' base' g rs ps m := by
  refine ⟨h.1, h.2.1, fun i hi hi' => ?_⟩
  obtain ⟨h1, h2, gi, h3, h4, h5, h6⟩ := h.2.2 i hi hi'
  exact ⟨h1, h2, gi, h3, by omega, h5, own_down (own_but h6 f (hS gi h4)) hb⟩
theorem LentTo.upto {W : World} {base g m : Nat} {rs : List PoolR} {ps : List PoolD} (h : LentTo W base g rs ps m) : ∀ r ∈ rs, ∀ a, r.2.2.1 = some a → base ≤ a.block ∧ a.block ≠ g ∧ a.block < W.heap.size := by
  intro r hr a ha
  obtain ⟨i, hi, rfl⟩ := List.getElem_of_mem hr
  obtain ⟨h1, h2, gi, h3, h4, h5, h6⟩ := h.2.2 i hi (by have := h.1; have := h.2.1; omega)
  rw [h5] at ha
  obtain rfl : _ = a := Option.some.inj ha
  exact ⟨h4, h3, (h6.lt gi rfl).2⟩
set_option maxRecDepth 100000 in
set_option maxHeartbeats 1000000 in
theorem lend_pools (A : Option Addr) (c : Nat) (ps : List PoolD) (w : World) (h : kPool.Row w A c ps) (hb : ps.length * 48 ≤ 140737488351232) (hf : ∀ p ∈ ps, p.2.2.length * 16 ≤ 140737488351232) :
    Calls Tryz.prog 152 #[.slice A ps.length c] w fun e w' => (∃ g rs, e = .returned (.slice (some ⟨g, 0, none⟩) ps.length (ps.length + 9)) ∧ w.heap.size ≤ g ∧ LentTo w' w.heap.size g rs ps ps.length ∧
      w'.ownsRow w.heap.size 144 4 (.slice (some ⟨g, 0, none⟩) (ps.length + 9) (ps.length + 9)) (ps.length + 9) (fPoolR.all (rs ++ List.replicate 9 (777, (0, 0), (none, 0, 0))))) ∧ Fr no w w' := by
  obtain ⟨i0, hi, hz0, hz1, hz2⟩ := info_parts info_pool
  have H := hide h
  have HF := hide hf
  clear h hf
  go_enter Tryz.func152, Tryz.ntmps152
  have hn9 : Hid (((ps.length : Int) + 9) = ((ps.length + 9 : Nat) : Int)) := hide (by omega)
  go_wp2_with (at_make; refine wpList_make_own _ rfl _ _ 72 rfl w.heap.size 144 i0 (.agg #[.int .i64 0, .int .i64 0, .int .i64 0, .slice none 0 0]) 4 Tryz.underlying72 hi hz0 hz1 _ _ _ (ps.length + 9) rfl rfl hn9.out (by rw [hz2]; omega) (by simp only [maxLen]; omega) (Nat.le_refl _) ?_)
  intro w1 own1 grow1
  have F1 : Fr no w w1 := (Fr.of_grown grow1).mono (fun _ _ e => by simp at e)
  clear grow1
  generalize hg : w.heap.size = g at *
  have hgl : w.heap.size ≤ g := Nat.le_of_eq hg
  have HG := hide hg
  clear hg
  have hgw : g < w1.heap.size := (own1.lt g rfl).2
  go_wp2_with fail
  go_loopw [3, 4] (fun v i wr => ∃ (m : Nat) (rs : List PoolR), i = .int .i64 m ∧ m ≤ ps.length ∧ v = .slice (some ⟨g, 0, none⟩) m (ps.length + 9) ∧ wr.ownsRow g 144 4 (.slice (some ⟨g, 0, none⟩) m (ps.length + 9)) m (fPoolR.all rs) ∧ LentTo wr g g rs ps m ∧ Fr no w wr ∧ g < wr.heap.size) (fun _ i _ => ps.length - (intOf i).toNat)
  case atStart => exact ⟨0, [], rfl, Nat.zero_le _, rfl, own1, ⟨rfl, Nat.zero_le _, fun i h => absurd h (by simp)⟩, F1, hgw⟩
  case round =>
    obtain ⟨m, rs, rfl, hm, rfl, own, lt, F, hgr⟩ := hrel
    have hm0 : (0 : Int) ≤ m := by omega
    by_cases hlt : m < ps.length
    · obtain ⟨g', o, rfl, a0, a1, a2, hA, hc, a3, hrow⟩ := pool_cells (H.out.keep F) m hlt
      have hfm := HF.out ps[m] (List.getElem_mem _)
      have LT := hide lt
      have a3' := fun ob => cell_any a3 ob
      have HR := hide (fun W (q : Fr no wr W) => hrow.keep q)
      clear lt own1 F1 hrow
      go_wp2_with fail
      have hB : Blk (wr.alloc (.cells #[.int .i64 ps[m].1, .int .i64 ps[m].2.1.1, .int .i64 ps[m].2.1.2, .slice hA ps[m].2.2.length hc] 144)) wr.heap.size 144 #[.int .i64 ps[m].1, .int .i64 ps[m].2.1.1, .int .i64 ps[m].2.1.2, .slice hA ps[m].2.2.length hc] := Blk.new _ _ _
      have hFa : Fr no wr (wr.alloc (.cells #[.int .i64 ps[m].1, .int .i64 ps[m].2.1.1, .int .i64 ps[m].2.1.2, .slice hA ps[m].2.2.length hc] 144)) := (Fr.refl no wr).alloc _
      refine (lend_held hA hc ps[m].2.2 _ (HR.out _ hFa) hfm).mono ?_
      rintro e W1 ⟨⟨gi, rfl, hgi, ogi⟩, Fi⟩
      have hB1 := hB.kept0 Fi
      have FW1 := hFa.trans Fi
      have b0 := hB1.cell 0
      have b1 := hB1.cell 1
      have b2 := hB1.cell 2
      have b3 := hB1.cell 3
      have f3 := hB1.free 3
      have hsz : wr.heap.size < W1.heap.size := hB1.lt
      have HB1 := hide hB1
      have OGI := hide ogi
      have HFI := hide Fi
      have HFW := hide FW1
      clear hB hFa Fi FW1 hB1 ogi a0 a1 a2 a3 a3'
      have FS : Fr (fun k => k = wr.heap.size) wr (W1.setCell ⟨wr.heap.size, 3, none⟩ (.slice (some ⟨gi, 0, none⟩) ps[m].2.2.length (ps[m].2.2.length + 9))) := (HFW.out.mono (fun _ _ e => e.elim)).trans (Fr.setCell _ _ _ _)
      have own2 := own_but own FS (show g ≠ wr.heap.size by omega)
      have OWN2 := hide own2
      have HFS := hide FS
      clear own own2 FS
      go_wp2_with (at_builtin; go_loud (refine wpList_append_fits _ rfl _ _ 72 rfl g 144 i0 4 Tryz.underlying72 hi hz1 g m (ps.length + 9) _ rfl (own_kept OWN2.out ((Fr.refl no _).alloc _)) ⟨W1.heap.size, 0, none⟩ 1 1 [.int .i64 ps[m].1, .int .i64 ps[m].2.1.1, .int .i64 ps[m].2.1.2, .slice (some ⟨gi, 0, none⟩) ps[m].2.2.length (ps[m].2.2.length + 9)] rfl rfl (new_cells' (W1.setCell ⟨wr.heap.size, 3, none⟩ (.slice (some ⟨gi, 0, none⟩) ps[m].2.2.length (ps[m].2.2.length + 9))) W1.heap.size (by simp [World.setCell]) _ _) (fun u hu => by simp at hu; rcases hu with rfl | rfl | rfl | rfl <;> rfl) (by omega) ?_))
      intro w3 own3 grow3
      have F0 : Fr no wr (W1.setCell ⟨wr.heap.size, 3, none⟩ (.slice (some ⟨gi, 0, none⟩) ps[m].2.2.length (ps[m].2.2.length + 9))) := HFS.out.mono (fun i hi e => absurd hi (by omega))
      have G3 := (Fr.of_grown grow3).mono (S' := fun k => k = g) (fun _ _ e => by simpa using e)
      have F3 : Fr (fun k => k = g) wr w3 := ((F0.alloc _).mono (fun _ _ e => e.elim)).trans G3
      have F4 : Fr (fun k => k = g ∨ k = wr.heap.size) W1 w3 := (((Fr.setCell _ _ _ _).alloc _).mono (fun _ _ e => .inr e)).trans (G3.mono (fun _ _ e => .inl e))
      have hgi' : wr.heap.size + 1 ≤ gi := by simpa using hgi
      have ogi := own_down (own_but OGI.out F4 (by omega)) (show g ≤ (wr.alloc (.cells #[.int .i64 ps[m].1, .int .i64 ps[m].2.1.1, .int .i64 ps[m].2.1.2, .slice hA ps[m].2.2.length hc] 144)).heap.size by simp; omega)
      have lt3 := (LT.out.kept F3).snoc (r := (ps[m].1, ps[m].2.1, (some ⟨gi, 0, none⟩, ps[m].2.2.length, ps[m].2.2.length + 9))) hlt ⟨rfl, rfl, gi, by omega, by omega, rfl, ogi⟩
      have F5 : Fr no w w3 := F.thru F3 (fun i hi e => absurd hi (by omega))
      have e3 : fPoolR.all rs ++ [.int .i64 ps[m].1, .int .i64 ps[m].2.1.1, .int .i64 ps[m].2.1.2, .slice (some ⟨gi, 0, none⟩) ps[m].2.2.length (ps[m].2.2.length + 9)] = fPoolR.all (rs ++ [(ps[m].1, ps[m].2.1, (some ⟨gi, 0, none⟩, ps[m].2.2.length, ps[m].2.2.length + 9))]) := by
        rw [Flat.all_append _ _ [_]]; rfl
      rw [e3] at own3
      have hg3 : g < w3.heap.size := Nat.lt_of_lt_of_le hgr F3.size
      have REL := hide (⟨m + 1, _, by simp, hlt, rfl, own3, lt3, F5, hg3⟩ : ∃ (k : Nat) (rs : List PoolR), Value.int .i64 ((m : Int) + 1) = .int .i64 k ∧ k ≤ ps.length ∧ Value.slice (some ⟨g, 0, none⟩) (m + 1) (ps.length + 9) = .slice (some ⟨g, 0, none⟩) k (ps.length + 9) ∧ w3.ownsRow g 144 4 (.slice (some ⟨g, 0, none⟩) k (ps.length + 9)) k (fPoolR.all rs) ∧ LentTo w3 g g rs ps k ∧ Fr no w w3 ∧ g < w3.heap.size)
      clear own3 grow3 F0 G3 F3 F4 ogi lt3 F5 e3 hg3 b0 b1 b2 b3 f3
      go_wp2_with fail
      exact ⟨REL.out, by simp [intOf]; omega⟩
    · obtain rfl : m = ps.length := by omega
      obtain ⟨wo, rfl⟩ : ∃ wo : World, wo = wr := ⟨_, rfl⟩
      have O2 := hide (show wo.ownsRow g 144 4 (.slice (some ⟨g, 0, none⟩) (ps.length + 0) (ps.length + 9)) (ps.length + 0) (fPoolR.all (rs ++ List.replicate 0 (777, (0, 0), (none, 0, 0)))) from by simpa using own)
      have LT := hide lt
      clear own lt own1 F1
      go_wp2_with fail
      go_loopw [3, 6] (fun v i wr => ∃ m : Nat, i = .int .i64 m ∧ m ≤ 9 ∧ v = .slice (some ⟨g, 0, none⟩) (ps.length + m) (ps.length + 9) ∧ wr.ownsRow g 144 4 (.slice (some ⟨g, 0, none⟩) (ps.length + m) (ps.length + 9)) (ps.length + m) (fPoolR.all (rs ++ List.replicate m (777, (0, 0), (none, 0, 0)))) ∧ LentTo wr g g rs ps ps.length ∧ Fr no w wr) (fun _ i _ => 9 - (intOf i).toNat)
      case atStart => exact ⟨0, rfl, by decide, rfl, O2.out, LT.out, F⟩
      case round =>
        obtain ⟨m, rfl, hm, rfl, own, lt, F⟩ := hrel
        by_cases hlt : m < 9
        · have LT := hide lt
          clear lt
          go_wp2_with (at_builtin; refine wpList_append_fits _ rfl _ _ 72 rfl g 144 i0 4 Tryz.underlying72 hi hz1 g (ps.length + m) (ps.length + 9) _ rfl (own_kept own ((Fr.refl no wr).alloc _)) ⟨wr.heap.size, 0, none⟩ 1 1 [.int .i64 777, .int .i64 0, .int .i64 0, .slice none 0 0] rfl rfl (new_cells wr _ _) (fun u hu => by simp at hu; rcases hu with rfl | rfl | rfl <;> rfl) (by omega) ?_)
          intro w3 own3 grow3
          have G3 := (Fr.of_grown grow3).mono (S' := fun k => k = g) (fun _ _ e => by simpa using e)
          have G4 : Fr (fun k => k = g) wr w3 := ((Fr.refl _ wr).alloc _).trans G3
          have lt3 := LT.out.kept G4
          have F3 : Fr no w w3 := F.thru G4 (fun i hi e => absurd hi (by omega))
          rw [show fPoolR.all (rs ++ List.replicate m (777, (0, 0), (none, 0, 0))) ++ [.int .i64 777, .int .i64 0, .int .i64 0, .slice none 0 0] = fPoolR.all (rs ++ List.replicate (m + 1) (777, (0, 0), (none, 0, 0))) by rw [← reps_succ, ← List.append_assoc, Flat.all_append _ _ [_]]; rfl] at own3
          have REL := hide (⟨m + 1, by simp, hlt, rfl, own3, lt3, F3⟩ : ∃ k : Nat, Value.int .i64 ((m : Int) + 1) = .int .i64 k ∧ k ≤ 9 ∧ Value.slice (some ⟨g, 0, none⟩) (ps.length + (m + 1)) (ps.length + 9) = .slice (some ⟨g, 0, none⟩) (ps.length + k) (ps.length + 9) ∧ w3.ownsRow g 144 4 (.slice (some ⟨g, 0, none⟩) (ps.length + k) (ps.length + 9)) (ps.length + k) (fPoolR.all (rs ++ List.replicate k (777, (0, 0), (none, 0, 0)))) ∧ LentTo w3 g g rs ps ps.length ∧ Fr no w w3)
          clear own3 grow3 G3 G4 lt3 F3 own F
          go_wp2_with fail
          exact ⟨REL.out, by simp [intOf]; omega⟩
        · obtain rfl : m = 9 := by omega
          have LT := hide lt
          clear lt
          go_wp2_with fail
          go_ret
          exact ⟨⟨g, rs, rfl, hgl, by rw [HG.out]; exact LT.out, by rw [HG.out]; exact own⟩, F⟩
end Go.Proofs.YtmnajpkmglmipaaGreat

/- The law's book: lists that were handed out, kept with marks written into them. What is kept, and where. -/
namespace Go.Proofs.YtmnajpkmglmipaaGreat
open Go.RowKit

/-- Headers of slices as elements; whole numbers as elements. -/
abbrev Hdr := Option Addr × Nat × Nat
def fHdr : Flat Hdr where
  sz := 1
  enc := fun x => [.slice x.1 x.2.1 x.2.2]
  len := fun _ => rfl
  pos := by decide
  one := fun x u hu => by simp at hu; subst hu; rfl
def fInt : Flat Int where
  sz := 1
  enc := fun x => [.int .i64 x]
  len := fun _ => rfl
  pos := by decide
  one := fun x u hu => by simp at hu; subst hu; rfl
/-- A cell of a row that is owned is written. -/
theorem own_setCell {w : World} {base size g n c : Nat} {T : TypeId} {cells : List Value} (h : w.ownsRow base T size (.slice (some ⟨g, 0, none⟩) n c) n cells) (k : Nat) (v : Value) (hk : k < cells.length) :
    (w.setCell ⟨g, k, none⟩ v).ownsRow base T size (.slice (some ⟨g, 0, none⟩) n c) n (cells.set k v) := by
  refine ⟨by rw [List.length_set]; exact h.1, ?_⟩
  rcases h.2 with ⟨e, _⟩ | ⟨g', cap, cur, e, h2, h3, h4, h5, h6, h7⟩
  · cases e
  · obtain ⟨rfl, rfl⟩ : g = g' ∧ c = cap := by simpa using e
    refine .inr ⟨g, c, cur.setIfInBounds k v, rfl, h2, (Blk.set (T := T) h3 k v : Blk _ _ _ _), h4, h5, by simpa using h6, ?_⟩
    rw [← h7, Array.toList_setIfInBounds, List.take_set]
theorem own_free {w : World} {base size g n c : Nat} {T : TypeId} {cells : List Value} (h : w.ownsRow base T size (.slice (some ⟨g, 0, none⟩) n c) n cells) (k : Nat) : w.frozen? ⟨g, k, none⟩ = false := by
  rcases h.2 with ⟨e, _⟩ | ⟨g', cap, cur, e, h2, h3, _⟩
  · cases e
  · obtain ⟨rfl, rfl⟩ : g = g' ∧ c = cap := by simpa using e
    exact Blk.free (T := T) h3 k
/-- Rows of other types lie in other blocks. -/
theorem own_type {w : World} {b b' size size' g g' n n' c c' : Nat} {T T' : TypeId} {xs ys : List Value} (h : w.ownsRow b T size (.slice (some ⟨g, 0, none⟩) n c) n xs) (h' : w.ownsRow b' T' size' (.slice (some ⟨g', 0, none⟩) n' c') n' ys) (hT : T ≠ T') : g ≠ g' := by
  rintro rfl
  rcases h.2 with ⟨e, _⟩ | ⟨g1, cap, cur, e, h2, h3, _⟩
  · cases e
  · rcases h'.2 with ⟨e', _⟩ | ⟨g2, cap', cur', e', h2', h3', _⟩
    · cases e'
    · obtain ⟨rfl, rfl⟩ : g = g1 ∧ c = cap := by simpa using e
      obtain ⟨rfl, rfl⟩ : g = g2 ∧ c' = cap' := by simpa using e'
      rw [h3] at h3'
      simp at h3'
      exact hT h3'.2
theorem own_blk {w : World} {b size g n c B : Nat} {T T' : TypeId} {xs : List Value} {cs : Array Value} (h : w.ownsRow b T size (.slice (some ⟨g, 0, none⟩) n c) n xs) (h' : Blk w B T' cs) (hT : T ≠ T') : g ≠ B := by
  rintro rfl
  rcases h.2 with ⟨e, _⟩ | ⟨g1, cap, cur, e, h2, h3, _⟩
  · cases e
  · obtain ⟨rfl, rfl⟩ : g = g1 ∧ c = cap := by simpa using e
    unfold Blk at h'
    rw [h3] at h'
    simp at h'
    exact hT h'.2
/-- Element i of a list is changed: its cells. -/
theorem Flat.all_set {α : Type} (f : Flat α) (xs : List α) (i : Nat) (y : α) (hi : i < xs.length) : ∀ j u, j < f.sz → (f.enc y)[j]? = some u → ((f.all (xs.set i y)))[i * f.sz + j]? = some u := by
  intro j u hj hu
  rw [f.all_get (xs.set i y) i j (by simpa using hi) hj]
  simpa using hu
theorem Flat.all_set3 (f : Flat (Int × Int × Int)) (hs : f.sz = 3) (xs : List (Int × Int × Int)) (i : Nat) (y : Int × Int × Int) (u0 u1 u2 : Value) (he : f.enc y = [u0, u1, u2]) (hi : i < xs.length) :
    (((f.all xs).set (i * 3) u0).set (i * 3 + 1) u1).set (i * 3 + 2) u2 = f.all (xs.set i y) := by
  induction xs generalizing i with
  | nil => simp at hi
  | cons x xs ih =>
    cases i with
    | zero =>
      rw [f.all_cons, List.set_cons_zero, f.all_cons, he]
      have := f.len x
      rw [hs] at this
      match h : f.enc x, this with
      | [a, b, c], _ => rfl
    | succ i =>
      rw [f.all_cons, List.set_cons_succ, f.all_cons, ← ih i (by simpa using hi)]
      have := f.len x
      rw [hs] at this
      match h : f.enc x, this with
      | [a, b, c], _ =>
        rw [show (i + 1) * 3 = i * 3 + 1 + 1 + 1 by omega]
        rfl
theorem Flat.all_set2 (f : Flat (Int × Int)) (hs : f.sz = 2) (xs : List (Int × Int)) (i : Nat) (y : Int × Int) (u0 u1 : Value) (he : f.enc y = [u0, u1]) (hi : i < xs.length) :
    ((f.all xs).set (i * 2) u0).set (i * 2 + 1) u1 = f.all (xs.set i y) := by
  induction xs generalizing i with
  | nil => simp at hi
  | cons x xs ih =>
    cases i with
    | zero =>
      rw [f.all_cons, List.set_cons_zero, f.all_cons, he]
      have := f.len x
      rw [hs] at this
      match h : f.enc x, this with
      | [a, b], _ => rfl
    | succ i =>
      rw [f.all_cons, List.set_cons_succ, f.all_cons, ← ih i (by simpa using hi)]
      have := f.len x
      rw [hs] at this
      match h : f.enc x, this with
      | [a, b], _ =>
        rw [show (i + 1) * 2 = i * 2 + 1 + 1 by omega]
        rfl
/-- What is kept: a slice's header, its list's number. -/
abbrev KEntry := Hdr × Int
/-- One kind of lists: where the list of them lies, where their numbers lie, how many have been grown; t: so many were taken. -/
structure KeptV where
  A : Option Addr
  c : Nat
  OA : Option Addr
  oc : Nat
  at' : Nat
  es : List KEntry
  t : Nat
def KeptV.none : KeptV := ⟨Option.none, 0, Option.none, 0, 0, [], 0⟩
/-- The block of a kept list. -/
def blkOf (e : KEntry) : Option Nat := e.1.1.map (·.block)
structure KeptOk {α : Type} (f : Flat α) (T TT TI : TypeId) (mk : Int → α) (base : Nat) (W : World) (k : KeptV) : Prop where
  outer : W.ownsRow base TT 1 (.slice k.A k.es.length k.c) k.es.length (fHdr.all (k.es.map (·.1)))
  of : W.ownsRow base TI 1 (.slice k.OA k.es.length k.oc) k.es.length (fInt.all (k.es.map (·.2)))
  ent : ∀ e ∈ k.es, W.ownsRow base T f.sz (.slice e.1.1 e.1.2.1 e.1.2.2) e.1.2.1 (f.all (List.replicate e.1.2.1 (mk e.2)))
  at_le : k.at' ≤ k.es.length
  apart : ∀ i j (hi : i < k.es.length) (hj : j < k.es.length), k.at' ≤ j → i ≠ j → blkOf k.es[j] = Option.none ∨ blkOf k.es[i] ≠ blkOf k.es[j]
  few : k.es.length + 5 * (k.es.length - k.at') ≤ 6 * k.t
  short : ∀ i (hi : i < k.es.length), k.es[i].1.2.1 ≤ 60032 ∧ (k.at' ≤ i → k.es[i].1.2.1 ≤ 60000)
theorem keptOk_none {α : Type} (f : Flat α) (T TT TI : TypeId) (mk : Int → α) (base : Nat) (W : World) : KeptOk f T TT TI mk base W .none :=
  ⟨World.ownsRow_nil _ _ _ _, World.ownsRow_nil _ _ _ _, fun e he => (by cases he), Nat.le_refl _, fun i j hi => absurd hi (Nat.not_lt_zero _), Nat.zero_le _, fun i hi => absurd hi (Nat.not_lt_zero _)⟩
end Go.Proofs.YtmnajpkmglmipaaGreat

/- The law's book: its cells; tight; marks. -/
namespace Go.Proofs.YtmnajpkmglmipaaGreat
open Go.RowKit

structure BookV where
  L : KeptV
  G : KeptV
  S : KeptV
  R : KeptV
  turn : Int
  done : Int
  used : Int
def kc (k : KeptV) : List Value := [.slice k.A k.es.length k.c, .slice k.OA k.es.length k.oc, .int .i64 k.at']
def kz : List Value := [.slice none 0 0, .slice none 0 0, .int .i64 0]
def cellsOf (b : BookV) : Array Value :=
  (kz ++ kz ++ kz ++ kz ++ kz ++ kz ++ kc b.L ++ kc b.G ++ kc b.S ++ kc b.R ++ kz ++ kz ++ kz ++ kz ++ kz ++ kz ++ kz ++ kz ++ ([.int .i64 b.turn, .int .i64 b.done, .int .i64 b.used] : List Value)).toArray
def lineMk (m : Int) : LineD := (wrap64 (1000 + m), 0)
def guardMk (m : Int) : GuardD := (wrap64 (1000 + m), 0, 0)
def setMk (m : Int) : SetD := (wrap64 (1000 + m), 0, 0)
def rightMk (m : Int) : RightD := (wrap64 (1000 + m), 0, 0)
/-- Not one block. -/
def Dif (x y : Option Addr) : Prop := ∀ a a', x = some a → y = some a' → a.block ≠ a'.block
/-- The book at B. -/
structure BookOk (W : World) (base B : Nat) (b : BookV) : Prop where
  blk : Blk W B 54 (cellsOf b)
  lo : base ≤ B
  L : KeptOk fLine 57 55 3 lineMk base W b.L
  G : KeptOk fGuard 105 81 3 guardMk base W b.G
  S : KeptOk fSet 108 82 3 setMk base W b.S
  R : KeptOk fRight 86 59 3 rightMk base W b.R
  dLG : Dif b.L.OA b.G.OA
  dLS : Dif b.L.OA b.S.OA
  dLR : Dif b.L.OA b.R.OA
  dGS : Dif b.G.OA b.S.OA
  dGR : Dif b.G.OA b.R.OA
  dSR : Dif b.S.OA b.R.OA
  room : 8000 * ((b.L.t + b.G.t + b.S.t + b.R.t : Nat) : Int) ≤ b.used ∧ b.used ≤ 16777216
theorem info_int : (Tryz.prog.info? 3).map (fun i => (i.zero, i.size, i.bytes)) = some (some (.int .i64 0), 1, 8) := by kernel_rfl
theorem info_rightss : (Tryz.prog.info? 59).map (fun i => (i.zero, i.size, i.bytes)) = some (some (.slice none 0 0), 1, 24) := by kernel_rfl
theorem info_liness : (Tryz.prog.info? 55).map (fun i => (i.zero, i.size, i.bytes)) = some (some (.slice none 0 0), 1, 24) := by kernel_rfl
theorem info_guardss : (Tryz.prog.info? 81).map (fun i => (i.zero, i.size, i.bytes)) = some (some (.slice none 0 0), 1, 24) := by kernel_rfl
theorem info_setss : (Tryz.prog.info? 82).map (fun i => (i.zero, i.size, i.bytes)) = some (some (.slice none 0 0), 1, 24) := by kernel_rfl
theorem mark_right (m : Int) (w : World) : Calls Tryz.prog 59 #[.int .i64 m] w fun e w' => e = .returned (.agg #[.int .i64 (wrap64 (1000 + m)), .int .i64 0, .int .i64 0]) ∧ Fr no w w' := by
  go_enter Tryz.func59, Tryz.ntmps59
  go_wp2_with fail
  exact bodyPost_ret (v := .agg #[.int .i64 (wrap64 (1000 + m)), .int .i64 0, .int .i64 0]) (by simp [results, Tryz.results59, go_sem]) rfl ⟨rfl, (Fr.refl no w).alloc _⟩
theorem tight_yes (B : Nat) (u n : Int) (w : World) (h : w.cell? ⟨B, 56, none⟩ = some (.int .i64 u)) (h0 : 0 ≤ u) (h1 : u ≤ 16777216) (h2 : 0 ≤ n) (h3 : n ≤ 4611686018427387904) (hy : 16777216 < u + n) :
    Calls Tryz.prog 60 #[.pointer (some ⟨B, 0, none⟩), .int .i64 n] w fun e w' => e = .returned (.bool true) ∧ w' = w := by
  go_enter Tryz.func60, Tryz.ntmps60
  go_wp2_with fail
  go_ret
  exact ⟨rfl, rfl⟩
theorem tight_no (B : Nat) (u n : Int) (w : World) (h : w.cell? ⟨B, 56, none⟩ = some (.int .i64 u)) (hf : w.frozen? ⟨B, 56, none⟩ = false) (h0 : 0 ≤ u) (h1 : u ≤ 16777216) (h2 : 0 ≤ n) (h3 : n ≤ 4611686018427387904) (hy : ¬ 16777216 < u + n) :
    Calls Tryz.prog 60 #[.pointer (some ⟨B, 0, none⟩), .int .i64 n] w fun e w' => e = .returned (.bool false) ∧ w' = w.setCell ⟨B, 56, none⟩ (.int .i64 (u + n)) := by
  go_enter Tryz.func60, Tryz.ntmps60
  go_wp2_with fail
  go_ret
  exact ⟨rfl, rfl⟩
theorem own_butv {w w' : World} {S : Nat → Prop} {base size n c : Nat} {A : Option Addr} {e : TypeId} {xs : List Value} (h : w.ownsRow base e size (.slice A n c) n xs) (f : Fr S w w') (hS : ∀ a, A = some a → ¬ S a.block) : w'.ownsRow base e size (.slice A n c) n xs := by
  refine ⟨h.1, ?_⟩
  rcases h.2 with h | ⟨g', cap, cur, h1, h2, h3, h4⟩
  · exact .inl h
  · cases h1
    exact .inr ⟨g', c, cur, rfl, h2, (f.block g' (Array.getElem?_eq_some_iff.1 h3).1 (hS _ rfl)).trans h3, h4⟩
theorem own_head {w : World} {base size n c : Nat} {A : Option Addr} {e : TypeId} {xs : List Value} (h : w.ownsRow base e size (.slice A n c) n xs) (a : Addr) (ha : A = some a) : a = ⟨a.block, 0, none⟩ := by
  rcases h.2 with ⟨h, _⟩ | ⟨g', cap, cur, h1, _⟩
  · cases h; cases ha
  · cases h1; cases ha; rfl
theorem KeptOk.but {α : Type} {f : Flat α} {T TT TI : TypeId} {mk : Int → α} {base : Nat} {W W' : World} {k : KeptV} {S : Nat → Prop} (h : KeptOk f T TT TI mk base W k) (F : Fr S W W')
    (h1 : ∀ a, k.A = some a → ¬ S a.block) (h2 : ∀ a, k.OA = some a → ¬ S a.block) (h3 : ∀ e ∈ k.es, ∀ a, e.1.1 = some a → ¬ S a.block) : KeptOk f T TT TI mk base W' k :=
  ⟨own_butv h.outer F h1, own_butv h.of F h2, fun e he => own_butv (h.ent e he) F (h3 e he), h.at_le, h.apart, h.few, h.short⟩
/-- A row's block is none of another type's. -/
theorem own_typev {w : World} {b b' size size' n n' c c' : Nat} {A A' : Option Addr} {T T' : TypeId} {xs ys : List Value} (h : w.ownsRow b T size (.slice A n c) n xs) (h' : w.ownsRow b' T' size' (.slice A' n' c') n' ys) (hT : T ≠ T') : ∀ a a', A = some a → A' = some a' → a.block ≠ a'.block := by
  rintro a a' rfl rfl
  obtain ⟨g, o, s⟩ := a
  obtain ⟨g', o', s'⟩ := a'
  have e := own_head h _ rfl
  have e' := own_head h' _ rfl
  rw [e] at h
  rw [e'] at h'
  exact own_type h h' hT
theorem own_blkv {w : World} {b size n c B : Nat} {A : Option Addr} {T T' : TypeId} {xs : List Value} {cs : Array Value} (h : w.ownsRow b T size (.slice A n c) n xs) (h' : Blk w B T' cs) (hT : T ≠ T') : ∀ a, A = some a → a.block ≠ B := by
  rintro a rfl
  have e := own_head h _ rfl
  rw [e] at h
  exact own_blk h h' hT
/-- A kind's blocks are neither the book's, nor those of rows of other types. -/
theorem KeptOk.far {α : Type} {f : Flat α} {T TT TI T0 TB : TypeId} {mk : Int → α} {base base' size n c B : Nat} {W W' : World} {k : KeptV} {A : Option Addr} {xs : List Value} {cs : Array Value}
    (h : KeptOk f T TT TI mk base W k) (om : W.ownsRow base' T0 size (.slice A n c) n xs) (hB : Blk W B TB cs) (n1 : T ≠ T0) (n2 : TT ≠ T0) (n3 : TI ≠ T0) (m1 : T ≠ TB) (m2 : TT ≠ TB) (m3 : TI ≠ TB)
    (F : Fr (fun k => k = B ∨ some k = A.map (·.block)) W W') : KeptOk f T TT TI mk base W' k := by
  have key : ∀ a : Addr, a.block ≠ B → (∀ a' : Addr, A = some a' → a.block ≠ a'.block) → ¬ (a.block = B ∨ some a.block = A.map (·.block)) := by
    rintro a h1 h2 (h | h)
    · exact h1 h
    · cases hA : A with
      | none => rw [hA] at h; cases h
      | some a' => rw [hA] at h; exact h2 a' hA (by simpa using h)
  exact h.but F (fun a ha => key a (own_blkv h.outer hB m2 a ha) (fun a' ha' => own_typev h.outer om n2 a a' ha ha')) (fun a ha => key a (own_blkv h.of hB m3 a ha) (fun a' ha' => own_typev h.of om n3 a a' ha ha'))
    (fun e he a ha => key a (own_blkv (h.ent e he) hB m1 a ha) (fun a' ha' => own_typev (h.ent e he) om n1 a a' ha ha'))
theorem rep_set {α : Type} (xs : List α) (i : Nat) (y : α) (hi : i < xs.length) : (List.replicate i y ++ xs.drop i).set i y = List.replicate (i + 1) y ++ xs.drop (i + 1) := by
  rw [List.set_append_right _ _ (by simp)]
  simp only [List.length_replicate, Nat.sub_self]
  rw [List.drop_eq_getElem_cons hi, List.set_cons_zero, List.replicate_succ', List.append_assoc]
  rfl
end Go.Proofs.YtmnajpkmglmipaaGreat
