/- GrowK_s BookG -/
import Derived.Test.YtmnajpkmglmipaaGreatMRuleNeeds14
import Derived.Outline
/- The law's book grows its sets: printed by gen_grow.py out of the rights' texts. -/
namespace Go.Proofs.YtmnajpkmglmipaaGreat
open Go.RowKit

/-- The book, but for its sets. -/
structure RestS (W : World) (base B : Nat) (b : BookV) (k : KeptV) : Prop where
  blk : Blk W B 54 (cellsOf { b with S := k })
  lo : base ≤ B
  L : KeptOk fLine 57 55 3 lineMk base W b.L
  G : KeptOk fGuard 105 81 3 guardMk base W b.G
  R : KeptOk fRight 86 59 3 rightMk base W b.R
  dLG : Dif b.L.OA b.G.OA
  dLS : Dif b.L.OA k.OA
  dLR : Dif b.L.OA b.R.OA
  dGS : Dif b.G.OA k.OA
  dGR : Dif b.G.OA b.R.OA
  dSR : Dif k.OA b.R.OA
abbrev GrowIS := GrowI fSet 108 82 3 setMk
abbrev GrowBS := GrowB fSet 108 82 3 setMk
theorem BookOk.restS {W : World} {base B : Nat} {b : BookV} (h : BookOk W base B b) : RestS W base B b b.S ∧ GrowBS base W b.S b.S.es.length b.S.at' :=
  ⟨⟨h.blk, h.lo, h.L, h.G, h.R, h.dLG, h.dLS, h.dLR, h.dGS, h.dGR, h.dSR⟩, h.S.growB⟩
theorem RestS.keep {W W' : World} {base B : Nat} {b : BookV} {k : KeptV} (h : RestS W base B b k) (F : Fr no W W') : RestS W' base B b k :=
  { h with blk := h.blk.kept0 F, L := h.L.keep F, G := h.G.keep F, R := h.R.keep F }
theorem RestS.append {w w' : World} {base base' B n c : Nat} {b : BookV} {k : KeptV} {A : Option Addr} {xs : List Value} (h : RestS w base B b k) (o : w.ownsRow base' 108 3 (.slice A n c) n xs)
    (F : Fr (fun i => some i = A.map (·.block)) w w') : RestS w' base B b k := by
  have F' : Fr (fun i => i = B ∨ some i = A.map (·.block)) w w' := F.mono (fun _ _ e => .inr e)
  exact { h with
    blk := h.blk.kept F (fun e => opt_blkB o h.blk (by decide) e)
    L := h.L.far o h.blk (by decide) (by decide) (by decide) (by decide) (by decide) (by decide) F'
    G := h.G.far o h.blk (by decide) (by decide) (by decide) (by decide) (by decide) (by decide) F'
    R := h.R.far o h.blk (by decide) (by decide) (by decide) (by decide) (by decide) (by decide) F' }
theorem push24 (b : BookV) (k : KeptV) (g1 c1 g2 c2 : Nat) (x : KEntry) : cellsOf { b with S := { k.add g1 c1 g2 c2 x with t := k.t } } = ((cellsOf { b with S := k }).setIfInBounds 24 (.slice (some ⟨g1, 0, none⟩) (k.es.length + 1) c1)).setIfInBounds 25 (.slice (some ⟨g2, 0, none⟩) (k.es.length + 1) c2) := by
  unfold cellsOf
  rw [List.setIfInBounds_toArray, List.setIfInBounds_toArray]
  simp only [kz, kc, KeptV.add, List.length_append, List.length_singleton, List.cons_append, List.nil_append, List.set_cons_succ, List.set_cons_zero]
theorem RestS.push {W W' : World} {base B g1 c1 g2 c2 n0 j0 gn gc : Nat} {b : BookV} {k : KeptV} {gA : Option Addr} {m : Int} (h : RestS W base B b k) (hR : GrowIS base W k n0 j0 gA gn gc m) (hn : gn ≤ 60032)
    (F : Fr (fun i => i = B ∨ some i = k.A.map (·.block) ∨ some i = k.OA.map (·.block)) W W')
    (o1 : W'.ownsRow base 82 1 (.slice (some ⟨g1, 0, none⟩) (k.es.length + 1) c1) (k.es.length + 1) (fHdr.all (k.es.map (·.1)) ++ [.slice gA gn gc]))
    (o2 : W'.ownsRow base 3 1 (.slice (some ⟨g2, 0, none⟩) (k.es.length + 1) c2) (k.es.length + 1) (fInt.all (k.es.map (·.2)) ++ [.int .i64 m]))
    (hg2 : k.OA.map (·.block) = some g2 ∨ W.heap.size ≤ g2)
    (hB : Blk W' B 54 (((cellsOf { b with S := k }).setIfInBounds 24 (.slice (some ⟨g1, 0, none⟩) (k.es.length + 1) c1)).setIfInBounds 25 (.slice (some ⟨g2, 0, none⟩) (k.es.length + 1) c2))) :
    RestS W' base B b { k.add g1 c1 g2 c2 ((gA, gn, gc), m) with t := k.t } ∧ GrowIS base W' { k.add g1 c1 g2 c2 ((gA, gn, gc), m) with t := k.t } n0 j0 gA gn gc m :=
  ⟨⟨by rw [push24]; exact hB, h.lo, h.L.off hR.outer hR.of h.blk (h.dLS) (by decide) (by decide) (by decide) (by decide) (by decide) (by decide) (by decide) (by decide) F, h.G.off hR.outer hR.of h.blk (h.dGS) (by decide) (by decide) (by decide) (by decide) (by decide) (by decide) (by decide) (by decide) F, h.R.off hR.outer hR.of h.blk (h.dSR.comm) (by decide) (by decide) (by decide) (by decide) (by decide) (by decide) (by decide) (by decide) F, h.dLG, h.dLS.new h.L.of hg2, h.dLR, h.dGS.new h.G.of hg2, h.dGR, (h.dSR.comm.new h.R.of hg2).comm⟩,
    hR.push h.blk (by decide) (by decide) (by decide) hn F o1 o2⟩
theorem RestS.done {w w' : World} {base B n0 j0 : Nat} {b : BookV} {k : KeptV} (h : RestS w base B b k) (hR : GrowBS base w k n0 j0) (F : Fr (fun i => i = B) w w') (hf : k.es.length ≤ 6 * k.t) (ht : k.t = b.S.t)
    (hr : 8000 * ((b.L.t + b.G.t + b.S.t + b.R.t : Nat) : Int) ≤ b.used ∧ b.used ≤ 16777216)
    (hB : Blk w' B 54 (cellsOf { b with S := { k with at' := k.es.length } })) : BookOk w' base B { b with S := { k with at' := k.es.length } } where
  blk := hB
  lo := h.lo
  L := h.L.wrote h.blk (by decide) (by decide) (by decide) F
  G := h.G.wrote h.blk (by decide) (by decide) (by decide) F
  S := (hR.wrote h.blk (by decide) (by decide) (by decide) F).kept hf
  R := h.R.wrote h.blk (by decide) (by decide) (by decide) F
  dLG := h.dLG
  dLS := h.dLS
  dLR := h.dLR
  dGS := h.dGS
  dGR := h.dGR
  dSR := h.dSR
  room := by
    show 8000 * ((b.L.t + b.G.t + k.t + b.R.t : Nat) : Int) ≤ b.used ∧ b.used ≤ 16777216
    rw [ht]
    exact hr
def SS (b : BookV) (B : Nat) : Nat → Prop := fun k => k = B ∨ some k = b.S.A.map (·.block) ∨ some k = b.S.OA.map (·.block) ∨ ∃ e ∈ b.S.es, some k = blkOf e
/-- Where g lies. -/
def GLiesS (w : World) (b : BookV) (gA : Option Addr) : Prop := ∀ i, i < w.heap.size → some i = gA.map (·.block) → ∃ e ∈ b.S.es, some i = blkOf e
/-- What stands in a round. -/
structure InnerS (w wq : World) (base B : Nat) (b : BookV) (n j : Nat) (k : KeptV) (gA : Option Addr) (gn gc : Nat) (m : Int) : Prop where
  R : RestS wq base B b k
  I : GrowIS base wq k b.S.es.length j gA gn gc m
  len : k.es.length = n
  at' : k.at' = b.S.at'
  t : k.t = b.S.t
  l1 : Lies w b.S.A k.A
  l2 : Lies w b.S.OA k.OA
  tk : k.es.take b.S.es.length = b.S.es
  gl : GLiesS w b gA
  el : ∀ e ∈ k.es, GLiesS w b e.1.1
  F : Fr (SS b B) w wq
section
variable {w wq w' : World} {base B : Nat} {b : BookV} {n j : Nat} {k : KeptV} {gA : Option Addr} {gn gc : Nat} {m : Int}
theorem InnerS.keep (h : InnerS w wq base B b n j k gA gn gc m) (F : Fr no wq w') : InnerS w w' base B b n j k gA gn gc m :=
  { h with R := h.R.keep F, I := h.I.keep F, F := h.F.trans0 F }
theorem InnerS.append {g' gc' : Nat} (h : InnerS w wq base B b n j k gA gn gc m) (ho : w'.ownsRow base 108 3 (.slice (some ⟨g', 0, none⟩) (gn + 1) gc') (gn + 1) (fSet.all (List.replicate gn (setMk m)) ++ fSet.enc (setMk m)))
    (hg : wq.grownBy w' (Value.slice gA gn gc).ownBlock) (hat : Value.slice gA gn gc = .slice (some ⟨g', 0, none⟩) gn gc' ∨ (wq.heap.size ≤ g' ∧ wq.grownBy w' none)) :
    InnerS w w' base B b n j k (some ⟨g', 0, none⟩) (gn + 1) gc' m := by
  have F1 := Fr.of_grown hg
  rw [own_opt] at F1
  have hs := h.F.size
  exact { h with
    R := h.R.append h.I.g F1
    I := h.I.append (by decide) (by decide) ho hg hat
    gl := by
      intro i hi e
      rcases hat with hat | ⟨h3, _⟩
      · cases hat
        exact h.gl i hi e
      · have e' : i = g' := by simpa using e
        omega
    F := h.F.thru F1 (fun i hi e => .inr (.inr (.inr (h.gl i hi e)))) }
theorem InnerS.push {g1 c1 g2 c2 : Nat} (h : InnerS w wq base B b n j k gA gn gc m) (hn : gn ≤ 60032)
    (F : Fr (fun i => i = B ∨ some i = k.A.map (·.block) ∨ some i = k.OA.map (·.block)) wq w')
    (o1 : w'.ownsRow base 82 1 (.slice (some ⟨g1, 0, none⟩) (k.es.length + 1) c1) (k.es.length + 1) (fHdr.all (k.es.map (·.1)) ++ [.slice gA gn gc]))
    (o2 : w'.ownsRow base 3 1 (.slice (some ⟨g2, 0, none⟩) (k.es.length + 1) c2) (k.es.length + 1) (fInt.all (k.es.map (·.2)) ++ [.int .i64 m]))
    (hg1 : k.A.map (·.block) = some g1 ∨ wq.heap.size ≤ g1) (hg2 : k.OA.map (·.block) = some g2 ∨ wq.heap.size ≤ g2)
    (hB : Blk w' B 54 (((cellsOf { b with S := k }).setIfInBounds 24 (.slice (some ⟨g1, 0, none⟩) (k.es.length + 1) c1)).setIfInBounds 25 (.slice (some ⟨g2, 0, none⟩) (k.es.length + 1) c2))) :
    InnerS w w' base B b (n + 1) j { k.add g1 c1 g2 c2 ((gA, gn, gc), m) with t := k.t } gA gn gc m := by
  obtain ⟨R', I'⟩ := h.R.push h.I hn F o1 o2 hg2 hB
  have hs := h.F.size
  refine ⟨R', I', ?_, h.at', h.t, lies_new h.l1 hs hg1, lies_new h.l2 hs hg2, ?_, h.gl, ?_, h.F.thru F ?_⟩
  · show (k.es ++ [(((gA, gn, gc), m) : KEntry)]).length = n + 1
    rw [List.length_append, h.len]; rfl
  · show (k.es ++ [(((gA, gn, gc), m) : KEntry)]).take b.S.es.length = b.S.es
    rw [List.take_append_of_le_length h.I.n0le]; exact h.tk
  · intro e he
    rcases List.mem_append.1 (show e ∈ k.es ++ [(((gA, gn, gc), m) : KEntry)] from he) with he | he
    · exact h.el e he
    · rw [List.mem_singleton.1 he]; exact h.gl
  · intro i hi e
    rcases e with e | e | e
    · exact .inl e
    · exact .inr (.inl (lies_in h.l1 hi e))
    · exact .inr (.inr (.inl (lies_in h.l2 hi e)))
end
set_option maxRecDepth 100000 in
set_option maxHeartbeats 16000000 in
theorem grow_sets (w : World) (base B : Nat) (b : BookV) (hbk : BookOk w base B b) :
    Calls Tryz.prog 123 #[.pointer (some ⟨B, 0, none⟩)] w fun e w' => e = .returned (.tuple #[]) ∧
      (∃ k, BookOk w' base B { b with S := k } ∧ (∀ e ∈ k.es, GLiesS w b e.1.1) ∧ Lies w b.S.A k.A ∧ Lies w b.S.OA k.OA) ∧ Fr (SS b B) w w' := by
  obtain ⟨i0, hi0, hz0, hz1, hz2⟩ := info_parts info_set
  obtain ⟨i1, hi1', ha0, ha1, ha2⟩ := info_parts info_setss
  obtain ⟨i2, hi2, hb0, hb1, hb2⟩ := info_parts info_int
  have k27 : w.cell? ⟨B, 24, none⟩ = some (.slice b.S.A b.S.es.length b.S.c) := (hbk.blk.cell 24).trans (c24 _)
  have k29 : w.cell? ⟨B, 26, none⟩ = some (.int .i64 b.S.at') := (hbk.blk.cell 26).trans (c26 _)
  have hfew := hbk.S.few
  have hat := hbk.S.at_le
  have hroom := hbk.room
  have hsm : b.S.es.length ≤ 12582 := by omega
  obtain ⟨h1, h2⟩ := hbk.restS
  have HR := hide h1
  have HG := hide h2
  have HB := hide hbk
  clear h1 h2 hbk
  go_enter Tryz.func123, Tryz.ntmps123
  go_wp2_with fail
  go_loopw [3] (fun i wr => ∃ (j : Nat) (k : KeptV), i = .int .i64 j ∧ b.S.at' ≤ j ∧ j ≤ b.S.es.length ∧ RestS wr base B b k ∧ GrowBS base wr k b.S.es.length j ∧ k.es.length = b.S.es.length + 5 * (j - b.S.at') ∧ k.at' = b.S.at' ∧ k.t = b.S.t ∧ Lies w b.S.A k.A ∧ Lies w b.S.OA k.OA ∧ k.es.take b.S.es.length = b.S.es ∧ (∀ e ∈ k.es, GLiesS w b e.1.1) ∧ Fr (SS b B) w wr) (fun i _ => b.S.es.length - (intOf i).toNat)
  case atStart => exact ⟨b.S.at', b.S, rfl, Nat.le_refl _, hat, HR.out, HG.out, by omega, rfl, rfl, .inl rfl, .inl rfl, List.take_length, fun e he i hi h => ⟨e, he, h⟩, Fr.refl _ w⟩
  case round =>
    obtain ⟨j, k, rfl, h1, h2, R, G, hlen, hka, hkt, l1, l2, htk, hel, F⟩ := hrel
    by_cases hlt : j < b.S.es.length
    · have hl : j < k.es.length := by omega
      have I0 := G.start hlt hl
      obtain ⟨gK, eK, kK⟩ := outer_hdr G.outer j hl
      obtain ⟨gO, eO, kO⟩ := of_num G.of j hl
      have k27 : wr.cell? ⟨B, 24, none⟩ = some (.slice (some ⟨gK, 0, none⟩) k.es.length k.c) := by rw [← eK]; exact (R.blk.cell 24).trans (c24 _)
      have k28 : wr.cell? ⟨B, 25, none⟩ = some (.slice (some ⟨gO, 0, none⟩) k.es.length k.oc) := by rw [← eO]; exact (R.blk.cell 25).trans (c25 _)
      have hnn := (G.short j hl).2 (Nat.le_refl _) hlt
      have hbe : blkOf k.es[j] = none ∨ ∃ e ∈ b.S.es, blkOf k.es[j] = blkOf e := .inr ⟨k.es[j], by
        rw [← htk]
        exact List.mem_take_iff_getElem.2 ⟨j, by omega, rfl⟩, rfl⟩
      obtain ⟨x, hx⟩ : ∃ x, k.es[j] = x := ⟨_, rfl⟩
      obtain ⟨⟨nA, nn, nc⟩, nm⟩ := x
      rw [hx] at I0 kK kO hnn hbe
      have hi1 : (j : Int) < k.es.length := by omega
      have hkl : k.es.length ≤ 75492 := by omega
      have hle := I0.n0le
      have gl0 : GLiesS w b nA := by
        intro i hi e
        rcases hbe with h | ⟨x, h1, h2⟩
        · rw [blkOf] at h
          rw [h] at e
          cases e
        · exact ⟨x, h1, e.trans h2⟩
      have IN : Hid (InnerS w wr base B b k.es.length j k nA nn nc nm) := hide ⟨R, I0, rfl, hka, hkt, l1, l2, htk, gl0, hel, F⟩
      have HX := hide hlen
      clear I0 R G F hlen hka hkt l1 l2 htk hbe hx gl0 hel
      go_wp2_with fail
      go_loopw [4, 6] (fun g i wq => ∃ (p n : Nat) (k' : KeptV) (gA : Option Addr) (gn gc : Nat), g = .slice gA gn gc ∧ i = .int .i64 ((p : Int) + 1) ∧ p ≤ 32 ∧ gn = nn + p ∧ n = k.es.length + (min p 3 + p / 16) ∧ InnerS w wq base B b n j k' gA gn gc nm) (fun _ i _ => 33 - (intOf i).toNat)
      case atStart => exact ⟨0, _, k, nA, nn, nc, rfl, rfl, by omega, by omega, by omega, IN.out⟩
      case round =>
        obtain ⟨p, n, k', gA, gn, gc, rfl, rfl, hp, hgn, hn, Q⟩ := hrel
        by_cases hp32 : p < 32
        · have hkn := Q.len
          have hkl' : k'.es.length ≤ 80000 := by omega
          have hgl : gn ≤ 60032 := by omega
          have HQ := hide Q
          have HKN := hide (And.intro hkn (And.intro hgn hn))
          clear Q hkn hgn hn
          go_wp2_with fail
          refine (mark_set nm _).mono ?_
          rintro e W2 ⟨rfl, F2⟩
          obtain ⟨mk, hmk⟩ : ∃ mk, mk = wrap64 (1000 + nm) := ⟨_, rfl⟩
          rw [← hmk]
          have HK : Hid (fSet.enc (setMk nm) = [.int .i64 mk, .int .i64 0, .int .i64 0]) := hide (by rw [hmk]; rfl)
          have Q2 := hide (HQ.out.keep F2)
          have hwB : base ≤ W2.heap.size := Nat.le_trans Q2.out.R.lo (Nat.le_of_lt Q2.out.R.blk.lt)
          clear hmk F2 HQ
          go_wp2_with (at_builtin; (refine wpList_append_at _ rfl _ _ 82 rfl base 108 i0 (.agg #[.int .i64 0, .int .i64 0, .int .i64 0]) 3 24 Tryz.underlying82 hi0 hz0 hz1 hz2 rfl (by decide) _ gn (fSet.all (List.replicate gn (setMk nm))) rfl (own_kept Q2.out.I.g ((Fr.refl no _).alloc _)) ⟨W2.heap.size, 0, none⟩ 1 [.int .i64 mk, .int .i64 0, .int .i64 0] rfl rfl (new_cells' W2 _ rfl [.int .i64 mk, .int .i64 0, .int .i64 0] _) (fun u hu => by simp at hu; rcases hu with rfl | rfl <;> rfl) (by simp only [maxLen]; omega) (by omega) (by simp; omega) ?_))
          intro g1 c1 w3 own3 grow3 at3
          have Q3 : Hid (InnerS w w3 base B b n j k' (some ⟨g1, 0, none⟩) (gn + 1) c1 nm) := hide ((Q2.out.keep ((Fr.refl no _).alloc _)).append (by rw [HK.out]; exact own3) grow3 (by rcases at3 with ⟨h1, h2⟩ | h; exact .inl (by rw [h1, h2]); exact .inr ⟨by simpa using h.1, h.2⟩))
          have hw3 : base ≤ w3.heap.size := Nat.le_trans Q3.out.R.lo (Nat.le_of_lt Q3.out.R.blk.lt)
          clear own3 grow3 at3 Q2 hwB
          by_cases hc : p + 1 < 4 ∨ (p + 1) % 16 = 0
          · have HC := hide hc
            have hcc : ((p : Int) + 1 < 4) ∨ (¬ ((p : Int) + 1 < 4) ∧ ((p : Int) + 1) % 16 = 0) := by omega
            have k27 : w3.cell? ⟨B, 24, none⟩ = some (.slice k'.A k'.es.length k'.c) := (Q3.out.R.blk.cell 24).trans (c24 _)
            have notB : ∀ a, k'.A = some a → a.block ≠ B := own_blkv Q3.out.I.outer Q3.out.R.blk (by decide)
            have HNB := hide notB
            clear hc notB
            rcases hcc with hcc | ⟨hcc, hcd⟩
            all_goals
              go_wp2_with (at_builtin; (refine wpList_append_new _ rfl _ _ 43 rfl base 82 i1 (.slice none 0 0) 1 24 Tryz.underlying43 hi1' ha0 ha1 ha2 rfl (by decide) _ k'.es.length (fHdr.all (k'.es.map (·.1))) rfl (own_kept Q3.out.I.outer ((Fr.refl no _).alloc _)) ⟨w3.heap.size, 0, none⟩ 1 [.slice (some ⟨g1, 0, none⟩) (gn + 1) c1] rfl rfl (new_cells' w3 _ rfl [.slice (some ⟨g1, 0, none⟩) (gn + 1) c1] _) (fun u hu => by simp at hu; subst hu; rfl) (by simp only [maxLen]; omega) (by omega) (by simp; omega) ?_))
              intro g2 c2 w4 own4 grow4 new4
              have nB : ∀ (X : Option Addr), (∀ a, X = some a → a.block ≠ B) → ¬ (some B = X.map (·.block)) := by
                intro X h e
                cases X with
                | none => cases e
                | some a => exact h a rfl (by simpa using e.symm)
              have B4 : Blk w4 B 54 (cellsOf { b with S := k' }) := (Q3.out.R.blk.alloc _).kept (Fr.of_grown grow4) (fun e => nB _ HNB.out (by rw [own_opt] at e; exact e))
              have G4 : Fr (fun i => some i = k'.A.map (·.block)) w3 w4 := ((Fr.refl _ w3).alloc _).trans ((Fr.of_grown grow4).mono (fun i _ e => by rw [own_opt] at e; exact e))
              have F4 : Fr (fun i => i = B ∨ some i = k'.A.map (·.block)) w3 (w4.setCell ⟨B, 24, none⟩ (.slice (some ⟨g2, 0, none⟩) (k'.es.length + 1) c2)) := (G4.mono (fun i _ e => .inr e)).trans ((Fr.setCell _ _ _ _).mono (fun i _ e => .inl e))
              have B5 := B4.set 24 (.slice (some ⟨g2, 0, none⟩) (k'.es.length + 1) c2)
              have o5 := own_butv own4 (Fr.setCell w4 B 24 (.slice (some ⟨g2, 0, none⟩) (k'.es.length + 1) c2)) (fun a ha => own_blkv own4 B4 (by decide) a ha)
              have of5 := own_butv Q3.out.I.of F4 (by
                rintro a ha (e | e)
                · exact own_blkv Q3.out.I.of Q3.out.R.blk (by decide) a ha e
                · exact opt_blk (fun a' ha' => own_typev Q3.out.I.of Q3.out.I.outer (by decide) a a' ha ha') e)
              have k28 : w4.cell? ⟨B, 25, none⟩ = some (.slice k'.OA k'.es.length k'.oc) := (B4.cell 25).trans (c25 _)
              have k27 : w4.cell? ⟨B, 24, none⟩ = some (.slice k'.A k'.es.length k'.c) := (B4.cell 24).trans (c24 _)
              have f27 := B4.free 24
              have hg2 : k'.A.map (·.block) = some g2 ∨ w3.heap.size ≤ g2 := by
                rcases newAt_opt new4 with h | h
                · exact .inl h
                · simp at h; exact .inr (by omega)
              have H4 := hide F4
              have H5 := hide B5
              have HO5 := hide o5
              have HOF := hide of5
              have HnB := hide nB
              have HG2 := hide hg2
              clear own4 grow4 new4 B4 G4 F4 B5 o5 of5 nB hg2
              go_wp2_with (at_builtin; (refine wpList_append_new _ rfl _ _ 36 rfl base 3 i2 (.int .i64 0) 1 8 Tryz.underlying36 hi2 hb0 hb1 hb2 rfl (by decide) _ k'.es.length (fInt.all (k'.es.map (·.2))) rfl (own_kept HOF.out ((Fr.refl no _).alloc _)) ⟨w4.heap.size, 0, none⟩ 1 [.int .i64 nm] rfl rfl (new_cells' (w4.setCell ⟨B, 24, none⟩ (.slice (some ⟨g2, 0, none⟩) (k'.es.length + 1) c2)) _ (by simp) [.int .i64 nm] _) (fun u hu => by simp at hu; subst hu; rfl) (by simp only [maxLen]; omega) (by omega) (by have := H4.out.size; simp at this ⊢; omega) ?_))
              intro g3 c3 w5 own5 grow5 new5
              have NB2 := HnB.out k'.OA (own_blkv Q3.out.I.of Q3.out.R.blk (by decide))
              have B6 := (H5.out.alloc _).kept (Fr.of_grown grow5) (fun e => NB2 (by rw [own_opt] at e; exact e))
              have G5 : Fr (fun i => some i = k'.OA.map (·.block)) (w4.setCell ⟨B, 24, none⟩ (.slice (some ⟨g2, 0, none⟩) (k'.es.length + 1) c2)) w5 := ((Fr.refl _ _).alloc _).trans ((Fr.of_grown grow5).mono (fun i _ e => by rw [own_opt] at e; exact e))
              have F5 : Fr (fun i => i = B ∨ some i = k'.A.map (·.block) ∨ some i = k'.OA.map (·.block)) w3 (w5.setCell ⟨B, 25, none⟩ (.slice (some ⟨g3, 0, none⟩) (k'.es.length + 1) c3)) :=
                ((H4.out.mono (fun i _ e => by rcases e with e | e; exact .inl e; exact .inr (.inl e))).trans (G5.mono (fun i _ e => .inr (.inr e)))).trans ((Fr.setCell _ _ _ _).mono (fun i _ e => .inl e))
              have o6 := own_butv HO5.out G5 (fun a ha => opt_blk (fun a' ha' => own_typev HO5.out HOF.out (by decide) a a' ha ha'))
              have f28 := B6.free 25
              have B7 := B6.set 25 (.slice (some ⟨g3, 0, none⟩) (k'.es.length + 1) c3)
              have o7 := own_butv o6 (Fr.setCell w5 B 25 (.slice (some ⟨g3, 0, none⟩) (k'.es.length + 1) c3)) (fun a ha => own_blkv o6 B6 (by decide) a ha)
              have p7 := own_butv own5 (Fr.setCell w5 B 25 (.slice (some ⟨g3, 0, none⟩) (k'.es.length + 1) c3)) (fun a ha => own_blkv own5 B6 (by decide) a ha)
              have hg3 : k'.OA.map (·.block) = some g3 ∨ w3.heap.size ≤ g3 := by
                rcases newAt_opt new5 with h | h
                · exact .inl h
                · have := H4.out.size
                  simp at this h
                  exact .inr (by omega)
              have k28' : w5.cell? ⟨B, 25, none⟩ = some (.slice k'.OA k'.es.length k'.oc) := by rw [B6.cell 25, Array.getElem?_setIfInBounds_ne (by decide)]; exact c25 _
              have END := hide (Q3.out.push (by have := HKN.out; omega) F5 o7 p7 HG2.out hg3 B7)
              clear F5 o6 o7 p7 hg3 B6 B7 own5 grow5 new5 G5 NB2 Q3 H4 H5 HO5 HOF
              go_wp2_with fail
              have hx := HKN.out
              have hy := HC.out
              exact ⟨⟨p + 1, n + 1, _, _, gn + 1, c1, rfl, by simp, by omega, by omega, by omega, END.out⟩, by simp [intOf]; omega⟩
          · have hc1 : ¬ ((p : Int) + 1 < 4) := by omega
            have hc2 : ¬ (((p : Int) + 1) % 16 = 0) := by omega
            go_wp2_with fail
            have hx := HKN.out
            exact ⟨⟨p + 1, n, k', _, gn + 1, c1, rfl, by simp, by omega, by omega, by omega, Q3.out⟩, by simp [intOf]; omega⟩
        · obtain rfl : p = 32 := by omega
          have HQ := hide Q
          clear Q
          go_wp2_with fail
          have q := HQ.out
          have hk2 := HX.out
          exact ⟨⟨j + 1, k', by simp, by omega, by omega, q.R, q.I.next, by have := q.len; omega, q.at', q.t, q.l1, q.l2, q.tk, q.el, q.F⟩, by simp [intOf]; omega⟩
    · obtain rfl : j = b.S.es.length := by omega
      have k27 : wr.cell? ⟨B, 24, none⟩ = some (.slice k.A k.es.length k.c) := (R.blk.cell 24).trans (c24 _)
      have k29 : wr.cell? ⟨B, 26, none⟩ = some (.int .i64 k.at') := (R.blk.cell 26).trans (c26 _)
      have f29 := R.blk.free 26
      have B1 : Blk (wr.setCell ⟨B, 26, none⟩ (.int .i64 k.es.length)) B 54 (cellsOf { b with S := { k with at' := k.es.length } }) := by have := R.blk.set 26 (.int .i64 k.es.length); rw [set26] at this; exact this
      have END := hide (And.intro B1 (And.intro R (And.intro G F)))
      have HL := hide hlen
      have HEL := hide (And.intro hel (And.intro l1 l2))
      clear B1 R G F hlen hel l1 l2
      go_wp2_with fail
      exact bodyPost_end (results_none rfl _ _ _) rfl ⟨rfl, ⟨_, RestS.done END.out.2.1 END.out.2.2.1 (Fr.setCell _ _ _ _) (by have := HL.out; omega) hkt hroom END.out.1, HEL.out.1, HEL.out.2.1, HEL.out.2.2⟩, END.out.2.2.2.trans ((Fr.setCell _ _ _ _).mono (fun k _ e => .inl e))⟩
end Go.Proofs.YtmnajpkmglmipaaGreat

/- The law's book grows its rights. -/
namespace Go.Proofs.YtmnajpkmglmipaaGreat
open Go.RowKit

set_option maxRecDepth 100000 in
set_option maxHeartbeats 16000000 in
theorem grow_rights (w : World) (base B : Nat) (b : BookV) (hbk : BookOk w base B b) :
    Calls Tryz.prog 124 #[.pointer (some ⟨B, 0, none⟩)] w fun e w' => e = .returned (.tuple #[]) ∧
      (∃ k, BookOk w' base B { b with R := k } ∧ (∀ e ∈ k.es, GLies w b e.1.1) ∧ Lies w b.R.A k.A ∧ Lies w b.R.OA k.OA) ∧ Fr (SR b B) w w' := by
  obtain ⟨i0, hi0, hz0, hz1, hz2⟩ := info_parts info_right
  obtain ⟨i1, hi1', ha0, ha1, ha2⟩ := info_parts info_rightss
  obtain ⟨i2, hi2, hb0, hb1, hb2⟩ := info_parts info_int
  have k27 : w.cell? ⟨B, 27, none⟩ = some (.slice b.R.A b.R.es.length b.R.c) := (hbk.blk.cell 27).trans (c27 _)
  have k29 : w.cell? ⟨B, 29, none⟩ = some (.int .i64 b.R.at') := (hbk.blk.cell 29).trans (c29 _)
  have hfew := hbk.R.few
  have hat := hbk.R.at_le
  have hroom := hbk.room
  have hsm : b.R.es.length ≤ 12582 := by omega
  obtain ⟨h1, h2⟩ := hbk.restR
  have HR := hide h1
  have HG := hide h2
  have HB := hide hbk
  clear h1 h2 hbk
  go_enter Tryz.func124, Tryz.ntmps124
  go_wp2_with fail
  go_loopw [3] (fun i wr => ∃ (j : Nat) (k : KeptV), i = .int .i64 j ∧ b.R.at' ≤ j ∧ j ≤ b.R.es.length ∧ RestR wr base B b k ∧ GrowBR base wr k b.R.es.length j ∧ k.es.length = b.R.es.length + 5 * (j - b.R.at') ∧ k.at' = b.R.at' ∧ k.t = b.R.t ∧ Lies w b.R.A k.A ∧ Lies w b.R.OA k.OA ∧ k.es.take b.R.es.length = b.R.es ∧ (∀ e ∈ k.es, GLies w b e.1.1) ∧ Fr (SR b B) w wr) (fun i _ => b.R.es.length - (intOf i).toNat)
  case atStart => exact ⟨b.R.at', b.R, rfl, Nat.le_refl _, hat, HR.out, HG.out, by omega, rfl, rfl, .inl rfl, .inl rfl, List.take_length, fun e he i hi h => ⟨e, he, h⟩, Fr.refl _ w⟩
  case round =>
    obtain ⟨j, k, rfl, h1, h2, R, G, hlen, hka, hkt, l1, l2, htk, hel, F⟩ := hrel
    by_cases hlt : j < b.R.es.length
    · have hl : j < k.es.length := by omega
      have I0 := G.start hlt hl
      obtain ⟨gK, eK, kK⟩ := outer_hdr G.outer j hl
      obtain ⟨gO, eO, kO⟩ := of_num G.of j hl
      have k27 : wr.cell? ⟨B, 27, none⟩ = some (.slice (some ⟨gK, 0, none⟩) k.es.length k.c) := by rw [← eK]; exact (R.blk.cell 27).trans (c27 _)
      have k28 : wr.cell? ⟨B, 28, none⟩ = some (.slice (some ⟨gO, 0, none⟩) k.es.length k.oc) := by rw [← eO]; exact (R.blk.cell 28).trans (c28 _)
      have hnn := (G.short j hl).2 (Nat.le_refl _) hlt
      have hbe : blkOf k.es[j] = none ∨ ∃ e ∈ b.R.es, blkOf k.es[j] = blkOf e := .inr ⟨k.es[j], by
        rw [← htk]
        exact List.mem_take_iff_getElem.2 ⟨j, by omega, rfl⟩, rfl⟩
      obtain ⟨x, hx⟩ : ∃ x, k.es[j] = x := ⟨_, rfl⟩
      obtain ⟨⟨nA, nn, nc⟩, nm⟩ := x
      rw [hx] at I0 kK kO hnn hbe
      have hi1 : (j : Int) < k.es.length := by omega
      have hkl : k.es.length ≤ 75492 := by omega
      have hle := I0.n0le
      have gl0 : GLies w b nA := by
        intro i hi e
        rcases hbe with h | ⟨x, h1, h2⟩
        · rw [blkOf] at h
          rw [h] at e
          cases e
        · exact ⟨x, h1, e.trans h2⟩
      have IN : Hid (InnerR w wr base B b k.es.length j k nA nn nc nm) := hide ⟨R, I0, rfl, hka, hkt, l1, l2, htk, gl0, hel, F⟩
      have HX := hide hlen
      clear I0 R G F hlen hka hkt l1 l2 htk hbe hx gl0 hel
      go_wp2_with fail
      go_loopw [4, 6] (fun g i wq => ∃ (p n : Nat) (k' : KeptV) (gA : Option Addr) (gn gc : Nat), g = .slice gA gn gc ∧ i = .int .i64 ((p : Int) + 1) ∧ p ≤ 32 ∧ gn = nn + p ∧ n = k.es.length + (min p 3 + p / 16) ∧ InnerR w wq base B b n j k' gA gn gc nm) (fun _ i _ => 33 - (intOf i).toNat)
      case atStart => exact ⟨0, _, k, nA, nn, nc, rfl, rfl, by omega, by omega, by omega, IN.out⟩
      case round =>
        obtain ⟨p, n, k', gA, gn, gc, rfl, rfl, hp, hgn, hn, Q⟩ := hrel
        by_cases hp32 : p < 32
        · have hkn := Q.len
          have hkl' : k'.es.length ≤ 80000 := by omega
          have hgl : gn ≤ 60032 := by omega
          have HQ := hide Q
          have HKN := hide (And.intro hkn (And.intro hgn hn))
          clear Q hkn hgn hn
          go_wp2_with fail
          refine (mark_right nm _).mono ?_
          rintro e W2 ⟨rfl, F2⟩
          obtain ⟨mk, hmk⟩ : ∃ mk, mk = wrap64 (1000 + nm) := ⟨_, rfl⟩
          rw [← hmk]
          have HK : Hid (fRight.enc (rightMk nm) = [.int .i64 mk, .int .i64 0, .int .i64 0]) := hide (by rw [hmk]; rfl)
          have Q2 := hide (HQ.out.keep F2)
          have hwB : base ≤ W2.heap.size := Nat.le_trans Q2.out.R.lo (Nat.le_of_lt Q2.out.R.blk.lt)
          clear hmk F2 HQ
          go_wp2_with (at_builtin; (refine wpList_append_at _ rfl _ _ 59 rfl base 86 i0 (.agg #[.int .i64 0, .int .i64 0, .int .i64 0]) 3 24 Tryz.underlying59 hi0 hz0 hz1 hz2 rfl (by decide) _ gn (fRight.all (List.replicate gn (rightMk nm))) rfl (own_kept Q2.out.I.g ((Fr.refl no _).alloc _)) ⟨W2.heap.size, 0, none⟩ 1 [.int .i64 mk, .int .i64 0, .int .i64 0] rfl rfl (new_cells' W2 _ rfl [.int .i64 mk, .int .i64 0, .int .i64 0] _) (fun u hu => by simp at hu; rcases hu with rfl | rfl <;> rfl) (by simp only [maxLen]; omega) (by omega) (by simp; omega) ?_))
          intro g1 c1 w3 own3 grow3 at3
          have Q3 : Hid (InnerR w w3 base B b n j k' (some ⟨g1, 0, none⟩) (gn + 1) c1 nm) := hide ((Q2.out.keep ((Fr.refl no _).alloc _)).append (by rw [HK.out]; exact own3) grow3 (by rcases at3 with ⟨h1, h2⟩ | h; exact .inl (by rw [h1, h2]); exact .inr ⟨by simpa using h.1, h.2⟩))
          have hw3 : base ≤ w3.heap.size := Nat.le_trans Q3.out.R.lo (Nat.le_of_lt Q3.out.R.blk.lt)
          clear own3 grow3 at3 Q2 hwB
          by_cases hc : p + 1 < 4 ∨ (p + 1) % 16 = 0
          · have HC := hide hc
            have hcc : ((p : Int) + 1 < 4) ∨ (¬ ((p : Int) + 1 < 4) ∧ ((p : Int) + 1) % 16 = 0) := by omega
            have k27 : w3.cell? ⟨B, 27, none⟩ = some (.slice k'.A k'.es.length k'.c) := (Q3.out.R.blk.cell 27).trans (c27 _)
            have notB : ∀ a, k'.A = some a → a.block ≠ B := own_blkv Q3.out.I.outer Q3.out.R.blk (by decide)
            have HNB := hide notB
            clear hc notB
            rcases hcc with hcc | ⟨hcc, hcd⟩
            all_goals
              go_wp2_with (at_builtin; (refine wpList_append_new _ rfl _ _ 44 rfl base 59 i1 (.slice none 0 0) 1 24 Tryz.underlying44 hi1' ha0 ha1 ha2 rfl (by decide) _ k'.es.length (fHdr.all (k'.es.map (·.1))) rfl (own_kept Q3.out.I.outer ((Fr.refl no _).alloc _)) ⟨w3.heap.size, 0, none⟩ 1 [.slice (some ⟨g1, 0, none⟩) (gn + 1) c1] rfl rfl (new_cells' w3 _ rfl [.slice (some ⟨g1, 0, none⟩) (gn + 1) c1] _) (fun u hu => by simp at hu; subst hu; rfl) (by simp only [maxLen]; omega) (by omega) (by simp; omega) ?_))
              intro g2 c2 w4 own4 grow4 new4
              have nB : ∀ (X : Option Addr), (∀ a, X = some a → a.block ≠ B) → ¬ (some B = X.map (·.block)) := by
                intro X h e
                cases X with
                | none => cases e
                | some a => exact h a rfl (by simpa using e.symm)
              have B4 : Blk w4 B 54 (cellsOf { b with R := k' }) := (Q3.out.R.blk.alloc _).kept (Fr.of_grown grow4) (fun e => nB _ HNB.out (by rw [own_opt] at e; exact e))
              have G4 : Fr (fun i => some i = k'.A.map (·.block)) w3 w4 := ((Fr.refl _ w3).alloc _).trans ((Fr.of_grown grow4).mono (fun i _ e => by rw [own_opt] at e; exact e))
              have F4 : Fr (fun i => i = B ∨ some i = k'.A.map (·.block)) w3 (w4.setCell ⟨B, 27, none⟩ (.slice (some ⟨g2, 0, none⟩) (k'.es.length + 1) c2)) := (G4.mono (fun i _ e => .inr e)).trans ((Fr.setCell _ _ _ _).mono (fun i _ e => .inl e))
              have B5 := B4.set 27 (.slice (some ⟨g2, 0, none⟩) (k'.es.length + 1) c2)
              have o5 := own_butv own4 (Fr.setCell w4 B 27 (.slice (some ⟨g2, 0, none⟩) (k'.es.length + 1) c2)) (fun a ha => own_blkv own4 B4 (by decide) a ha)
              have of5 := own_butv Q3.out.I.of F4 (by
                rintro a ha (e | e)
                · exact own_blkv Q3.out.I.of Q3.out.R.blk (by decide) a ha e
                · exact opt_blk (fun a' ha' => own_typev Q3.out.I.of Q3.out.I.outer (by decide) a a' ha ha') e)
              have k28 : w4.cell? ⟨B, 28, none⟩ = some (.slice k'.OA k'.es.length k'.oc) := (B4.cell 28).trans (c28 _)
              have k27 : w4.cell? ⟨B, 27, none⟩ = some (.slice k'.A k'.es.length k'.c) := (B4.cell 27).trans (c27 _)
              have f27 := B4.free 27
              have hg2 : k'.A.map (·.block) = some g2 ∨ w3.heap.size ≤ g2 := by
                rcases newAt_opt new4 with h | h
                · exact .inl h
                · simp at h; exact .inr (by omega)
              have H4 := hide F4
              have H5 := hide B5
              have HO5 := hide o5
              have HOF := hide of5
              have HnB := hide nB
              have HG2 := hide hg2
              clear own4 grow4 new4 B4 G4 F4 B5 o5 of5 nB hg2
              go_wp2_with (at_builtin; (refine wpList_append_new _ rfl _ _ 36 rfl base 3 i2 (.int .i64 0) 1 8 Tryz.underlying36 hi2 hb0 hb1 hb2 rfl (by decide) _ k'.es.length (fInt.all (k'.es.map (·.2))) rfl (own_kept HOF.out ((Fr.refl no _).alloc _)) ⟨w4.heap.size, 0, none⟩ 1 [.int .i64 nm] rfl rfl (new_cells' (w4.setCell ⟨B, 27, none⟩ (.slice (some ⟨g2, 0, none⟩) (k'.es.length + 1) c2)) _ (by simp) [.int .i64 nm] _) (fun u hu => by simp at hu; subst hu; rfl) (by simp only [maxLen]; omega) (by omega) (by have := H4.out.size; simp at this ⊢; omega) ?_))
              intro g3 c3 w5 own5 grow5 new5
              have NB2 := HnB.out k'.OA (own_blkv Q3.out.I.of Q3.out.R.blk (by decide))
              have B6 := (H5.out.alloc _).kept (Fr.of_grown grow5) (fun e => NB2 (by rw [own_opt] at e; exact e))
              have G5 : Fr (fun i => some i = k'.OA.map (·.block)) (w4.setCell ⟨B, 27, none⟩ (.slice (some ⟨g2, 0, none⟩) (k'.es.length + 1) c2)) w5 := ((Fr.refl _ _).alloc _).trans ((Fr.of_grown grow5).mono (fun i _ e => by rw [own_opt] at e; exact e))
              have F5 : Fr (fun i => i = B ∨ some i = k'.A.map (·.block) ∨ some i = k'.OA.map (·.block)) w3 (w5.setCell ⟨B, 28, none⟩ (.slice (some ⟨g3, 0, none⟩) (k'.es.length + 1) c3)) :=
                ((H4.out.mono (fun i _ e => by rcases e with e | e; exact .inl e; exact .inr (.inl e))).trans (G5.mono (fun i _ e => .inr (.inr e)))).trans ((Fr.setCell _ _ _ _).mono (fun i _ e => .inl e))
              have o6 := own_butv HO5.out G5 (fun a ha => opt_blk (fun a' ha' => own_typev HO5.out HOF.out (by decide) a a' ha ha'))
              have f28 := B6.free 28
              have B7 := B6.set 28 (.slice (some ⟨g3, 0, none⟩) (k'.es.length + 1) c3)
              have o7 := own_butv o6 (Fr.setCell w5 B 28 (.slice (some ⟨g3, 0, none⟩) (k'.es.length + 1) c3)) (fun a ha => own_blkv o6 B6 (by decide) a ha)
              have p7 := own_butv own5 (Fr.setCell w5 B 28 (.slice (some ⟨g3, 0, none⟩) (k'.es.length + 1) c3)) (fun a ha => own_blkv own5 B6 (by decide) a ha)
              have hg3 : k'.OA.map (·.block) = some g3 ∨ w3.heap.size ≤ g3 := by
                rcases newAt_opt new5 with h | h
                · exact .inl h
                · have := H4.out.size
                  simp at this h
                  exact .inr (by omega)
              have k28' : w5.cell? ⟨B, 28, none⟩ = some (.slice k'.OA k'.es.length k'.oc) := by rw [B6.cell 28, Array.getElem?_setIfInBounds_ne (by decide)]; exact c28 _
              have END := hide (Q3.out.push (by have := HKN.out; omega) F5 o7 p7 HG2.out hg3 B7)
              clear F5 o6 o7 p7 hg3 B6 B7 own5 grow5 new5 G5 NB2 Q3 H4 H5 HO5 HOF
              go_wp2_with fail
              have hx := HKN.out
              have hy := HC.out
              exact ⟨⟨p + 1, n + 1, _, _, gn + 1, c1, rfl, by simp, by omega, by omega, by omega, END.out⟩, by simp [intOf]; omega⟩
          · have hc1 : ¬ ((p : Int) + 1 < 4) := by omega
            have hc2 : ¬ (((p : Int) + 1) % 16 = 0) := by omega
            go_wp2_with fail
            have hx := HKN.out
            exact ⟨⟨p + 1, n, k', _, gn + 1, c1, rfl, by simp, by omega, by omega, by omega, Q3.out⟩, by simp [intOf]; omega⟩
        · obtain rfl : p = 32 := by omega
          have HQ := hide Q
          clear Q
          go_wp2_with fail
          have q := HQ.out
          have hk2 := HX.out
          exact ⟨⟨j + 1, k', by simp, by omega, by omega, q.R, q.I.next, by have := q.len; omega, q.at', q.t, q.l1, q.l2, q.tk, q.el, q.F⟩, by simp [intOf]; omega⟩
    · obtain rfl : j = b.R.es.length := by omega
      have k27 : wr.cell? ⟨B, 27, none⟩ = some (.slice k.A k.es.length k.c) := (R.blk.cell 27).trans (c27 _)
      have k29 : wr.cell? ⟨B, 29, none⟩ = some (.int .i64 k.at') := (R.blk.cell 29).trans (c29 _)
      have f29 := R.blk.free 29
      have B1 : Blk (wr.setCell ⟨B, 29, none⟩ (.int .i64 k.es.length)) B 54 (cellsOf { b with R := { k with at' := k.es.length } }) := by have := R.blk.set 29 (.int .i64 k.es.length); rw [set29] at this; exact this
      have END := hide (And.intro B1 (And.intro R (And.intro G F)))
      have HL := hide hlen
      have HEL := hide (And.intro hel (And.intro l1 l2))
      clear B1 R G F hlen hel l1 l2
      go_wp2_with fail
      exact bodyPost_end (results_none rfl _ _ _) rfl ⟨rfl, ⟨_, RestR.done END.out.2.1 END.out.2.2.1 (Fr.setCell _ _ _ _) (by have := HL.out; omega) hkt hroom END.out.1, HEL.out.1, HEL.out.2.1, HEL.out.2.2⟩, END.out.2.2.2.trans ((Fr.setCell _ _ _ _).mono (fun k _ e => .inl e))⟩
end Go.Proofs.YtmnajpkmglmipaaGreat
