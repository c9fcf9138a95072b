/- Needs LendS -/
import Derived.Test.YtmnajpkmglmipaaGreatMRuleNeeds02
import Derived.Test.YtmnajpkmglmipaaGreatMRuleNeeds03
import Derived.Maps.OwnIn
import Derived.RangeFuncBox
import Derived.Maps.AppendAt
/- Contract of rule.Needs. -/
namespace Go.Proofs.YtmnajpkmglmipaaGreat
open Go.RowKit Go.Shelf Go.Maps
attribute [local go_sem] Oper.semAt_some

theorem wf_lit {n : Int} (h : Wf64 n) : (Lit.int .i64 n).wf = true := by
  unfold Wf64 at h
  simp [Lit.wf, IntKind.min, IntKind.max, IntKind.bits, IntKind.signed]
  omega
theorem wf_of_lit {n : Int} (h : (Lit.int .i64 n).wf = true) : Wf64 n := by
  unfold Wf64
  simp [Lit.wf, IntKind.min, IntKind.max, IntKind.bits, IntKind.signed] at h
  omega
theorem laidOut : laidOutB Tryz.prog = true := by kernel_rfl
/-- A counter and a way, as a key. -/
noncomputable def kindKey : KeyK Tryz.prog 132 KindD :=
  pairKey Tryz.underlying132 Tryz.underlying3 Tryz.underlying3 (by kernel_rfl) (by kernel_rfl) rfl rfl (by kernel_rfl) (by decide) (by decide) (of_decide_eq_true (by kernel_rfl)) (by kernel_rfl)
    (Keyed.of_law (deep_law_laid laidOut (m := 2) (by omega) (of_decide_eq_true (by kernel_rfl)) (by kernel_rfl) (by rw [Tryz.underlying132])))

theorem needTs_val (xs : List LineD) (hx : ∀ x ∈ xs, WfL x) : (needTs xs hx).map Subtype.val = needL xs := by
  unfold needTs needL
  rw [List.map_map]
  have : (Subtype.val ∘ fun x : { x // x ∈ xs } => needT x.1 (hx x.1 x.2)) = (fun x : LineD => ((x.1, wayOf x.2), amtOf x.2)) ∘ Subtype.val := rfl
  rw [this, ← List.map_map, List.attach_map_subtype_val]
theorem sum_some' (l : List (KindD × Int)) (f : KindD → Option Int) (k : KindD) (h : (l.foldl addTo f k).isSome = true) : k ∈ l.map (·.1) ∨ (f k).isSome = true := by
  induction l generalizing f with
  | nil => exact .inr h
  | cons p l ih =>
    rcases ih _ h with h | h
    · exact .inl (by simp only [List.map_cons]; exact List.mem_cons_of_mem _ h)
    · unfold addTo KeyK.upd at h
      by_cases e : k = p.1
      · exact .inl (by simp [e])
      · rw [if_neg e] at h; exact .inr h
theorem sum_some (l : List (KindD × Int)) (k : KindD) (h : (sumOf l k).isSome = true) : k ∈ l.map (·.1) := by
  rcases sum_some' l _ k h with h | h
  · exact h
  · cases h
/-- The rights of the kinds that a range has met. -/
def metR (f : KindD → Option Int) (done : List KindD) : List RightT := done.map fun k => (k.1, k.2, (f k).getD 0)
theorem own_base {w : World} {base size n : Nat} {e : TypeId} {v : Value} {xs : List Value} (h : w.ownsRow base e size v n xs) : ∀ i, some i = v.ownBlock → base ≤ i := by
  intro i hi
  rcases h.2 with ⟨rfl, _⟩ | ⟨g, cap, cur, rfl, h2, _⟩
  · simp [Value.ownBlock] at hi
  · simp [Value.ownBlock] at hi; omega
theorem own_kept2 {S : Nat → Prop} {w w' : World} {base size n : Nat} {e : TypeId} {v : Value} {xs : List Value} (h : w.ownsRow base e size v n xs) (f : Fr S w w') (hS : ∀ i, base ≤ i → ¬ S i) : w'.ownsRow base e size v n xs := by
  refine ⟨h.1, ?_⟩
  rcases h.2 with h | ⟨g, cap, cur, h1, h2, h3, h4⟩
  · exact .inl h
  · exact .inr ⟨g, cap, cur, h1, h2, (f.block g (Array.getElem?_eq_some_iff.1 h3).1 (hS g h2)).trans h3, h4⟩
theorem metR_snoc (f : KindD → Option Int) (done : List KindD) (k n c : Int) (h : f (k, n) = some c) : fRight.all (metR f (done ++ [(k, n)])) = fRight.all (metR f done) ++ [.int .i64 k, .int .i64 n, .int .i64 c] := by
  unfold metR
  rw [List.map_append, Flat.all_append]
  simp [h, Flat.all, fRight]
theorem metR_mem (f : KindD → Option Int) (done : List KindD) (h1 : ∀ k ∈ done, (f k).isSome = true) (h2 : ∀ k, (f k).isSome = true → k ∈ done) (y : RightT) : y ∈ metR f done ↔ f (kOf y) = some y.2.2 := by
  unfold metR
  rw [List.mem_map]
  constructor
  · rintro ⟨k, hk, rfl⟩
    obtain ⟨v, hv⟩ := Option.isSome_iff_exists.1 (h1 k hk)
    show f (k.1, k.2) = _
    rw [show ((k.1, k.2) : KindD) = k from rfl, hv]
    rfl
  · intro h
    refine ⟨kOf y, h2 _ (by rw [h]; rfl), ?_⟩
    rw [h]
    rfl
theorem needs_is (xs : List LineD) (hx : ∀ x ∈ xs, WfL x) (f : KindD → Option Int) (hf : f = sumOf (needL xs)) (done ys : List RightT) (hd : ∀ y, y ∈ done ↔ f (kOf y) = some y.2.2) (hp : ys.Perm done) (hr : Rising ys) : ys = needsD xs :=
  rising_eq hr (needs_rising xs (fun x h => (hx x h).2)) (fun y => by rw [hp.mem_iff, hd, hf, needs_mem xs (fun x h => (hx x h).2)])
theorem Fr.put (W : World) (D : Nat) (o : Obj) : Fr (fun i => i = D) W (W.putObj D o) := (Fr.of_grown (grownBy_putObj' W D o)).mono (fun i _ e => by simpa using e)
theorem Fr.below' {n₀ g : Nat} {a b : World} (h : Fr (fun i => i = g) a b) (hg : n₀ ≤ g) (hn : n₀ ≤ a.heap.size) : Below n₀ a b :=
  ⟨h.os, h.tape, h.output, h.size, fun k hk => h.block k (by omega) (by omega)⟩
/-- Between two rounds over the needs: the map holds the sums of those that have come. -/
def NeedI (w : World) (pre : List NeedT) (W : World) : Prop :=
  Blk W (w.heap.size + 1) 127 #[.map (some w.heap.size)] ∧ kindKey.Mp 2 W w.heap.size (2 * pre.length) (sumOf (pre.map Subtype.val)) ∧ Fr no w W ∧ w.heap.size + 3 ≤ W.heap.size
theorem needI_own (w : World) (B : Nat) (hB : w.heap.size + 3 ≤ B) : OwnFrom B (NeedI w) := by
  rintro s W W' row ⟨h1, h2, h3, h4⟩ hg hr
  have F : Fr (fun k => some k = row) W W' := Fr.of_grown hg
  refine ⟨h1.kept F (fun e => ?_), h2.kept F (fun e => ?_), h3.thru F (fun i hi e => ?_), Nat.le_trans h4 F.size⟩
  · have := (hr _ e.symm).1; omega
  · have := (hr _ e.symm).1; omega
  · have := (hr _ e.symm).1; omega

set_option maxRecDepth 100000 in
set_option maxHeartbeats 2000000 in
theorem Needs_o (A : Option Addr) (c : Nat) (xs : List LineD) (hx : ∀ x ∈ xs, WfL x) (hb : xs.length * 16 ≤ 140737488351232) (w : World) (hs : Sl fLine w A c xs) :
    Calls Tryz.prog 13 #[.slice A xs.length c] w fun e w' => ∃ A' c', e = .returned (.slice A' (needsD xs).length c') ∧ w'.ownsRow w.heap.size 86 3 (.slice A' (needsD xs).length c') (needsD xs).length (fRight.all (needsD xs)) ∧ Fr no w w' := by
  have H := hide hs
  clear hs
  refine (callsIn_wide (n := 7)).1 ?_
  refine callsIn_of_wp_marks Tryz.func13 rfl trivial ?_ rfl
  simp only [Tryz.ntmps13, List.size_toArray, List.length_cons, List.length_nil, Nat.reduceAdd, Nat.reduceSub, Array.replicate_succ, Array.replicate_zero, List.push_toArray, List.append_toArray, List.nil_append, List.cons_append]
  have hmm := @run_makeMap Tryz.prog
  have hf23 : Fence.wide.fn 51 := trivial
  gi_wp2_with (gi_at_call 51; refine (callsIn_wide.2 (needs_c _ _ _ _)).mono ?_; rintro e w' ⟨rfl, rfl⟩)
  clear hmm
  obtain ⟨W0, hW0⟩ : ∃ W0, ((w.alloc (.map #[] 0)).alloc (.cells #[.map (some w.heap.size)] 127)).alloc (.cells #[.slice A xs.length c] 55) = W0 := ⟨_, rfl⟩
  have F0 : Fr no w W0 := by rw [← hW0]; exact (((Fr.refl no w).alloc _).alloc _).alloc _
  have z0 : W0.heap.size = w.heap.size + 3 := by rw [← hW0]; simp
  have I0 : NeedI w [] W0 := by
    rw [← hW0]
    refine ⟨?_, ?_, (((Fr.refl no w).alloc _).alloc _).alloc _, by simp⟩
    · have := (Blk.new (w.alloc (.map #[] 0)) 127 #[.map (some w.heap.size)]).alloc (.cells #[.slice A xs.length c] 55)
      rwa [World.size_alloc] at this
    · exact (KeyK.Mp.made (kk := kindKey) w 2).kept0 (((Fr.refl no _).alloc _).alloc _)
  have c0 : W0.cell? ⟨w.heap.size + 1 + 1, 0, none⟩ = some (.slice A xs.length c) := by
    rw [← hW0]
    have := (Blk.new ((w.alloc (.map #[] 0)).alloc (.cells #[.map (some w.heap.size)] 127)) 55 #[.slice A xs.length c]).cell 0
    rwa [World.size_alloc, World.size_alloc] at this
  rw [hW0]
  clear hW0
  refine wpIn_rangeFunc_ownH (α := NeedT) rfl (by omega) (gf := 105) (lb := #[.pointer (some ⟨w.heap.size + 1 + 1, 0, none⟩)]) rfl trivial (enters_of Tryz.func105 (by kernel_rfl) rfl)
    (needs_stops (w.heap.size + 1 + 1) w.heap.size A c xs hx W0 (by omega) c0 (H.out.below F0.below) (fun hn => H.out.lt hn)) belowK_t (belowK_b (by omega)) (Below.refl _ _) (fun _ => rfl)
    (NeedI w) (fun _ _ _ => False) (needI_own w _ (by omega)) (fun _ _ _ _ _ hs _ _ => hs) I0
    (fun x a' W => ∃ Bx, w.heap.size + 3 ≤ Bx ∧ Blk W Bx 132 #[.int .i64 x.1.1.1, .int .i64 x.1.1.2] ∧ a' = { tmps := #[.slice A xs.length c, undef, .slice none 0 0, .pointer (some ⟨w.heap.size + 1, 0, none⟩), .pointer (some ⟨Bx, 0, none⟩), .int .i64 x.1.2, undef, undef, undef, .map (some w.heap.size), .slice A xs.length c, .func (.func 105) #[] #[.pointer (some ⟨w.heap.size + 1 + 1, 0, none⟩)], .agg #[.int .i64 x.1.1.1, .int .i64 x.1.1.2], .int .i64 x.1.2, undef, undef, undef, undef, undef, undef, undef, undef, undef, undef, undef, undef, undef, undef, undef, undef, undef, undef, undef, undef, undef, undef, undef, undef, undef, undef], defers := [] }) ?hAx ?assign ?body ?done ?stop
  case hAx =>
    rintro x a' _ W W' row ⟨Bx, h1, h2, h3⟩ hg hr
    refine ⟨Bx, h1, h2.kept (Fr.of_grown hg) (fun e => ?_), h3⟩
    obtain ⟨_, o, ho, hc⟩ := hr _ e.symm
    rw [show W.heap[Bx]? = _ from h2] at ho
    cases ho
    cases hc
  case assign =>
    intro l pre x W K hI hK
    obtain ⟨⟨⟨c1, k1⟩, n1⟩, hx1⟩ := x
    have hsz := hI.2.2.1.size
    rw [show needEnc ⟨((c1, k1), n1), hx1⟩ = #[.agg #[.int .i64 c1, .int .i64 k1], .int .i64 n1] from rfl]
    gi_wp2
    have F : Fr no W (W.alloc (.cells #[.int .i64 c1, .int .i64 k1] 132)) := (Fr.refl no W).alloc _
    exact hK _ _ ((KeepsOthers.alloc _ _).from _) ((Below.refl _ W).alloc hsz _) ⟨hI.1.kept0 F, hI.2.1.kept0 F, hI.2.2.1.trans F, Nat.le_trans hI.2.2.2 F.size⟩ ⟨W.heap.size, hI.2.2.2, Blk.new W _ _, rfl⟩
  case body =>
    rintro l pre x a' W hl ⟨r, hr⟩ ⟨h1, h2, h3, h4⟩ ⟨Bx, hBx, bX, rfl⟩ hlt
    obtain ⟨⟨⟨c1, k1⟩, n1⟩, hx1⟩ := x
    simp only at bX
    have hN : pre.length < 9223372036854775807 / 4 := by omega
    have hq : Wf64 (IntKind.i64.wrap (((sumOf (pre.map Subtype.val)) (c1, k1)).getD 0 + n1)) := wr64_wf _
    have M := h2.kept0 ((Fr.refl no W).drew)
    obtain ⟨v, st, w2, w3, e1, e2, e3, e4, M3, F3⟩ := M.entry (t := 127) Tryz.underlying127 Tryz.underlying2 (fun u => by kernel_rfl) (by simp only [maxLen]; omega) (y := (c1, k1)) (show kindKey.ok (c1, k1) from ⟨wf_lit hx1.1.1, wf_lit hx1.1.2⟩) (wf_lit hq)
    have hsum : sumOf ((pre ++ [(⟨((c1, k1), n1), hx1⟩ : NeedT)]).map Subtype.val) = KeyK.upd (sumOf (pre.map Subtype.val)) (c1, k1) (IntKind.i64.wrap (((sumOf (pre.map Subtype.val)) (c1, k1)).getD 0 + n1)) := by
      rw [List.map_append]; exact sumOf_snoc _ _
    have e1' : (Instr.mapEntry 127 (.map (some w.heap.size)) (.agg #[.int .i64 c1, .int .i64 k1])).run Tryz.prog W.drew = .ok (.tuple #[v, .int .i64 st]) w2 := e1
    have e2' : (Instr.lookup 127 (.map (some w.heap.size)) (.agg #[.int .i64 c1, .int .i64 k1]) false).run Tryz.prog W.drew = .ok (.int .i64 (((sumOf (pre.map Subtype.val)) (c1, k1)).getD 0)) W.drew := e2
    have e3' : (Instr.lookup 127 (.map (some w.heap.size)) (.agg #[.int .i64 c1, .int .i64 k1]) false).run Tryz.prog w2 = .ok (.int .i64 (((sumOf (pre.map Subtype.val)) (c1, k1)).getD 0)) w2 := e3
    have e4' : (Instr.entryStore 127 (.map (some w.heap.size)) (.int .i64 st) (.int .i64 (IntKind.i64.wrap (((sumOf (pre.map Subtype.val)) (c1, k1)).getD 0 + n1)))).run Tryz.prog w2 = .ok () w3 := e4
    clear e1 e2 e3 e4 M
    have POST : Hid (ownPostG W0.heap.size (Below w.heap.size) (NeedI w) (fun _ _ _ => False) (pre ++ [⟨((c1, k1), n1), hx1⟩]) W .normal { tmps := #[], defers := [] } w3) := hide (by
      have F : Fr (fun i => i = w.heap.size) W w3 := ((Fr.refl _ W).drew).trans F3
      refine ⟨⟨F.size, fun k o hB hk ho => ?_⟩, F.below' (Nat.le_refl _) h3.size, h1.kept F (by omega), ?_, h3.thru F (fun i hi e => ?_), Nat.le_trans h4 F.size⟩
      · exact (F.block k (Array.getElem?_eq_some_iff.1 hk).1 (by omega)).trans hk
      · rw [hsum]
        exact M3.mono (by simp; omega)
      · omega)
    clear hsum M3 F3 hq
    generalize ((sumOf (pre.map Subtype.val)) (c1, k1)).getD 0 = v0 at *
    have b0 := bX.cell 0
    have b1 := bX.cell 1
    have b2 := h1.cell 0
    simp at b0 b1 b2
    clear h1 h2 bX
    gi_wp2
    gi_region
    all_goals exact POST.out
  case done =>
    rintro D ys W hD rfl ⟨h1, h2, h3, h4⟩ hK
    obtain ⟨i0, hi, hz0, hz1, hz2⟩ := info_parts info_right
    have b2 := h1.cell 0
    simp at b2
    gi_wp2_with (gi_at_range; refine wpListIn_ranged (kk := kindKey) _ rfl _ _ rfl 2 Tryz.underlying127 w.heap.size _ _ rfl h2 ?_; intro wR cnt hRg hgR hsR)
    have FR : Fr no W wR := (Fr.of_grown hgR).mono (fun _ _ e => by simp at e)
    obtain ⟨f, hf⟩ : ∃ f, f = sumOf ((needTs xs hx).map Subtype.val) := ⟨_, rfl⟩
    rw [← hf] at hRg
    have HF : Hid (f = sumOf (needL xs)) := hide (by rw [hf, needTs_val])
    have HX := hide hx
    have hfl : Hid (∀ done : List KindD, done.Nodup → (∀ k ∈ done, (f k).isSome = true) → done.length ≤ xs.length) := hide (by
      intro done h5 h6
      have := nodup_le done ((needL xs).map (·.1)) h5 (fun k hk => sum_some _ _ (by rw [← needTs_val xs hx, ← hf]; exact h6 k hk))
      simpa [needL] using this)
    have hgW : w.heap.size < W.heap.size := by omega
    have hn2 : Hid ((needTs xs hx).length = xs.length) := hide (by simp [needTs])
    generalize 2 * (needTs xs hx).length = N2 at *
    clear hgR h1 h2 b2 hf
    go_simp
    gi_loopw [6] (fun v wr => ∃ (done : List KindD) (cnt' : Nat), kindKey.Rg 2 wr w.heap.size W.heap.size _ f done cnt' ∧ wr.ownsRow (W.heap.size + 1) 86 3 v done.length (fRight.all (metR f done)) ∧ Fr no W wr ∧ W.heap.size + 1 ≤ wr.heap.size)
      (fun _ wr => wr.rangeLeft w.heap.size W.heap.size)
    case atStart => exact ⟨[], cnt, hRg, World.ownsRow_nil wR _ _ _, FR, by omega⟩
    case round =>
      obtain ⟨done, cnt', hRr, own, FW, hsz⟩ := hrel
      have hcnt := hRr.left_eq
      obtain ⟨X, hX⟩ : ∃ X, X = wr.rangeLeft w.heap.size W.heap.size := ⟨_, rfl⟩
      rw [← hX] at hcnt ⊢
      have hdl := hfl.out
      gi_wp2_with (gi_at_next; refine wpListIn_nexted (kk := kindKey) _ rfl _ rfl 2 Tryz.underlying2 w.heap.size W.heap.size _ f done cnt' rfl hRr ?fin ?more)
      case fin =>
        intro hfin
        have hok : Hid (∀ y, y ∈ metR f done ↔ f (kOf y) = some y.2.2) := hide (by
          obtain ⟨_, _, _, _, _, hd1, _⟩ := hRr
          refine metR_mem f done (fun k hk => (hd1 k hk).2) (fun k hk => hfin k.1 k.2 ?_ hk)
          have hk2 := hk
          rw [HF.out] at hk2
          have := sum_some _ _ hk2
          obtain ⟨p, hp, rfl⟩ := List.mem_map.1 this
          obtain ⟨x, hx', rfl⟩ := List.mem_map.1 hp
          exact ⟨wf_lit (HX.out x hx').1, wf_lit (wayOf_wf _)⟩)
        have hnd : Hid done.Nodup := hide (by obtain ⟨_, _, _, _, hd1, _⟩ := hRr; exact hd1)
        have hds : Hid (∀ k ∈ done, (f k).isSome = true) := hide (by obtain ⟨_, _, _, _, _, hd1, _⟩ := hRr; exact fun k hk => (hd1 k hk).2)
        have hf24 : Fence.wide.fn 52 := trivial
        have hKr : wr.heap[D]? = some (.deferred (some [])) := (FW.block D (Array.getElem?_eq_some_iff.1 hK).1 (fun e => e)).trans hK
        have HKR := hide hKr
        have hDw : Hid (w.heap.size ≤ D) := hide (by omega)
        have hDW : Hid (D < W.heap.size) := hide (Array.getElem?_eq_some_iff.1 hK).1
        have FWr : Fr no w wr := h3.trans FW
        clear hfin hRr hcnt hX hdl hK hKr
        rcases own.2 with ⟨rfl, hl0⟩ | ⟨g', cap, cur, rfl, hbg, hg, hnc, hcm, hcs, htake⟩
        · obtain rfl : done = [] := List.eq_nil_of_length_eq_zero hl0
          have hne : Hid (needsD xs = []) := hide (needs_is xs HX.out f HF.out (metR f []) [] hok.out (List.Perm.refl _) List.Pairwise.nil).symm
          have hS : ∀ fv w1, Calls Tryz.prog 52 #[.slice none 0 0, fv] w1 _ := fun fv w1 => AnyF.slices_SortFunc_none sortR none 0 fv w1
          gi_wp2_with (gi_at_call 52; refine (callsIn_wide.2 (hS _ _)).mono ?_; rintro e w' ⟨rfl, rfl⟩)
          refine ⟨by simp, .inl ⟨_, _, rfl, run_takeDeferred HKR.out, ?_⟩⟩
          refine ⟨_, results_tmp rfl _ _ _, none, 0, by rw [hne.out]; rfl, ?_, FWr.thru (Fr.put _ D _) (fun i hi e => by have := hDw.out; omega)⟩
          rw [hne.out]
          exact World.ownsRow_nil _ _ _ _
        · have hml : (metR f done).length = done.length := by simp [metR]
          have hS := sort_c g' cap (metR f done) wr (fun i h r hr => by
              have h1 := fRight.all_get (metR f done) i r h hr
              have h2 : r < (fRight.enc (metR f done)[i]).length := by rw [fRight.len]; exact hr
              rw [List.getElem?_eq_getElem h2] at h1
              have := own.cells (g := g') rfl _ _ h1
              rw [Kd.addr_add, Nat.zero_add] at this
              rw [show (encR (metR f done)[i])[r]? = (fRight.enc (metR f done)[i])[r]? from rfl, List.getElem?_eq_getElem h2]
              exact this) (fun j => Blk.free (T := 86) hg j) (Array.getElem?_eq_some_iff.1 hg).1 (by rw [hml]; have := hfl.out done hnd.out hds.out; omega)
            (List.pairwise_map.2 (hnd.out.imp fun h => h))
          rw [hml] at hS
          have HBG := hide hbg
          have HCAP := hide hnc
          have HCM := hide hcm
          have HG9 := hide hg
          have HCS := hide hcs
          clear own hg hcs htake hbg hnc hcm
          gi_wp2_with (gi_at_call 52; refine (callsIn_wide.2 hS).mono ?_; rintro e w2 ⟨rfl, ys, hp, hr, hc, F2, hsb⟩)
          have hD2 : w2.heap[D]? = some (.deferred (some [])) := (F2.block D (Array.getElem?_eq_some_iff.1 HKR.out).1 (by have := HBG.out; have := hDW.out; omega)).trans HKR.out
          refine ⟨by simp, .inl ⟨_, _, rfl, run_takeDeferred hD2, ?_⟩⟩
          have hys : ys = needsD xs := needs_is xs HX.out f HF.out (metR f done) ys hok.out hp hr
          have hyl : ys.length = done.length := by rw [hp.length_eq, hml]
          have FE : Fr (fun i => i = D) w2 (w2.putObj D (.deferred none)) := Fr.put _ D _
          refine ⟨_, results_tmp rfl _ _ _, some ⟨g', 0, none⟩, cap, by rw [← hys, hyl]; rfl, ?_, ?_⟩
          · rw [← hys]
            obtain ⟨cur', hb', hz'⟩ := hsb _ _ HG9.out
            have hgD : ¬ g' = D := by have := HBG.out; have := hDW.out; omega
            refine ⟨by rw [fRight.all_length]; rfl, .inr ⟨g', cap, cur', by rw [hyl], by have := HBG.out; omega, (FE.block g' (Array.getElem?_eq_some_iff.1 hb').1 hgD).trans hb', by rw [hyl]; exact HCAP.out, HCM.out, by rw [hz']; exact HCS.out, ?_⟩⟩
            apply List.ext_getElem?
            intro q
            rw [List.getElem?_take]
            by_cases hq : q < ys.length * 3
            · rw [if_pos hq]
              have h1 : q / 3 < ys.length := by omega
              have h2 : q % 3 < 3 := by omega
              have e1 := hc (q / 3) h1 (q % 3) h2
              have e2 := Blk.cell (T := 86) hb' (q / 3 * 3 + q % 3)
              have e3 := fRight.all_get ys (q / 3) (q % 3) h1 h2
              rw [show fRight.sz = 3 from rfl] at e3
              rw [show q / 3 * 3 + q % 3 = q by omega] at e1 e2 e3
              rw [e3, Array.getElem?_toList, ← e2, e1]
              rfl
            · rw [if_neg hq, List.getElem?_eq_none]
              rw [fRight.all_length, show fRight.sz = 3 from rfl]
              omega
          · have FA : Fr no w w2 := FWr.thru F2 (fun i hi e => by have := HBG.out; omega)
            exact FA.thru FE (fun i hi e => by have := hDw.out; omega)
      case more =>
        intro k n c1 w1 cnt1 hok hnd hfk hRg1 hlt1 hg1 hs1 hen
        rw [show kindKey.enc (k, n) = .agg #[.int .i64 k, .int .i64 n] from rfl] at hen ⊢
        have F1 : Fr (fun i => i = W.heap.size) wr w1 := (Fr.of_grown hg1).mono (fun i _ e => by simpa using e)
        have own1 := own_kept2 own F1 (fun i h e => by omega)
        have hdone : done.length + 1 ≤ xs.length := by
          obtain ⟨_, _, _, _, hd1, hd2, _⟩ := hRg1
          have := hfl.out _ hd1 (fun k hk => (hd2 k hk).2)
          simpa using this
        have hnc := new_cells (w1.alloc (.cells #[.int .i64 k, .int .i64 n] 132)) [.int .i64 k, .int .i64 n, .int .i64 c1] 86
        rw [World.size_alloc] at hnc
        have HNC := hide hnc
        have HOWN := hide own1
        have HB := hide (own_base own1)
        have HREL := hide hRg1
        have HFK := hide hfk
        have hsz1 : W.heap.size + 1 ≤ w1.heap.size := Nat.le_trans hsz F1.size
        clear hnc own1 own hRg1 hRr hfk hok hnd hg1 hdl hs1
        gi_wp2_with (gi_at_builtin; refine wpListIn_append_one _ rfl _ _ 59 rfl (W.heap.size + 1) 86 i0 (.agg #[.int .i64 0, .int .i64 0, .int .i64 0]) 3 24 Tryz.underlying59 hi hz0 hz1 hz2 rfl (by decide) (by decide) _ done.length _ rfl (own_kept HOWN.out (((Fr.refl no w1).alloc _).alloc _)) ⟨w1.heap.size + 1, 0, none⟩ 1 [.int .i64 k, .int .i64 n, .int .i64 c1] rfl rfl HNC.out (fun u hu => by simp at hu; rcases hu with rfl | rfl | rfl <;> rfl) (by simp only [maxLen]; omega) (by omega) (by simp; omega) ?_; intro v' w2 own2 grow2)
        have F2 : Fr (fun i => W.heap.size + 1 ≤ i) w1 w2 := (((Fr.refl _ w1).alloc _).alloc _).thru (Fr.of_grown grow2) (fun i _ e => HB.out i e)
        have e3 := metR_snoc f done k n c1 HFK.out
        have FW2 : Fr no W w2 := (FW.thru F1 (fun i hi e => by omega)).thru F2 (fun i hi e => by omega)
        have hsz2 : W.heap.size + 1 ≤ w2.heap.size := Nat.le_trans hsz1 F2.size
        have R2 := HREL.out.kept F2 (by omega) (by omega)
        rw [← e3] at own2
        have own3 : w2.ownsRow (W.heap.size + 1) 86 3 v' (done ++ [(k, n)]).length (fRight.all (metR f (done ++ [(k, n)]))) := by
          rw [List.length_append]; exact own2
        have REL := hide (⟨done ++ [(k, n)], cnt1, R2, own3, FW2, hsz2⟩ : ∃ (done : List KindD) (cnt' : Nat), kindKey.Rg 2 w2 w.heap.size W.heap.size N2 f done cnt' ∧ w2.ownsRow (W.heap.size + 1) 86 3 v' done.length (fRight.all (metR f done)) ∧ Fr no W w2 ∧ W.heap.size + 1 ≤ w2.heap.size)
        have MES : Hid (w2.rangeLeft w.heap.size W.heap.size < X) := hide (by rw [R2.left_eq]; omega)
        clear own2 own3 grow2 F2 e3 FW2 hsz2 R2
        gi_wp2
        exact ⟨REL.out, MES.out⟩
  case stop =>
    rintro D c pre W _ _ h _
    exact h.elim
theorem own_sl0 {α : Type} (f : Flat α) {w : World} {base n c : Nat} {T : TypeId} {A : Option Addr} {xs : List α} (hn : n = xs.length) (h : w.ownsRow base T f.sz (.slice A n c) n (f.all xs)) : Sl f w A c xs := by
  subst hn
  rcases h.2 with ⟨e, h0⟩ | ⟨g, cap, cur, e, hbg, hg, hnc, hcm, hcs, htake⟩
  · have hx : xs = [] := List.eq_nil_of_length_eq_zero h0
    subst hx
    cases e
    exact ⟨Nat.le_refl _, Nat.zero_le _, fun e => absurd rfl e, fun _ => rfl⟩
  · cases e
    refine ⟨hnc, hcm, fun _ => ⟨g, 0, rfl, fun i hi r hr => ?_⟩, fun e => by cases e⟩
    have h1 := f.all_get xs i r hi hr
    have h2 : r < (f.enc xs[i]).length := by rw [f.len]; exact hr
    rw [List.getElem?_eq_getElem h2] at h1 ⊢
    have := h.cells (g := g) rfl _ _ h1
    rw [Kd.addr_add] at this
    rw [Nat.add_assoc]; exact this
theorem Needs_c (A : Option Addr) (c : Nat) (xs : List LineD) (hx : ∀ x ∈ xs, WfL x) (hb : xs.length * 16 ≤ 140737488351232) (w : World) (hs : Sl fLine w A c xs) :
    Calls Tryz.prog 13 #[.slice A xs.length c] w fun e w' => ∃ A' c', e = .returned (.slice A' (needsD xs).length c') ∧ Sl fRight w' A' c' (needsD xs) ∧ Fr no w w' :=
  (Needs_o A c xs hx hb w hs).mono fun _ _ ⟨A', c', h1, h2, h3⟩ => ⟨A', c', h1, own_sl0 fRight rfl h2, h3⟩
end Go.Proofs.YtmnajpkmglmipaaGreat

/- Contracts of package tilllaw1's lending of a state's flat lists. -/
namespace Go.Proofs.YtmnajpkmglmipaaGreat
open Go.RowKit

abbrev NumD := Int
def kNum : Kd NumD := .int .u64
def fNum : Flat NumD where
  sz := 1
  enc := fun x => [.int .u64 x]
  len := fun _ => rfl
  pos := by decide
  one := fun x u hu => by simp at hu; subst hu; rfl
theorem rNum : fNum.Reads kNum := ⟨rfl, fun w x cs h => by
  obtain rfl : cs = _ := h
  rfl⟩
theorem info_num : (Tryz.prog.info? 71).map (fun i => (i.zero, i.size, i.bytes)) = some (some (.int .u64 0), 1, 8) := by kernel_rfl
abbrev HeldD := Int × Int
def kHeld : Kd HeldD := .pair (.int .i64) (.int .i64)
def fHeld : Flat HeldD where
  sz := 2
  enc := fun x => [.int .i64 x.1, .int .i64 x.2]
  len := fun _ => rfl
  pos := by decide
  one := fun x u hu => by simp at hu; rcases hu with rfl | rfl <;> rfl
theorem rHeld : fHeld.Reads kHeld := ⟨rfl, fun w x cs h => by
  obtain ⟨c0, d0, rfl, h0, g0⟩ := h
  obtain rfl : c0 = _ := h0
  obtain rfl : d0 = _ := g0
  rfl⟩
theorem info_held : (Tryz.prog.info? 141).map (fun i => (i.zero, i.size, i.bytes)) = some (some (.agg #[.int .i64 0, .int .i64 0]), 2, 16) := by kernel_rfl
abbrev PricedD := Int × Int
def kPriced : Kd PricedD := .pair (.int .i64) (.int .i64)
def fPriced : Flat PricedD where
  sz := 2
  enc := fun x => [.int .i64 x.1, .int .i64 x.2]
  len := fun _ => rfl
  pos := by decide
  one := fun x u hu => by simp at hu; rcases hu with rfl | rfl <;> rfl
theorem rPriced : fPriced.Reads kPriced := ⟨rfl, fun w x cs h => by
  obtain ⟨c0, d0, rfl, h0, g0⟩ := h
  obtain rfl : c0 = _ := h0
  obtain rfl : d0 = _ := g0
  rfl⟩
theorem info_priced : (Tryz.prog.info? 154).map (fun i => (i.zero, i.size, i.bytes)) = some (some (.agg #[.int .i64 0, .int .i64 0]), 2, 16) := by kernel_rfl
abbrev OweD := Bool
def kOwe : Kd OweD := .bool
def fOwe : Flat OweD where
  sz := 1
  enc := fun x => [.bool x]
  len := fun _ => rfl
  pos := by decide
  one := fun x u hu => by simp at hu; subst hu; rfl
theorem rOwe : fOwe.Reads kOwe := ⟨rfl, fun w x cs h => by
  obtain rfl : cs = _ := h
  rfl⟩
theorem info_owe : (Tryz.prog.info? 4).map (fun i => (i.zero, i.size, i.bytes)) = some (some (.bool false), 1, 1) := by kernel_rfl
set_option maxRecDepth 100000 in
set_option maxHeartbeats 1000000 in
theorem lend_num (A : Option Addr) (c : Nat) (xs : List NumD) (w : World) (h : kNum.Row w A c xs) (hb : xs.length * 8 ≤ 140737488351232) :
    Calls Tryz.prog 151 #[.slice A xs.length c] w fun e w' => (∃ g, e = .returned (.slice (some ⟨g, 0, none⟩) xs.length (xs.length + 9)) ∧ w.heap.size ≤ g ∧
      w'.ownsRow w.heap.size 71 1 (.slice (some ⟨g, 0, none⟩) (xs.length + 9) (xs.length + 9)) (xs.length + 9) (fNum.all (xs ++ List.replicate 9 (777)))) ∧ Fr no w w' := by
  obtain ⟨i0, hi, hz0, hz1, hz2⟩ := info_parts info_num
  have H := hide h
  clear h
  go_enter Tryz.func151, Tryz.ntmps151
  have hn9 : Hid (((xs.length : Int) + 9) = ((xs.length + 9 : Nat) : Int)) := hide (by omega)
  go_wp2_with (at_make; refine wpList_make_own _ rfl _ _ 74 rfl w.heap.size 71 i0 (.int .u64 0) 1 Tryz.underlying74 hi hz0 hz1 _ _ _ (xs.length + 9) rfl rfl hn9.out (by rw [hz2]; omega) (by simp only [maxLen]; omega) (Nat.le_refl _) ?_)
  intro w1 own1 grow1
  have F1 : Fr no w w1 := (Fr.of_grown grow1).mono (fun _ _ e => by simp at e)
  have none1 := fun e => (Flat.row_none H.out e)
  go_wp2_with (at_builtin; refine wpList_append_fits_any _ rfl _ _ 74 rfl w.heap.size 71 i0 1 Tryz.underlying74 hi hz1 w.heap.size 0 (xs.length + 9) [] rfl own1 A xs.length c (fNum.all xs) rfl (fNum.all_length xs) none1 (rNum.row (H.out.keep F1)) (fNum.all_one xs) (by omega) ?_)
  intro w2 own2 grow2
  have F2 : Fr no w w2 := F1.thru (Fr.of_grown grow2) (fun i hi e => by simp at e; omega)
  have O2 := hide (show w2.ownsRow w.heap.size 71 1 (.slice (some ⟨w.heap.size, 0, none⟩) (xs.length + 0) (xs.length + 9)) (xs.length + 0) (fNum.all (xs ++ List.replicate 0 (777))) from by simpa using own2)
  clear own1 grow1 own2 grow2 none1 F1
  generalize hg : w.heap.size = g at *
  have hgl : w.heap.size ≤ g := Nat.le_of_eq hg
  have HG := hide hg
  clear hg
  go_wp2_with fail
  go_loopw [3, 4] (fun v i wr => ∃ m : Nat, i = .int .i64 m ∧ m ≤ 9 ∧ v = .slice (some ⟨g, 0, none⟩) (xs.length + m) (xs.length + 9) ∧ wr.ownsRow g 71 1 (.slice (some ⟨g, 0, none⟩) (xs.length + m) (xs.length + 9)) (xs.length + m) (fNum.all (xs ++ List.replicate m (777))) ∧ Fr no w wr) (fun _ i _ => 9 - (intOf i).toNat)
  case atStart => exact ⟨0, rfl, by decide, rfl, O2.out, F2⟩
  case round =>
    obtain ⟨m, rfl, hm, rfl, own, F⟩ := hrel
    by_cases hlt : m < 9
    · go_wp2_with (at_builtin; refine wpList_append_fits _ rfl _ _ 74 rfl g 71 i0 1 Tryz.underlying74 hi hz1 g (xs.length + m) (xs.length + 9) _ rfl (own_kept own ((Fr.refl no wr).alloc _)) ⟨wr.heap.size, 0, none⟩ 1 1 [.int .u64 777] rfl rfl (new_cells wr _ _) (fun u hu => by simp at hu; rcases hu with rfl <;> rfl) (by omega) ?_)
      intro w3 own3 grow3
      have F3 : Fr no w w3 := (F.alloc (.cells [.int .u64 777].toArray 71)).thru (Fr.of_grown grow3) (fun i hi e => by have := HG.out; simp at e; omega)
      have e3 : fNum.all (xs ++ List.replicate m (777)) ++ [.int .u64 777] = fNum.all (xs ++ List.replicate (m + 1) (777)) := by
        rw [← reps_succ, ← List.append_assoc, Flat.all_append _ _ [(777)]]; rfl
      rw [e3] at own3
      have REL := hide (⟨m + 1, by simp, hlt, rfl, own3, F3⟩ : ∃ k : Nat, Value.int .i64 ((m : Int) + 1) = .int .i64 k ∧ k ≤ 9 ∧ Value.slice (some ⟨g, 0, none⟩) (xs.length + (m + 1)) (xs.length + 9) = .slice (some ⟨g, 0, none⟩) (xs.length + k) (xs.length + 9) ∧ w3.ownsRow g 71 1 (.slice (some ⟨g, 0, none⟩) (xs.length + k) (xs.length + 9)) (xs.length + k) (fNum.all (xs ++ List.replicate k (777))) ∧ Fr no w w3)
      clear own3 grow3 F3 e3 own F
      go_wp2_with fail
      exact ⟨REL.out, by simp [intOf]; omega⟩
    · obtain rfl : m = 9 := by omega
      go_wp2_with fail
      go_ret
      exact ⟨⟨g, rfl, hgl, by rw [HG.out]; exact own⟩, F⟩
set_option maxRecDepth 100000 in
set_option maxHeartbeats 1000000 in
theorem lend_held (A : Option Addr) (c : Nat) (xs : List HeldD) (w : World) (h : kHeld.Row w A c xs) (hb : xs.length * 16 ≤ 140737488351232) :
    Calls Tryz.prog 201 #[.slice A xs.length c] w fun e w' => (∃ g, e = .returned (.slice (some ⟨g, 0, none⟩) xs.length (xs.length + 9)) ∧ w.heap.size ≤ g ∧
      w'.ownsRow w.heap.size 141 2 (.slice (some ⟨g, 0, none⟩) (xs.length + 9) (xs.length + 9)) (xs.length + 9) (fHeld.all (xs ++ List.replicate 9 (777, 778)))) ∧ Fr no w w' := by
  obtain ⟨i0, hi, hz0, hz1, hz2⟩ := info_parts info_held
  have H := hide h
  clear h
  go_enter Tryz.func201, Tryz.ntmps201
  have hn9 : Hid (((xs.length : Int) + 9) = ((xs.length + 9 : Nat) : Int)) := hide (by omega)
  go_wp2_with (at_make; refine wpList_make_own _ rfl _ _ 142 rfl w.heap.size 141 i0 (.agg #[.int .i64 0, .int .i64 0]) 2 Tryz.underlying142 hi hz0 hz1 _ _ _ (xs.length + 9) rfl rfl hn9.out (by rw [hz2]; omega) (by simp only [maxLen]; omega) (Nat.le_refl _) ?_)
  intro w1 own1 grow1
  have F1 : Fr no w w1 := (Fr.of_grown grow1).mono (fun _ _ e => by simp at e)
  have none1 := fun e => (Flat.row_none H.out e)
  go_wp2_with (at_builtin; refine wpList_append_fits_any _ rfl _ _ 142 rfl w.heap.size 141 i0 2 Tryz.underlying142 hi hz1 w.heap.size 0 (xs.length + 9) [] rfl own1 A xs.length c (fHeld.all xs) rfl (fHeld.all_length xs) none1 (rHeld.row (H.out.keep F1)) (fHeld.all_one xs) (by omega) ?_)
  intro w2 own2 grow2
  have F2 : Fr no w w2 := F1.thru (Fr.of_grown grow2) (fun i hi e => by simp at e; omega)
  have O2 := hide (show w2.ownsRow w.heap.size 141 2 (.slice (some ⟨w.heap.size, 0, none⟩) (xs.length + 0) (xs.length + 9)) (xs.length + 0) (fHeld.all (xs ++ List.replicate 0 (777, 778))) from by simpa using own2)
  clear own1 grow1 own2 grow2 none1 F1
  generalize hg : w.heap.size = g at *
  have hgl : w.heap.size ≤ g := Nat.le_of_eq hg
  have HG := hide hg
  clear hg
  go_wp2_with fail
  go_loopw [3, 4] (fun v i wr => ∃ m : Nat, i = .int .i64 m ∧ m ≤ 9 ∧ v = .slice (some ⟨g, 0, none⟩) (xs.length + m) (xs.length + 9) ∧ wr.ownsRow g 141 2 (.slice (some ⟨g, 0, none⟩) (xs.length + m) (xs.length + 9)) (xs.length + m) (fHeld.all (xs ++ List.replicate m (777, 778))) ∧ Fr no w wr) (fun _ i _ => 9 - (intOf i).toNat)
  case atStart => exact ⟨0, rfl, by decide, rfl, O2.out, F2⟩
  case round =>
    obtain ⟨m, rfl, hm, rfl, own, F⟩ := hrel
    by_cases hlt : m < 9
    · go_wp2_with (at_builtin; refine wpList_append_fits _ rfl _ _ 142 rfl g 141 i0 2 Tryz.underlying142 hi hz1 g (xs.length + m) (xs.length + 9) _ rfl (own_kept own ((Fr.refl no wr).alloc _)) ⟨wr.heap.size, 0, none⟩ 1 1 [.int .i64 777, .int .i64 778] rfl rfl (new_cells wr _ _) (fun u hu => by simp at hu; rcases hu with rfl | rfl <;> rfl) (by omega) ?_)
      intro w3 own3 grow3
      have F3 : Fr no w w3 := (F.alloc (.cells [.int .i64 777, .int .i64 778].toArray 141)).thru (Fr.of_grown grow3) (fun i hi e => by have := HG.out; simp at e; omega)
      have e3 : fHeld.all (xs ++ List.replicate m (777, 778)) ++ [.int .i64 777, .int .i64 778] = fHeld.all (xs ++ List.replicate (m + 1) (777, 778)) := by
        rw [← reps_succ, ← List.append_assoc, Flat.all_append _ _ [(777, 778)]]; rfl
      rw [e3] at own3
      have REL := hide (⟨m + 1, by simp, hlt, rfl, own3, F3⟩ : ∃ k : Nat, Value.int .i64 ((m : Int) + 1) = .int .i64 k ∧ k ≤ 9 ∧ Value.slice (some ⟨g, 0, none⟩) (xs.length + (m + 1)) (xs.length + 9) = .slice (some ⟨g, 0, none⟩) (xs.length + k) (xs.length + 9) ∧ w3.ownsRow g 141 2 (.slice (some ⟨g, 0, none⟩) (xs.length + k) (xs.length + 9)) (xs.length + k) (fHeld.all (xs ++ List.replicate k (777, 778))) ∧ Fr no w w3)
      clear own3 grow3 F3 e3 own F
      go_wp2_with fail
      exact ⟨REL.out, by simp [intOf]; omega⟩
    · obtain rfl : m = 9 := by omega
      go_wp2_with fail
      go_ret
      exact ⟨⟨g, rfl, hgl, by rw [HG.out]; exact own⟩, F⟩
set_option maxRecDepth 100000 in
set_option maxHeartbeats 1000000 in
theorem lend_priced (A : Option Addr) (c : Nat) (xs : List PricedD) (w : World) (h : kPriced.Row w A c xs) (hb : xs.length * 16 ≤ 140737488351232) :
    Calls Tryz.prog 153 #[.slice A xs.length c] w fun e w' => (∃ g, e = .returned (.slice (some ⟨g, 0, none⟩) xs.length (xs.length + 9)) ∧ w.heap.size ≤ g ∧
      w'.ownsRow w.heap.size 154 2 (.slice (some ⟨g, 0, none⟩) (xs.length + 9) (xs.length + 9)) (xs.length + 9) (fPriced.all (xs ++ List.replicate 9 (777, 0)))) ∧ Fr no w w' := by
  obtain ⟨i0, hi, hz0, hz1, hz2⟩ := info_parts info_priced
  have H := hide h
  clear h
  go_enter Tryz.func153, Tryz.ntmps153
  have hn9 : Hid (((xs.length : Int) + 9) = ((xs.length + 9 : Nat) : Int)) := hide (by omega)
  go_wp2_with (at_make; refine wpList_make_own _ rfl _ _ 73 rfl w.heap.size 154 i0 (.agg #[.int .i64 0, .int .i64 0]) 2 Tryz.underlying73 hi hz0 hz1 _ _ _ (xs.length + 9) rfl rfl hn9.out (by rw [hz2]; omega) (by simp only [maxLen]; omega) (Nat.le_refl _) ?_)
  intro w1 own1 grow1
  have F1 : Fr no w w1 := (Fr.of_grown grow1).mono (fun _ _ e => by simp at e)
  have none1 := fun e => (Flat.row_none H.out e)
  go_wp2_with (at_builtin; refine wpList_append_fits_any _ rfl _ _ 73 rfl w.heap.size 154 i0 2 Tryz.underlying73 hi hz1 w.heap.size 0 (xs.length + 9) [] rfl own1 A xs.length c (fPriced.all xs) rfl (fPriced.all_length xs) none1 (rPriced.row (H.out.keep F1)) (fPriced.all_one xs) (by omega) ?_)
  intro w2 own2 grow2
  have F2 : Fr no w w2 := F1.thru (Fr.of_grown grow2) (fun i hi e => by simp at e; omega)
  have O2 := hide (show w2.ownsRow w.heap.size 154 2 (.slice (some ⟨w.heap.size, 0, none⟩) (xs.length + 0) (xs.length + 9)) (xs.length + 0) (fPriced.all (xs ++ List.replicate 0 (777, 0))) from by simpa using own2)
  clear own1 grow1 own2 grow2 none1 F1
  generalize hg : w.heap.size = g at *
  have hgl : w.heap.size ≤ g := Nat.le_of_eq hg
  have HG := hide hg
  clear hg
  go_wp2_with fail
  go_loopw [3, 4] (fun v i wr => ∃ m : Nat, i = .int .i64 m ∧ m ≤ 9 ∧ v = .slice (some ⟨g, 0, none⟩) (xs.length + m) (xs.length + 9) ∧ wr.ownsRow g 154 2 (.slice (some ⟨g, 0, none⟩) (xs.length + m) (xs.length + 9)) (xs.length + m) (fPriced.all (xs ++ List.replicate m (777, 0))) ∧ Fr no w wr) (fun _ i _ => 9 - (intOf i).toNat)
  case atStart => exact ⟨0, rfl, by decide, rfl, O2.out, F2⟩
  case round =>
    obtain ⟨m, rfl, hm, rfl, own, F⟩ := hrel
    by_cases hlt : m < 9
    · go_wp2_with (at_builtin; refine wpList_append_fits _ rfl _ _ 73 rfl g 154 i0 2 Tryz.underlying73 hi hz1 g (xs.length + m) (xs.length + 9) _ rfl (own_kept own ((Fr.refl no wr).alloc _)) ⟨wr.heap.size, 0, none⟩ 1 1 [.int .i64 777, .int .i64 0] rfl rfl (new_cells wr _ _) (fun u hu => by simp at hu; rcases hu with rfl | rfl <;> rfl) (by omega) ?_)
      intro w3 own3 grow3
      have F3 : Fr no w w3 := (F.alloc (.cells [.int .i64 777, .int .i64 0].toArray 154)).thru (Fr.of_grown grow3) (fun i hi e => by have := HG.out; simp at e; omega)
      have e3 : fPriced.all (xs ++ List.replicate m (777, 0)) ++ [.int .i64 777, .int .i64 0] = fPriced.all (xs ++ List.replicate (m + 1) (777, 0)) := by
        rw [← reps_succ, ← List.append_assoc, Flat.all_append _ _ [(777, 0)]]; rfl
      rw [e3] at own3
      have REL := hide (⟨m + 1, by simp, hlt, rfl, own3, F3⟩ : ∃ k : Nat, Value.int .i64 ((m : Int) + 1) = .int .i64 k ∧ k ≤ 9 ∧ Value.slice (some ⟨g, 0, none⟩) (xs.length + (m + 1)) (xs.length + 9) = .slice (some ⟨g, 0, none⟩) (xs.length + k) (xs.length + 9) ∧ w3.ownsRow g 154 2 (.slice (some ⟨g, 0, none⟩) (xs.length + k) (xs.length + 9)) (xs.length + k) (fPriced.all (xs ++ List.replicate k (777, 0))) ∧ Fr no w w3)
      clear own3 grow3 F3 e3 own F
      go_wp2_with fail
      exact ⟨REL.out, by simp [intOf]; omega⟩
    · obtain rfl : m = 9 := by omega
      go_wp2_with fail
      go_ret
      exact ⟨⟨g, rfl, hgl, by rw [HG.out]; exact own⟩, F⟩
end Go.Proofs.YtmnajpkmglmipaaGreat
