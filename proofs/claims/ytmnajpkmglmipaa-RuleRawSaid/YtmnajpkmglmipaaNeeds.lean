/- Contract of rule.Needs. -/
import Derived.Test.YtmnajpkmglmipaaIter
import Derived.Test.YtmnajpkmglmipaaKEnt
import Derived.Test.YtmnajpkmglmipaaSort
import Derived.Test.YtmnajpkmglmipaaApp
import Derived.Maps.OwnIn
import Derived.RangeFuncBox
import Derived.Maps.AppendAt
namespace Go.Proofs.Ytmnajpkmglmipaa
open Go.RowKit Go.Shelf Go.Maps
attribute [local go_sem] Oper.semAt_some

theorem wf_lit {n : Int} (h : Wf64 n) : (Lit.int .i64 n).wf = true := by
  unfold Wf64 at h
  simp [Lit.wf, IntKind.min, IntKind.max, IntKind.bits, IntKind.signed]
  omega
theorem wf_of_lit {n : Int} (h : (Lit.int .i64 n).wf = true) : Wf64 n := by
  unfold Wf64
  simp [Lit.wf, IntKind.min, IntKind.max, IntKind.bits, IntKind.signed] at h
  omega
theorem laidOut : laidOutB Try.prog = true := by kernel_rfl
/-- A counter and a way, as a key. -/
noncomputable def kindKey : KeyK Try.prog 71 KindD :=
  pairKey Try.underlying71 Try.underlying3 Try.underlying3 (by kernel_rfl) (by kernel_rfl) rfl rfl (by kernel_rfl) (by decide) (by decide) (of_decide_eq_true (by kernel_rfl)) (by kernel_rfl)
    (Keyed.of_law (deep_law_laid laidOut (m := 2) (by omega) (of_decide_eq_true (by kernel_rfl)) (by kernel_rfl) (by rw [Try.underlying71])))

theorem needTs_val (xs : List LineD) (hx : ∀ x ∈ xs, WfL x) : (needTs xs hx).map Subtype.val = needL xs := by
  unfold needTs needL
  rw [List.map_map]
  have : (Subtype.val ∘ fun x : { x // x ∈ xs } => needT x.1 (hx x.1 x.2)) = (fun x : LineD => ((x.1, wayOf x.2), amtOf x.2)) ∘ Subtype.val := rfl
  rw [this, ← List.map_map, List.attach_map_subtype_val]
theorem sum_some' (l : List (KindD × Int)) (f : KindD → Option Int) (k : KindD) (h : (l.foldl addTo f k).isSome = true) : k ∈ l.map (·.1) ∨ (f k).isSome = true := by
  induction l generalizing f with
  | nil => exact .inr h
  | cons p l ih =>
    rcases ih _ h with h | h
    · exact .inl (by simp only [List.map_cons]; exact List.mem_cons_of_mem _ h)
    · unfold addTo KeyK.upd at h
      by_cases e : k = p.1
      · exact .inl (by simp [e])
      · rw [if_neg e] at h; exact .inr h
theorem sum_some (l : List (KindD × Int)) (k : KindD) (h : (sumOf l k).isSome = true) : k ∈ l.map (·.1) := by
  rcases sum_some' l _ k h with h | h
  · exact h
  · cases h
/-- The rights of the kinds that a range has met. -/
def metR (f : KindD → Option Int) (done : List KindD) : List RightT := done.map fun k => (k.1, k.2, (f k).getD 0)
theorem own_base {w : World} {base size n : Nat} {e : TypeId} {v : Value} {xs : List Value} (h : w.ownsRow base e size v n xs) : ∀ i, some i = v.ownBlock → base ≤ i := by
  intro i hi
  rcases h.2 with ⟨rfl, _⟩ | ⟨g, cap, cur, rfl, h2, _⟩
  · simp [Value.ownBlock] at hi
  · simp [Value.ownBlock] at hi; omega
theorem own_kept2 {S : Nat → Prop} {w w' : World} {base size n : Nat} {e : TypeId} {v : Value} {xs : List Value} (h : w.ownsRow base e size v n xs) (f : Fr S w w') (hS : ∀ i, base ≤ i → ¬ S i) : w'.ownsRow base e size v n xs := by
  refine ⟨h.1, ?_⟩
  rcases h.2 with h | ⟨g, cap, cur, h1, h2, h3, h4⟩
  · exact .inl h
  · exact .inr ⟨g, cap, cur, h1, h2, (f.block g (Array.getElem?_eq_some_iff.1 h3).1 (hS g h2)).trans h3, h4⟩
theorem metR_snoc (f : KindD → Option Int) (done : List KindD) (k n c : Int) (h : f (k, n) = some c) : fRight.all (metR f (done ++ [(k, n)])) = fRight.all (metR f done) ++ [.int .i64 k, .int .i64 n, .int .i64 c] := by
  unfold metR
  rw [List.map_append, Flat.all_append]
  simp [h, Flat.all, fRight]
theorem metR_mem (f : KindD → Option Int) (done : List KindD) (h1 : ∀ k ∈ done, (f k).isSome = true) (h2 : ∀ k, (f k).isSome = true → k ∈ done) (y : RightT) : y ∈ metR f done ↔ f (kOf y) = some y.2.2 := by
  unfold metR
  rw [List.mem_map]
  constructor
  · rintro ⟨k, hk, rfl⟩
    obtain ⟨v, hv⟩ := Option.isSome_iff_exists.1 (h1 k hk)
    show f (k.1, k.2) = _
    rw [show ((k.1, k.2) : KindD) = k from rfl, hv]
    rfl
  · intro h
    refine ⟨kOf y, h2 _ (by rw [h]; rfl), ?_⟩
    rw [h]
    rfl
theorem needs_is (xs : List LineD) (hx : ∀ x ∈ xs, WfL x) (f : KindD → Option Int) (hf : f = sumOf (needL xs)) (done ys : List RightT) (hd : ∀ y, y ∈ done ↔ f (kOf y) = some y.2.2) (hp : ys.Perm done) (hr : Rising ys) : ys = needsD xs :=
  rising_eq hr (needs_rising xs (fun x h => (hx x h).2)) (fun y => by rw [hp.mem_iff, hd, hf, needs_mem xs (fun x h => (hx x h).2)])
theorem Fr.put (W : World) (D : Nat) (o : Obj) : Fr (fun i => i = D) W (W.putObj D o) := (Fr.of_grown (grownBy_putObj' W D o)).mono (fun i _ e => by simpa using e)
theorem Fr.below' {n₀ g : Nat} {a b : World} (h : Fr (fun i => i = g) a b) (hg : n₀ ≤ g) (hn : n₀ ≤ a.heap.size) : Below n₀ a b :=
  ⟨h.os, h.tape, h.output, h.size, fun k hk => h.block k (by omega) (by omega)⟩
/-- Between two rounds over the needs: the map holds the sums of those that have come. -/
def NeedI (w : World) (pre : List NeedT) (W : World) : Prop :=
  Blk W (w.heap.size + 1) 66 #[.map (some w.heap.size)] ∧ kindKey.Mp 2 W w.heap.size (2 * pre.length) (sumOf (pre.map Subtype.val)) ∧ Fr no w W ∧ w.heap.size + 3 ≤ W.heap.size
theorem needI_own (w : World) (B : Nat) (hB : w.heap.size + 3 ≤ B) : OwnFrom B (NeedI w) := by
  rintro s W W' row ⟨h1, h2, h3, h4⟩ hg hr
  have F : Fr (fun k => some k = row) W W' := Fr.of_grown hg
  refine ⟨h1.kept F (fun e => ?_), h2.kept F (fun e => ?_), h3.thru F (fun i hi e => ?_), Nat.le_trans h4 F.size⟩
  · have := (hr _ e.symm).1; omega
  · have := (hr _ e.symm).1; omega
  · have := (hr _ e.symm).1; omega

set_option maxRecDepth 100000 in
set_option maxHeartbeats 2000000 in
theorem Needs_c (A : Option Addr) (c : Nat) (xs : List LineD) (hx : ∀ x ∈ xs, WfL x) (hb : xs.length * 16 ≤ 140737488351232) (w : World) (hs : Sl fLine w A c xs) :
    Calls Try.prog 6 #[.slice A xs.length c] w fun e w' => ∃ A' c', e = .returned (.slice A' (needsD xs).length c') ∧ Sl fRight w' A' c' (needsD xs) ∧ Fr no w w' := by
  have H := hide hs
  clear hs
  refine (callsIn_wide (n := 7)).1 ?_
  refine callsIn_of_wp_marks Try.func6 rfl trivial ?_ rfl
  simp only [Try.ntmps6, List.size_toArray, List.length_cons, List.length_nil, Nat.reduceAdd, Nat.reduceSub, Array.replicate_succ, Array.replicate_zero, List.push_toArray, List.append_toArray, List.nil_append, List.cons_append]
  have hmm := @run_makeMap Try.prog
  have hf23 : Fence.wide.fn 23 := trivial
  gi_wp2_with (gi_at_call 23; refine (callsIn_wide.2 (needs_c _ _ _ _)).mono ?_; rintro e w' ⟨rfl, rfl⟩)
  clear hmm
  obtain ⟨W0, hW0⟩ : ∃ W0, ((w.alloc (.map #[] 0)).alloc (.cells #[.map (some w.heap.size)] 66)).alloc (.cells #[.slice A xs.length c] 36) = W0 := ⟨_, rfl⟩
  have F0 : Fr no w W0 := by rw [← hW0]; exact (((Fr.refl no w).alloc _).alloc _).alloc _
  have z0 : W0.heap.size = w.heap.size + 3 := by rw [← hW0]; simp
  have I0 : NeedI w [] W0 := by
    rw [← hW0]
    refine ⟨?_, ?_, (((Fr.refl no w).alloc _).alloc _).alloc _, by simp⟩
    · have := (Blk.new (w.alloc (.map #[] 0)) 66 #[.map (some w.heap.size)]).alloc (.cells #[.slice A xs.length c] 36)
      rwa [World.size_alloc] at this
    · exact (KeyK.Mp.made (kk := kindKey) w 2).kept0 (((Fr.refl no _).alloc _).alloc _)
  have c0 : W0.cell? ⟨w.heap.size + 1 + 1, 0, none⟩ = some (.slice A xs.length c) := by
    rw [← hW0]
    have := (Blk.new ((w.alloc (.map #[] 0)).alloc (.cells #[.map (some w.heap.size)] 66)) 36 #[.slice A xs.length c]).cell 0
    rwa [World.size_alloc, World.size_alloc] at this
  rw [hW0]
  clear hW0
  refine wpIn_rangeFunc_ownH (α := NeedT) rfl (by omega) (gf := 46) (lb := #[.pointer (some ⟨w.heap.size + 1 + 1, 0, none⟩)]) rfl trivial (enters_of Try.func46 (by kernel_rfl) rfl)
    (needs_stops (w.heap.size + 1 + 1) w.heap.size A c xs hx W0 (by omega) c0 (H.out.below F0.below) (fun hn => H.out.lt hn)) belowK_t (belowK_b (by omega)) (Below.refl _ _) (fun _ => rfl)
    (NeedI w) (fun _ _ _ => False) (needI_own w _ (by omega)) (fun _ _ _ _ _ hs _ _ => hs) I0
    (fun x a' W => ∃ Bx, w.heap.size + 3 ≤ Bx ∧ Blk W Bx 71 #[.int .i64 x.1.1.1, .int .i64 x.1.1.2] ∧ a' = { tmps := #[.slice A xs.length c, undef, .slice none 0 0, .pointer (some ⟨w.heap.size + 1, 0, none⟩), .pointer (some ⟨Bx, 0, none⟩), .int .i64 x.1.2, undef, undef, undef, .map (some w.heap.size), .slice A xs.length c, .func (.func 46) #[] #[.pointer (some ⟨w.heap.size + 1 + 1, 0, none⟩)], .agg #[.int .i64 x.1.1.1, .int .i64 x.1.1.2], .int .i64 x.1.2, undef, undef, undef, undef, undef, undef, undef, undef, undef, undef, undef, undef, undef, undef, undef, undef, undef, undef, undef, undef, undef, undef, undef, undef, undef, undef], defers := [] }) ?hAx ?assign ?body ?done ?stop
  case hAx =>
    rintro x a' _ W W' row ⟨Bx, h1, h2, h3⟩ hg hr
    refine ⟨Bx, h1, h2.kept (Fr.of_grown hg) (fun e => ?_), h3⟩
    obtain ⟨_, o, ho, hc⟩ := hr _ e.symm
    rw [show W.heap[Bx]? = _ from h2] at ho
    cases ho
    cases hc
  case assign =>
    intro l pre x W K hI hK
    obtain ⟨⟨⟨c1, k1⟩, n1⟩, hx1⟩ := x
    have hsz := hI.2.2.1.size
    rw [show needEnc ⟨((c1, k1), n1), hx1⟩ = #[.agg #[.int .i64 c1, .int .i64 k1], .int .i64 n1] from rfl]
    gi_wp2
    have F : Fr no W (W.alloc (.cells #[.int .i64 c1, .int .i64 k1] 71)) := (Fr.refl no W).alloc _
    exact hK _ _ ((KeepsOthers.alloc _ _).from _) ((Below.refl _ W).alloc hsz _) ⟨hI.1.kept0 F, hI.2.1.kept0 F, hI.2.2.1.trans F, Nat.le_trans hI.2.2.2 F.size⟩ ⟨W.heap.size, hI.2.2.2, Blk.new W _ _, rfl⟩
  case body =>
    rintro l pre x a' W hl ⟨r, hr⟩ ⟨h1, h2, h3, h4⟩ ⟨Bx, hBx, bX, rfl⟩ hlt
    obtain ⟨⟨⟨c1, k1⟩, n1⟩, hx1⟩ := x
    simp only at bX
    have hN : pre.length < 9223372036854775807 / 4 := by omega
    have hq : Wf64 (IntKind.i64.wrap (((sumOf (pre.map Subtype.val)) (c1, k1)).getD 0 + n1)) := wr64_wf _
    have M := h2.kept0 ((Fr.refl no W).drew)
    obtain ⟨v, st, w2, w3, e1, e2, e3, e4, M3, F3⟩ := M.entry (t := 66) Try.underlying66 Try.underlying2 (fun u => by kernel_rfl) (by simp only [maxLen]; omega) (y := (c1, k1)) (show kindKey.ok (c1, k1) from ⟨wf_lit hx1.1.1, wf_lit hx1.1.2⟩) (wf_lit hq)
    have hsum : sumOf ((pre ++ [(⟨((c1, k1), n1), hx1⟩ : NeedT)]).map Subtype.val) = KeyK.upd (sumOf (pre.map Subtype.val)) (c1, k1) (IntKind.i64.wrap (((sumOf (pre.map Subtype.val)) (c1, k1)).getD 0 + n1)) := by
      rw [List.map_append]; exact sumOf_snoc _ _
    have e1' : (Instr.mapEntry 66 (.map (some w.heap.size)) (.agg #[.int .i64 c1, .int .i64 k1])).run Try.prog W.drew = .ok (.tuple #[v, .int .i64 st]) w2 := e1
    have e2' : (Instr.lookup 66 (.map (some w.heap.size)) (.agg #[.int .i64 c1, .int .i64 k1]) false).run Try.prog W.drew = .ok (.int .i64 (((sumOf (pre.map Subtype.val)) (c1, k1)).getD 0)) W.drew := e2
    have e3' : (Instr.lookup 66 (.map (some w.heap.size)) (.agg #[.int .i64 c1, .int .i64 k1]) false).run Try.prog w2 = .ok (.int .i64 (((sumOf (pre.map Subtype.val)) (c1, k1)).getD 0)) w2 := e3
    have e4' : (Instr.entryStore 66 (.map (some w.heap.size)) (.int .i64 st) (.int .i64 (IntKind.i64.wrap (((sumOf (pre.map Subtype.val)) (c1, k1)).getD 0 + n1)))).run Try.prog w2 = .ok () w3 := e4
    clear e1 e2 e3 e4 M
    have POST : Hid (ownPostG W0.heap.size (Below w.heap.size) (NeedI w) (fun _ _ _ => False) (pre ++ [⟨((c1, k1), n1), hx1⟩]) W .normal { tmps := #[], defers := [] } w3) := hide (by
      have F : Fr (fun i => i = w.heap.size) W w3 := ((Fr.refl _ W).drew).trans F3
      refine ⟨⟨F.size, fun k o hB hk ho => ?_⟩, F.below' (Nat.le_refl _) h3.size, h1.kept F (by omega), ?_, h3.thru F (fun i hi e => ?_), Nat.le_trans h4 F.size⟩
      · exact (F.block k (Array.getElem?_eq_some_iff.1 hk).1 (by omega)).trans hk
      · rw [hsum]
        exact M3.mono (by simp; omega)
      · omega)
    clear hsum M3 F3 hq
    generalize ((sumOf (pre.map Subtype.val)) (c1, k1)).getD 0 = v0 at *
    have b0 := bX.cell 0
    have b1 := bX.cell 1
    have b2 := h1.cell 0
    simp at b0 b1 b2
    clear h1 h2 bX
    gi_wp2
    gi_region
    all_goals exact POST.out
  case done =>
    rintro D ys W hD rfl ⟨h1, h2, h3, h4⟩ hK
    obtain ⟨i0, hi, hz0, hz1, hz2⟩ := info_parts info_right
    have b2 := h1.cell 0
    simp at b2
    gi_wp2_with (gi_at_range; refine wpListIn_ranged (kk := kindKey) _ rfl _ _ rfl 2 Try.underlying66 w.heap.size _ _ rfl h2 ?_; intro wR cnt hRg hgR hsR)
    have FR : Fr no W wR := (Fr.of_grown hgR).mono (fun _ _ e => by simp at e)
    obtain ⟨f, hf⟩ : ∃ f, f = sumOf ((needTs xs hx).map Subtype.val) := ⟨_, rfl⟩
    rw [← hf] at hRg
    have HF : Hid (f = sumOf (needL xs)) := hide (by rw [hf, needTs_val])
    have HX := hide hx
    have hfl : Hid (∀ done : List KindD, done.Nodup → (∀ k ∈ done, (f k).isSome = true) → done.length ≤ xs.length) := hide (by
      intro done h5 h6
      have := nodup_le done ((needL xs).map (·.1)) h5 (fun k hk => sum_some _ _ (by rw [← needTs_val xs hx, ← hf]; exact h6 k hk))
      simpa [needL] using this)
    have hgW : w.heap.size < W.heap.size := by omega
    have hn2 : Hid ((needTs xs hx).length = xs.length) := hide (by simp [needTs])
    generalize 2 * (needTs xs hx).length = N2 at *
    clear hgR h1 h2 b2 hf
    go_simp
    gi_loopw [6] (fun v wr => ∃ (done : List KindD) (cnt' : Nat), kindKey.Rg 2 wr w.heap.size W.heap.size _ f done cnt' ∧ wr.ownsRow (W.heap.size + 1) 42 3 v done.length (fRight.all (metR f done)) ∧ Fr no W wr ∧ W.heap.size + 1 ≤ wr.heap.size)
      (fun _ wr => wr.rangeLeft w.heap.size W.heap.size)
    case atStart => exact ⟨[], cnt, hRg, World.ownsRow_nil wR _ _ _, FR, by omega⟩
    case round =>
      obtain ⟨done, cnt', hRr, own, FW, hsz⟩ := hrel
      have hcnt := hRr.left_eq
      obtain ⟨X, hX⟩ : ∃ X, X = wr.rangeLeft w.heap.size W.heap.size := ⟨_, rfl⟩
      rw [← hX] at hcnt ⊢
      have hdl := hfl.out
      gi_wp2_with (gi_at_next; refine wpListIn_nexted (kk := kindKey) _ rfl _ rfl 2 Try.underlying2 w.heap.size W.heap.size _ f done cnt' rfl hRr ?fin ?more)
      case fin =>
        intro hfin
        have hok : Hid (∀ y, y ∈ metR f done ↔ f (kOf y) = some y.2.2) := hide (by
          obtain ⟨_, _, _, _, _, hd1, _⟩ := hRr
          refine metR_mem f done (fun k hk => (hd1 k hk).2) (fun k hk => hfin k.1 k.2 ?_ hk)
          have hk2 := hk
          rw [HF.out] at hk2
          have := sum_some _ _ hk2
          obtain ⟨p, hp, rfl⟩ := List.mem_map.1 this
          obtain ⟨x, hx', rfl⟩ := List.mem_map.1 hp
          exact ⟨wf_lit (HX.out x hx').1, wf_lit (wayOf_wf _)⟩)
        have hnd : Hid done.Nodup := hide (by obtain ⟨_, _, _, _, hd1, _⟩ := hRr; exact hd1)
        have hds : Hid (∀ k ∈ done, (f k).isSome = true) := hide (by obtain ⟨_, _, _, _, _, hd1, _⟩ := hRr; exact fun k hk => (hd1 k hk).2)
        have hf24 : Fence.wide.fn 24 := trivial
        have hKr : wr.heap[D]? = some (.deferred (some [])) := (FW.block D (Array.getElem?_eq_some_iff.1 hK).1 (fun e => e)).trans hK
        have HKR := hide hKr
        have hDw : Hid (w.heap.size ≤ D) := hide (by omega)
        have hDW : Hid (D < W.heap.size) := hide (Array.getElem?_eq_some_iff.1 hK).1
        have FWr : Fr no w wr := h3.trans FW
        clear hfin hRr hcnt hX hdl hK hKr
        rcases own.2 with ⟨rfl, hl0⟩ | ⟨g', cap, cur, rfl, hbg, hg, hnc, hcm, hcs, htake⟩
        · obtain rfl : done = [] := List.eq_nil_of_length_eq_zero hl0
          have hne : Hid (needsD xs = []) := hide (needs_is xs HX.out f HF.out (metR f []) [] hok.out (List.Perm.refl _) List.Pairwise.nil).symm
          have hS : ∀ fv w1, Calls Try.prog 24 #[.slice none 0 0, fv] w1 _ := fun fv w1 => AnyF.slices_SortFunc_none sortR none 0 fv w1
          gi_wp2_with (gi_at_call 24; refine (callsIn_wide.2 (hS _ _)).mono ?_; rintro e w' ⟨rfl, rfl⟩)
          refine ⟨by simp, .inl ⟨_, _, rfl, run_takeDeferred HKR.out, ?_⟩⟩
          refine ⟨_, results_tmp rfl _ _ _, none, 0, by rw [hne.out]; rfl, ?_, FWr.thru (Fr.put _ D _) (fun i hi e => by have := hDw.out; omega)⟩
          rw [hne.out]
          exact ⟨Nat.le_refl _, Nat.zero_le _, fun h => absurd rfl h, fun _ => rfl⟩
        · have hml : (metR f done).length = done.length := by simp [metR]
          have hS := sort_c g' cap (metR f done) wr (fun i h r hr => by
              have h1 := fRight.all_get (metR f done) i r h hr
              have h2 : r < (fRight.enc (metR f done)[i]).length := by rw [fRight.len]; exact hr
              rw [List.getElem?_eq_getElem h2] at h1
              have := own.cells (g := g') rfl _ _ h1
              rw [Kd.addr_add, Nat.zero_add] at this
              rw [show (encR (metR f done)[i])[r]? = (fRight.enc (metR f done)[i])[r]? from rfl, List.getElem?_eq_getElem h2]
              exact this) (fun j => Blk.free (T := 42) hg j) (Array.getElem?_eq_some_iff.1 hg).1 (by rw [hml]; have := hfl.out done hnd.out hds.out; omega)
            (List.pairwise_map.2 (hnd.out.imp fun h => h))
          rw [hml] at hS
          have HBG := hide hbg
          have HCAP := hide hnc
          have HCM := hide hcm
          clear own hg hcs htake hbg hnc hcm
          gi_wp2_with (gi_at_call 24; refine (callsIn_wide.2 hS).mono ?_; rintro e w2 ⟨rfl, ys, hp, hr, hc, F2⟩)
          have hD2 : w2.heap[D]? = some (.deferred (some [])) := (F2.block D (Array.getElem?_eq_some_iff.1 HKR.out).1 (by have := HBG.out; have := hDW.out; omega)).trans HKR.out
          refine ⟨by simp, .inl ⟨_, _, rfl, run_takeDeferred hD2, ?_⟩⟩
          have hys : ys = needsD xs := needs_is xs HX.out f HF.out (metR f done) ys hok.out hp hr
          have hyl : ys.length = done.length := by rw [hp.length_eq, hml]
          have FE : Fr (fun i => i = D) w2 (w2.putObj D (.deferred none)) := Fr.put _ D _
          refine ⟨_, results_tmp rfl _ _ _, some ⟨g', 0, none⟩, cap, by rw [← hys, hyl]; rfl, ?_, ?_⟩
          · rw [← hys]
            refine ⟨by rw [hyl]; exact HCAP.out, HCM.out, fun _ => ⟨g', 0, rfl, fun i h r hr' => ?_⟩, fun h => by cases h⟩
            have h1 := hc i h r hr'
            have hgD : ¬ g' = D := by have := HBG.out; have := hDW.out; omega
            have h2 : (encR ys[i])[r]? = (fRight.enc ys[i])[r]? := rfl
            rw [Nat.zero_add, ← h2, ← h1]
            have h3 : r < (encR ys[i]).length := hr'
            rw [List.getElem?_eq_getElem h3] at h1
            exact World.cell?_of_block (FE.block g' (World.block_lt_of_cell? w2 _ h1) hgD)
          · have FA : Fr no w w2 := FWr.thru F2 (fun i hi e => by have := HBG.out; omega)
            exact FA.thru FE (fun i hi e => by have := hDw.out; omega)
      case more =>
        intro k n c1 w1 cnt1 hok hnd hfk hRg1 hlt1 hg1 hs1 hen
        rw [show kindKey.enc (k, n) = .agg #[.int .i64 k, .int .i64 n] from rfl] at hen ⊢
        have F1 : Fr (fun i => i = W.heap.size) wr w1 := (Fr.of_grown hg1).mono (fun i _ e => by simpa using e)
        have own1 := own_kept2 own F1 (fun i h e => by omega)
        have hdone : done.length + 1 ≤ xs.length := by
          obtain ⟨_, _, _, _, hd1, hd2, _⟩ := hRg1
          have := hfl.out _ hd1 (fun k hk => (hd2 k hk).2)
          simpa using this
        have hnc := new_cells (w1.alloc (.cells #[.int .i64 k, .int .i64 n] 71)) [.int .i64 k, .int .i64 n, .int .i64 c1] 42
        rw [World.size_alloc] at hnc
        have HNC := hide hnc
        have HOWN := hide own1
        have HB := hide (own_base own1)
        have HREL := hide hRg1
        have HFK := hide hfk
        have hsz1 : W.heap.size + 1 ≤ w1.heap.size := Nat.le_trans hsz F1.size
        clear hnc own1 own hRg1 hRr hfk hok hnd hg1 hdl hs1
        gi_wp2_with (gi_at_builtin; refine wpListIn_append_one _ rfl _ _ 43 rfl (W.heap.size + 1) 42 i0 (.agg #[.int .i64 0, .int .i64 0, .int .i64 0]) 3 24 Try.underlying43 hi hz0 hz1 hz2 rfl (by decide) (by decide) _ done.length _ rfl (own_kept HOWN.out (((Fr.refl no w1).alloc _).alloc _)) ⟨w1.heap.size + 1, 0, none⟩ 1 [.int .i64 k, .int .i64 n, .int .i64 c1] rfl rfl HNC.out (fun u hu => by simp at hu; rcases hu with rfl | rfl | rfl <;> rfl) (by simp only [maxLen]; omega) (by omega) (by simp; omega) ?_; intro v' w2 own2 grow2)
        have F2 : Fr (fun i => W.heap.size + 1 ≤ i) w1 w2 := (((Fr.refl _ w1).alloc _).alloc _).thru (Fr.of_grown grow2) (fun i _ e => HB.out i e)
        have e3 := metR_snoc f done k n c1 HFK.out
        have FW2 : Fr no W w2 := (FW.thru F1 (fun i hi e => by omega)).thru F2 (fun i hi e => by omega)
        have hsz2 : W.heap.size + 1 ≤ w2.heap.size := Nat.le_trans hsz1 F2.size
        have R2 := HREL.out.kept F2 (by omega) (by omega)
        rw [← e3] at own2
        have own3 : w2.ownsRow (W.heap.size + 1) 42 3 v' (done ++ [(k, n)]).length (fRight.all (metR f (done ++ [(k, n)]))) := by
          rw [List.length_append]; exact own2
        have REL := hide (⟨done ++ [(k, n)], cnt1, R2, own3, FW2, hsz2⟩ : ∃ (done : List KindD) (cnt' : Nat), kindKey.Rg 2 w2 w.heap.size W.heap.size N2 f done cnt' ∧ w2.ownsRow (W.heap.size + 1) 42 3 v' done.length (fRight.all (metR f done)) ∧ Fr no W w2 ∧ W.heap.size + 1 ≤ w2.heap.size)
        have MES : Hid (w2.rangeLeft w.heap.size W.heap.size < X) := hide (by rw [R2.left_eq]; omega)
        clear own2 own3 grow2 F2 e3 FW2 hsz2 R2
        gi_wp2
        exact ⟨REL.out, MES.out⟩
  case stop =>
    rintro D c pre W _ _ h _
    exact h.elim
end Go.Proofs.Ytmnajpkmglmipaa
