/- The iterator over what each line needs: a sequence of kinds and numbers. -/
import Derived.Test.YtmnajpkmglmipaaCmp
import Derived.Test.YtmnajpkmglmipaaEq
import Derived.RangeFuncNested
import Derived.RangeFuncBound
import Derived.RangeFuncCalls
import Derived.RangeFuncLeaves
import Derived.Shelf.Abstract
import Derived.OwnWalkIn
import Derived.TacticsInMore
import Derived.LoopNIn
import Derived.LoopIn
import Derived.Stop.RegionWithIn
namespace Go.Proofs.Ytmnajpkmglmipaa
open Go.RowKit Go.Shelf
attribute [local go_sem] Oper.semAt_some

/-- What a sequence of kinds and numbers hands over: a kind whose numbers are numbers of 64 bits, and a number. -/
abbrev NeedT := { p : KindD × Int // (Wf64 p.1.1 ∧ Wf64 p.1.2) ∧ Wf64 p.2 }
def needEnc (p : NeedT) : Array Value := #[.agg #[.int .i64 p.1.1.1, .int .i64 p.1.1.2], .int .i64 p.1.2]
theorem wayOf_wf (c : Int) : Wf64 (wayOf c) := by unfold wayOf Wf64; split <;> omega
theorem amtOf_wf {c : Int} (h : Wf64 c) : Wf64 (amtOf c) := by
  unfold amtOf
  split
  · exact wr64_wf _
  · exact h
def WfL (x : LineD) : Prop := Wf64 x.1 ∧ Wf64 x.2
/-- What lines need, one behind the other. -/
def needT (x : LineD) (h : WfL x) : NeedT := ⟨((x.1, wayOf x.2), amtOf x.2), ⟨h.1, wayOf_wf _⟩, amtOf_wf h.2⟩
def needTs (xs : List LineD) (h : ∀ x ∈ xs, WfL x) : List NeedT := xs.attach.map fun x => needT x.1 (h x.1 x.2)

set_option maxRecDepth 100000 in
set_option maxHeartbeats 2000000 in
theorem needs_it (l Bn : Nat) (A : Option Addr) (c n₀ : Nat) (xs : List LineD) (hx : ∀ x ∈ xs, WfL x) (J Jx : List NeedT → World → Prop)
    (hY : ∀ pre x W, J pre W → pre.length < xs.length → YieldAt Fence.wide 5 Try.prog l (needEnc x) W fun e W' => (e = .returned (.bool true) ∧ J (pre ++ [x]) W' ∧ Below n₀ W W') ∨ (e = .returned (.bool false) ∧ Jx (pre ++ [x]) W'))
    (W : World) (hJ : AbidesFrom W.heap.size J) (hBn : W.cell? ⟨Bn, 0, none⟩ = some (.slice A xs.length c)) (hs : Sl fLine W A c xs) (hA : xs ≠ [] → ∀ a, A = some a → a.block < n₀) (hn₀ : n₀ ≤ W.heap.size) (h0 : J [] W) :
    CallsIn Fence.wide 6 Try.prog 46 #[.func (.yield l) #[] #[], .pointer (some ⟨Bn, 0, none⟩)] W fun e W' => (∃ v, e = .returned v) ∧
      ((∃ ys, ys = needTs xs hx ∧ J ys W') ∨ (∃ pre, pre <+: needTs xs hx ∧ Jx pre W')) := by
  have hlen : (needTs xs hx).length = xs.length := by simp [needTs]
  have hget : ∀ m (h : m < xs.length) (h' : m < (needTs xs hx).length), (needTs xs hx)[m]'h' = needT xs[m] (hx _ (List.getElem_mem _)) := by
    intro m h h'
    simp only [needTs, List.getElem_map, List.getElem_attach]
  obtain ⟨ts, hts⟩ : ∃ ts, ts = needTs xs hx := ⟨_, rfl⟩
  rw [← hts] at hlen ⊢
  have HG : Hid (∀ m (h : m < xs.length), ∃ h' : m < ts.length, ∃ hw : WfL xs[m], ts[m]'h' = needT xs[m] hw) := hide (by
    subst hts
    intro m h
    exact ⟨by rw [hlen]; exact h, hx _ (List.getElem_mem _), hget m h _⟩)
  clear hget hts
  refine callsIn_of_wp Try.func46 rfl trivial ?_ rfl
  simp only [Try.ntmps46, List.size_toArray, List.length_cons, List.length_nil, Nat.reduceAdd, Nat.reduceSub, Array.replicate_succ, Array.replicate_zero, List.push_toArray, List.append_toArray, List.nil_append, List.cons_append]
  gi_wp2
  have ht : xs.length ≤ 9223372036854775807 := by have h1 := hs.le; have h2 := hs.top; simp only [maxLen] at h2; omega
  have hf47 : Fence.wide.fn 47 := trivial
  have HS := hide hs
  have HJ := hide hJ
  have HY := hide hY
  clear hs hJ hY
  gi_loopw [8] (fun i wr => ∃ m : Nat, i = .int .i64 m ∧ m ≤ xs.length ∧ J (ts.take m) wr ∧ Below n₀ W wr) (fun i _ => xs.length - (intOf i).toNat)
  case atStart => exact ⟨0, rfl, Nat.zero_le _, h0, Below.refl _ _⟩
  case round =>
    obtain ⟨m, rfl, hm, hJm, hbl⟩ := hrel
    by_cases hlt : m < xs.length
    · obtain ⟨g, o, rfl, hc⟩ := HS.out.cells (List.length_pos_iff.1 (by omega))
      obtain ⟨c1, d1, hxm⟩ : ∃ c1 d1, xs[m] = (c1, d1) := ⟨_, _, rfl⟩
      have hg : g < n₀ := hA (List.length_pos_iff.1 (by omega)) _ rfl
      have a0 : wr.cell? ⟨g, o + m * 2, none⟩ = some (.int .i64 c1) := by
        have := hc m hlt 0 (by decide)
        rw [hxm] at this
        exact (hbl.cell (p := ⟨g, o + m * 2, none⟩) hg).trans this
      have a1 : wr.cell? ⟨g, o + m * 2 + 1, none⟩ = some (.int .i64 d1) := by
        have := hc m hlt 1 (by decide)
        rw [hxm] at this
        exact (hbl.cell (p := ⟨g, o + m * 2 + 1, none⟩) hg).trans this
      obtain ⟨hm', hw, hel⟩ := HG.out m hlt
      have htk : Hid (ts.take (m + 1) = ts.take m ++ [ts[m]]) := hide (List.take_append_getElem hm').symm
      have hd1 : Wf64 d1 := by rw [hxm] at hw; exact hw.2
      have HD := hide hd1
      have hq : IntKind.i64.wrap (d1.natAbs : Int) = amtOf d1 := natAbs_amt d1 hd1
      have hen : needEnc ts[m] = #[.agg #[.int .i64 c1, .int .i64 (wayOf d1)], .int .i64 (amtOf d1)] := by
        rw [hel]; simp only [needEnc, needT, hxm]
      have hJ2 : J (ts.take m) (wr.alloc (.cells #[.int .i64 c1, .int .i64 d1] 104)).drew := by
        have hsz := hbl.size
        refine HJ.out _ _ _ none hJm ⟨rfl, rfl, rfl, by simp [World.drew], fun k hk _ => heap_alloc_old wr _ hk⟩ (fun r e => by cases e)
      have hb2 : Below n₀ W (wr.alloc (.cells #[.int .i64 c1, .int .i64 d1] 104)).drew := (hbl.alloc (Nat.le_trans hn₀ hbl.size) _).drew
      have hR0 := HY.out _ ts[m] _ hJ2 (by rw [List.length_take, hlen]; omega)
      rw [hen] at hR0
      have hi0 : (0 : Int) ≤ m := by omega
      have hi1 : (m : Int) < xs.length := by omega
      generalize ts[m] = tm at *
      clear hc hxm hw hel hen hd1
      generalize hqq : amtOf d1 = q at *
      clear hqq
      have hR1 := hR0
      clear hR0
      obtain ⟨wy, hwy⟩ : ∃ wy, wy = wayOf d1 := ⟨_, rfl⟩
      rw [← hwy] at hR1
      obtain ⟨fn, tmps, assign, body, hy, hR'⟩ := hR1
      have hR := hR'.mono (R' := fun e W' => ∃ bb, e = .returned (.bool bb) ∧ Hid ((bb = true → J (ts.take m ++ [tm]) W' ∧ Below n₀ (wr.alloc (.cells #[.int .i64 c1, .int .i64 d1] 104)).drew W') ∧ (bb = false → Jx (ts.take m ++ [tm]) W')))
        (by rintro e W' (⟨rfl, h1, h2⟩ | ⟨rfl, h1⟩)
            · exact ⟨true, rfl, hide ⟨fun _ => ⟨h1, h2⟩, fun h => (by cases h)⟩⟩
            · exact ⟨false, rfl, hide ⟨fun h => (by cases h), fun _ => h1⟩⟩)
      clear hR'
      by_cases hneg : d1 < 0
      · obtain rfl : wy = 0 := by rw [hwy]; simp [wayOf, hneg]
        clear hwy
        gi_wp2
        gi_region_with (first
          | (gi_at_call 47; refine (callsIn_wide.2 (amount_c _ HD.out _)).mono ?_; rintro e w' ⟨rfl, rfl⟩)
          | (refine hR.mono ?_; rintro e W3 ⟨bb, rfl, hD⟩))
        all_goals
          cases bb
          · have jx := hD.out.2 rfl
            gi_wp2
            refine bodyPost_ret (results_none rfl _ _ _) rfl ?_
            exact ⟨⟨_, rfl⟩, .inr ⟨_, htk.out ▸ List.take_prefix (m + 1) ts, jx⟩⟩
          · have jt := hide (hD.out.1 rfl)
            gi_wp2
            exact ⟨⟨m + 1, by simp, hlt, htk.out ▸ jt.out.1, hb2.trans jt.out.2⟩, by simp [intOf]; omega⟩
      · obtain rfl : wy = 1 := by rw [hwy]; simp [wayOf, hneg]
        clear hwy
        gi_wp2
        gi_region_with (first
          | (gi_at_call 47; refine (callsIn_wide.2 (amount_c _ HD.out _)).mono ?_; rintro e w' ⟨rfl, rfl⟩)
          | (refine hR.mono ?_; rintro e W3 ⟨bb, rfl, hD⟩))
        all_goals
          cases bb
          · have jx := hD.out.2 rfl
            gi_wp2
            refine bodyPost_ret (results_none rfl _ _ _) rfl ?_
            exact ⟨⟨_, rfl⟩, .inr ⟨_, htk.out ▸ List.take_prefix (m + 1) ts, jx⟩⟩
          · have jt := hide (hD.out.1 rfl)
            gi_wp2
            exact ⟨⟨m + 1, by simp, hlt, htk.out ▸ jt.out.1, hb2.trans jt.out.2⟩, by simp [intOf]; omega⟩
    · obtain rfl : m = xs.length := by omega
      gi_wp2
      go_end0
      exact ⟨⟨_, rfl⟩, .inl ⟨ts, rfl, by rw [List.take_of_length_le (by omega)] at hJm; exact hJm⟩⟩
theorem needs_c (A : Option Addr) (n c : Nat) (w : World) :
    Calls Try.prog 23 #[.slice A n c] w fun e w' => e = .returned (.func (.func 46) #[] #[.pointer (some ⟨w.heap.size, 0, none⟩)]) ∧ w' = w.alloc (.cells #[.slice A n c] 36) := by
  go_enter Try.func23, Try.ntmps23
  go_wp2_with fail
  go_ret
  exact ⟨rfl, rfl⟩
theorem Sl.lt {α : Type} {f : Flat α} {w : World} {A : Option Addr} {c : Nat} {xs : List α} (h : Sl f w A c xs) (hn : xs ≠ []) : ∀ a, A = some a → a.block < w.heap.size := by
  intro a ha
  obtain ⟨g, o, e, hc⟩ := h.cells hn
  rw [ha] at e
  obtain rfl := Option.some.inj e
  have h0 : 0 < xs.length := List.length_pos_iff.2 hn
  have := hc 0 h0 0 f.pos
  rw [List.getElem?_eq_getElem (by rw [f.len]; exact f.pos)] at this
  have hb := World.block_lt_of_cell? w _ this
  exact hb
theorem Sl.below {α : Type} {f : Flat α} {w w' : World} {A : Option Addr} {c : Nat} {xs : List α} (h : Sl f w A c xs) (k : Below w.heap.size w w') : Sl f w' A c xs := by
  by_cases hn : xs = []
  · exact ⟨h.le, h.top, fun e => absurd hn e, h.none⟩
  · exact h.kept (fun b ⟨a, ha, e⟩ => by subst e; exact k.block _ (h.lt hn a ha))
theorem needs_stops (Bn n₀ : Nat) (A : Option Addr) (c : Nat) (xs : List LineD) (hx : ∀ x ∈ xs, WfL x) (w : World) (hn₀ : n₀ ≤ w.heap.size) (hBn : w.cell? ⟨Bn, 0, none⟩ = some (.slice A xs.length c)) (hs : Sl fLine w A c xs) (hA : xs ≠ [] → ∀ a, A = some a → a.block < n₀) :
    SeqStopsK Fence.wide 6 Try.prog 46 #[.pointer (some ⟨Bn, 0, none⟩)] needEnc (Below n₀) (fun ys => ys = needTs xs hx) (fun pre => pre <+: needTs xs hx) xs.length w := fun l J Jx W hW hJ _ hY h0 =>
  needs_it l Bn A c n₀ xs hx J Jx hY W hJ ((hW.cell (p := ⟨Bn, 0, none⟩) (World.block_lt_of_cell? w _ hBn)).trans hBn) (hs.below hW) hA (Nat.le_trans hn₀ hW.size) h0
end Go.Proofs.Ytmnajpkmglmipaa
