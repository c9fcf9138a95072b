/- The walk of LeaseExact. -/
import Derived.Test.YtljcncfipocnpaaLease
import Derived.Deep.RegionHeld3
import Derived.Deep.DeepCutAuto
import Derived.Deep.LoopGhost
import Derived.Deep.QuietTactic
import Derived.BigQuiet
namespace Go.Proofs.Ytljcncfipocnpaa
open Go.RowKit

/-- A slice that reads as a list of ints. -/
def Ints (w : World) (A : Option Addr) (n : Nat) (xs : List Int) : Prop :=
  xs.length = n ∧ n ≤ 9223372036854775807 ∧ (0 < n → ∃ b off, A = some ⟨b, off, none⟩ ∧ ∀ j, j < n → w.cell? ⟨b, off + j, none⟩ = some (.int .i64 (xs.getD j 0)))

/-- The script, the two leases and their twins: where they lie, what they hold. -/
structure Two (g : Nat) (P : Array Value) (t0 t1 : Int) (a b c d e f : Nat) (W : World) (l0 l1 : Int) : Prop where
  s : Blk W g 25 P
  h0 : LeaseAt 72 W a (max t0 0) l0
  h1 : LeaseAt 72 W b (max t1 0) l1
  r0 : LeaseAt 31 W c t0 l0
  r1 : LeaseAt 31 W d t1 l1
  p : Blk W e 28 #[.pointer (some ⟨a, 0, none⟩), .pointer (some ⟨b, 0, none⟩)]
  q : Blk W f 32 #[.pointer (some ⟨c, 0, none⟩), .pointer (some ⟨d, 0, none⟩)]
  b0 : 0 ≤ l0 ∧ l0 ≤ 9223372036854775807
  b1 : 0 ≤ l1 ∧ l1 ≤ 9223372036854775807

/-- No two of the seven places are one; all lie from base on. -/
structure Apart7 (base g a b c d e f : Nat) : Prop where
  lo : base ≤ g ∧ base ≤ a ∧ base ≤ b ∧ base ≤ c ∧ base ≤ d ∧ base ≤ e ∧ base ≤ f
  n0 : g ≠ a ∧ g ≠ b ∧ g ≠ c ∧ g ≠ d ∧ g ≠ e ∧ g ≠ f
  n1 : a ≠ b ∧ a ≠ c ∧ a ≠ d ∧ a ≠ e ∧ a ≠ f
  n2 : b ≠ c ∧ b ≠ d ∧ b ≠ e ∧ b ≠ f
  n3 : c ≠ d ∧ c ≠ e ∧ c ≠ f
  n4 : d ≠ e ∧ d ≠ f
  n5 : e ≠ f

section
variable {base g : Nat} {P : Array Value} {t0 t1 l0 l1 l : Int} {a b c d e f : Nat} {w wr W1 W2 : World}
theorem Two.step0 (h : Two g P t0 t1 a b c d e f wr l0 l1) (ap : Apart7 base g a b c d e f) (hb : w.heap.size ≤ base) (hF : Fr no w wr)
    (k1 : LeaseAt 72 W1 a (max t0 0) l) (f1 : Fr (fun k => k = a) wr W1) (k2 : LeaseAt 31 W2 c t0 l) (f2 : Fr (fun k => k = c) W1 W2) (hl : 0 ≤ l ∧ l ≤ 9223372036854775807) :
    Fr no w W2 ∧ ∃ l0 l1, Two g P t0 t1 a b c d e f W2 l0 l1 := by
  have ⟨z0, ⟨ga, gb, gc, gd, ge, gf⟩, ⟨ab, ac, ad, ae, af⟩, ⟨bc, bd, be, bf⟩, ⟨cd, ce, cf⟩, ⟨de, df⟩, ef⟩ := ap
  have ff : Fr (fun k => k = a ∨ k = c) wr W2 := (f1.mono (fun _ _ h => .inl h)).thru f2 (fun _ _ h => .inr h)
  exact ⟨hF.thru ff (fun i hi hk => by clear ga gb gc gd ge gf ab ac ad ae af bc bd be bf cd ce cf de df ef; omega), l, l1, h.s.kept ff (fun x => x.elim ga gc), Blk.kept k1 f2 ac, Blk.kept h.h1 ff (fun x => x.elim (fun y => ab y.symm) bc), k2, Blk.kept h.r1 ff (fun x => x.elim (fun y => ad y.symm) (fun y => cd y.symm)), h.p.kept ff (fun x => x.elim (fun y => ae y.symm) (fun y => ce y.symm)), h.q.kept ff (fun x => x.elim (fun y => af y.symm) (fun y => cf y.symm)), hl, h.b1⟩
theorem Two.drewN (h : Two g P t0 t1 a b c d e f wr l0 l1) (n : Nat) : Two g P t0 t1 a b c d e f (wr.drewN n) l0 l1 := ⟨h.s, h.h0, h.h1, h.r0, h.r1, h.p, h.q, h.b0, h.b1⟩
theorem Two.step1 (h : Two g P t0 t1 a b c d e f wr l0 l1) (ap : Apart7 base g a b c d e f) (hb : w.heap.size ≤ base) (hF : Fr no w wr)
    (k1 : LeaseAt 72 W1 b (max t1 0) l) (f1 : Fr (fun k => k = b) wr W1) (k2 : LeaseAt 31 W2 d t1 l) (f2 : Fr (fun k => k = d) W1 W2) (hl : 0 ≤ l ∧ l ≤ 9223372036854775807) :
    Fr no w W2 ∧ ∃ l0 l1, Two g P t0 t1 a b c d e f W2 l0 l1 := by
  have ⟨z0, ⟨ga, gb, gc, gd, ge, gf⟩, ⟨ab, ac, ad, ae, af⟩, ⟨bc, bd, be, bf⟩, ⟨cd, ce, cf⟩, ⟨de, df⟩, ef⟩ := ap
  have ff : Fr (fun k => k = b ∨ k = d) wr W2 := (f1.mono (fun _ _ h => .inl h)).thru f2 (fun _ _ h => .inr h)
  exact ⟨hF.thru ff (fun i hi hk => by clear ga gb gc gd ge gf ab ac ad ae af bc bd be bf cd ce cf de df ef; omega), l0, l, h.s.kept ff (fun x => x.elim gb gd), Blk.kept h.h0 ff (fun x => x.elim ab ad), Blk.kept k1 f2 bd, Blk.kept h.r0 ff (fun x => x.elim (fun y => bc y.symm) cd), k2, h.p.kept ff (fun x => x.elim (fun y => be y.symm) (fun y => de y.symm)), h.q.kept ff (fun x => x.elim (fun y => bf y.symm) (fun y => df y.symm)), h.b0, hl⟩
end

theorem Ints.kept0 {w W : World} {A : Option Addr} {n : Nat} {xs : List Int} (h : Ints w A n xs) (f : Fr no w W) : Ints W A n xs :=
  ⟨h.1, h.2.1, fun hn => by
    obtain ⟨b, o, e, hc⟩ := h.2.2 hn
    exact ⟨b, o, e, fun j hj => by
      have hl := World.block_lt_of_cell? w _ (hc j hj)
      rw [World.cell?_of_block (w := w) (f.block b hl (fun e => e))]; exact hc j hj⟩⟩

theorem made3 (w : World) (cs : Array Value) (T U1 U2 U3 : TypeId) (x1 x2 x3 : Array Value) :
    Blk ((((w.alloc (.cells cs T)).alloc (.cells x1 U1)).alloc (.cells x2 U2)).alloc (.cells x3 U3)).drew (w.heap.size + 1) U1 x1 ∧
    Blk ((((w.alloc (.cells cs T)).alloc (.cells x1 U1)).alloc (.cells x2 U2)).alloc (.cells x3 U3)).drew (w.heap.size + 1 + 1) U2 x2 ∧
    Blk ((((w.alloc (.cells cs T)).alloc (.cells x1 U1)).alloc (.cells x2 U2)).alloc (.cells x3 U3)).drew (w.heap.size + 1 + 1 + 1) U3 x3 ∧
    Fr no (w.alloc (.cells cs T)) ((((w.alloc (.cells cs T)).alloc (.cells x1 U1)).alloc (.cells x2 U2)).alloc (.cells x3 U3)).drew := by
  refine ⟨?_, ?_, ?_, ((((Fr.refl _ _).alloc _).alloc _).alloc _).drew⟩ <;> simp [Blk.alloc_iff, Blk.drew_iff]

set_option maxRecDepth 100000 in
set_option maxHeartbeats 1000000 in
theorem lease_law (t0 t1 : Int) (A1 A2 : Option Addr) (n1 n2 c1 c2 : Nat) (xs ys : List Int) (w : World) (hx : Ints w A1 n1 xs) (hy : Ints w A2 n2 ys)
    (ht0 : t0 ≤ 9223372036854775807) (ht1 : t1 ≤ 9223372036854775807) :
    Calls Try.prog 3 #[.agg #[.int .i64 t0, .int .i64 t1, .slice A1 n1 c1, .slice A2 n2 c2]] w fun e w' => e = .returned (.bool true) ∧ Below w.heap.size w w' := by
  go_enter Try.func3, Try.ntmps3
  go_upto_region 1 with fail
  go_cut [3] (fun l wx => ∃ a b e : Nat, l = .pointer (some ⟨e, 0, none⟩) ∧ LeaseAt 72 wx a (max t0 0) 0 ∧ LeaseAt 72 wx b (max t1 0) 0 ∧ Blk wx e 28 #[.pointer (some ⟨a, 0, none⟩), .pointer (some ⟨b, 0, none⟩)] ∧
    w.heap.size < a ∧ w.heap.size < b ∧ w.heap.size < e ∧ a ≠ b ∧ a ≠ e ∧ b ≠ e ∧ Fr no (w.alloc (.cells #[.int .i64 t0, .int .i64 t1, .slice A1 n1 c1, .slice A2 n2 c2] 25)) wx)
  case first =>
    go_region_held3 (fun w' => w'.cell? ⟨w.heap.size, 0, none⟩ = some (.int .i64 t0) ∧ w'.cell? ⟨w.heap.size, 1, none⟩ = some (.int .i64 t1)) (go_keep)
      (first
        | (go_at_call 7; refine (newLease _ _).mono ?_; rintro e w' ⟨rfl, rfl⟩))
    all_goals
      go_wp2_with fail
      go_meet
      first
        | exact ⟨w.heap.size + 1, w.heap.size + 1 + 1, w.heap.size + 1 + 1 + 1, rfl, (made3 ..).1, (made3 ..).2.1, (made3 ..).2.2.1, by omega, by omega, by omega, by omega, by omega, by omega, (made3 ..).2.2.2⟩
        | exact ⟨w.heap.size + 1, w.heap.size + 1 + 1 + 1, w.heap.size + 1 + 1, rfl, (made3 ..).1, (made3 ..).2.2.1, (made3 ..).2.1, by omega, by omega, by omega, by omega, by omega, by omega, (made3 ..).2.2.2⟩
        | exact ⟨w.heap.size + 1 + 1, w.heap.size + 1 + 1 + 1, w.heap.size + 1, rfl, (made3 ..).2.1, (made3 ..).2.2.1, (made3 ..).1, by omega, by omega, by omega, by omega, by omega, by omega, (made3 ..).2.2.2⟩
  case rest =>
    obtain ⟨a, b, e, rfl, ha, hb, he, la, lb, le, m1, m2, m3, hf⟩ := hcut
    have p0 := (Blk.new w 25 #[.int .i64 t0, .int .i64 t1, .slice A1 n1 c1, .slice A2 n2 c2]).kept0 hf
    have q0 := p0.cell 0
    have q1 := p0.cell 1
    have lw := p0.lt
    have e0 := he.cell 0
    have e1 := he.cell 1
    have el := he.lt
    have el1 : e < wc.heap.size + 1 := by omega
    have el2 : e < wc.heap.size + 1 + 1 := by omega
    go_wp2_with fail
    clear q0 q1 e0 e1 el el1 el2 lw
    have ap : Apart7 w.heap.size w.heap.size a b wc.heap.size (wc.heap.size + 1) e (wc.heap.size + 1 + 1) := by
      have := ha.lt; have := hb.lt; have := he.lt; have := p0.lt
      constructor <;> omega
    have tw : Two w.heap.size #[.int .i64 t0, .int .i64 t1, .slice A1 n1 c1, .slice A2 n2 c2] t0 t1 a b wc.heap.size (wc.heap.size + 1) e (wc.heap.size + 1 + 1) ((((wc.alloc (.cells #[.int .i64 t0, .int .i64 0] 31)).alloc (.cells #[.int .i64 t1, .int .i64 0] 31)).alloc (.cells #[.pointer (some ⟨wc.heap.size, 0, none⟩), .pointer (some ⟨wc.heap.size + 1, 0, none⟩)] 32))) 0 0 :=
      ⟨((p0.alloc _).alloc _).alloc _, ((Blk.alloc ha _).alloc _).alloc _, ((Blk.alloc hb _).alloc _).alloc _, ((Blk.new _ _ _).alloc _).alloc _, by simp [LeaseAt, Blk.alloc_iff], ((he.alloc _).alloc _).alloc _, by simp [Blk.alloc_iff], by omega, by omega⟩
    have hF : Fr no w ((((wc.alloc (.cells #[.int .i64 t0, .int .i64 0] 31)).alloc (.cells #[.int .i64 t1, .int .i64 0] 31)).alloc (.cells #[.pointer (some ⟨wc.heap.size, 0, none⟩), .pointer (some ⟨wc.heap.size + 1, 0, none⟩)] 32))) := (((((Fr.refl no w).alloc _).trans hf).alloc _).alloc _).alloc _
    obtain ⟨W0, hW0⟩ : ∃ W0, ((((wc.alloc (.cells #[.int .i64 t0, .int .i64 0] 31)).alloc (.cells #[.int .i64 t1, .int .i64 0] 31)).alloc (.cells #[.pointer (some ⟨wc.heap.size, 0, none⟩), .pointer (some ⟨wc.heap.size + 1, 0, none⟩)] 32))) = W0 := ⟨_, rfl⟩
    rw [hW0] at tw hF
    rw [hW0]
    generalize wc.heap.size = c at *
    generalize c + 1 = d at *
    generalize d + 1 = f at *
    clear hW0 hf ha hb he la lb le m1 m2 m3 p0
    go_loopw [5, 6, 7] (fun i _ _ wr => ∃ (m : Nat) (l0 l1 : Int), i = .int .i64 m ∧ m ≤ n1 ∧ m ≤ n2 ∧ Two w.heap.size #[.int .i64 t0, .int .i64 t1, .slice A1 n1 c1, .slice A2 n2 c2] t0 t1 a b c d e f wr l0 l1 ∧ Fr no w wr) (fun i _ _ _ => n1 - (intOf i).toNat)
    case atStart => exact ⟨0, 0, 0, rfl, Nat.zero_le _, Nat.zero_le _, tw, hF⟩
    case round =>
      clear tw hF
      obtain ⟨m, l0, l1, rfl, hm1, hm2, tw, hF⟩ := hrel
      have hX := hx.kept0 hF
      have hY := hy.kept0 hF
      have s1 : wr.cell? ⟨w.heap.size, 2, none⟩ = some (.slice A1 n1 c1) := tw.s.cell 2
      have s2 : wr.cell? ⟨w.heap.size, 3, none⟩ = some (.slice A2 n2 c2) := tw.s.cell 3
      have hn1 := hX.2.1
      have hn2 := hY.2.1
      by_cases hlt : m < n1 ∧ m < n2
      · obtain ⟨k1, k2⟩ := hlt
        obtain ⟨b1, o1, rfl, hc1⟩ := hX.2.2 (by omega)
        obtain ⟨b2, o2, rfl, hc2⟩ := hY.2.2 (by omega)
        have g1 := hc1 m k1
        have g2 := hc2 m k2
        clear hc1 hc2 hX hY hx hy
        have e0 : wr.cell? ⟨e, 0, none⟩ = some (.pointer (some ⟨a, 0, none⟩)) := tw.p.cell 0
        have e1 : wr.cell? ⟨e, 1, none⟩ = some (.pointer (some ⟨b, 0, none⟩)) := tw.p.cell 1
        have bd0 := tw.b0
        have bd1 := tw.b1
        go_upto_if 63 with (go_at_call 8; refine (within_two _ _).mono ?_; rintro e w' ⟨rfl | rfl, rfl⟩)
        · go_cut [] (fun W' => Fr no w W' ∧ ∃ l0 l1, Two w.heap.size #[.int .i64 t0, .int .i64 t1, .slice (some ⟨b1, o1, none⟩) n1 c1, .slice (some ⟨b2, o2, none⟩) n2 c2] t0 t1 a b c d e f W' l0 l1)
          case first =>
            go_wp2_with (first
              | (go_at_call 9; refine (lease_hear _ a _ _ _ tw.h0).mono ?_; rintro _ W1 ⟨rfl, k1, fr1⟩; have f0 : W1.cell? ⟨f, 0, none⟩ = some (.pointer (some ⟨c, 0, none⟩)) := (tw.q.kept fr1 (fun y => ap.n1.2.2.2.2 y.symm)).cell 0; have kr := Blk.kept tw.r0 fr1 (fun y => ap.n1.2.1 y.symm))
              | (go_at_call 11; refine (lease_tick _ a _ _ _ tw.h0 (by omega) (by omega)).mono ?_; rintro _ W1 ⟨rfl, k1, fr1⟩; have f0 : W1.cell? ⟨f, 0, none⟩ = some (.pointer (some ⟨c, 0, none⟩)) := (tw.q.kept fr1 (fun y => ap.n1.2.2.2.2 y.symm)).cell 0; have kr := Blk.kept tw.r0 fr1 (fun y => ap.n1.2.1 y.symm))
              | (go_at_call 10; refine (ref_hear _ c _ _ _ kr).mono ?_; rintro _ W2 ⟨rfl, k2, fr2⟩)
              | (go_at_call 12; refine (ref_tick _ c _ _ _ kr (by omega) (by omega)).mono ?_; rintro _ W2 ⟨rfl, k2, fr2⟩))
            all_goals
              go_meet
              case rel => exact tw.step0 ap (Nat.le_refl _) hF k1 fr1 k2 fr2 (by omega)
          case rest =>
            clear tw hF s1 s2 g1 g2 e0 e1 bd0 bd1
            obtain ⟨wo, hwo⟩ : ∃ wo : World, wo = wr := ⟨_, rfl⟩
            clear hwo
            go_wp2_with fail
            go_loopw [7] (fun j wi => ∃ n : Nat, j = .int .i64 n ∧ n ≤ 2 ∧ (Fr no w wi ∧ ∃ l0 l1, Two w.heap.size #[.int .i64 t0, .int .i64 t1, .slice (some ⟨b1, o1, none⟩) n1 c1, .slice (some ⟨b2, o2, none⟩) n2 c2] t0 t1 a b c d e f wi l0 l1)) (fun j _ => 2 - (intOf j).toNat)
            case atStart => exact ⟨0, rfl, by omega, hcut⟩
            case round =>
              clear hcut
              obtain ⟨n, rfl, hn, hF, l0, l1, tw⟩ := hrel
              have e0 : wr.cell? ⟨e, 0, none⟩ = some (.pointer (some ⟨a, 0, none⟩)) := tw.p.cell 0
              have e1 : wr.cell? ⟨e, 1, none⟩ = some (.pointer (some ⟨b, 0, none⟩)) := tw.p.cell 1
              have f0 : wr.cell? ⟨f, 0, none⟩ = some (.pointer (some ⟨c, 0, none⟩)) := tw.q.cell 0
              have f1 : wr.cell? ⟨f, 1, none⟩ = some (.pointer (some ⟨d, 0, none⟩)) := tw.q.cell 1
              have r0 := tw.r0.c1
              have r1 := tw.r1.c1
              match n, hn with
              | 0, _ =>
                go_wp2_with fail
                go_quiet ((first | (go_at_call 13; exact Calls.quiet_of_same (lease_left _ a _ _ _ tw.h0)) | (go_at_call 14; exact Calls.quiet_of_same (lease_runs _ a _ _ _ tw.h0))))
                go_wp2_with fail
                exact ⟨⟨1, rfl, by omega, hF.drewN _, l0, l1, tw.drewN _⟩, by simp [intOf]⟩
              | 1, _ =>
                go_wp2_with fail
                go_quiet ((first | (go_at_call 13; exact Calls.quiet_of_same (lease_left _ b _ _ _ tw.h1)) | (go_at_call 14; exact Calls.quiet_of_same (lease_runs _ b _ _ _ tw.h1))))
                go_wp2_with fail
                exact ⟨⟨2, rfl, by omega, hF.drewN _, l0, l1, tw.drewN _⟩, by simp [intOf]⟩
              | 2, _ =>
                go_wp2_with fail
                exact ⟨⟨m + 1, l0, l1, by go_num, by omega, by omega, tw, hF⟩, by simp [intOf]; omega⟩
        · go_cut [] (fun W' => Fr no w W' ∧ ∃ l0 l1, Two w.heap.size #[.int .i64 t0, .int .i64 t1, .slice (some ⟨b1, o1, none⟩) n1 c1, .slice (some ⟨b2, o2, none⟩) n2 c2] t0 t1 a b c d e f W' l0 l1)
          case first =>
            go_wp2_with (first
              | (go_at_call 9; refine (lease_hear _ b _ _ _ tw.h1).mono ?_; rintro _ W1 ⟨rfl, k1, fr1⟩; have f0 : W1.cell? ⟨f, 1, none⟩ = some (.pointer (some ⟨d, 0, none⟩)) := (tw.q.kept fr1 (fun y => ap.n2.2.2.2 y.symm)).cell 1; have kr := Blk.kept tw.r1 fr1 (fun y => ap.n2.2.1 y.symm))
              | (go_at_call 11; refine (lease_tick _ b _ _ _ tw.h1 (by omega) (by omega)).mono ?_; rintro _ W1 ⟨rfl, k1, fr1⟩; have f0 : W1.cell? ⟨f, 1, none⟩ = some (.pointer (some ⟨d, 0, none⟩)) := (tw.q.kept fr1 (fun y => ap.n2.2.2.2 y.symm)).cell 1; have kr := Blk.kept tw.r1 fr1 (fun y => ap.n2.2.1 y.symm))
              | (go_at_call 10; refine (ref_hear _ d _ _ _ kr).mono ?_; rintro _ W2 ⟨rfl, k2, fr2⟩)
              | (go_at_call 12; refine (ref_tick _ d _ _ _ kr (by omega) (by omega)).mono ?_; rintro _ W2 ⟨rfl, k2, fr2⟩))
            all_goals
              go_meet
              case rel => exact tw.step1 ap (Nat.le_refl _) hF k1 fr1 k2 fr2 (by omega)
          case rest =>
            clear tw hF s1 s2 g1 g2 e0 e1 bd0 bd1
            obtain ⟨wo, hwo⟩ : ∃ wo : World, wo = wr := ⟨_, rfl⟩
            clear hwo
            go_wp2_with fail
            go_loopw [7] (fun j wi => ∃ n : Nat, j = .int .i64 n ∧ n ≤ 2 ∧ (Fr no w wi ∧ ∃ l0 l1, Two w.heap.size #[.int .i64 t0, .int .i64 t1, .slice (some ⟨b1, o1, none⟩) n1 c1, .slice (some ⟨b2, o2, none⟩) n2 c2] t0 t1 a b c d e f wi l0 l1)) (fun j _ => 2 - (intOf j).toNat)
            case atStart => exact ⟨0, rfl, by omega, hcut⟩
            case round =>
              clear hcut
              obtain ⟨n, rfl, hn, hF, l0, l1, tw⟩ := hrel
              have e0 : wr.cell? ⟨e, 0, none⟩ = some (.pointer (some ⟨a, 0, none⟩)) := tw.p.cell 0
              have e1 : wr.cell? ⟨e, 1, none⟩ = some (.pointer (some ⟨b, 0, none⟩)) := tw.p.cell 1
              have f0 : wr.cell? ⟨f, 0, none⟩ = some (.pointer (some ⟨c, 0, none⟩)) := tw.q.cell 0
              have f1 : wr.cell? ⟨f, 1, none⟩ = some (.pointer (some ⟨d, 0, none⟩)) := tw.q.cell 1
              have r0 := tw.r0.c1
              have r1 := tw.r1.c1
              match n, hn with
              | 0, _ =>
                go_wp2_with fail
                go_quiet ((first | (go_at_call 13; exact Calls.quiet_of_same (lease_left _ a _ _ _ tw.h0)) | (go_at_call 14; exact Calls.quiet_of_same (lease_runs _ a _ _ _ tw.h0))))
                go_wp2_with fail
                exact ⟨⟨1, rfl, by omega, hF.drewN _, l0, l1, tw.drewN _⟩, by simp [intOf]⟩
              | 1, _ =>
                go_wp2_with fail
                go_quiet ((first | (go_at_call 13; exact Calls.quiet_of_same (lease_left _ b _ _ _ tw.h1)) | (go_at_call 14; exact Calls.quiet_of_same (lease_runs _ b _ _ _ tw.h1))))
                go_wp2_with fail
                exact ⟨⟨2, rfl, by omega, hF.drewN _, l0, l1, tw.drewN _⟩, by simp [intOf]⟩
              | 2, _ =>
                go_wp2_with fail
                exact ⟨⟨m + 1, l0, l1, by go_num, by omega, by omega, tw, hF⟩, by simp [intOf]; omega⟩
      · clear hX hY hx hy
        go_wp2_with (first
          | (go_at_call 7; refine (newLease2 _).mono ?_; rintro _ W1 ⟨rfl, n0, F1⟩)
          | (go_at_call 9; refine (lease_hear _ _ _ _ _ n0).mono ?_; rintro _ W2 ⟨rfl, n2, F2⟩)
          | (go_at_call 11; refine (lease_tick _ _ _ _ _ n2 (by omega) (by omega)).mono ?_; rintro _ W3 ⟨rfl, n3, F3⟩)
          | (go_at_call 14; refine (lease_runs _ _ _ _ _ n3).mono ?_; rintro _ W4 ⟨rfl, rfl⟩)
          | (go_at_call 13; refine (lease_left _ _ _ _ _ n3).mono ?_; rintro _ W4 ⟨rfl, rfl⟩))
        all_goals
          go_ret
          exact ⟨rfl, ((hF.trans F1).thru (F2.trans F3) (fun i hi e => by have := hF.size; omega)).below⟩
end Go.Proofs.Ytljcncfipocnpaa
