/- Contracts of package trend's functions but Advice, and of the law's Weight.value, num. -/
import Derived.Test.YtljcncfipocnpaaProg
import Derived.Test.YtljcncfipocnpaaNum
import Derived.Test.YtljcncfipocnpaaMem
import Derived.Test.YtljcncfipocnpaaFloat
import Derived.WalkKit
import Derived.WalkSpells
import Derived.WalkLawsBesides
import Derived.Deep.QuietTactic
import Derived.BigQuiet
import Derived.RegionTactic
import Derived.ChangeAlike
import Derived.Deep.DeepCutAuto
namespace Go.Proofs.Ytljcncfipocnpaa
open Go.RowKit Fl

/-- A float is stored as any value of one cell. -/
theorem run_store_float {P : Program} {w : World} {a : Addr} {m : Mode} (k : FloatKind) (b : Nat) : (store a (.float k b) m).run P w = stored P w a (.float k b) m := run_store P w a _ m rfl
attribute [local go_sem] run_store_float

/-- A trend at block g. -/
def TrendAt (W : World) (g : Nat) (keep avg : Nat) (n : Int) : Prop := Blk W g 74 #[.float .f64 keep, .float .f64 avg, .int .i64 n]
theorem TrendAt.c0 {W : World} {g keep avg : Nat} {n : Int} (h : TrendAt W g keep avg n) : W.cell? ⟨g, 0, none⟩ = some (.float .f64 keep) := Blk.cell h 0
theorem TrendAt.c1 {W : World} {g keep avg : Nat} {n : Int} (h : TrendAt W g keep avg n) : W.cell? ⟨g, 1, none⟩ = some (.float .f64 avg) := Blk.cell h 1
theorem TrendAt.c2 {W : World} {g keep avg : Nat} {n : Int} (h : TrendAt W g keep avg n) : W.cell? ⟨g, 2, none⟩ = some (.int .i64 n) := Blk.cell h 2

set_option maxHeartbeats 400000 in
theorem trend_num (n : Int) (w : World) :
    Calls Try.prog 17 #[.int .i64 n] w fun e w' => e = .returned (.int .i64 n) ∧ w = w' := by
  go_enter Try.func17, Try.ntmps17
  go_wp2
  go_ret
  exact ⟨rfl, rfl⟩
set_option maxHeartbeats 400000 in
theorem trend_count (g keep avg : Nat) (n : Int) (w : World) (h : TrendAt w g keep avg n) :
    Calls Try.prog 18 #[.pointer (some ⟨g, 0, none⟩)] w fun e w' => e = .returned (.int .i64 n) ∧ w' = w := by
  have h2 := h.c2
  go_enter Try.func18, Try.ntmps18
  go_wp2
  go_ret
  exact ⟨rfl, rfl⟩
set_option maxHeartbeats 400000 in
theorem trend_average (g keep avg : Nat) (n : Int) (w : World) (h : TrendAt w g keep avg n) :
    Calls Try.prog 19 #[.pointer (some ⟨g, 0, none⟩)] w fun e w' => e = .returned (.float .f64 avg) ∧ w' = w := by
  have h1 := h.c1
  go_enter Try.func19, Try.ntmps19
  go_wp2
  go_ret
  exact ⟨rfl, rfl⟩

/-- The weights that may be. -/
def One : Nat := 4607182418800017408
def KeepOk (k : Nat) : Bool := dbl.order k 0 == some .gt && (dbl.order k One == some .lt || dbl.order k One == some .eq)
set_option maxHeartbeats 400000 in
theorem trend_new_ok (k : Nat) (w : World) (hk : KeepOk k = true) :
    Calls Try.prog 15 #[.float .f64 k] w fun e w' => e = .returned (.tuple #[.pointer (some ⟨w.heap.size, 0, none⟩), .int .i64 0]) ∧ TrendAt w' w.heap.size k 0 0 ∧ Fr no w w' := by
  unfold KeepOk One at hk
  have h1 : (FloatKind.f64.format.order k 0 == some Ordering.gt) = true := by simp only [Bool.and_eq_true] at hk; exact hk.1
  have h2 : (FloatKind.f64.format.order k 4607182418800017408 == some Ordering.lt || FloatKind.f64.format.order k 4607182418800017408 == some Ordering.eq) = true := by simp only [Bool.and_eq_true] at hk; exact hk.2
  clear hk
  go_enter Try.func15, Try.ntmps15
  go_wp2
  go_ret2
  exact ⟨rfl, Blk.new _ _ _, (Fr.refl _ _).alloc _⟩
set_option maxHeartbeats 400000 in
theorem trend_new_no (k : Nat) (w : World) (hk : KeepOk k = false) :
    Calls Try.prog 15 #[.float .f64 k] w fun e w' => e = .returned (.tuple #[.pointer none, .int .i64 180]) ∧ w' = w := by
  unfold KeepOk One at hk
  by_cases h1 : (FloatKind.f64.format.order k 0 == some Ordering.gt) = true
  · have h2 : (FloatKind.f64.format.order k 4607182418800017408 == some Ordering.lt || FloatKind.f64.format.order k 4607182418800017408 == some Ordering.eq) = false := by
      rw [show dbl = FloatKind.f64.format from rfl, h1, Bool.true_and] at hk; exact hk
    clear hk
    go_enter Try.func15, Try.ntmps15
    go_wp2
    go_ret2
    exact ⟨rfl, rfl⟩
  · have h2 : (FloatKind.f64.format.order k 0 == some Ordering.gt) = false := by simpa using h1
    clear hk h1
    go_enter Try.func15, Try.ntmps15
    go_wp2
    go_ret2
    exact ⟨rfl, rfl⟩

section
variable {P : Program}
theorem order_some {x y : Nat} (hx : Num x) (hy : Num y) : FloatKind.f64.format.order x y ≠ none := by
  rw [show FloatKind.f64.format.order x y = _ from order_num x y hx hy]; simp
theorem run_fmin (ts : Array TypeId) (t : TypeId) (x y : Nat) (w : World) (h : FloatKind.f64.format.order x y ≠ none) :
    (Builtin.min_ ts t #[.float .f64 x, .float .f64 y]).run P w = .ok (.float .f64 (fmin x y)) w := by
  unfold fmin
  cases hq : dbl.order x y with
  | none => exact absurd hq h
  | some o =>
    have hq' : FloatKind.f64.format.order x y = some o := hq
    cases o <;> simp [Builtin.min_, Builtin.min2, hq', read_neg]
theorem run_fmax (ts : Array TypeId) (t : TypeId) (x y : Nat) (w : World) (h : FloatKind.f64.format.order x y ≠ none) :
    (Builtin.max_ ts t #[.float .f64 x, .float .f64 y]).run P w = .ok (.float .f64 (fmax x y)) w := by
  unfold fmax
  cases hq : dbl.order x y with
  | none => exact absurd hq h
  | some o =>
    have hq' : FloatKind.f64.format.order x y = some o := hq
    cases o <;> simp [Builtin.max_, Builtin.max2, hq', read_neg]
end
/-- What a note makes of the average. -/
def noted (keep a : Nat) (n x : Int) : Nat := if n = 0 then cnv x else
  match dbl.sub (cnv x) a with
  | none => 0
  | some d => match dbl.mul d keep with
    | none => 0
    | some s => match dbl.add a s with
      | none => 0
      | some r => upd r a (cnv x)

set_option maxHeartbeats 400000 in
theorem trend_note1 (g keep avg : Nat) (x : Int) (w : World) (h : TrendAt w g keep avg 0) :
    Calls Try.prog 20 #[.pointer (some ⟨g, 0, none⟩), .int .i64 x] w fun e w' => e = .returned (.tuple #[]) ∧ TrendAt w' g keep (cnv x) 1 ∧ Fr (fun k => k = g) w w' := by
  have h1 := h.c1
  have h2 := h.c2
  have f1 := Blk.free h 1
  have f2 := Blk.free h 2
  have key : TrendAt ((w.setCell ⟨g, 2, none⟩ (.int .i64 1)).setCell ⟨g, 1, none⟩ (.float .f64 (floatOfInt .f64 x))) g keep (cnv x) 1 := Blk.set (Blk.set h 2 _) 1 _
  go_enter Try.func20, Try.ntmps20
  go_wp2
  exact bodyPost_ret (results_none rfl _ _ _) rfl ⟨rfl, key, (Fr.setCell _ _ _ _).trans (Fr.setCell _ _ _ _)⟩

set_option maxHeartbeats 1000000 in
theorem trend_note (g keep a d s r : Nat) (n x : Int) (w : World) (h : TrendAt w g keep a n) (h0 : 0 < n) (hn : n ≤ 9223372036854775806)
    (hd : dbl.sub (cnv x) a = some d) (hs : dbl.mul d keep = some s) (hr : dbl.add a s = some r) (na : Num a) (ny : Num (cnv x)) (nr : Num r) :
    Calls Try.prog 20 #[.pointer (some ⟨g, 0, none⟩), .int .i64 x] w fun e w' => e = .returned (.tuple #[]) ∧ TrendAt w' g keep (upd r a (cnv x)) (n + 1) ∧ Fr (fun k => k = g) w w' := by
  have h0' := h.c0
  have h1 := h.c1
  have h2 := h.c2
  have f1 := Blk.free h 1
  have f2 := Blk.free h 2
  have q1 := fun T W => run_float_arith (P := Try.prog) W .sub T .f64 (cnv x) a d hd
  have q2 := fun T W => run_float_arith (P := Try.prog) W .mul T .f64 d keep s hs
  have q3 := fun T W => run_float_arith (P := Try.prog) W .add T .f64 a s r hr
  have m1 := fun ts t W => run_fmin (P := Try.prog) ts t a (cnv x) W (order_some na ny)
  have m2 := fun ts t W => run_fmax (P := Try.prog) ts t a (cnv x) W (order_some na ny)
  have m3 := fun ts t W => run_fmax (P := Try.prog) ts t r (fmin a (cnv x)) W (order_some nr (fmin_num na ny))
  have m4 := fun ts t W => run_fmin (P := Try.prog) ts t (fmax r (fmin a (cnv x))) (fmax a (cnv x)) W (order_some (fmax_num nr (fmin_num na ny)) (fmax_num na ny))
  have e1 : (n + 1 == 1) = false := by simp; omega
  have cv : floatOfInt .f64 x = cnv x := rfl
  have key : ∀ v, TrendAt ((w.setCell ⟨g, 2, none⟩ (.int .i64 (n + 1))).setCell ⟨g, 1, none⟩ (.float .f64 v)) g keep v (n + 1) := fun v => Blk.set (Blk.set h 2 _) 1 _
  go_enter Try.func20, Try.ntmps20
  go_wp2
  go_quiet (fail)
  go_wp2
  have k1 : TrendAt ((w.setCell ⟨g, 2, none⟩ (.int .i64 (n + 1))).drewN nq) g keep a (n + 1) := Blk.set h 2 _
  have k2 : Fr (fun k => k = g) w ((w.setCell ⟨g, 2, none⟩ (.int .i64 (n + 1))).drewN nq) := (Fr.setCell _ _ _ _).drewN _
  clear h0' h1 h2 f1 f2 key
  obtain ⟨W1, hW1⟩ : ∃ W1, (w.setCell ⟨g, 2, none⟩ (.int .i64 (n + 1))).drewN nq = W1 := ⟨_, rfl⟩
  rw [hW1] at k1 k2 ⊢
  clear hW1
  have h1 := k1.c1
  have f1 := Blk.free k1 1
  go_region
  all_goals
    go_end0
    exact ⟨rfl, Blk.set k1 1 _, k2.trans ((Fr.setCell _ _ _ _).drew)⟩
end Go.Proofs.Ytljcncfipocnpaa
