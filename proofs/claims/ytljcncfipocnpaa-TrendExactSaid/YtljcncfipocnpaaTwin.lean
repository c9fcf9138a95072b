/- The law's twins: contracts of same and Float64bits. -/
import Derived.Test.YtljcncfipocnpaaRefAdvice
import Derived.Test.YtljcncfipocnpaaTrendKinds
import Derived.Deep.RegionWith
import Derived.Deep.RegionHeld3
import Derived.Deep.DeepCutAuto
import Derived.Deep.QuietTactic
import Derived.BigQuiet
namespace Go.Proofs.Ytljcncfipocnpaa
open Go.RowKit Fl

theorem run_bits (b : Nat) (w : World) : (callFunc 29 #[.float .f64 b]).run Try.prog w = .ok (.value (.int .u64 b)) w := by
  rw [run_callFunc_extern (fn := Try.f29) (e := Extern.MathFloatBits.float64bits) Try.func29 (by kernel_rfl) (by kernel_rfl) (by kernel_rfl) (by kernel_rfl)]
  rfl

/-- What a trend tells at n notes: nothing yet, or an average. -/
def Avg (n : Int) (a : Nat) : Prop := (n = 0 ∧ a = 0) ∨ AvgIs a
theorem Avg.num {n : Int} {a : Nat} (h : Avg n a) : Num a := by
  rcases h with ⟨_, rfl⟩ | h
  · unfold Num; decide
  · exact h.fin.num

set_option maxRecDepth 100000 in
set_option maxHeartbeats 2000000 in
theorem twin_same (g h k a : Nat) (n : Int) (w : World) (ht : TrendAt w g k a n) (hr : RefAt w h k a n) (ha : Avg n a) :
    Calls Try.prog 26 #[.agg #[.pointer (some ⟨g, 0, none⟩), .pointer (some ⟨h, 0, none⟩)]] w fun e w' => e = .returned (.bool true) ∧ Fr no w w' := by
  have ho := order_self ha.num
  have hb : ∀ W, (callFunc 27 #[.int .u64 (a : Int)]).run Try.prog W = .ok (.value (.float .f64 a)) W := fun W => run_frombits W
  go_enter Try.func26, Try.ntmps26
  go_upto_region 1 with fail
  have t1 : TrendAt (w.alloc (.cells #[.pointer (some ⟨g, 0, none⟩), .pointer (some ⟨h, 0, none⟩)] 62)) g k a n := Blk.alloc ht _
  have r1 : RefAt (w.alloc (.cells #[.pointer (some ⟨g, 0, none⟩), .pointer (some ⟨h, 0, none⟩)] 62)) h k a n := Blk.alloc hr _
  have B := Blk.new w 62 #[.pointer (some ⟨g, 0, none⟩), .pointer (some ⟨h, 0, none⟩)]
  have F := (Fr.refl no w).alloc (.cells #[.pointer (some ⟨g, 0, none⟩), .pointer (some ⟨h, 0, none⟩)] 62)
  obtain ⟨W1, hW1⟩ : ∃ W1, w.alloc (.cells #[.pointer (some ⟨g, 0, none⟩), .pointer (some ⟨h, 0, none⟩)] 62) = W1 := ⟨_, rfl⟩
  rw [hW1] at t1 r1 B F ⊢
  clear hW1
  generalize w.heap.size = gb at *
  have c0 : W1.cell? ⟨gb, 0, none⟩ = some (.pointer (some ⟨g, 0, none⟩)) := B.cell 0
  have c1 : W1.cell? ⟨gb, 1, none⟩ = some (.pointer (some ⟨h, 0, none⟩)) := B.cell 1
  have r1c : W1.cell? ⟨h, 1, none⟩ = some (.int .u64 a) := Blk.cell r1 1
  have r2c : W1.cell? ⟨h, 2, none⟩ = some (.int .i64 n) := Blk.cell r1 2
  have t1d : TrendAt W1.drew g k a n := Blk.drew t1
  go_region_held3 (fun W' => W'.cell? ⟨gb, 0, none⟩ = some (.pointer (some ⟨g, 0, none⟩)) ∧ W'.cell? ⟨gb, 1, none⟩ = some (.pointer (some ⟨h, 0, none⟩)) ∧ W'.cell? ⟨h, 1, none⟩ = some (.int .u64 a) ∧ W'.cell? ⟨h, 2, none⟩ = some (.int .i64 n))
    (first | exact ⟨c0, c1, r1c, r2c⟩ | assumption)
    (first
      | (go_at_call 19; refine (trend_average _ _ _ _ _ t1d).mono ?_; rintro e W' ⟨rfl, rfl⟩)
      | (go_at_call 18; refine (trend_count _ _ _ _ _ t1d).mono ?_; rintro e W' ⟨rfl, rfl⟩))
  all_goals
    go_wp2_with fail
    go_ret
    exact ⟨rfl, F.drew⟩
end Go.Proofs.Ytljcncfipocnpaa
