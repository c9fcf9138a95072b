/- Contracts of sum.Cut, and of what 'clamped' keeps of what it has taken. -/
import Derived.Test.YtmnajpkmglmipaaRuleF
import Derived.BigRegion
namespace Go.Proofs.Ytmnajpkmglmipaa
open Go.RowKit Go.Maps

/-- A change cut toward 0 to a room. -/
def cutD (c r : Int) : Int := max (min c (max r 0)) (-(max r 0))
theorem cutD_wf {c r : Int} (hc : Wf64 c) (hr : Wf64 r) : Wf64 (cutD c r) := by
  unfold Wf64 cutD at *
  omega
theorem cut_c (c r : Int) (hc : Wf64 c) (hr : Wf64 r) (w : World) : Calls Try.prog 74 #[.int .i64 c, .int .i64 r] w fun e w' => e = .returned (.int .i64 (cutD c r)) ∧ w' = w := by
  have h1 : wr64 (-(max r 0)) = -(max r 0) := wr64_of (by unfold Wf64 at *; omega)
  unfold wr64 at h1
  go_enter Try.func74, Try.ntmps74
  go_wp2_with fail
  go_ret
  exact ⟨rfl, rfl⟩
def subTo (f : KindD → Option Int) (p : KindD × Int) : KindD → Option Int := KeyK.upd f p.1 (wr64 ((f p.1).getD 0 - p.2))
/-- What has been taken, one more time. -/
def takeD (f : KindD → Option Int) (k : KindD) (n : Int) : KindD → Option Int := subTo (addTo f (k, n)) ((k.1, wr64 (1 - k.2)), n)
set_option maxRecDepth 100000 in
set_option maxHeartbeats 2000000 in
theorem take_c (k1 k2 n : Int) (hk1 : Wf64 k1) (hk2 : Wf64 k2) (Bm b N : Nat) (f : KindD → Option Int) (w : World) (hB : Blk w Bm 66 #[.map (some b)]) (hM : kindKey.Mp 2 w b N f) (hne : Bm ≠ b) (hN : N + 4 < maxLen) :
    Calls Try.prog 73 #[.agg #[.int .i64 k1, .int .i64 k2], .int .i64 n, .pointer (some ⟨Bm, 0, none⟩)] w fun e w' => e = .returned (.tuple #[]) ∧ kindKey.Mp 2 w' b (N + 4) (takeD f (k1, k2) n) ∧ Fr (fun i => i = b) w w' := by
  have hq : Wf64 (IntKind.i64.wrap ((f (k1, k2)).getD 0 + n)) := wr64_wf _
  have M := hM.kept0 (((Fr.refl no w).alloc (.cells #[.int .i64 k1, .int .i64 k2] 71)).drew)
  obtain ⟨v, st, w2, w3, e1, e2, e3, e4, M3, F3⟩ := M.entry (t := 66) Try.underlying66 Try.underlying2 (fun u => by kernel_rfl) (by omega) (y := (k1, k2)) (show kindKey.ok (k1, k2) from ⟨wf_lit hk1, wf_lit hk2⟩) (wf_lit hq)
  have e1' : (Instr.mapEntry 66 (.map (some b)) (.agg #[.int .i64 k1, .int .i64 k2])).run Try.prog (w.alloc (.cells #[.int .i64 k1, .int .i64 k2] 71)).drew = .ok (.tuple #[v, .int .i64 st]) w2 := e1
  have e2' : (Instr.lookup 66 (.map (some b)) (.agg #[.int .i64 k1, .int .i64 k2]) false).run Try.prog (w.alloc (.cells #[.int .i64 k1, .int .i64 k2] 71)).drew = .ok (.int .i64 ((f (k1, k2)).getD 0)) (w.alloc (.cells #[.int .i64 k1, .int .i64 k2] 71)).drew := e2
  have e3' : (Instr.lookup 66 (.map (some b)) (.agg #[.int .i64 k1, .int .i64 k2]) false).run Try.prog w2 = .ok (.int .i64 ((f (k1, k2)).getD 0)) w2 := e3
  have e4' : (Instr.entryStore 66 (.map (some b)) (.int .i64 st) (.int .i64 (IntKind.i64.wrap ((f (k1, k2)).getD 0 + n)))).run Try.prog w2 = .ok () w3 := e4
  have b0 := (hB.alloc (.cells #[.int .i64 k1, .int .i64 k2] 71)).cell 0
  simp at b0
  have hbl := hM.lt
  have hBl := hB.lt
  have FA : Fr (fun i => i = b) w w3 := ((((Fr.refl _ w).alloc (.cells #[.int .i64 k1, .int .i64 k2] 71)).drew).trans F3)
  have B3 : Blk w3 Bm 66 #[.map (some b)] := hB.kept FA hne
  have K3 : Blk w3 w.heap.size 71 #[.int .i64 k1, .int .i64 k2] := (Blk.new w 71 #[.int .i64 k1, .int .i64 k2]).drew.kept F3 (fun e => by have e2 : w.heap.size = b := e; omega)
  have hq2 : Wf64 (IntKind.i64.wrap (1 - k2)) := wr64_wf _
  obtain ⟨f2, hf2⟩ : ∃ f2, f2 = addTo f ((k1, k2), n) := ⟨_, rfl⟩
  have M3' : kindKey.Mp 2 w3.drew b (N + 2) f2 := by rw [hf2]; exact M3
  have hq3 : Wf64 (IntKind.i64.wrap ((f2 (k1, IntKind.i64.wrap (1 - k2))).getD 0 - n)) := wr64_wf _
  obtain ⟨v', st', w4, w5, g1, g2, g3, g4, M5, F5⟩ := M3'.entry (t := 66) Try.underlying66 Try.underlying2 (fun u => by kernel_rfl) (by omega) (y := (k1, IntKind.i64.wrap (1 - k2))) (show kindKey.ok (k1, IntKind.i64.wrap (1 - k2)) from ⟨wf_lit hk1, wf_lit hq2⟩) (wf_lit hq3)
  have g1' : (Instr.mapEntry 66 (.map (some b)) (.agg #[.int .i64 k1, .int .i64 (IntKind.i64.wrap (1 - k2))])).run Try.prog w3.drew = .ok (.tuple #[v', .int .i64 st']) w4 := g1
  have g2' : (Instr.lookup 66 (.map (some b)) (.agg #[.int .i64 k1, .int .i64 (IntKind.i64.wrap (1 - k2))]) false).run Try.prog w3.drew = .ok (.int .i64 ((f2 (k1, IntKind.i64.wrap (1 - k2))).getD 0)) w3.drew := g2
  have g3' : (Instr.lookup 66 (.map (some b)) (.agg #[.int .i64 k1, .int .i64 (IntKind.i64.wrap (1 - k2))]) false).run Try.prog w4 = .ok (.int .i64 ((f2 (k1, IntKind.i64.wrap (1 - k2))).getD 0)) w4 := g3
  have g4' : (Instr.entryStore 66 (.map (some b)) (.int .i64 st') (.int .i64 (IntKind.i64.wrap ((f2 (k1, IntKind.i64.wrap (1 - k2))).getD 0 - n)))).run Try.prog w4 = .ok () w5 := g4
  have d0 := B3.cell 0
  have d1 := K3.cell 0
  have d2 := K3.cell 1
  simp at d0 d1 d2
  have POST : Hid (kindKey.Mp 2 w5 b (N + 4) (takeD f (k1, k2) n) ∧ Fr (fun i => i = b) w w5) := hide ⟨by
    unfold takeD subTo wr64
    rw [← hf2]; exact M5, FA.trans (((Fr.refl _ w3).drew).trans F5)⟩
  clear e1 e2 e3 e4 g1 g2 g3 g4 M M3 M3' M5 F3 F5 FA B3 K3 hB hM hf2 hq hq2 hq3
  generalize ((f (k1, k2)).getD 0) = v0 at *
  generalize ((f2 (k1, IntKind.i64.wrap (1 - k2))).getD 0) = v1 at *
  go_enter Try.func73, Try.ntmps73
  go_wp2_with fail
  go_region
  all_goals
    go_wp2_with fail
    go_region
  all_goals
    go_wp2_with fail
    go_end0
    exact ⟨rfl, POST.out⟩
end Go.Proofs.Ytmnajpkmglmipaa
