/- Regions that draw their order, whose operations read and whose callees make new memory alone: one walk in the text's order. -/
import Derived.Test.YtmnajpkmglmipaaMem
import Derived.Deep.QuietTactic
import Derived.OrdersIn
import Derived.RangeFuncCalls
import Derived.TacticsIn
namespace Go.Proofs.Ytmnajpkmglmipaa
open Go.RowKit

/-- A world behind W0 in which nothing has changed. -/
structure FrBy (W0 : World) where
  w : World
  fr : Fr no W0 w
instance (W0 : World) : Inhabited (FrBy W0) := ⟨⟨W0, Fr.refl _ _⟩⟩
theorem wp_region_fr {P : Program} (W0 : World) {id : Nat} {Q : Exit → Act → World → Prop} {a : Act} {w : World} {l : List Oper} (hm : P.follows .mixedOrders = true) (hB : Region.lexB .any l.toArray = true) (hC : Fr no W0 w)
    (h : wpQuiet P l.toArray (fun w' => ∃ p : FrBy W0, w' = p.w) (fun a' => ∀ w', (∃ p : FrBy W0, w' = p.w) → Q .normal a' w') l a) : (Code.region id l.toArray true).wp P Q a w :=
  wp_region_quiet (C := fun w' => ∃ p : FrBy W0, w' = p.w) hm hB ⟨⟨w.drew, hC.drew⟩, rfl⟩ (by simpa using h)
theorem calls_fr {P : Program} {f : FuncId} {args : Array Value} {W0 : World} {p : FrBy W0} {v : Value} (h : Calls P f args p.w fun e w' => e = .returned v ∧ Fr no p.w w') : Calls P f args p.w fun e w'' => e = .returned v ∧ ∃ q : FrBy W0, w'' = q.w :=
  h.mono fun _ w' ⟨he, hF⟩ => ⟨he, ⟨w', p.fr.trans hF⟩, rfl⟩

section
variable {P : Program} {ops : Array Oper} {md : Region.Mode} {C : World → Prop}
/-- In a round: an operation that is quiet. -/
theorem wpIn_of_quietR {l n : Nat} {o : Oper} {a : Act} {K : Act → Prop} {K' : Act → World → Prop} {Q' : Exit → Act → World → Prop} {w : World} (hw : C w) (h : ∀ a w', C w' → K a → K' a w') (hh : o.quiet P a C K) :
    o.wpIn (Fence.wide.inRound l) n P a w K' Q' := by
  obtain ⟨v, h1, h2⟩ := hh
  have h3 := h1 w hw
  have hnd : ∀ c, o.op ≠ .defer c := by
    intro c hc
    simp only [Oper.quietAt, execOp, hc] at h3
    simp only [Sem.run_bind] at h3
    cases hr : (resolve a.eval c o.type).run P w with
    | ok x w1 => rw [hr] at h3; simp [Result.andThen, Oper.quietUpon, Sem.run_pure] at h3
    | halt x w1 => rw [hr] at h3; simp [Result.andThen, Oper.quietUpon] at h3
  unfold Oper.wpIn
  refine ⟨fun _ _ => trivial, ?_⟩
  rw [Fence.inRound_round, Oper.semAt_some l _ _ hnd]
  unfold Oper.quietAt at h3
  generalize (execOp a.eval o).run P w = r at *
  cases r with
  | ok x w' =>
    cases x <;> simp only [Oper.quietUpon] at h3 <;> simp only [Oper.uponIn]
    case value u => rw [h3.1, h3.2]; exact h _ _ hw h2
    case skip => rw [h3.1, ← h3.2]; exact h _ _ hw h2
    case enter f args =>
      rw [h3.1]
      exact ⟨fun e => (by cases e), (CallsIn.inRound l (callsIn_wide.2 h3.2)).mono fun e w'' ⟨he, hw''⟩ => by subst he; exact h _ _ hw'' h2⟩
  | halt x w' => simp only [Oper.quietUpon] at h3
theorem wpOpIn_of_qOpR {l n i : Nat} {a : Act} {K : Act → Prop} {K' : Act → World → Prop} {Q' : Exit → Act → World → Prop} {w : World} (hC : C w) (h : ∀ a w', C w' → K a → K' a w') (hh : qOp P ops C i K a) :
    wpOpIn (Fence.wide.inRound l) n P ops Q' i K' a w := by
  unfold qOp at hh
  unfold wpOpIn
  split
  · rename_i ho; simp only [ho] at hh; exact h _ _ hC hh
  · rename_i o ho
    simp only [ho] at hh
    split
    · rename_i hw; simp only [hw, if_true] at hh; exact wpIn_of_quietR hC h hh
    · rename_i hw; simp only [hw] at hh; exact ⟨fun _ _ => trivial, h _ _ hC hh⟩
theorem wpAnyIn_of_quietR {l n : Nat} {Q : Act → Prop} {Q' : Exit → Act → World → Prop} (hQ : ∀ a w, C w → Q a → Q' .normal a w) : ∀ (fuel : Nat) (listed : Array Bool) (a : Act) (w : World), C w →
    wpAnyQ P md ops C Q fuel listed a → wpAnyIn (Fence.wide.inRound l) n P md ops Q' fuel listed a w
  | 0, _, _, _, hw, h => ⟨h.1, hQ _ _ hw h.2⟩
  | fuel + 1, _, _, _, hw, h => ⟨fun h0 => hQ _ _ hw (h.1 h0), fun i hi => wpOpIn_of_qOpR hw (fun a' w' hw' => wpAnyIn_of_quietR hQ fuel _ a' w' hw') (h.2 i hi)⟩
/-- One walk in the text's order, in a round. -/
theorem wpIn_region_fr (W0 : World) {l n id : Nat} {Q : Exit → Act → World → Prop} {a : Act} {w : World} {os : List Oper} (hm : P.follows .mixedOrders = true) (hB : Region.lexB .any os.toArray = true) (hC : Fr no W0 w)
    (h : wpQuiet P os.toArray (fun w' => ∃ p : FrBy W0, w' = p.w) (fun a' => ∀ w', (∃ p : FrBy W0, w' = p.w) → Q .normal a' w') os a) : (Code.region id os.toArray true).wpIn (Fence.wide.inRound l) n P Q a w := by
  simp only [Region.lexB, Bool.and_eq_true] at hB
  refine wpIn_region_any hm (wpAnyIn_of_quietR (C := fun w' => ∃ p : FrBy W0, w' = p.w) (Q := fun a' => ∀ w', (∃ p : FrBy W0, w' = p.w) → Q .normal a' w') (fun _ w' hw' h => h w' hw') _ _ _ _ ⟨⟨w.drew, hC.drew⟩, rfl⟩ ?_)
  have := wpAnyQ_lex (C := fun w' => ∃ p : FrBy W0, w' = p.w) (md := .any) hB.1 os 0 (Array.replicate os.toArray.size false) a (by simp) (by simpa using hB.2) h
  simpa using this
end
end Go.Proofs.Ytmnajpkmglmipaa
