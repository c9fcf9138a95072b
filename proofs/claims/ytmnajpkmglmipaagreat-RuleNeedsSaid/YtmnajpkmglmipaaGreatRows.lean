/-
  No cell of these rows narrows 'for every input' (looked for: loops, veiled, ifaces, maps, wideKeys, modest, calm, conditions, laid).
  DERIVED. THE GIVEN ROWS OF THIS SEAT. 8 by the template 'for every input the law returns true; each argument reads behind the call as it read before'; 0 by the template 'total and deterministic' (their statements: YtmnajpkmglmipaaGreatTotals.lean).
  GIVEN WITH THE SEED: the statements are not yours to turn. If you find one false, say at which input.
  Laid BY PROGRAM, IN A SANDBOX (cutbox-rows.mjs): the forced cells as the released guide's own fill.sh prints them over the translation d9c81979b92c3c27… (all of the seat's roots in one cut). By AI agents, Wed Nov 11 2026. No macro, syntax, notation, axiom, sorry.
-/
import Derived.Test.YtmnajpkmglmipaaGreatChecked
import GoSem.Claim
import GoSem.ClaimJoined
import GoSem.ClaimMapViews
import Derived.JoinedTies
import Derived.KernelRfl
namespace Go.Proofs.YtmnajpkmglmipaaGreat
/- THE CELL 'sum', in the pinned program and in every row, IS THE sha256 OF THE DUMP (.gsa) THAT YtmnajpkmglmipaaGreatProg.lean LOADS. Nothing in Lean hashes anything: it is a label: what it is worth is what the hold of that sum in a sandbox is worth. -/
noncomputable def Tryz.pinned : Pinned := { name := "ytmnajpkmglmipaagreat", sum := "d9c81979b92c3c27e74b7a8718a52a986e11bad3eb0fd46b0105c91cdf573328", checked := Tryz.checked }
namespace Rows
def none {H : Type} : Left H := { results := [], args := [] }

/-- 'tilllaw9.RuleExact': WHATEVER THE INPUT: true; the input reads as it did. -/
def ruleExactSpec : ChangeSpec := { name := "ruleExact", fn := fun _ => fun
  | [d] => { results := [.lit (.bool true)], args := [d] }
  | _ => none }
def ruleExactRow : OpenClaim := { program := "ytmnajpkmglmipaagreat", sum := "d9c81979b92c3c27e74b7a8718a52a986e11bad3eb0fd46b0105c91cdf573328", func := "till/tilllaw9.RuleExact", spec := "ruleExact", unfollowed := true, recurses := true, plainKeys := false, apart := false }
def RuleExactSaid : Prop := ruleExactRow.holds Tryz.pinned (OpenSpec.ofChange ruleExactSpec)

/-- ITS FALSE NEIGHBOUR: 'it returns false'. Refute it at one input. -/
def ruleExactWrong : ChangeSpec := { name := "ruleExact", fn := fun _ => fun
  | [d] => { results := [.lit (.bool false)], args := [d] }
  | _ => none }
def RuleExactWrongFalsely : Prop := ruleExactRow.holds Tryz.pinned (OpenSpec.ofChange ruleExactWrong)

/-- 'tilllaw9.RuleParts': WHATEVER THE INPUT: true; the input reads as it did. -/
def rulePartsSpec : ChangeSpec := { name := "ruleParts", fn := fun _ => fun
  | [d] => { results := [.lit (.bool true)], args := [d] }
  | _ => none }
def rulePartsRow : OpenClaim := { program := "ytmnajpkmglmipaagreat", sum := "d9c81979b92c3c27e74b7a8718a52a986e11bad3eb0fd46b0105c91cdf573328", func := "till/tilllaw9.RuleParts", spec := "ruleParts", unfollowed := true, recurses := true, plainKeys := false, apart := false }
def RulePartsSaid : Prop := rulePartsRow.holds Tryz.pinned (OpenSpec.ofChange rulePartsSpec)

/-- ITS FALSE NEIGHBOUR: 'it returns false'. Refute it at one input. -/
def rulePartsWrong : ChangeSpec := { name := "ruleParts", fn := fun _ => fun
  | [d] => { results := [.lit (.bool false)], args := [d] }
  | _ => none }
def RulePartsWrongFalsely : Prop := rulePartsRow.holds Tryz.pinned (OpenSpec.ofChange rulePartsWrong)

/-- 'tilllaw9.RuleNeeds': WHATEVER THE INPUT: true; the input reads as it did. -/
def ruleNeedsSpec : ChangeSpec := { name := "ruleNeeds", fn := fun _ => fun
  | [d] => { results := [.lit (.bool true)], args := [d] }
  | _ => none }
def ruleNeedsRow : OpenClaim := { program := "ytmnajpkmglmipaagreat", sum := "d9c81979b92c3c27e74b7a8718a52a986e11bad3eb0fd46b0105c91cdf573328", func := "till/tilllaw9.RuleNeeds", spec := "ruleNeeds", unfollowed := true, recurses := true, plainKeys := false, apart := false }
def RuleNeedsSaid : Prop := ruleNeedsRow.holds Tryz.pinned (OpenSpec.ofChange ruleNeedsSpec)

/-- ITS FALSE NEIGHBOUR: 'it returns false'. Refute it at one input. -/
def ruleNeedsWrong : ChangeSpec := { name := "ruleNeeds", fn := fun _ => fun
  | [d] => { results := [.lit (.bool false)], args := [d] }
  | _ => none }
def RuleNeedsWrongFalsely : Prop := ruleNeedsRow.holds Tryz.pinned (OpenSpec.ofChange ruleNeedsWrong)

/-- 'tilllaw9.RuleSafe': WHATEVER THE INPUT: true; the input reads as it did. -/
def ruleSafeSpec : ChangeSpec := { name := "ruleSafe", fn := fun _ => fun
  | [d] => { results := [.lit (.bool true)], args := [d] }
  | _ => none }
def ruleSafeRow : OpenClaim := { program := "ytmnajpkmglmipaagreat", sum := "d9c81979b92c3c27e74b7a8718a52a986e11bad3eb0fd46b0105c91cdf573328", func := "till/tilllaw9.RuleSafe", spec := "ruleSafe", unfollowed := true, recurses := true, plainKeys := false, apart := false }
def RuleSafeSaid : Prop := ruleSafeRow.holds Tryz.pinned (OpenSpec.ofChange ruleSafeSpec)

/-- ITS FALSE NEIGHBOUR: 'it returns false'. Refute it at one input. -/
def ruleSafeWrong : ChangeSpec := { name := "ruleSafe", fn := fun _ => fun
  | [d] => { results := [.lit (.bool false)], args := [d] }
  | _ => none }
def RuleSafeWrongFalsely : Prop := ruleSafeRow.holds Tryz.pinned (OpenSpec.ofChange ruleSafeWrong)

/-- 'tilllaw9.RuleOnly': WHATEVER THE INPUT: true; the input reads as it did. -/
def ruleOnlySpec : ChangeSpec := { name := "ruleOnly", fn := fun _ => fun
  | [d] => { results := [.lit (.bool true)], args := [d] }
  | _ => none }
def ruleOnlyRow : OpenClaim := { program := "ytmnajpkmglmipaagreat", sum := "d9c81979b92c3c27e74b7a8718a52a986e11bad3eb0fd46b0105c91cdf573328", func := "till/tilllaw9.RuleOnly", spec := "ruleOnly", unfollowed := true, recurses := true, plainKeys := false, apart := false }
def RuleOnlySaid : Prop := ruleOnlyRow.holds Tryz.pinned (OpenSpec.ofChange ruleOnlySpec)

/-- ITS FALSE NEIGHBOUR: 'it returns false'. Refute it at one input. -/
def ruleOnlyWrong : ChangeSpec := { name := "ruleOnly", fn := fun _ => fun
  | [d] => { results := [.lit (.bool false)], args := [d] }
  | _ => none }
def RuleOnlyWrongFalsely : Prop := ruleOnlyRow.holds Tryz.pinned (OpenSpec.ofChange ruleOnlyWrong)

/-- 'tilllaw9.RuleGuards': WHATEVER THE INPUT: true; the input reads as it did. -/
def ruleGuardsSpec : ChangeSpec := { name := "ruleGuards", fn := fun _ => fun
  | [d] => { results := [.lit (.bool true)], args := [d] }
  | _ => none }
def ruleGuardsRow : OpenClaim := { program := "ytmnajpkmglmipaagreat", sum := "d9c81979b92c3c27e74b7a8718a52a986e11bad3eb0fd46b0105c91cdf573328", func := "till/tilllaw9.RuleGuards", spec := "ruleGuards", unfollowed := true, recurses := true, plainKeys := false, apart := false }
def RuleGuardsSaid : Prop := ruleGuardsRow.holds Tryz.pinned (OpenSpec.ofChange ruleGuardsSpec)

/-- ITS FALSE NEIGHBOUR: 'it returns false'. Refute it at one input. -/
def ruleGuardsWrong : ChangeSpec := { name := "ruleGuards", fn := fun _ => fun
  | [d] => { results := [.lit (.bool false)], args := [d] }
  | _ => none }
def RuleGuardsWrongFalsely : Prop := ruleGuardsRow.holds Tryz.pinned (OpenSpec.ofChange ruleGuardsWrong)

/-- 'tilllaw9.RulePlace': WHATEVER THE INPUT: true; the input reads as it did. -/
def rulePlaceSpec : ChangeSpec := { name := "rulePlace", fn := fun _ => fun
  | [d] => { results := [.lit (.bool true)], args := [d] }
  | _ => none }
def rulePlaceRow : OpenClaim := { program := "ytmnajpkmglmipaagreat", sum := "d9c81979b92c3c27e74b7a8718a52a986e11bad3eb0fd46b0105c91cdf573328", func := "till/tilllaw9.RulePlace", spec := "rulePlace", unfollowed := true, recurses := true, plainKeys := false, apart := false }
def RulePlaceSaid : Prop := rulePlaceRow.holds Tryz.pinned (OpenSpec.ofChange rulePlaceSpec)

/-- ITS FALSE NEIGHBOUR: 'it returns false'. Refute it at one input. -/
def rulePlaceWrong : ChangeSpec := { name := "rulePlace", fn := fun _ => fun
  | [d] => { results := [.lit (.bool false)], args := [d] }
  | _ => none }
def RulePlaceWrongFalsely : Prop := rulePlaceRow.holds Tryz.pinned (OpenSpec.ofChange rulePlaceWrong)

/-- 'tilllaw9.RuleLong': WHATEVER THE INPUT: true; the input reads as it did. -/
def ruleLongSpec : ChangeSpec := { name := "ruleLong", fn := fun _ => fun
  | [d] => { results := [.lit (.bool true)], args := [d] }
  | _ => none }
def ruleLongRow : OpenClaim := { program := "ytmnajpkmglmipaagreat", sum := "d9c81979b92c3c27e74b7a8718a52a986e11bad3eb0fd46b0105c91cdf573328", func := "till/tilllaw9.RuleLong", spec := "ruleLong", unfollowed := true, recurses := true, plainKeys := false, apart := false }
def RuleLongSaid : Prop := ruleLongRow.holds Tryz.pinned (OpenSpec.ofChange ruleLongSpec)

/-- ITS FALSE NEIGHBOUR: 'it returns false'. Refute it at one input. -/
def ruleLongWrong : ChangeSpec := { name := "ruleLong", fn := fun _ => fun
  | [d] => { results := [.lit (.bool false)], args := [d] }
  | _ => none }
def RuleLongWrongFalsely : Prop := ruleLongRow.holds Tryz.pinned (OpenSpec.ofChange ruleLongWrong)

/- THE SECOND FORM. 'bulk': how many values and letters a reading holds, each counted each time it is reached (what is shared counts as often as it is met; a slice's spare places count too). A statement '..UptoSaid' is the law's where the arguments, and the package variables that the reading takes, are together of bulk at most 1048576: NARROWER than '..Said'. Prove '..Said' where nothing that the law and all that it calls make is longer than what came in: it says more and counts as full. Else prove '..UptoSaid'. A law counts once. -/
mutual
def uptoBulk {H : Type} : DataW H → Nat
  | .lit (.string bytes) => bytes.length + 1
  | .lit _ => 1
  | .nil => 1
  | .ptr d => uptoBulk d + 1
  | .slice elems spare => uptoBulkAll elems + uptoBulkAll spare + 1
  | .agg parts => uptoBulkAll parts + 1
  | .iface _ d => uptoBulk d + 1
  | .map entries => uptoBulkEntries entries + 1
  | .held _ => 1
def uptoBulkAll {H : Type} : List (DataW H) → Nat
  | [] => 0
  | d :: r => uptoBulk d + uptoBulkAll r
def uptoBulkEntries {H : Type} : List (Lit × DataW H) → Nat
  | [] => 0
  | x :: r => uptoBulkEntry x + uptoBulkEntries r
def uptoBulkEntry {H : Type} : Lit × DataW H → Nat
  | (.string bytes, d) => bytes.length + uptoBulk d + 1
  | (_, d) => uptoBulk d + 1
 end
def uptoSmall : (H : Type) → List (DataW H) → Bool := fun _ ds => decide (uptoBulkAll ds ≤ 1048576)
def OpenSpec.upto (s : _root_.Go.ChangeSpec) : _root_.Go.OpenSpec := { _root_.Go.OpenSpec.ofChange s with cond := some uptoSmall }

/-- 'tilllaw9.RuleExact', WHERE WHAT IT READS IS OF BULK AT MOST 1048576: true; the input reads as it did. -/
def ruleExactUptoRow : OpenClaim := { program := "ytmnajpkmglmipaagreat", sum := "d9c81979b92c3c27e74b7a8718a52a986e11bad3eb0fd46b0105c91cdf573328", func := "till/tilllaw9.RuleExact", spec := "ruleExact", unfollowed := true, recurses := true, plainKeys := false, apart := false, narrowed := true }
def RuleExactUptoSaid : Prop := ruleExactUptoRow.holds Tryz.pinned (OpenSpec.upto ruleExactSpec)

/-- 'tilllaw9.RuleParts', WHERE WHAT IT READS IS OF BULK AT MOST 1048576: true; the input reads as it did. -/
def rulePartsUptoRow : OpenClaim := { program := "ytmnajpkmglmipaagreat", sum := "d9c81979b92c3c27e74b7a8718a52a986e11bad3eb0fd46b0105c91cdf573328", func := "till/tilllaw9.RuleParts", spec := "ruleParts", unfollowed := true, recurses := true, plainKeys := false, apart := false, narrowed := true }
def RulePartsUptoSaid : Prop := rulePartsUptoRow.holds Tryz.pinned (OpenSpec.upto rulePartsSpec)

/-- 'tilllaw9.RuleNeeds', WHERE WHAT IT READS IS OF BULK AT MOST 1048576: true; the input reads as it did. -/
def ruleNeedsUptoRow : OpenClaim := { program := "ytmnajpkmglmipaagreat", sum := "d9c81979b92c3c27e74b7a8718a52a986e11bad3eb0fd46b0105c91cdf573328", func := "till/tilllaw9.RuleNeeds", spec := "ruleNeeds", unfollowed := true, recurses := true, plainKeys := false, apart := false, narrowed := true }
def RuleNeedsUptoSaid : Prop := ruleNeedsUptoRow.holds Tryz.pinned (OpenSpec.upto ruleNeedsSpec)

/-- 'tilllaw9.RuleSafe', WHERE WHAT IT READS IS OF BULK AT MOST 1048576: true; the input reads as it did. -/
def ruleSafeUptoRow : OpenClaim := { program := "ytmnajpkmglmipaagreat", sum := "d9c81979b92c3c27e74b7a8718a52a986e11bad3eb0fd46b0105c91cdf573328", func := "till/tilllaw9.RuleSafe", spec := "ruleSafe", unfollowed := true, recurses := true, plainKeys := false, apart := false, narrowed := true }
def RuleSafeUptoSaid : Prop := ruleSafeUptoRow.holds Tryz.pinned (OpenSpec.upto ruleSafeSpec)

/-- 'tilllaw9.RuleOnly', WHERE WHAT IT READS IS OF BULK AT MOST 1048576: true; the input reads as it did. -/
def ruleOnlyUptoRow : OpenClaim := { program := "ytmnajpkmglmipaagreat", sum := "d9c81979b92c3c27e74b7a8718a52a986e11bad3eb0fd46b0105c91cdf573328", func := "till/tilllaw9.RuleOnly", spec := "ruleOnly", unfollowed := true, recurses := true, plainKeys := false, apart := false, narrowed := true }
def RuleOnlyUptoSaid : Prop := ruleOnlyUptoRow.holds Tryz.pinned (OpenSpec.upto ruleOnlySpec)

/-- 'tilllaw9.RuleGuards', WHERE WHAT IT READS IS OF BULK AT MOST 1048576: true; the input reads as it did. -/
def ruleGuardsUptoRow : OpenClaim := { program := "ytmnajpkmglmipaagreat", sum := "d9c81979b92c3c27e74b7a8718a52a986e11bad3eb0fd46b0105c91cdf573328", func := "till/tilllaw9.RuleGuards", spec := "ruleGuards", unfollowed := true, recurses := true, plainKeys := false, apart := false, narrowed := true }
def RuleGuardsUptoSaid : Prop := ruleGuardsUptoRow.holds Tryz.pinned (OpenSpec.upto ruleGuardsSpec)

/-- 'tilllaw9.RulePlace', WHERE WHAT IT READS IS OF BULK AT MOST 1048576: true; the input reads as it did. -/
def rulePlaceUptoRow : OpenClaim := { program := "ytmnajpkmglmipaagreat", sum := "d9c81979b92c3c27e74b7a8718a52a986e11bad3eb0fd46b0105c91cdf573328", func := "till/tilllaw9.RulePlace", spec := "rulePlace", unfollowed := true, recurses := true, plainKeys := false, apart := false, narrowed := true }
def RulePlaceUptoSaid : Prop := rulePlaceUptoRow.holds Tryz.pinned (OpenSpec.upto rulePlaceSpec)

/-- 'tilllaw9.RuleLong', WHERE WHAT IT READS IS OF BULK AT MOST 1048576: true; the input reads as it did. -/
def ruleLongUptoRow : OpenClaim := { program := "ytmnajpkmglmipaagreat", sum := "d9c81979b92c3c27e74b7a8718a52a986e11bad3eb0fd46b0105c91cdf573328", func := "till/tilllaw9.RuleLong", spec := "ruleLong", unfollowed := true, recurses := true, plainKeys := false, apart := false, narrowed := true }
def RuleLongUptoSaid : Prop := ruleLongUptoRow.holds Tryz.pinned (OpenSpec.upto ruleLongSpec)

end Rows
end Go.Proofs.YtmnajpkmglmipaaGreat
