/-
  No cell of these rows narrows 'for every input' (looked for: loops, veiled, ifaces, maps, wideKeys, modest, calm, conditions, laid).
  DERIVED. THE GIVEN ROWS OF THIS SEAT. 6 by the template 'for every input the law returns true; each argument reads behind the call as it read before'; 0 by the template 'total and deterministic' (their statements: YtboglaokdgnpaaaTotals.lean).
  GIVEN WITH THE SEED: the statements are not yours to turn. If you find one false, say at which input.
  Laid BY PROGRAM, IN A SANDBOX (cutbox-rows.mjs): the forced cells as the released guide's own fill.sh prints them over the translation 90edf37da719235b… (all of the seat's roots in one cut). By AI agents, Wed Nov 11 2026. No macro, syntax, notation, axiom, sorry.
-/
import Derived.Test.YtboglaokdgnpaaaChecked
import GoSem.Claim
import GoSem.ClaimJoined
import GoSem.ClaimMapViews
import Derived.JoinedTies
import Derived.KernelRfl
namespace Go.Proofs.Ytboglaokdgnpaaa
/- THE CELL 'sum', in the pinned program and in every row, IS THE sha256 OF THE DUMP (.gsa) THAT YtboglaokdgnpaaaProg.lean LOADS. Nothing in Lean hashes anything: it is a label: what it is worth is what the hold of that sum in a sandbox is worth. -/
noncomputable def Try.pinned : Pinned := { name := "ytboglaokdgnpaaa", sum := "90edf37da719235bc7c652f33645de7ee9457aa994f34eb528eb792bf31f2690", checked := Try.checked }
namespace Rows
def none {H : Type} : Left H := { results := [], args := [] }

/-- 'kinkeeplaw49.CollectorPlans': WHATEVER THE INPUT: true; the input reads as it did. -/
def collectorPlansSpec : ChangeSpec := { name := "collectorPlans", fn := fun _ => fun
  | [d] => { results := [.lit (.bool true)], args := [d] }
  | _ => none }
def collectorPlansRow : OpenClaim := { program := "ytboglaokdgnpaaa", sum := "90edf37da719235bc7c652f33645de7ee9457aa994f34eb528eb792bf31f2690", func := "kinkeep/kinkeeplaw49.CollectorPlans", spec := "collectorPlans", unfollowed := true, recurses := true, plainKeys := false, apart := false }
def CollectorPlansSaid : Prop := collectorPlansRow.holds Try.pinned (OpenSpec.ofChange collectorPlansSpec)

/-- ITS FALSE NEIGHBOUR: 'it returns false'. Refute it at one input. -/
def collectorPlansWrong : ChangeSpec := { name := "collectorPlans", fn := fun _ => fun
  | [d] => { results := [.lit (.bool false)], args := [d] }
  | _ => none }
def CollectorPlansWrongFalsely : Prop := collectorPlansRow.holds Try.pinned (OpenSpec.ofChange collectorPlansWrong)

/-- 'kinkeeplaw49.CollectorSteps': WHATEVER THE INPUT: true; the input reads as it did. -/
def collectorStepsSpec : ChangeSpec := { name := "collectorSteps", fn := fun _ => fun
  | [d1, d2, d3] => { results := [.lit (.bool true)], args := [d1, d2, d3] }
  | _ => none }
def collectorStepsRow : OpenClaim := { program := "ytboglaokdgnpaaa", sum := "90edf37da719235bc7c652f33645de7ee9457aa994f34eb528eb792bf31f2690", func := "kinkeep/kinkeeplaw49.CollectorSteps", spec := "collectorSteps", unfollowed := true, recurses := true, plainKeys := false, apart := false }
def CollectorStepsSaid : Prop := collectorStepsRow.holds Try.pinned (OpenSpec.ofChange collectorStepsSpec)

/-- ITS FALSE NEIGHBOUR: 'it returns false'. Refute it at one input. -/
def collectorStepsWrong : ChangeSpec := { name := "collectorSteps", fn := fun _ => fun
  | [d1, d2, d3] => { results := [.lit (.bool false)], args := [d1, d2, d3] }
  | _ => none }
def CollectorStepsWrongFalsely : Prop := collectorStepsRow.holds Try.pinned (OpenSpec.ofChange collectorStepsWrong)

/-- 'kinkeeplaw49.CollectorSafely': WHATEVER THE INPUT: true; the input reads as it did. -/
def collectorSafelySpec : ChangeSpec := { name := "collectorSafely", fn := fun _ => fun
  | [d] => { results := [.lit (.bool true)], args := [d] }
  | _ => none }
def collectorSafelyRow : OpenClaim := { program := "ytboglaokdgnpaaa", sum := "90edf37da719235bc7c652f33645de7ee9457aa994f34eb528eb792bf31f2690", func := "kinkeep/kinkeeplaw49.CollectorSafely", spec := "collectorSafely", unfollowed := true, recurses := true, plainKeys := false, apart := false }
def CollectorSafelySaid : Prop := collectorSafelyRow.holds Try.pinned (OpenSpec.ofChange collectorSafelySpec)

/-- ITS FALSE NEIGHBOUR: 'it returns false'. Refute it at one input. -/
def collectorSafelyWrong : ChangeSpec := { name := "collectorSafely", fn := fun _ => fun
  | [d] => { results := [.lit (.bool false)], args := [d] }
  | _ => none }
def CollectorSafelyWrongFalsely : Prop := collectorSafelyRow.holds Try.pinned (OpenSpec.ofChange collectorSafelyWrong)

/-- 'kinkeeplaw49.CollectorDeletes': WHATEVER THE INPUT: true; the input reads as it did. -/
def collectorDeletesSpec : ChangeSpec := { name := "collectorDeletes", fn := fun _ => fun
  | [d] => { results := [.lit (.bool true)], args := [d] }
  | _ => none }
def collectorDeletesRow : OpenClaim := { program := "ytboglaokdgnpaaa", sum := "90edf37da719235bc7c652f33645de7ee9457aa994f34eb528eb792bf31f2690", func := "kinkeep/kinkeeplaw49.CollectorDeletes", spec := "collectorDeletes", unfollowed := true, recurses := true, plainKeys := false, apart := false }
def CollectorDeletesSaid : Prop := collectorDeletesRow.holds Try.pinned (OpenSpec.ofChange collectorDeletesSpec)

/-- ITS FALSE NEIGHBOUR: 'it returns false'. Refute it at one input. -/
def collectorDeletesWrong : ChangeSpec := { name := "collectorDeletes", fn := fun _ => fun
  | [d] => { results := [.lit (.bool false)], args := [d] }
  | _ => none }
def CollectorDeletesWrongFalsely : Prop := collectorDeletesRow.holds Try.pinned (OpenSpec.ofChange collectorDeletesWrong)

/-- 'kinkeeplaw49.CollectorJudges': WHATEVER THE INPUT: true; the input reads as it did. -/
def collectorJudgesSpec : ChangeSpec := { name := "collectorJudges", fn := fun _ => fun
  | [d1, d2] => { results := [.lit (.bool true)], args := [d1, d2] }
  | _ => none }
def collectorJudgesRow : OpenClaim := { program := "ytboglaokdgnpaaa", sum := "90edf37da719235bc7c652f33645de7ee9457aa994f34eb528eb792bf31f2690", func := "kinkeep/kinkeeplaw49.CollectorJudges", spec := "collectorJudges", unfollowed := true, recurses := true, plainKeys := false, apart := false }
def CollectorJudgesSaid : Prop := collectorJudgesRow.holds Try.pinned (OpenSpec.ofChange collectorJudgesSpec)

/-- ITS FALSE NEIGHBOUR: 'it returns false'. Refute it at one input. -/
def collectorJudgesWrong : ChangeSpec := { name := "collectorJudges", fn := fun _ => fun
  | [d1, d2] => { results := [.lit (.bool false)], args := [d1, d2] }
  | _ => none }
def CollectorJudgesWrongFalsely : Prop := collectorJudgesRow.holds Try.pinned (OpenSpec.ofChange collectorJudgesWrong)

/-- 'kinkeeplaw49.CollectorChecks': WHATEVER THE INPUT: true; the input reads as it did. -/
def collectorChecksSpec : ChangeSpec := { name := "collectorChecks", fn := fun _ => fun
  | [d] => { results := [.lit (.bool true)], args := [d] }
  | _ => none }
def collectorChecksRow : OpenClaim := { program := "ytboglaokdgnpaaa", sum := "90edf37da719235bc7c652f33645de7ee9457aa994f34eb528eb792bf31f2690", func := "kinkeep/kinkeeplaw49.CollectorChecks", spec := "collectorChecks", unfollowed := true, recurses := true, plainKeys := false, apart := false }
def CollectorChecksSaid : Prop := collectorChecksRow.holds Try.pinned (OpenSpec.ofChange collectorChecksSpec)

/-- ITS FALSE NEIGHBOUR: 'it returns false'. Refute it at one input. -/
def collectorChecksWrong : ChangeSpec := { name := "collectorChecks", fn := fun _ => fun
  | [d] => { results := [.lit (.bool false)], args := [d] }
  | _ => none }
def CollectorChecksWrongFalsely : Prop := collectorChecksRow.holds Try.pinned (OpenSpec.ofChange collectorChecksWrong)

/- THE SECOND FORM. 'bulk': how many values and letters a reading holds, each counted each time it is reached (what is shared counts as often as it is met; a slice's spare places count too). A statement '..UptoSaid' is the law's where the arguments, and the package variables that the reading takes, are together of bulk at most 1048576: NARROWER than '..Said'. Prove '..Said' where nothing that the law and all that it calls make is longer than what came in: it says more and counts as full. Else prove '..UptoSaid'. A law counts once. -/
mutual
def uptoBulk {H : Type} : DataW H → Nat
  | .lit (.string bytes) => bytes.length + 1
  | .lit _ => 1
  | .nil => 1
  | .ptr d => uptoBulk d + 1
  | .slice elems spare => uptoBulkAll elems + uptoBulkAll spare + 1
  | .agg parts => uptoBulkAll parts + 1
  | .iface _ d => uptoBulk d + 1
  | .map entries => uptoBulkEntries entries + 1
  | .held _ => 1
def uptoBulkAll {H : Type} : List (DataW H) → Nat
  | [] => 0
  | d :: r => uptoBulk d + uptoBulkAll r
def uptoBulkEntries {H : Type} : List (Lit × DataW H) → Nat
  | [] => 0
  | x :: r => uptoBulkEntry x + uptoBulkEntries r
def uptoBulkEntry {H : Type} : Lit × DataW H → Nat
  | (.string bytes, d) => bytes.length + uptoBulk d + 1
  | (_, d) => uptoBulk d + 1
 end
def uptoSmall : (H : Type) → List (DataW H) → Bool := fun _ ds => decide (uptoBulkAll ds ≤ 1048576)
def OpenSpec.upto (s : _root_.Go.ChangeSpec) : _root_.Go.OpenSpec := { _root_.Go.OpenSpec.ofChange s with cond := some uptoSmall }

/-- 'kinkeeplaw49.CollectorPlans', WHERE WHAT IT READS IS OF BULK AT MOST 1048576: true; the input reads as it did. -/
def collectorPlansUptoRow : OpenClaim := { program := "ytboglaokdgnpaaa", sum := "90edf37da719235bc7c652f33645de7ee9457aa994f34eb528eb792bf31f2690", func := "kinkeep/kinkeeplaw49.CollectorPlans", spec := "collectorPlans", unfollowed := true, recurses := true, plainKeys := false, apart := false, narrowed := true }
def CollectorPlansUptoSaid : Prop := collectorPlansUptoRow.holds Try.pinned (OpenSpec.upto collectorPlansSpec)

/-- 'kinkeeplaw49.CollectorSteps', WHERE WHAT IT READS IS OF BULK AT MOST 1048576: true; the input reads as it did. -/
def collectorStepsUptoRow : OpenClaim := { program := "ytboglaokdgnpaaa", sum := "90edf37da719235bc7c652f33645de7ee9457aa994f34eb528eb792bf31f2690", func := "kinkeep/kinkeeplaw49.CollectorSteps", spec := "collectorSteps", unfollowed := true, recurses := true, plainKeys := false, apart := false, narrowed := true }
def CollectorStepsUptoSaid : Prop := collectorStepsUptoRow.holds Try.pinned (OpenSpec.upto collectorStepsSpec)

/-- 'kinkeeplaw49.CollectorSafely', WHERE WHAT IT READS IS OF BULK AT MOST 1048576: true; the input reads as it did. -/
def collectorSafelyUptoRow : OpenClaim := { program := "ytboglaokdgnpaaa", sum := "90edf37da719235bc7c652f33645de7ee9457aa994f34eb528eb792bf31f2690", func := "kinkeep/kinkeeplaw49.CollectorSafely", spec := "collectorSafely", unfollowed := true, recurses := true, plainKeys := false, apart := false, narrowed := true }
def CollectorSafelyUptoSaid : Prop := collectorSafelyUptoRow.holds Try.pinned (OpenSpec.upto collectorSafelySpec)

/-- 'kinkeeplaw49.CollectorDeletes', WHERE WHAT IT READS IS OF BULK AT MOST 1048576: true; the input reads as it did. -/
def collectorDeletesUptoRow : OpenClaim := { program := "ytboglaokdgnpaaa", sum := "90edf37da719235bc7c652f33645de7ee9457aa994f34eb528eb792bf31f2690", func := "kinkeep/kinkeeplaw49.CollectorDeletes", spec := "collectorDeletes", unfollowed := true, recurses := true, plainKeys := false, apart := false, narrowed := true }
def CollectorDeletesUptoSaid : Prop := collectorDeletesUptoRow.holds Try.pinned (OpenSpec.upto collectorDeletesSpec)

/-- 'kinkeeplaw49.CollectorJudges', WHERE WHAT IT READS IS OF BULK AT MOST 1048576: true; the input reads as it did. -/
def collectorJudgesUptoRow : OpenClaim := { program := "ytboglaokdgnpaaa", sum := "90edf37da719235bc7c652f33645de7ee9457aa994f34eb528eb792bf31f2690", func := "kinkeep/kinkeeplaw49.CollectorJudges", spec := "collectorJudges", unfollowed := true, recurses := true, plainKeys := false, apart := false, narrowed := true }
def CollectorJudgesUptoSaid : Prop := collectorJudgesUptoRow.holds Try.pinned (OpenSpec.upto collectorJudgesSpec)

/-- 'kinkeeplaw49.CollectorChecks', WHERE WHAT IT READS IS OF BULK AT MOST 1048576: true; the input reads as it did. -/
def collectorChecksUptoRow : OpenClaim := { program := "ytboglaokdgnpaaa", sum := "90edf37da719235bc7c652f33645de7ee9457aa994f34eb528eb792bf31f2690", func := "kinkeep/kinkeeplaw49.CollectorChecks", spec := "collectorChecks", unfollowed := true, recurses := true, plainKeys := false, apart := false, narrowed := true }
def CollectorChecksUptoSaid : Prop := collectorChecksUptoRow.holds Try.pinned (OpenSpec.upto collectorChecksSpec)

end Rows
end Go.Proofs.Ytboglaokdgnpaaa
