/-
  No cell of these rows narrows 'for every input' (looked for: loops, veiled, ifaces, maps, wideKeys, modest, calm, conditions, laid).
  DERIVED. THE GIVEN ROWS OF THIS SEAT. 6 by the template 'for every input the law returns true; each argument reads behind the call as it read before'; 0 by the template 'total and deterministic' (their statements: YtklfficlegfhjaaGreatTotals.lean).
  GIVEN WITH THE SEED: the statements are not yours to turn. If you find one false, say at which input.
  Laid BY PROGRAM, IN A SANDBOX (cutbox-rows.mjs): the forced cells as the released guide's own fill.sh prints them over the translation 38a206bb22ba7053… (all of the seat's roots in one cut). By AI agents, Wed Nov 11 2026. No macro, syntax, notation, axiom, sorry.
-/
import Derived.Test.YtklfficlegfhjaaGreatChecked
import GoSem.Claim
import GoSem.ClaimJoined
import GoSem.ClaimMapViews
import Derived.JoinedTies
import Derived.KernelRfl
namespace Go.Proofs.YtklfficlegfhjaaGreat
/- THE CELL 'sum', in the pinned program and in every row, IS THE sha256 OF THE DUMP (.gsa) THAT YtklfficlegfhjaaGreatProg.lean LOADS. Nothing in Lean hashes anything: it is a label: what it is worth is what the hold of that sum in a sandbox is worth. -/
noncomputable def Tryz.pinned : Pinned := { name := "ytklfficlegfhjaagreat", sum := "38a206bb22ba70537976118a6ebc0502d3b76af84fe9e39a25317046487af25f", checked := Tryz.checked }
namespace Rows
def none {H : Type} : Left H := { results := [], args := [] }

/-- 'kinkeeplaw34.PlacementChecks': WHATEVER THE INPUT: true; the input reads as it did. -/
def placementChecksSpec : ChangeSpec := { name := "placementChecks", fn := fun _ => fun
  | [d1, d2, d3] => { results := [.lit (.bool true)], args := [d1, d2, d3] }
  | _ => none }
def placementChecksRow : OpenClaim := { program := "ytklfficlegfhjaagreat", sum := "38a206bb22ba70537976118a6ebc0502d3b76af84fe9e39a25317046487af25f", func := "kinkeep/kinkeeplaw34.PlacementChecks", spec := "placementChecks", unfollowed := true, recurses := true, plainKeys := false, apart := false }
def PlacementChecksSaid : Prop := placementChecksRow.holds Tryz.pinned (OpenSpec.ofChange placementChecksSpec)

/-- ITS FALSE NEIGHBOUR: 'it returns false'. Refute it at one input. -/
def placementChecksWrong : ChangeSpec := { name := "placementChecks", fn := fun _ => fun
  | [d1, d2, d3] => { results := [.lit (.bool false)], args := [d1, d2, d3] }
  | _ => none }
def PlacementChecksWrongFalsely : Prop := placementChecksRow.holds Tryz.pinned (OpenSpec.ofChange placementChecksWrong)

/-- 'kinkeeplaw34.PlacementOne': WHATEVER THE INPUT: true; the input reads as it did. -/
def placementOneSpec : ChangeSpec := { name := "placementOne", fn := fun _ => fun
  | [d1, d2, d3, d4] => { results := [.lit (.bool true)], args := [d1, d2, d3, d4] }
  | _ => none }
def placementOneRow : OpenClaim := { program := "ytklfficlegfhjaagreat", sum := "38a206bb22ba70537976118a6ebc0502d3b76af84fe9e39a25317046487af25f", func := "kinkeep/kinkeeplaw34.PlacementOne", spec := "placementOne", unfollowed := true, recurses := true, plainKeys := false, apart := false }
def PlacementOneSaid : Prop := placementOneRow.holds Tryz.pinned (OpenSpec.ofChange placementOneSpec)

/-- ITS FALSE NEIGHBOUR: 'it returns false'. Refute it at one input. -/
def placementOneWrong : ChangeSpec := { name := "placementOne", fn := fun _ => fun
  | [d1, d2, d3, d4] => { results := [.lit (.bool false)], args := [d1, d2, d3, d4] }
  | _ => none }
def PlacementOneWrongFalsely : Prop := placementOneRow.holds Tryz.pinned (OpenSpec.ofChange placementOneWrong)

/-- 'kinkeeplaw34.PlacementPossible': WHATEVER THE INPUT: true; the input reads as it did. -/
def placementPossibleSpec : ChangeSpec := { name := "placementPossible", fn := fun _ => fun
  | [d1, d2, d3, d4] => { results := [.lit (.bool true)], args := [d1, d2, d3, d4] }
  | _ => none }
def placementPossibleRow : OpenClaim := { program := "ytklfficlegfhjaagreat", sum := "38a206bb22ba70537976118a6ebc0502d3b76af84fe9e39a25317046487af25f", func := "kinkeep/kinkeeplaw34.PlacementPossible", spec := "placementPossible", unfollowed := true, recurses := true, plainKeys := false, apart := false }
def PlacementPossibleSaid : Prop := placementPossibleRow.holds Tryz.pinned (OpenSpec.ofChange placementPossibleSpec)

/-- ITS FALSE NEIGHBOUR: 'it returns false'. Refute it at one input. -/
def placementPossibleWrong : ChangeSpec := { name := "placementPossible", fn := fun _ => fun
  | [d1, d2, d3, d4] => { results := [.lit (.bool false)], args := [d1, d2, d3, d4] }
  | _ => none }
def PlacementPossibleWrongFalsely : Prop := placementPossibleRow.holds Tryz.pinned (OpenSpec.ofChange placementPossibleWrong)

/-- 'kinkeeplaw34.PlacementAssigns': WHATEVER THE INPUT: true; the input reads as it did. -/
def placementAssignsSpec : ChangeSpec := { name := "placementAssigns", fn := fun _ => fun
  | [d1, d2, d3, d4] => { results := [.lit (.bool true)], args := [d1, d2, d3, d4] }
  | _ => none }
def placementAssignsRow : OpenClaim := { program := "ytklfficlegfhjaagreat", sum := "38a206bb22ba70537976118a6ebc0502d3b76af84fe9e39a25317046487af25f", func := "kinkeep/kinkeeplaw34.PlacementAssigns", spec := "placementAssigns", unfollowed := true, recurses := true, plainKeys := false, apart := false }
def PlacementAssignsSaid : Prop := placementAssignsRow.holds Tryz.pinned (OpenSpec.ofChange placementAssignsSpec)

/-- ITS FALSE NEIGHBOUR: 'it returns false'. Refute it at one input. -/
def placementAssignsWrong : ChangeSpec := { name := "placementAssigns", fn := fun _ => fun
  | [d1, d2, d3, d4] => { results := [.lit (.bool false)], args := [d1, d2, d3, d4] }
  | _ => none }
def PlacementAssignsWrongFalsely : Prop := placementAssignsRow.holds Tryz.pinned (OpenSpec.ofChange placementAssignsWrong)

/-- 'kinkeeplaw34.PlacementRebalances': WHATEVER THE INPUT: true; the input reads as it did. -/
def placementRebalancesSpec : ChangeSpec := { name := "placementRebalances", fn := fun _ => fun
  | [d1, d2, d3, d4, d5] => { results := [.lit (.bool true)], args := [d1, d2, d3, d4, d5] }
  | _ => none }
def placementRebalancesRow : OpenClaim := { program := "ytklfficlegfhjaagreat", sum := "38a206bb22ba70537976118a6ebc0502d3b76af84fe9e39a25317046487af25f", func := "kinkeep/kinkeeplaw34.PlacementRebalances", spec := "placementRebalances", unfollowed := true, recurses := true, plainKeys := false, apart := false }
def PlacementRebalancesSaid : Prop := placementRebalancesRow.holds Tryz.pinned (OpenSpec.ofChange placementRebalancesSpec)

/-- ITS FALSE NEIGHBOUR: 'it returns false'. Refute it at one input. -/
def placementRebalancesWrong : ChangeSpec := { name := "placementRebalances", fn := fun _ => fun
  | [d1, d2, d3, d4, d5] => { results := [.lit (.bool false)], args := [d1, d2, d3, d4, d5] }
  | _ => none }
def PlacementRebalancesWrongFalsely : Prop := placementRebalancesRow.holds Tryz.pinned (OpenSpec.ofChange placementRebalancesWrong)

/-- 'kinkeeplaw34.PlacementCounts': WHATEVER THE INPUT: true; the input reads as it did. -/
def placementCountsSpec : ChangeSpec := { name := "placementCounts", fn := fun _ => fun
  | [d1, d2, d3, d4, d5] => { results := [.lit (.bool true)], args := [d1, d2, d3, d4, d5] }
  | _ => none }
def placementCountsRow : OpenClaim := { program := "ytklfficlegfhjaagreat", sum := "38a206bb22ba70537976118a6ebc0502d3b76af84fe9e39a25317046487af25f", func := "kinkeep/kinkeeplaw34.PlacementCounts", spec := "placementCounts", unfollowed := true, recurses := true, plainKeys := false, apart := false }
def PlacementCountsSaid : Prop := placementCountsRow.holds Tryz.pinned (OpenSpec.ofChange placementCountsSpec)

/-- ITS FALSE NEIGHBOUR: 'it returns false'. Refute it at one input. -/
def placementCountsWrong : ChangeSpec := { name := "placementCounts", fn := fun _ => fun
  | [d1, d2, d3, d4, d5] => { results := [.lit (.bool false)], args := [d1, d2, d3, d4, d5] }
  | _ => none }
def PlacementCountsWrongFalsely : Prop := placementCountsRow.holds Tryz.pinned (OpenSpec.ofChange placementCountsWrong)

/- THE SECOND FORM. 'bulk': how many values and letters a reading holds, each counted each time it is reached (what is shared counts as often as it is met; a slice's spare places count too). A statement '..UptoSaid' is the law's where the arguments, and the package variables that the reading takes, are together of bulk at most 1048576: NARROWER than '..Said'. Prove '..Said' where nothing that the law and all that it calls make is longer than what came in: it says more and counts as full. Else prove '..UptoSaid'. A law counts once. -/
mutual
def uptoBulk {H : Type} : DataW H → Nat
  | .lit (.string bytes) => bytes.length + 1
  | .lit _ => 1
  | .nil => 1
  | .ptr d => uptoBulk d + 1
  | .slice elems spare => uptoBulkAll elems + uptoBulkAll spare + 1
  | .agg parts => uptoBulkAll parts + 1
  | .iface _ d => uptoBulk d + 1
  | .map entries => uptoBulkEntries entries + 1
  | .held _ => 1
def uptoBulkAll {H : Type} : List (DataW H) → Nat
  | [] => 0
  | d :: r => uptoBulk d + uptoBulkAll r
def uptoBulkEntries {H : Type} : List (Lit × DataW H) → Nat
  | [] => 0
  | x :: r => uptoBulkEntry x + uptoBulkEntries r
def uptoBulkEntry {H : Type} : Lit × DataW H → Nat
  | (.string bytes, d) => bytes.length + uptoBulk d + 1
  | (_, d) => uptoBulk d + 1
 end
def uptoSmall : (H : Type) → List (DataW H) → Bool := fun _ ds => decide (uptoBulkAll ds ≤ 1048576)
def OpenSpec.upto (s : _root_.Go.ChangeSpec) : _root_.Go.OpenSpec := { _root_.Go.OpenSpec.ofChange s with cond := some uptoSmall }

/-- 'kinkeeplaw34.PlacementChecks', WHERE WHAT IT READS IS OF BULK AT MOST 1048576: true; the input reads as it did. -/
def placementChecksUptoRow : OpenClaim := { program := "ytklfficlegfhjaagreat", sum := "38a206bb22ba70537976118a6ebc0502d3b76af84fe9e39a25317046487af25f", func := "kinkeep/kinkeeplaw34.PlacementChecks", spec := "placementChecks", unfollowed := true, recurses := true, plainKeys := false, apart := false, narrowed := true }
def PlacementChecksUptoSaid : Prop := placementChecksUptoRow.holds Tryz.pinned (OpenSpec.upto placementChecksSpec)

/-- 'kinkeeplaw34.PlacementOne', WHERE WHAT IT READS IS OF BULK AT MOST 1048576: true; the input reads as it did. -/
def placementOneUptoRow : OpenClaim := { program := "ytklfficlegfhjaagreat", sum := "38a206bb22ba70537976118a6ebc0502d3b76af84fe9e39a25317046487af25f", func := "kinkeep/kinkeeplaw34.PlacementOne", spec := "placementOne", unfollowed := true, recurses := true, plainKeys := false, apart := false, narrowed := true }
def PlacementOneUptoSaid : Prop := placementOneUptoRow.holds Tryz.pinned (OpenSpec.upto placementOneSpec)

/-- 'kinkeeplaw34.PlacementPossible', WHERE WHAT IT READS IS OF BULK AT MOST 1048576: true; the input reads as it did. -/
def placementPossibleUptoRow : OpenClaim := { program := "ytklfficlegfhjaagreat", sum := "38a206bb22ba70537976118a6ebc0502d3b76af84fe9e39a25317046487af25f", func := "kinkeep/kinkeeplaw34.PlacementPossible", spec := "placementPossible", unfollowed := true, recurses := true, plainKeys := false, apart := false, narrowed := true }
def PlacementPossibleUptoSaid : Prop := placementPossibleUptoRow.holds Tryz.pinned (OpenSpec.upto placementPossibleSpec)

/-- 'kinkeeplaw34.PlacementAssigns', WHERE WHAT IT READS IS OF BULK AT MOST 1048576: true; the input reads as it did. -/
def placementAssignsUptoRow : OpenClaim := { program := "ytklfficlegfhjaagreat", sum := "38a206bb22ba70537976118a6ebc0502d3b76af84fe9e39a25317046487af25f", func := "kinkeep/kinkeeplaw34.PlacementAssigns", spec := "placementAssigns", unfollowed := true, recurses := true, plainKeys := false, apart := false, narrowed := true }
def PlacementAssignsUptoSaid : Prop := placementAssignsUptoRow.holds Tryz.pinned (OpenSpec.upto placementAssignsSpec)

/-- 'kinkeeplaw34.PlacementRebalances', WHERE WHAT IT READS IS OF BULK AT MOST 1048576: true; the input reads as it did. -/
def placementRebalancesUptoRow : OpenClaim := { program := "ytklfficlegfhjaagreat", sum := "38a206bb22ba70537976118a6ebc0502d3b76af84fe9e39a25317046487af25f", func := "kinkeep/kinkeeplaw34.PlacementRebalances", spec := "placementRebalances", unfollowed := true, recurses := true, plainKeys := false, apart := false, narrowed := true }
def PlacementRebalancesUptoSaid : Prop := placementRebalancesUptoRow.holds Tryz.pinned (OpenSpec.upto placementRebalancesSpec)

/-- 'kinkeeplaw34.PlacementCounts', WHERE WHAT IT READS IS OF BULK AT MOST 1048576: true; the input reads as it did. -/
def placementCountsUptoRow : OpenClaim := { program := "ytklfficlegfhjaagreat", sum := "38a206bb22ba70537976118a6ebc0502d3b76af84fe9e39a25317046487af25f", func := "kinkeep/kinkeeplaw34.PlacementCounts", spec := "placementCounts", unfollowed := true, recurses := true, plainKeys := false, apart := false, narrowed := true }
def PlacementCountsUptoSaid : Prop := placementCountsUptoRow.holds Tryz.pinned (OpenSpec.upto placementCountsSpec)

end Rows
end Go.Proofs.YtklfficlegfhjaaGreat
