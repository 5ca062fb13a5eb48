/-
  No cell of these rows narrows 'for every input' (looked for: loops, veiled, ifaces, maps, wideKeys, modest, calm, conditions, laid).
  DERIVED. THE GIVEN ROWS OF THIS SEAT. 3 by the template 'for every input the law returns true; each argument reads behind the call as it read before'; 0 by the template 'total and deterministic' (their statements: YtklfficlegfhjaaTotals.lean).
  GIVEN WITH THE SEED: the statements are not yours to turn. If you find one false, say at which input.
  Laid BY PROGRAM, IN A SANDBOX (cutbox-rows.mjs): the forced cells as the released guide's own fill.sh prints them over the translation b0e984e038c9ef99… (all of the seat's roots in one cut). By AI agents, Wed Nov 11 2026. No macro, syntax, notation, axiom, sorry.
-/
import Derived.Test.YtklfficlegfhjaaChecked
import GoSem.Claim
import GoSem.ClaimJoined
import GoSem.ClaimMapViews
import Derived.JoinedTies
import Derived.KernelRfl
namespace Go.Proofs.Ytklfficlegfhjaa
/- THE CELL 'sum', in the pinned program and in every row, IS THE sha256 OF THE DUMP (.gsa) THAT YtklfficlegfhjaaProg.lean LOADS. Nothing in Lean hashes anything: it is a label: what it is worth is what the hold of that sum in a sandbox is worth. -/
noncomputable def Try.pinned : Pinned := { name := "ytklfficlegfhjaa", sum := "b0e984e038c9ef994865552ebf00e030249d37d85325864babda81e45407a9a3", checked := Try.checked }
namespace Rows
def none {H : Type} : Left H := { results := [], args := [] }

/-- 'kinkeeplaw34.PlacementKeeps': WHATEVER THE INPUT: true; the input reads as it did. -/
def placementKeepsSpec : ChangeSpec := { name := "placementKeeps", fn := fun _ => fun
  | [d1, d2, d3, d4, d5] => { results := [.lit (.bool true)], args := [d1, d2, d3, d4, d5] }
  | _ => none }
def placementKeepsRow : OpenClaim := { program := "ytklfficlegfhjaa", sum := "b0e984e038c9ef994865552ebf00e030249d37d85325864babda81e45407a9a3", func := "kinkeep/kinkeeplaw34.PlacementKeeps", spec := "placementKeeps", unfollowed := true, recurses := true, plainKeys := false, apart := false }
def PlacementKeepsSaid : Prop := placementKeepsRow.holds Try.pinned (OpenSpec.ofChange placementKeepsSpec)

/-- ITS FALSE NEIGHBOUR: 'it returns false'. Refute it at one input. -/
def placementKeepsWrong : ChangeSpec := { name := "placementKeeps", fn := fun _ => fun
  | [d1, d2, d3, d4, d5] => { results := [.lit (.bool false)], args := [d1, d2, d3, d4, d5] }
  | _ => none }
def PlacementKeepsWrongFalsely : Prop := placementKeepsRow.holds Try.pinned (OpenSpec.ofChange placementKeepsWrong)

/-- 'kinkeeplaw34.PlacementBest': WHATEVER THE INPUT: true; the input reads as it did. -/
def placementBestSpec : ChangeSpec := { name := "placementBest", fn := fun _ => fun
  | [d1, d2, d3, d4] => { results := [.lit (.bool true)], args := [d1, d2, d3, d4] }
  | _ => none }
def placementBestRow : OpenClaim := { program := "ytklfficlegfhjaa", sum := "b0e984e038c9ef994865552ebf00e030249d37d85325864babda81e45407a9a3", func := "kinkeep/kinkeeplaw34.PlacementBest", spec := "placementBest", unfollowed := true, recurses := true, plainKeys := false, apart := false }
def PlacementBestSaid : Prop := placementBestRow.holds Try.pinned (OpenSpec.ofChange placementBestSpec)

/-- ITS FALSE NEIGHBOUR: 'it returns false'. Refute it at one input. -/
def placementBestWrong : ChangeSpec := { name := "placementBest", fn := fun _ => fun
  | [d1, d2, d3, d4] => { results := [.lit (.bool false)], args := [d1, d2, d3, d4] }
  | _ => none }
def PlacementBestWrongFalsely : Prop := placementBestRow.holds Try.pinned (OpenSpec.ofChange placementBestWrong)

/-- 'kinkeeplaw34.PlacementAgrees': WHATEVER THE INPUT: true; the input reads as it did. -/
def placementAgreesSpec : ChangeSpec := { name := "placementAgrees", fn := fun _ => fun
  | [d1, d2, d3] => { results := [.lit (.bool true)], args := [d1, d2, d3] }
  | _ => none }
def placementAgreesRow : OpenClaim := { program := "ytklfficlegfhjaa", sum := "b0e984e038c9ef994865552ebf00e030249d37d85325864babda81e45407a9a3", func := "kinkeep/kinkeeplaw34.PlacementAgrees", spec := "placementAgrees", unfollowed := true, recurses := true, plainKeys := false, apart := false }
def PlacementAgreesSaid : Prop := placementAgreesRow.holds Try.pinned (OpenSpec.ofChange placementAgreesSpec)

/-- ITS FALSE NEIGHBOUR: 'it returns false'. Refute it at one input. -/
def placementAgreesWrong : ChangeSpec := { name := "placementAgrees", fn := fun _ => fun
  | [d1, d2, d3] => { results := [.lit (.bool false)], args := [d1, d2, d3] }
  | _ => none }
def PlacementAgreesWrongFalsely : Prop := placementAgreesRow.holds Try.pinned (OpenSpec.ofChange placementAgreesWrong)

/- THE SECOND FORM. 'bulk': how many values and letters a reading holds, each counted each time it is reached (what is shared counts as often as it is met; a slice's spare places count too). A statement '..UptoSaid' is the law's where the arguments, and the package variables that the reading takes, are together of bulk at most 1048576: NARROWER than '..Said'. Prove '..Said' where nothing that the law and all that it calls make is longer than what came in: it says more and counts as full. Else prove '..UptoSaid'. A law counts once. -/
mutual
def uptoBulk {H : Type} : DataW H → Nat
  | .lit (.string bytes) => bytes.length + 1
  | .lit _ => 1
  | .nil => 1
  | .ptr d => uptoBulk d + 1
  | .slice elems spare => uptoBulkAll elems + uptoBulkAll spare + 1
  | .agg parts => uptoBulkAll parts + 1
  | .iface _ d => uptoBulk d + 1
  | .map entries => uptoBulkEntries entries + 1
  | .held _ => 1
def uptoBulkAll {H : Type} : List (DataW H) → Nat
  | [] => 0
  | d :: r => uptoBulk d + uptoBulkAll r
def uptoBulkEntries {H : Type} : List (Lit × DataW H) → Nat
  | [] => 0
  | x :: r => uptoBulkEntry x + uptoBulkEntries r
def uptoBulkEntry {H : Type} : Lit × DataW H → Nat
  | (.string bytes, d) => bytes.length + uptoBulk d + 1
  | (_, d) => uptoBulk d + 1
 end
def uptoSmall : (H : Type) → List (DataW H) → Bool := fun _ ds => decide (uptoBulkAll ds ≤ 1048576)
def OpenSpec.upto (s : _root_.Go.ChangeSpec) : _root_.Go.OpenSpec := { _root_.Go.OpenSpec.ofChange s with cond := some uptoSmall }

/-- 'kinkeeplaw34.PlacementKeeps', WHERE WHAT IT READS IS OF BULK AT MOST 1048576: true; the input reads as it did. -/
def placementKeepsUptoRow : OpenClaim := { program := "ytklfficlegfhjaa", sum := "b0e984e038c9ef994865552ebf00e030249d37d85325864babda81e45407a9a3", func := "kinkeep/kinkeeplaw34.PlacementKeeps", spec := "placementKeeps", unfollowed := true, recurses := true, plainKeys := false, apart := false, narrowed := true }
def PlacementKeepsUptoSaid : Prop := placementKeepsUptoRow.holds Try.pinned (OpenSpec.upto placementKeepsSpec)

/-- 'kinkeeplaw34.PlacementBest', WHERE WHAT IT READS IS OF BULK AT MOST 1048576: true; the input reads as it did. -/
def placementBestUptoRow : OpenClaim := { program := "ytklfficlegfhjaa", sum := "b0e984e038c9ef994865552ebf00e030249d37d85325864babda81e45407a9a3", func := "kinkeep/kinkeeplaw34.PlacementBest", spec := "placementBest", unfollowed := true, recurses := true, plainKeys := false, apart := false, narrowed := true }
def PlacementBestUptoSaid : Prop := placementBestUptoRow.holds Try.pinned (OpenSpec.upto placementBestSpec)

/-- 'kinkeeplaw34.PlacementAgrees', WHERE WHAT IT READS IS OF BULK AT MOST 1048576: true; the input reads as it did. -/
def placementAgreesUptoRow : OpenClaim := { program := "ytklfficlegfhjaa", sum := "b0e984e038c9ef994865552ebf00e030249d37d85325864babda81e45407a9a3", func := "kinkeep/kinkeeplaw34.PlacementAgrees", spec := "placementAgrees", unfollowed := true, recurses := true, plainKeys := false, apart := false, narrowed := true }
def PlacementAgreesUptoSaid : Prop := placementAgreesUptoRow.holds Try.pinned (OpenSpec.upto placementAgreesSpec)

end Rows
end Go.Proofs.Ytklfficlegfhjaa
