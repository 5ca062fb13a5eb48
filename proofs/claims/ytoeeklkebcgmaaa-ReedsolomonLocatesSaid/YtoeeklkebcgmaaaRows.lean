/-
  No cell of these rows narrows 'for every input' (looked for: loops, veiled, ifaces, maps, wideKeys, modest, calm, conditions, laid).
  DERIVED. THE GIVEN ROWS OF THIS SEAT. 7 by the template 'for every input the law returns true; each argument reads behind the call as it read before'; 0 by the template 'total and deterministic' (their statements: YtoeeklkebcgmaaaTotals.lean).
  GIVEN WITH THE SEED: the statements are not yours to turn. If you find one false, say at which input.
  Laid BY PROGRAM, IN A SANDBOX (cutbox-rows.mjs): the forced cells as the released guide's own fill.sh prints them over the translation 77f63907a6f5c0b3… (all of the seat's roots in one cut). By AI agents, Wed Nov 11 2026. No macro, syntax, notation, axiom, sorry.
-/
import Derived.Test.YtoeeklkebcgmaaaChecked
import GoSem.Claim
import GoSem.ClaimJoined
import GoSem.ClaimMapViews
import Derived.JoinedTies
import Derived.KernelRfl
namespace Go.Proofs.Ytoeeklkebcgmaaa
/- THE CELL 'sum', in the pinned program and in every row, IS THE sha256 OF THE DUMP (.gsa) THAT YtoeeklkebcgmaaaProg.lean LOADS. Nothing in Lean hashes anything: it is a label: what it is worth is what the hold of that sum in a sandbox is worth. -/
noncomputable def Try.pinned : Pinned := { name := "ytoeeklkebcgmaaa", sum := "77f63907a6f5c0b3129a2e863bca0650258bc6266123b196f3342374ffd300e8", checked := Try.checked }
namespace Rows
def none {H : Type} : Left H := { results := [], args := [] }

/-- 'kinkeeplaw08.ReedsolomonRows': WHATEVER THE INPUT: true; the input reads as it did. -/
def reedsolomonRowsSpec : ChangeSpec := { name := "reedsolomonRows", fn := fun _ => fun
  | [d1, d2, d3] => { results := [.lit (.bool true)], args := [d1, d2, d3] }
  | _ => none }
def reedsolomonRowsRow : OpenClaim := { program := "ytoeeklkebcgmaaa", sum := "77f63907a6f5c0b3129a2e863bca0650258bc6266123b196f3342374ffd300e8", func := "kinkeep/kinkeeplaw08.ReedsolomonRows", spec := "reedsolomonRows", unfollowed := true, recurses := true, apart := false }
def ReedsolomonRowsSaid : Prop := reedsolomonRowsRow.holds Try.pinned (OpenSpec.ofChange reedsolomonRowsSpec)

/-- ITS FALSE NEIGHBOUR: 'it returns false'. Refute it at one input. -/
def reedsolomonRowsWrong : ChangeSpec := { name := "reedsolomonRows", fn := fun _ => fun
  | [d1, d2, d3] => { results := [.lit (.bool false)], args := [d1, d2, d3] }
  | _ => none }
def ReedsolomonRowsWrongFalsely : Prop := reedsolomonRowsRow.holds Try.pinned (OpenSpec.ofChange reedsolomonRowsWrong)

/-- 'kinkeeplaw08.ReedsolomonEncodes': WHATEVER THE INPUT: true; the input reads as it did. -/
def reedsolomonEncodesSpec : ChangeSpec := { name := "reedsolomonEncodes", fn := fun _ => fun
  | [d1, d2, d3] => { results := [.lit (.bool true)], args := [d1, d2, d3] }
  | _ => none }
def reedsolomonEncodesRow : OpenClaim := { program := "ytoeeklkebcgmaaa", sum := "77f63907a6f5c0b3129a2e863bca0650258bc6266123b196f3342374ffd300e8", func := "kinkeep/kinkeeplaw08.ReedsolomonEncodes", spec := "reedsolomonEncodes", unfollowed := true, recurses := true, apart := false }
def ReedsolomonEncodesSaid : Prop := reedsolomonEncodesRow.holds Try.pinned (OpenSpec.ofChange reedsolomonEncodesSpec)

/-- ITS FALSE NEIGHBOUR: 'it returns false'. Refute it at one input. -/
def reedsolomonEncodesWrong : ChangeSpec := { name := "reedsolomonEncodes", fn := fun _ => fun
  | [d1, d2, d3] => { results := [.lit (.bool false)], args := [d1, d2, d3] }
  | _ => none }
def ReedsolomonEncodesWrongFalsely : Prop := reedsolomonEncodesRow.holds Try.pinned (OpenSpec.ofChange reedsolomonEncodesWrong)

/-- 'kinkeeplaw08.ReedsolomonLocates': WHATEVER THE INPUT: true; the input reads as it did. -/
def reedsolomonLocatesSpec : ChangeSpec := { name := "reedsolomonLocates", fn := fun _ => fun
  | [d1, d2, d3, d4] => { results := [.lit (.bool true)], args := [d1, d2, d3, d4] }
  | _ => none }
def reedsolomonLocatesRow : OpenClaim := { program := "ytoeeklkebcgmaaa", sum := "77f63907a6f5c0b3129a2e863bca0650258bc6266123b196f3342374ffd300e8", func := "kinkeep/kinkeeplaw08.ReedsolomonLocates", spec := "reedsolomonLocates", unfollowed := true, recurses := true, apart := false }
def ReedsolomonLocatesSaid : Prop := reedsolomonLocatesRow.holds Try.pinned (OpenSpec.ofChange reedsolomonLocatesSpec)

/-- ITS FALSE NEIGHBOUR: 'it returns false'. Refute it at one input. -/
def reedsolomonLocatesWrong : ChangeSpec := { name := "reedsolomonLocates", fn := fun _ => fun
  | [d1, d2, d3, d4] => { results := [.lit (.bool false)], args := [d1, d2, d3, d4] }
  | _ => none }
def ReedsolomonLocatesWrongFalsely : Prop := reedsolomonLocatesRow.holds Try.pinned (OpenSpec.ofChange reedsolomonLocatesWrong)

/-- 'kinkeeplaw08.ReedsolomonTotals': WHATEVER THE INPUT: true; the input reads as it did. -/
def reedsolomonTotalsSpec : ChangeSpec := { name := "reedsolomonTotals", fn := fun _ => fun
  | [d1, d2, d3, d4] => { results := [.lit (.bool true)], args := [d1, d2, d3, d4] }
  | _ => none }
def reedsolomonTotalsRow : OpenClaim := { program := "ytoeeklkebcgmaaa", sum := "77f63907a6f5c0b3129a2e863bca0650258bc6266123b196f3342374ffd300e8", func := "kinkeep/kinkeeplaw08.ReedsolomonTotals", spec := "reedsolomonTotals", unfollowed := true, recurses := true, apart := false }
def ReedsolomonTotalsSaid : Prop := reedsolomonTotalsRow.holds Try.pinned (OpenSpec.ofChange reedsolomonTotalsSpec)

/-- ITS FALSE NEIGHBOUR: 'it returns false'. Refute it at one input. -/
def reedsolomonTotalsWrong : ChangeSpec := { name := "reedsolomonTotals", fn := fun _ => fun
  | [d1, d2, d3, d4] => { results := [.lit (.bool false)], args := [d1, d2, d3, d4] }
  | _ => none }
def ReedsolomonTotalsWrongFalsely : Prop := reedsolomonTotalsRow.holds Try.pinned (OpenSpec.ofChange reedsolomonTotalsWrong)

/-- 'kinkeeplaw08.ReedsolomonReconstructs': WHATEVER THE INPUT: true; the input reads as it did. -/
def reedsolomonReconstructsSpec : ChangeSpec := { name := "reedsolomonReconstructs", fn := fun _ => fun
  | [d1, d2, d3, d4] => { results := [.lit (.bool true)], args := [d1, d2, d3, d4] }
  | _ => none }
def reedsolomonReconstructsRow : OpenClaim := { program := "ytoeeklkebcgmaaa", sum := "77f63907a6f5c0b3129a2e863bca0650258bc6266123b196f3342374ffd300e8", func := "kinkeep/kinkeeplaw08.ReedsolomonReconstructs", spec := "reedsolomonReconstructs", unfollowed := true, recurses := true, apart := false }
def ReedsolomonReconstructsSaid : Prop := reedsolomonReconstructsRow.holds Try.pinned (OpenSpec.ofChange reedsolomonReconstructsSpec)

/-- ITS FALSE NEIGHBOUR: 'it returns false'. Refute it at one input. -/
def reedsolomonReconstructsWrong : ChangeSpec := { name := "reedsolomonReconstructs", fn := fun _ => fun
  | [d1, d2, d3, d4] => { results := [.lit (.bool false)], args := [d1, d2, d3, d4] }
  | _ => none }
def ReedsolomonReconstructsWrongFalsely : Prop := reedsolomonReconstructsRow.holds Try.pinned (OpenSpec.ofChange reedsolomonReconstructsWrong)

/-- 'kinkeeplaw08.ReedsolomonChecks': WHATEVER THE INPUT: true; the input reads as it did. -/
def reedsolomonChecksSpec : ChangeSpec := { name := "reedsolomonChecks", fn := fun _ => fun
  | [d1, d2, d3, d4] => { results := [.lit (.bool true)], args := [d1, d2, d3, d4] }
  | _ => none }
def reedsolomonChecksRow : OpenClaim := { program := "ytoeeklkebcgmaaa", sum := "77f63907a6f5c0b3129a2e863bca0650258bc6266123b196f3342374ffd300e8", func := "kinkeep/kinkeeplaw08.ReedsolomonChecks", spec := "reedsolomonChecks", unfollowed := true, recurses := true, apart := false }
def ReedsolomonChecksSaid : Prop := reedsolomonChecksRow.holds Try.pinned (OpenSpec.ofChange reedsolomonChecksSpec)

/-- ITS FALSE NEIGHBOUR: 'it returns false'. Refute it at one input. -/
def reedsolomonChecksWrong : ChangeSpec := { name := "reedsolomonChecks", fn := fun _ => fun
  | [d1, d2, d3, d4] => { results := [.lit (.bool false)], args := [d1, d2, d3, d4] }
  | _ => none }
def ReedsolomonChecksWrongFalsely : Prop := reedsolomonChecksRow.holds Try.pinned (OpenSpec.ofChange reedsolomonChecksWrong)

/-- 'kinkeeplaw08.ReedsolomonRepairs': WHATEVER THE INPUT: true; the input reads as it did. -/
def reedsolomonRepairsSpec : ChangeSpec := { name := "reedsolomonRepairs", fn := fun _ => fun
  | [d1, d2, d3, d4, d5] => { results := [.lit (.bool true)], args := [d1, d2, d3, d4, d5] }
  | _ => none }
def reedsolomonRepairsRow : OpenClaim := { program := "ytoeeklkebcgmaaa", sum := "77f63907a6f5c0b3129a2e863bca0650258bc6266123b196f3342374ffd300e8", func := "kinkeep/kinkeeplaw08.ReedsolomonRepairs", spec := "reedsolomonRepairs", unfollowed := true, recurses := true, apart := false }
def ReedsolomonRepairsSaid : Prop := reedsolomonRepairsRow.holds Try.pinned (OpenSpec.ofChange reedsolomonRepairsSpec)

/-- ITS FALSE NEIGHBOUR: 'it returns false'. Refute it at one input. -/
def reedsolomonRepairsWrong : ChangeSpec := { name := "reedsolomonRepairs", fn := fun _ => fun
  | [d1, d2, d3, d4, d5] => { results := [.lit (.bool false)], args := [d1, d2, d3, d4, d5] }
  | _ => none }
def ReedsolomonRepairsWrongFalsely : Prop := reedsolomonRepairsRow.holds Try.pinned (OpenSpec.ofChange reedsolomonRepairsWrong)

/- THE SECOND FORM. 'bulk': how many values and letters a reading holds, each counted each time it is reached (what is shared counts as often as it is met; a slice's spare places count too). A statement '..UptoSaid' is the law's where the arguments, and the package variables that the reading takes, are together of bulk at most 1048576: NARROWER than '..Said'. Prove '..Said' where nothing that the law and all that it calls make is longer than what came in: it says more and counts as full. Else prove '..UptoSaid'. A law counts once. -/
mutual
def uptoBulk {H : Type} : DataW H → Nat
  | .lit (.string bytes) => bytes.length + 1
  | .lit _ => 1
  | .nil => 1
  | .ptr d => uptoBulk d + 1
  | .slice elems spare => uptoBulkAll elems + uptoBulkAll spare + 1
  | .agg parts => uptoBulkAll parts + 1
  | .iface _ d => uptoBulk d + 1
  | .map entries => uptoBulkEntries entries + 1
  | .held _ => 1
def uptoBulkAll {H : Type} : List (DataW H) → Nat
  | [] => 0
  | d :: r => uptoBulk d + uptoBulkAll r
def uptoBulkEntries {H : Type} : List (Lit × DataW H) → Nat
  | [] => 0
  | x :: r => uptoBulkEntry x + uptoBulkEntries r
def uptoBulkEntry {H : Type} : Lit × DataW H → Nat
  | (.string bytes, d) => bytes.length + uptoBulk d + 1
  | (_, d) => uptoBulk d + 1
 end
def uptoSmall : (H : Type) → List (DataW H) → Bool := fun _ ds => decide (uptoBulkAll ds ≤ 1048576)
def OpenSpec.upto (s : _root_.Go.ChangeSpec) : _root_.Go.OpenSpec := { _root_.Go.OpenSpec.ofChange s with cond := some uptoSmall }

/-- 'kinkeeplaw08.ReedsolomonRows', WHERE WHAT IT READS IS OF BULK AT MOST 1048576: true; the input reads as it did. -/
def reedsolomonRowsUptoRow : OpenClaim := { program := "ytoeeklkebcgmaaa", sum := "77f63907a6f5c0b3129a2e863bca0650258bc6266123b196f3342374ffd300e8", func := "kinkeep/kinkeeplaw08.ReedsolomonRows", spec := "reedsolomonRows", unfollowed := true, recurses := true, apart := false, narrowed := true }
def ReedsolomonRowsUptoSaid : Prop := reedsolomonRowsUptoRow.holds Try.pinned (OpenSpec.upto reedsolomonRowsSpec)

/-- 'kinkeeplaw08.ReedsolomonEncodes', WHERE WHAT IT READS IS OF BULK AT MOST 1048576: true; the input reads as it did. -/
def reedsolomonEncodesUptoRow : OpenClaim := { program := "ytoeeklkebcgmaaa", sum := "77f63907a6f5c0b3129a2e863bca0650258bc6266123b196f3342374ffd300e8", func := "kinkeep/kinkeeplaw08.ReedsolomonEncodes", spec := "reedsolomonEncodes", unfollowed := true, recurses := true, apart := false, narrowed := true }
def ReedsolomonEncodesUptoSaid : Prop := reedsolomonEncodesUptoRow.holds Try.pinned (OpenSpec.upto reedsolomonEncodesSpec)

/-- 'kinkeeplaw08.ReedsolomonLocates', WHERE WHAT IT READS IS OF BULK AT MOST 1048576: true; the input reads as it did. -/
def reedsolomonLocatesUptoRow : OpenClaim := { program := "ytoeeklkebcgmaaa", sum := "77f63907a6f5c0b3129a2e863bca0650258bc6266123b196f3342374ffd300e8", func := "kinkeep/kinkeeplaw08.ReedsolomonLocates", spec := "reedsolomonLocates", unfollowed := true, recurses := true, apart := false, narrowed := true }
def ReedsolomonLocatesUptoSaid : Prop := reedsolomonLocatesUptoRow.holds Try.pinned (OpenSpec.upto reedsolomonLocatesSpec)

/-- 'kinkeeplaw08.ReedsolomonTotals', WHERE WHAT IT READS IS OF BULK AT MOST 1048576: true; the input reads as it did. -/
def reedsolomonTotalsUptoRow : OpenClaim := { program := "ytoeeklkebcgmaaa", sum := "77f63907a6f5c0b3129a2e863bca0650258bc6266123b196f3342374ffd300e8", func := "kinkeep/kinkeeplaw08.ReedsolomonTotals", spec := "reedsolomonTotals", unfollowed := true, recurses := true, apart := false, narrowed := true }
def ReedsolomonTotalsUptoSaid : Prop := reedsolomonTotalsUptoRow.holds Try.pinned (OpenSpec.upto reedsolomonTotalsSpec)

/-- 'kinkeeplaw08.ReedsolomonReconstructs', WHERE WHAT IT READS IS OF BULK AT MOST 1048576: true; the input reads as it did. -/
def reedsolomonReconstructsUptoRow : OpenClaim := { program := "ytoeeklkebcgmaaa", sum := "77f63907a6f5c0b3129a2e863bca0650258bc6266123b196f3342374ffd300e8", func := "kinkeep/kinkeeplaw08.ReedsolomonReconstructs", spec := "reedsolomonReconstructs", unfollowed := true, recurses := true, apart := false, narrowed := true }
def ReedsolomonReconstructsUptoSaid : Prop := reedsolomonReconstructsUptoRow.holds Try.pinned (OpenSpec.upto reedsolomonReconstructsSpec)

/-- 'kinkeeplaw08.ReedsolomonChecks', WHERE WHAT IT READS IS OF BULK AT MOST 1048576: true; the input reads as it did. -/
def reedsolomonChecksUptoRow : OpenClaim := { program := "ytoeeklkebcgmaaa", sum := "77f63907a6f5c0b3129a2e863bca0650258bc6266123b196f3342374ffd300e8", func := "kinkeep/kinkeeplaw08.ReedsolomonChecks", spec := "reedsolomonChecks", unfollowed := true, recurses := true, apart := false, narrowed := true }
def ReedsolomonChecksUptoSaid : Prop := reedsolomonChecksUptoRow.holds Try.pinned (OpenSpec.upto reedsolomonChecksSpec)

/-- 'kinkeeplaw08.ReedsolomonRepairs', WHERE WHAT IT READS IS OF BULK AT MOST 1048576: true; the input reads as it did. -/
def reedsolomonRepairsUptoRow : OpenClaim := { program := "ytoeeklkebcgmaaa", sum := "77f63907a6f5c0b3129a2e863bca0650258bc6266123b196f3342374ffd300e8", func := "kinkeep/kinkeeplaw08.ReedsolomonRepairs", spec := "reedsolomonRepairs", unfollowed := true, recurses := true, apart := false, narrowed := true }
def ReedsolomonRepairsUptoSaid : Prop := reedsolomonRepairsUptoRow.holds Try.pinned (OpenSpec.upto reedsolomonRepairsSpec)

end Rows
end Go.Proofs.Ytoeeklkebcgmaaa
