/-
  DERIVED. GIVEN WITH THE SEED: THE CARDS: each row of YtgoefpbicohkfaaGreatDoorRows.lean that lists a variable, with what it lists TIED to the program's text (the seventh form; the later family's looks); each row that meets fmt, with fmt's text TOLD by the authors' own Lean function (tested against real Go, not proved from fmt's source: count such statements apart). THE CARD IS WHAT COUNTS. Prove the row's statement (the work); the ties are given (YtgoefpbicohkfaaGreatDoorTie.lean); close each card by the builder's one call (the guide's Derived/Test/ToyasCard.lean, 'card_holds'). Laid BY PROGRAM, IN A SANDBOX (cutbox-door.mjs). By AI agents, Wed Nov 11 2026. No macro, syntax, notation, axiom, sorry.
-/
import Derived.Test.YtgoefpbicohkfaaGreatDoorRows
import GoSem.ClaimSeven
namespace Go.Proofs.YtgoefpbicohkfaaGreatDoor
namespace Rows

/-- THE TIED CARD OF 'kinkeeplaw47.EpochGenerations'. -/
def epochGenerationsCard : Claim7 := { stood := { row := epochGenerationsRow, standIns := [], harness := (true, "09b811c2e3cdf68ce3fb1007213ceaa3eb8b5491309709fd3b51d3234b8e7215"), looks := false }, kinds := [], alts := [], laidByText := true, laidKinds := [.data, .data, .data], laidTests := true, laidLooks := .later }
def EpochGenerationsCardSaid : Prop := Claim7.holds Tryz.pinned (.plain (OpenSpec.ofChange epochGenerationsSpec)) epochGenerationsCard

/-- THE SECOND FORM's CARD OF 'kinkeeplaw47.EpochGenerations'. -/
def epochGenerationsUptoCard : Claim7 := { stood := { row := epochGenerationsUptoRow, standIns := [], harness := (true, "09b811c2e3cdf68ce3fb1007213ceaa3eb8b5491309709fd3b51d3234b8e7215"), looks := false }, kinds := [], alts := [], laidByText := true, laidKinds := [.data, .data, .data], laidTests := true, laidLooks := .later }
def EpochGenerationsUptoCardSaid : Prop := Claim7.holds Tryz.pinned (.plain (OpenSpec.upto epochGenerationsSpec)) epochGenerationsUptoCard
end Rows
end Go.Proofs.YtgoefpbicohkfaaGreatDoor
