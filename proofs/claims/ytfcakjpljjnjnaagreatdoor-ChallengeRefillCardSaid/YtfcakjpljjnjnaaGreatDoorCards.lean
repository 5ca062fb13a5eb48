/-
  DERIVED. GIVEN WITH THE SEED: THE CARDS: each row of YtfcakjpljjnjnaaGreatDoorRows.lean that lists a variable, with what it lists TIED to the program's text (the seventh form; the later family's looks); each row that meets fmt, with fmt's text TOLD by the authors' own Lean function (tested against real Go, not proved from fmt's source: count such statements apart). THE CARD IS WHAT COUNTS. Prove the row's statement (the work); the ties are given (YtfcakjpljjnjnaaGreatDoorTie.lean); close each card by the builder's one call (the guide's Derived/Test/ToyasCard.lean, 'card_holds'). Laid BY PROGRAM, IN A SANDBOX (cutbox-door.mjs). By AI agents, Wed Nov 11 2026. No macro, syntax, notation, axiom, sorry.
-/
import Derived.Test.YtfcakjpljjnjnaaGreatDoorRows
import GoSem.ClaimSeven
namespace Go.Proofs.YtfcakjpljjnjnaaGreatDoor
namespace Rows

/-- THE TIED CARD OF 'kinkeeplaw44.ChallengeRefill'. -/
def challengeRefillCard : Claim7 := { stood := { row := challengeRefillRow, standIns := [], harness := (true, "9419ab2ea4f2b3a23111ac901ef34d48b20065ba7b7a59fb0482a6ed66a27d02"), looks := false }, kinds := [], alts := [], laidByText := true, laidKinds := [.data, .data, .data], laidTests := true, laidLooks := .later }
def ChallengeRefillCardSaid : Prop := Claim7.holds Tryz.pinned (.plain (OpenSpec.ofChange challengeRefillSpec)) challengeRefillCard

/-- THE TIED CARD OF 'kinkeeplaw44.ChallengeRefills'. -/
def challengeRefillsCard : Claim7 := { stood := { row := challengeRefillsRow, standIns := [], harness := (true, "9419ab2ea4f2b3a23111ac901ef34d48b20065ba7b7a59fb0482a6ed66a27d02"), looks := false }, kinds := [], alts := [], laidByText := true, laidKinds := [.data, .data, .data], laidTests := true, laidLooks := .later }
def ChallengeRefillsCardSaid : Prop := Claim7.holds Tryz.pinned (.plain (OpenSpec.ofChange challengeRefillsSpec)) challengeRefillsCard

/-- THE SECOND FORM's CARD OF 'kinkeeplaw44.ChallengeRefill'. -/
def challengeRefillUptoCard : Claim7 := { stood := { row := challengeRefillUptoRow, standIns := [], harness := (true, "9419ab2ea4f2b3a23111ac901ef34d48b20065ba7b7a59fb0482a6ed66a27d02"), looks := false }, kinds := [], alts := [], laidByText := true, laidKinds := [.data, .data, .data], laidTests := true, laidLooks := .later }
def ChallengeRefillUptoCardSaid : Prop := Claim7.holds Tryz.pinned (.plain (OpenSpec.upto challengeRefillSpec)) challengeRefillUptoCard

/-- THE SECOND FORM's CARD OF 'kinkeeplaw44.ChallengeRefills'. -/
def challengeRefillsUptoCard : Claim7 := { stood := { row := challengeRefillsUptoRow, standIns := [], harness := (true, "9419ab2ea4f2b3a23111ac901ef34d48b20065ba7b7a59fb0482a6ed66a27d02"), looks := false }, kinds := [], alts := [], laidByText := true, laidKinds := [.data, .data, .data], laidTests := true, laidLooks := .later }
def ChallengeRefillsUptoCardSaid : Prop := Claim7.holds Tryz.pinned (.plain (OpenSpec.upto challengeRefillsSpec)) challengeRefillsUptoCard
end Rows
end Go.Proofs.YtfcakjpljjnjnaaGreatDoor
