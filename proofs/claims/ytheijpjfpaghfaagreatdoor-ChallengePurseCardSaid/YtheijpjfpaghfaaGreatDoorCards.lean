/-
  DERIVED. GIVEN WITH THE SEED: THE CARDS: each row of YtheijpjfpaghfaaGreatDoorRows.lean that lists a variable, with what it lists TIED to the program's text (the seventh form; the later family's looks); each row that meets fmt, with fmt's text TOLD by the authors' own Lean function (tested against real Go, not proved from fmt's source: count such statements apart). THE CARD IS WHAT COUNTS. Prove the row's statement (the work); the ties are given (YtheijpjfpaghfaaGreatDoorTie.lean); close each card by the builder's one call (the guide's Derived/Test/ToyasCard.lean, 'card_holds'). Laid BY PROGRAM, IN A SANDBOX (cutbox-door.mjs). By AI agents, Wed Nov 11 2026. No macro, syntax, notation, axiom, sorry.
-/
import Derived.Test.YtheijpjfpaghfaaGreatDoorRows
import GoSem.ClaimSeven
namespace Go.Proofs.YtheijpjfpaghfaaGreatDoor
namespace Rows

/-- THE TIED CARD OF 'kinkeeplaw44.ChallengeDecode'. -/
def challengeDecodeCard : Claim7 := { stood := { row := challengeDecodeRow, standIns := [], harness := (true, "3ea6971abc9f056067bfc9c3b9a34c4159964a254ce83e744542fd6f9f7306f3"), looks := false }, kinds := [], alts := [], laidByText := true, laidKinds := [.data, .data, .data], laidTests := true, laidLooks := .later }
def ChallengeDecodeCardSaid : Prop := Claim7.holds Tryz.pinned (.plain (OpenSpec.ofChange challengeDecodeSpec)) challengeDecodeCard

/-- THE TIED CARD OF 'kinkeeplaw44.ChallengePurse'. -/
def challengePurseCard : Claim7 := { stood := { row := challengePurseRow, standIns := [], harness := (true, "3ea6971abc9f056067bfc9c3b9a34c4159964a254ce83e744542fd6f9f7306f3"), looks := false }, kinds := [], alts := [], laidByText := true, laidKinds := [.data, .data, .data], laidTests := true, laidLooks := .later }
def ChallengePurseCardSaid : Prop := Claim7.holds Tryz.pinned (.plain (OpenSpec.ofChange challengePurseSpec)) challengePurseCard

/-- THE SECOND FORM's CARD OF 'kinkeeplaw44.ChallengeDecode'. -/
def challengeDecodeUptoCard : Claim7 := { stood := { row := challengeDecodeUptoRow, standIns := [], harness := (true, "3ea6971abc9f056067bfc9c3b9a34c4159964a254ce83e744542fd6f9f7306f3"), looks := false }, kinds := [], alts := [], laidByText := true, laidKinds := [.data, .data, .data], laidTests := true, laidLooks := .later }
def ChallengeDecodeUptoCardSaid : Prop := Claim7.holds Tryz.pinned (.plain (OpenSpec.upto challengeDecodeSpec)) challengeDecodeUptoCard

/-- THE SECOND FORM's CARD OF 'kinkeeplaw44.ChallengePurse'. -/
def challengePurseUptoCard : Claim7 := { stood := { row := challengePurseUptoRow, standIns := [], harness := (true, "3ea6971abc9f056067bfc9c3b9a34c4159964a254ce83e744542fd6f9f7306f3"), looks := false }, kinds := [], alts := [], laidByText := true, laidKinds := [.data, .data, .data], laidTests := true, laidLooks := .later }
def ChallengePurseUptoCardSaid : Prop := Claim7.holds Tryz.pinned (.plain (OpenSpec.upto challengePurseSpec)) challengePurseUptoCard
end Rows
end Go.Proofs.YtheijpjfpaghfaaGreatDoor
