/-
  DERIVED. GIVEN WITH THE SEED: THE CARDS: each row of YtgjgofjabdjclaaDoorRows.lean that lists a variable, with what it lists TIED to the program's text (the seventh form; the later family's looks); each row that meets fmt, with fmt's text TOLD by the authors' own Lean function (tested against real Go, not proved from fmt's source: count such statements apart). THE CARD IS WHAT COUNTS. Prove the row's statement (the work); the ties are given (YtgjgofjabdjclaaDoorTie.lean); close each card by the builder's one call (the guide's Derived/Test/ToyasCard.lean, 'card_holds'). Laid BY PROGRAM, IN A SANDBOX (cutbox-door.mjs). By AI agents, Wed Nov 11 2026. No macro, syntax, notation, axiom, sorry.
-/
import Derived.Test.YtgjgofjabdjclaaDoorRows
import GoSem.ClaimSeven
namespace Go.Proofs.YtgjgofjabdjclaaDoor
namespace Rows

/-- THE TIED CARD OF 'kinkeeplaw44.ChallengeForgets'. -/
def challengeForgetsCard : Claim7 := { stood := { row := challengeForgetsRow, standIns := [], harness := (true, "6a3873686f8541a6f2a895f7c3534b7ba342da005ba628a55cafbda3ae9b0fa1"), looks := false }, kinds := [], alts := [], laidByText := true, laidKinds := [.data, .data, .data], laidTests := true, laidLooks := .later }
def ChallengeForgetsCardSaid : Prop := Claim7.holds Tryd.pinned (.plain (OpenSpec.ofChange challengeForgetsSpec)) challengeForgetsCard

/-- THE TIED CARD OF 'kinkeeplaw44.ChallengeSpots'. -/
def challengeSpotsCard : Claim7 := { stood := { row := challengeSpotsRow, standIns := [], harness := (true, "6a3873686f8541a6f2a895f7c3534b7ba342da005ba628a55cafbda3ae9b0fa1"), looks := false }, kinds := [], alts := [], laidByText := true, laidKinds := [.data, .data, .data], laidTests := true, laidLooks := .later }
def ChallengeSpotsCardSaid : Prop := Claim7.holds Tryd.pinned (.plain (OpenSpec.ofChange challengeSpotsSpec)) challengeSpotsCard

/-- THE TIED CARD OF 'kinkeeplaw44.ChallengeDifferent'. -/
def challengeDifferentCard : Claim7 := { stood := { row := challengeDifferentRow, standIns := [], harness := (true, "6a3873686f8541a6f2a895f7c3534b7ba342da005ba628a55cafbda3ae9b0fa1"), looks := false }, kinds := [], alts := [], laidByText := true, laidKinds := [.data, .data, .data], laidTests := true, laidLooks := .later }
def ChallengeDifferentCardSaid : Prop := Claim7.holds Tryd.pinned (.plain (OpenSpec.ofChange challengeDifferentSpec)) challengeDifferentCard

/-- THE TIED CARD OF 'kinkeeplaw44.ChallengeOnce'. -/
def challengeOnceCard : Claim7 := { stood := { row := challengeOnceRow, standIns := [], harness := (true, "6a3873686f8541a6f2a895f7c3534b7ba342da005ba628a55cafbda3ae9b0fa1"), looks := false }, kinds := [], alts := [], laidByText := true, laidKinds := [.data, .data, .data], laidTests := true, laidLooks := .later }
def ChallengeOnceCardSaid : Prop := Claim7.holds Tryd.pinned (.plain (OpenSpec.ofChange challengeOnceSpec)) challengeOnceCard

/-- THE TIED CARD OF 'kinkeeplaw44.ChallengeTokens'. -/
def challengeTokensCard : Claim7 := { stood := { row := challengeTokensRow, standIns := [], harness := (true, "6a3873686f8541a6f2a895f7c3534b7ba342da005ba628a55cafbda3ae9b0fa1"), looks := false }, kinds := [], alts := [], laidByText := true, laidKinds := [.data, .data, .data], laidTests := true, laidLooks := .later }
def ChallengeTokensCardSaid : Prop := Claim7.holds Tryd.pinned (.plain (OpenSpec.ofChange challengeTokensSpec)) challengeTokensCard

/-- THE TIED CARD OF 'kinkeeplaw44.ChallengeHonest'. -/
def challengeHonestCard : Claim7 := { stood := { row := challengeHonestRow, standIns := [], harness := (true, "6a3873686f8541a6f2a895f7c3534b7ba342da005ba628a55cafbda3ae9b0fa1"), looks := false }, kinds := [], alts := [], laidByText := true, laidKinds := [.data, .data, .data], laidTests := true, laidLooks := .later }
def ChallengeHonestCardSaid : Prop := Claim7.holds Tryd.pinned (.plain (OpenSpec.ofChange challengeHonestSpec)) challengeHonestCard

/-- THE TIED CARD OF 'kinkeeplaw44.ChallengeProven'. -/
def challengeProvenCard : Claim7 := { stood := { row := challengeProvenRow, standIns := [], harness := (true, "6a3873686f8541a6f2a895f7c3534b7ba342da005ba628a55cafbda3ae9b0fa1"), looks := false }, kinds := [], alts := [], laidByText := true, laidKinds := [.data, .data, .data], laidTests := true, laidLooks := .later }
def ChallengeProvenCardSaid : Prop := Claim7.holds Tryd.pinned (.plain (OpenSpec.ofChange challengeProvenSpec)) challengeProvenCard

/-- THE TIED CARD OF 'kinkeeplaw44.ChallengeProves'. -/
def challengeProvesCard : Claim7 := { stood := { row := challengeProvesRow, standIns := [], harness := (true, "6a3873686f8541a6f2a895f7c3534b7ba342da005ba628a55cafbda3ae9b0fa1"), looks := false }, kinds := [], alts := [], laidByText := true, laidKinds := [.data, .data, .data], laidTests := true, laidLooks := .later }
def ChallengeProvesCardSaid : Prop := Claim7.holds Tryd.pinned (.plain (OpenSpec.ofChange challengeProvesSpec)) challengeProvesCard

/-- THE TIED CARD OF 'kinkeeplaw44.ChallengeComplete'. -/
def challengeCompleteCard : Claim7 := { stood := { row := challengeCompleteRow, standIns := [], harness := (true, "6a3873686f8541a6f2a895f7c3534b7ba342da005ba628a55cafbda3ae9b0fa1"), looks := false }, kinds := [], alts := [], laidByText := true, laidKinds := [.data, .data, .data], laidTests := true, laidLooks := .later }
def ChallengeCompleteCardSaid : Prop := Claim7.holds Tryd.pinned (.plain (OpenSpec.ofChange challengeCompleteSpec)) challengeCompleteCard

/-- THE SECOND FORM's CARD OF 'kinkeeplaw44.ChallengeForgets'. -/
def challengeForgetsUptoCard : Claim7 := { stood := { row := challengeForgetsUptoRow, standIns := [], harness := (true, "6a3873686f8541a6f2a895f7c3534b7ba342da005ba628a55cafbda3ae9b0fa1"), looks := false }, kinds := [], alts := [], laidByText := true, laidKinds := [.data, .data, .data], laidTests := true, laidLooks := .later }
def ChallengeForgetsUptoCardSaid : Prop := Claim7.holds Tryd.pinned (.plain (OpenSpec.upto challengeForgetsSpec)) challengeForgetsUptoCard

/-- THE SECOND FORM's CARD OF 'kinkeeplaw44.ChallengeSpots'. -/
def challengeSpotsUptoCard : Claim7 := { stood := { row := challengeSpotsUptoRow, standIns := [], harness := (true, "6a3873686f8541a6f2a895f7c3534b7ba342da005ba628a55cafbda3ae9b0fa1"), looks := false }, kinds := [], alts := [], laidByText := true, laidKinds := [.data, .data, .data], laidTests := true, laidLooks := .later }
def ChallengeSpotsUptoCardSaid : Prop := Claim7.holds Tryd.pinned (.plain (OpenSpec.upto challengeSpotsSpec)) challengeSpotsUptoCard

/-- THE SECOND FORM's CARD OF 'kinkeeplaw44.ChallengeDifferent'. -/
def challengeDifferentUptoCard : Claim7 := { stood := { row := challengeDifferentUptoRow, standIns := [], harness := (true, "6a3873686f8541a6f2a895f7c3534b7ba342da005ba628a55cafbda3ae9b0fa1"), looks := false }, kinds := [], alts := [], laidByText := true, laidKinds := [.data, .data, .data], laidTests := true, laidLooks := .later }
def ChallengeDifferentUptoCardSaid : Prop := Claim7.holds Tryd.pinned (.plain (OpenSpec.upto challengeDifferentSpec)) challengeDifferentUptoCard

/-- THE SECOND FORM's CARD OF 'kinkeeplaw44.ChallengeOnce'. -/
def challengeOnceUptoCard : Claim7 := { stood := { row := challengeOnceUptoRow, standIns := [], harness := (true, "6a3873686f8541a6f2a895f7c3534b7ba342da005ba628a55cafbda3ae9b0fa1"), looks := false }, kinds := [], alts := [], laidByText := true, laidKinds := [.data, .data, .data], laidTests := true, laidLooks := .later }
def ChallengeOnceUptoCardSaid : Prop := Claim7.holds Tryd.pinned (.plain (OpenSpec.upto challengeOnceSpec)) challengeOnceUptoCard

/-- THE SECOND FORM's CARD OF 'kinkeeplaw44.ChallengeTokens'. -/
def challengeTokensUptoCard : Claim7 := { stood := { row := challengeTokensUptoRow, standIns := [], harness := (true, "6a3873686f8541a6f2a895f7c3534b7ba342da005ba628a55cafbda3ae9b0fa1"), looks := false }, kinds := [], alts := [], laidByText := true, laidKinds := [.data, .data, .data], laidTests := true, laidLooks := .later }
def ChallengeTokensUptoCardSaid : Prop := Claim7.holds Tryd.pinned (.plain (OpenSpec.upto challengeTokensSpec)) challengeTokensUptoCard

/-- THE SECOND FORM's CARD OF 'kinkeeplaw44.ChallengeHonest'. -/
def challengeHonestUptoCard : Claim7 := { stood := { row := challengeHonestUptoRow, standIns := [], harness := (true, "6a3873686f8541a6f2a895f7c3534b7ba342da005ba628a55cafbda3ae9b0fa1"), looks := false }, kinds := [], alts := [], laidByText := true, laidKinds := [.data, .data, .data], laidTests := true, laidLooks := .later }
def ChallengeHonestUptoCardSaid : Prop := Claim7.holds Tryd.pinned (.plain (OpenSpec.upto challengeHonestSpec)) challengeHonestUptoCard

/-- THE SECOND FORM's CARD OF 'kinkeeplaw44.ChallengeProven'. -/
def challengeProvenUptoCard : Claim7 := { stood := { row := challengeProvenUptoRow, standIns := [], harness := (true, "6a3873686f8541a6f2a895f7c3534b7ba342da005ba628a55cafbda3ae9b0fa1"), looks := false }, kinds := [], alts := [], laidByText := true, laidKinds := [.data, .data, .data], laidTests := true, laidLooks := .later }
def ChallengeProvenUptoCardSaid : Prop := Claim7.holds Tryd.pinned (.plain (OpenSpec.upto challengeProvenSpec)) challengeProvenUptoCard

/-- THE SECOND FORM's CARD OF 'kinkeeplaw44.ChallengeProves'. -/
def challengeProvesUptoCard : Claim7 := { stood := { row := challengeProvesUptoRow, standIns := [], harness := (true, "6a3873686f8541a6f2a895f7c3534b7ba342da005ba628a55cafbda3ae9b0fa1"), looks := false }, kinds := [], alts := [], laidByText := true, laidKinds := [.data, .data, .data], laidTests := true, laidLooks := .later }
def ChallengeProvesUptoCardSaid : Prop := Claim7.holds Tryd.pinned (.plain (OpenSpec.upto challengeProvesSpec)) challengeProvesUptoCard

/-- THE SECOND FORM's CARD OF 'kinkeeplaw44.ChallengeComplete'. -/
def challengeCompleteUptoCard : Claim7 := { stood := { row := challengeCompleteUptoRow, standIns := [], harness := (true, "6a3873686f8541a6f2a895f7c3534b7ba342da005ba628a55cafbda3ae9b0fa1"), looks := false }, kinds := [], alts := [], laidByText := true, laidKinds := [.data, .data, .data], laidTests := true, laidLooks := .later }
def ChallengeCompleteUptoCardSaid : Prop := Claim7.holds Tryd.pinned (.plain (OpenSpec.upto challengeCompleteSpec)) challengeCompleteUptoCard
end Rows
end Go.Proofs.YtgjgofjabdjclaaDoor
