/-
  NARROWER THAN 'FOR EVERY INPUT', by the rows' own cells (each row's printed sentence says how): ChallengeForgets: laid · ChallengeSpots: laid · ChallengeDifferent: laid · ChallengeOnce: laid · ChallengeTokens: laid · ChallengeHonest: laid · ChallengeProven: laid · ChallengeProves: laid · ChallengeComplete: laid.
  DERIVED. THE GIVEN ROWS OF THIS SEAT. 9 by the template 'for every input the law returns true; each argument reads behind the call as it read before'; 0 by the template 'total and deterministic' (their statements: YtgjgofjabdjclaaDoorTotals.lean).
  GIVEN WITH THE SEED: the statements are not yours to turn. If you find one false, say at which input.
  Laid BY PROGRAM, IN A SANDBOX (cutbox-rows.mjs): the forced cells as the released guide's own fill.sh prints them over the translation f3c3659cacc8ad2d… (all of the seat's roots in one cut). By AI agents, Wed Nov 11 2026. No macro, syntax, notation, axiom, sorry.
-/
import Derived.Test.YtgjgofjabdjclaaDoorChecked
import GoSem.Claim
import GoSem.ClaimJoined
import GoSem.ClaimMapViews
import Derived.JoinedTies
import Derived.KernelRfl
namespace Go.Proofs.YtgjgofjabdjclaaDoor
/- THE CELL 'sum', in the pinned program and in every row, IS THE sha256 OF THE DUMP (.gsa) THAT YtgjgofjabdjclaaDoorProg.lean LOADS. Nothing in Lean hashes anything: it is a label: what it is worth is what the hold of that sum in a sandbox is worth. -/
noncomputable def Tryd.pinned : Pinned := { name := "ytgjgofjabdjclaadoor", sum := "f3c3659cacc8ad2d07e0275a01ddee6c8057b658150ca66123bd7f370b356f24", checked := Tryd.checked }
namespace Rows
def none {H : Type} : Left H := { results := [], args := [] }

/- WHAT THE LISTED PACKAGE-LEVEL VARIABLES READ AS WHEN THE CALL BEGINS. Each datum BY PROGRAM (the guide's laid-datum.mjs) off the statement by which the dump's own 'gosem.cut.vars' lays the variable. In a bare row this is a premise. The card (YtgjgofjabdjclaaDoorCards.lean) ties it to the program's text. -/
def laid_kinkeep_sha256_initial {H : Type} : DataW H := .agg [.lit (.int .u32 1779033703), .lit (.int .u32 3144134277), .lit (.int .u32 1013904242), .lit (.int .u32 2773480762), .lit (.int .u32 1359893119), .lit (.int .u32 2600822924), .lit (.int .u32 528734635), .lit (.int .u32 1541459225)]
def laid_kinkeep_sha256_constants {H : Type} : DataW H := .agg [.lit (.int .u32 1116352408), .lit (.int .u32 1899447441), .lit (.int .u32 3049323471), .lit (.int .u32 3921009573), .lit (.int .u32 961987163), .lit (.int .u32 1508970993), .lit (.int .u32 2453635748), .lit (.int .u32 2870763221), .lit (.int .u32 3624381080), .lit (.int .u32 310598401), .lit (.int .u32 607225278), .lit (.int .u32 1426881987), .lit (.int .u32 1925078388), .lit (.int .u32 2162078206), .lit (.int .u32 2614888103), .lit (.int .u32 3248222580), .lit (.int .u32 3835390401), .lit (.int .u32 4022224774), .lit (.int .u32 264347078), .lit (.int .u32 604807628), .lit (.int .u32 770255983), .lit (.int .u32 1249150122), .lit (.int .u32 1555081692), .lit (.int .u32 1996064986), .lit (.int .u32 2554220882), .lit (.int .u32 2821834349), .lit (.int .u32 2952996808), .lit (.int .u32 3210313671), .lit (.int .u32 3336571891), .lit (.int .u32 3584528711), .lit (.int .u32 113926993), .lit (.int .u32 338241895), .lit (.int .u32 666307205), .lit (.int .u32 773529912), .lit (.int .u32 1294757372), .lit (.int .u32 1396182291), .lit (.int .u32 1695183700), .lit (.int .u32 1986661051), .lit (.int .u32 2177026350), .lit (.int .u32 2456956037), .lit (.int .u32 2730485921), .lit (.int .u32 2820302411), .lit (.int .u32 3259730800), .lit (.int .u32 3345764771), .lit (.int .u32 3516065817), .lit (.int .u32 3600352804), .lit (.int .u32 4094571909), .lit (.int .u32 275423344), .lit (.int .u32 430227734), .lit (.int .u32 506948616), .lit (.int .u32 659060556), .lit (.int .u32 883997877), .lit (.int .u32 958139571), .lit (.int .u32 1322822218), .lit (.int .u32 1537002063), .lit (.int .u32 1747873779), .lit (.int .u32 1955562222), .lit (.int .u32 2024104815), .lit (.int .u32 2227730452), .lit (.int .u32 2361852424), .lit (.int .u32 2428436474), .lit (.int .u32 2756734187), .lit (.int .u32 3204031479), .lit (.int .u32 3329325298)]
def laid_kinkeep_hmac_pads {H : Type} : DataW H := .agg [.lit (.int .u8 54), .lit (.int .u8 92)]

/-- 'kinkeeplaw44.ChallengeForgets': WHATEVER THE INPUT: true; the input reads as it did. -/
def challengeForgetsSpec : ChangeSpec := { name := "challengeForgets", fn := fun _ => fun
  | [d1, d2, d3, d4, d5] => { results := [.lit (.bool true)], args := [d1, d2, d3, d4, d5] }
  | _ => none }
def challengeForgetsRow : OpenClaim := { program := "ytgjgofjabdjclaadoor", sum := "f3c3659cacc8ad2d07e0275a01ddee6c8057b658150ca66123bd7f370b356f24", func := "kinkeep/kinkeeplaw44.ChallengeForgets", spec := "challengeForgets", unfollowed := true, recurses := true, named := ["kinkeep/hmac.pads", "kinkeep/sha256.initial", "kinkeep/sha256.constants"], plainKeys := false, apart := false, laid := [("kinkeep/sha256.initial", laid_kinkeep_sha256_initial), ("kinkeep/sha256.constants", laid_kinkeep_sha256_constants), ("kinkeep/hmac.pads", laid_kinkeep_hmac_pads)] }
def ChallengeForgetsSaid : Prop := challengeForgetsRow.holds Tryd.pinned (OpenSpec.ofChange challengeForgetsSpec)

/-- ITS FALSE NEIGHBOUR: 'it returns false'. Refute it at one input. -/
def challengeForgetsWrong : ChangeSpec := { name := "challengeForgets", fn := fun _ => fun
  | [d1, d2, d3, d4, d5] => { results := [.lit (.bool false)], args := [d1, d2, d3, d4, d5] }
  | _ => none }
def ChallengeForgetsWrongFalsely : Prop := challengeForgetsRow.holds Tryd.pinned (OpenSpec.ofChange challengeForgetsWrong)

/-- 'kinkeeplaw44.ChallengeSpots': WHATEVER THE INPUT: true; the input reads as it did. -/
def challengeSpotsSpec : ChangeSpec := { name := "challengeSpots", fn := fun _ => fun
  | [d1, d2, d3] => { results := [.lit (.bool true)], args := [d1, d2, d3] }
  | _ => none }
def challengeSpotsRow : OpenClaim := { program := "ytgjgofjabdjclaadoor", sum := "f3c3659cacc8ad2d07e0275a01ddee6c8057b658150ca66123bd7f370b356f24", func := "kinkeep/kinkeeplaw44.ChallengeSpots", spec := "challengeSpots", unfollowed := true, recurses := true, named := ["kinkeep/hmac.pads", "kinkeep/sha256.initial", "kinkeep/sha256.constants"], plainKeys := false, apart := false, laid := [("kinkeep/sha256.initial", laid_kinkeep_sha256_initial), ("kinkeep/sha256.constants", laid_kinkeep_sha256_constants), ("kinkeep/hmac.pads", laid_kinkeep_hmac_pads)] }
def ChallengeSpotsSaid : Prop := challengeSpotsRow.holds Tryd.pinned (OpenSpec.ofChange challengeSpotsSpec)

/-- ITS FALSE NEIGHBOUR: 'it returns false'. Refute it at one input. -/
def challengeSpotsWrong : ChangeSpec := { name := "challengeSpots", fn := fun _ => fun
  | [d1, d2, d3] => { results := [.lit (.bool false)], args := [d1, d2, d3] }
  | _ => none }
def ChallengeSpotsWrongFalsely : Prop := challengeSpotsRow.holds Tryd.pinned (OpenSpec.ofChange challengeSpotsWrong)

/-- 'kinkeeplaw44.ChallengeDifferent': WHATEVER THE INPUT: true; the input reads as it did. -/
def challengeDifferentSpec : ChangeSpec := { name := "challengeDifferent", fn := fun _ => fun
  | [d1, d2, d3] => { results := [.lit (.bool true)], args := [d1, d2, d3] }
  | _ => none }
def challengeDifferentRow : OpenClaim := { program := "ytgjgofjabdjclaadoor", sum := "f3c3659cacc8ad2d07e0275a01ddee6c8057b658150ca66123bd7f370b356f24", func := "kinkeep/kinkeeplaw44.ChallengeDifferent", spec := "challengeDifferent", unfollowed := true, recurses := true, named := ["kinkeep/hmac.pads", "kinkeep/sha256.initial", "kinkeep/sha256.constants"], plainKeys := false, apart := false, laid := [("kinkeep/sha256.initial", laid_kinkeep_sha256_initial), ("kinkeep/sha256.constants", laid_kinkeep_sha256_constants), ("kinkeep/hmac.pads", laid_kinkeep_hmac_pads)] }
def ChallengeDifferentSaid : Prop := challengeDifferentRow.holds Tryd.pinned (OpenSpec.ofChange challengeDifferentSpec)

/-- ITS FALSE NEIGHBOUR: 'it returns false'. Refute it at one input. -/
def challengeDifferentWrong : ChangeSpec := { name := "challengeDifferent", fn := fun _ => fun
  | [d1, d2, d3] => { results := [.lit (.bool false)], args := [d1, d2, d3] }
  | _ => none }
def ChallengeDifferentWrongFalsely : Prop := challengeDifferentRow.holds Tryd.pinned (OpenSpec.ofChange challengeDifferentWrong)

/-- 'kinkeeplaw44.ChallengeOnce': WHATEVER THE INPUT: true; the input reads as it did. -/
def challengeOnceSpec : ChangeSpec := { name := "challengeOnce", fn := fun _ => fun
  | [d1, d2] => { results := [.lit (.bool true)], args := [d1, d2] }
  | _ => none }
def challengeOnceRow : OpenClaim := { program := "ytgjgofjabdjclaadoor", sum := "f3c3659cacc8ad2d07e0275a01ddee6c8057b658150ca66123bd7f370b356f24", func := "kinkeep/kinkeeplaw44.ChallengeOnce", spec := "challengeOnce", unfollowed := true, recurses := true, named := ["kinkeep/hmac.pads", "kinkeep/sha256.initial", "kinkeep/sha256.constants"], plainKeys := false, apart := false, laid := [("kinkeep/sha256.initial", laid_kinkeep_sha256_initial), ("kinkeep/sha256.constants", laid_kinkeep_sha256_constants), ("kinkeep/hmac.pads", laid_kinkeep_hmac_pads)] }
def ChallengeOnceSaid : Prop := challengeOnceRow.holds Tryd.pinned (OpenSpec.ofChange challengeOnceSpec)

/-- ITS FALSE NEIGHBOUR: 'it returns false'. Refute it at one input. -/
def challengeOnceWrong : ChangeSpec := { name := "challengeOnce", fn := fun _ => fun
  | [d1, d2] => { results := [.lit (.bool false)], args := [d1, d2] }
  | _ => none }
def ChallengeOnceWrongFalsely : Prop := challengeOnceRow.holds Tryd.pinned (OpenSpec.ofChange challengeOnceWrong)

/-- 'kinkeeplaw44.ChallengeTokens': WHATEVER THE INPUT: true; the input reads as it did. -/
def challengeTokensSpec : ChangeSpec := { name := "challengeTokens", fn := fun _ => fun
  | [d1, d2, d3, d4, d5, d6] => { results := [.lit (.bool true)], args := [d1, d2, d3, d4, d5, d6] }
  | _ => none }
def challengeTokensRow : OpenClaim := { program := "ytgjgofjabdjclaadoor", sum := "f3c3659cacc8ad2d07e0275a01ddee6c8057b658150ca66123bd7f370b356f24", func := "kinkeep/kinkeeplaw44.ChallengeTokens", spec := "challengeTokens", unfollowed := true, recurses := true, named := ["kinkeep/hmac.pads", "kinkeep/sha256.initial", "kinkeep/sha256.constants"], plainKeys := false, apart := false, laid := [("kinkeep/sha256.initial", laid_kinkeep_sha256_initial), ("kinkeep/sha256.constants", laid_kinkeep_sha256_constants), ("kinkeep/hmac.pads", laid_kinkeep_hmac_pads)] }
def ChallengeTokensSaid : Prop := challengeTokensRow.holds Tryd.pinned (OpenSpec.ofChange challengeTokensSpec)

/-- ITS FALSE NEIGHBOUR: 'it returns false'. Refute it at one input. -/
def challengeTokensWrong : ChangeSpec := { name := "challengeTokens", fn := fun _ => fun
  | [d1, d2, d3, d4, d5, d6] => { results := [.lit (.bool false)], args := [d1, d2, d3, d4, d5, d6] }
  | _ => none }
def ChallengeTokensWrongFalsely : Prop := challengeTokensRow.holds Tryd.pinned (OpenSpec.ofChange challengeTokensWrong)

/-- 'kinkeeplaw44.ChallengeHonest': WHATEVER THE INPUT: true; the input reads as it did. -/
def challengeHonestSpec : ChangeSpec := { name := "challengeHonest", fn := fun _ => fun
  | [d1, d2, d3, d4, d5, d6] => { results := [.lit (.bool true)], args := [d1, d2, d3, d4, d5, d6] }
  | _ => none }
def challengeHonestRow : OpenClaim := { program := "ytgjgofjabdjclaadoor", sum := "f3c3659cacc8ad2d07e0275a01ddee6c8057b658150ca66123bd7f370b356f24", func := "kinkeep/kinkeeplaw44.ChallengeHonest", spec := "challengeHonest", unfollowed := true, recurses := true, named := ["kinkeep/hmac.pads", "kinkeep/sha256.initial", "kinkeep/sha256.constants"], plainKeys := false, apart := false, laid := [("kinkeep/sha256.initial", laid_kinkeep_sha256_initial), ("kinkeep/sha256.constants", laid_kinkeep_sha256_constants), ("kinkeep/hmac.pads", laid_kinkeep_hmac_pads)] }
def ChallengeHonestSaid : Prop := challengeHonestRow.holds Tryd.pinned (OpenSpec.ofChange challengeHonestSpec)

/-- ITS FALSE NEIGHBOUR: 'it returns false'. Refute it at one input. -/
def challengeHonestWrong : ChangeSpec := { name := "challengeHonest", fn := fun _ => fun
  | [d1, d2, d3, d4, d5, d6] => { results := [.lit (.bool false)], args := [d1, d2, d3, d4, d5, d6] }
  | _ => none }
def ChallengeHonestWrongFalsely : Prop := challengeHonestRow.holds Tryd.pinned (OpenSpec.ofChange challengeHonestWrong)

/-- 'kinkeeplaw44.ChallengeProven': WHATEVER THE INPUT: true; the input reads as it did. -/
def challengeProvenSpec : ChangeSpec := { name := "challengeProven", fn := fun _ => fun
  | [d1, d2, d3, d4, d5, d6] => { results := [.lit (.bool true)], args := [d1, d2, d3, d4, d5, d6] }
  | _ => none }
def challengeProvenRow : OpenClaim := { program := "ytgjgofjabdjclaadoor", sum := "f3c3659cacc8ad2d07e0275a01ddee6c8057b658150ca66123bd7f370b356f24", func := "kinkeep/kinkeeplaw44.ChallengeProven", spec := "challengeProven", unfollowed := true, recurses := true, named := ["kinkeep/hmac.pads", "kinkeep/sha256.initial", "kinkeep/sha256.constants"], plainKeys := false, apart := false, laid := [("kinkeep/sha256.initial", laid_kinkeep_sha256_initial), ("kinkeep/sha256.constants", laid_kinkeep_sha256_constants), ("kinkeep/hmac.pads", laid_kinkeep_hmac_pads)] }
def ChallengeProvenSaid : Prop := challengeProvenRow.holds Tryd.pinned (OpenSpec.ofChange challengeProvenSpec)

/-- ITS FALSE NEIGHBOUR: 'it returns false'. Refute it at one input. -/
def challengeProvenWrong : ChangeSpec := { name := "challengeProven", fn := fun _ => fun
  | [d1, d2, d3, d4, d5, d6] => { results := [.lit (.bool false)], args := [d1, d2, d3, d4, d5, d6] }
  | _ => none }
def ChallengeProvenWrongFalsely : Prop := challengeProvenRow.holds Tryd.pinned (OpenSpec.ofChange challengeProvenWrong)

/-- 'kinkeeplaw44.ChallengeProves': WHATEVER THE INPUT: true; the input reads as it did. -/
def challengeProvesSpec : ChangeSpec := { name := "challengeProves", fn := fun _ => fun
  | [d1, d2, d3, d4] => { results := [.lit (.bool true)], args := [d1, d2, d3, d4] }
  | _ => none }
def challengeProvesRow : OpenClaim := { program := "ytgjgofjabdjclaadoor", sum := "f3c3659cacc8ad2d07e0275a01ddee6c8057b658150ca66123bd7f370b356f24", func := "kinkeep/kinkeeplaw44.ChallengeProves", spec := "challengeProves", unfollowed := true, recurses := true, named := ["kinkeep/hmac.pads", "kinkeep/sha256.initial", "kinkeep/sha256.constants"], plainKeys := false, apart := false, laid := [("kinkeep/sha256.initial", laid_kinkeep_sha256_initial), ("kinkeep/sha256.constants", laid_kinkeep_sha256_constants), ("kinkeep/hmac.pads", laid_kinkeep_hmac_pads)] }
def ChallengeProvesSaid : Prop := challengeProvesRow.holds Tryd.pinned (OpenSpec.ofChange challengeProvesSpec)

/-- ITS FALSE NEIGHBOUR: 'it returns false'. Refute it at one input. -/
def challengeProvesWrong : ChangeSpec := { name := "challengeProves", fn := fun _ => fun
  | [d1, d2, d3, d4] => { results := [.lit (.bool false)], args := [d1, d2, d3, d4] }
  | _ => none }
def ChallengeProvesWrongFalsely : Prop := challengeProvesRow.holds Tryd.pinned (OpenSpec.ofChange challengeProvesWrong)

/-- 'kinkeeplaw44.ChallengeComplete': WHATEVER THE INPUT: true; the input reads as it did. -/
def challengeCompleteSpec : ChangeSpec := { name := "challengeComplete", fn := fun _ => fun
  | [d1, d2, d3, d4] => { results := [.lit (.bool true)], args := [d1, d2, d3, d4] }
  | _ => none }
def challengeCompleteRow : OpenClaim := { program := "ytgjgofjabdjclaadoor", sum := "f3c3659cacc8ad2d07e0275a01ddee6c8057b658150ca66123bd7f370b356f24", func := "kinkeep/kinkeeplaw44.ChallengeComplete", spec := "challengeComplete", unfollowed := true, recurses := true, named := ["kinkeep/hmac.pads", "kinkeep/sha256.initial", "kinkeep/sha256.constants"], plainKeys := false, apart := false, laid := [("kinkeep/sha256.initial", laid_kinkeep_sha256_initial), ("kinkeep/sha256.constants", laid_kinkeep_sha256_constants), ("kinkeep/hmac.pads", laid_kinkeep_hmac_pads)] }
def ChallengeCompleteSaid : Prop := challengeCompleteRow.holds Tryd.pinned (OpenSpec.ofChange challengeCompleteSpec)

/-- ITS FALSE NEIGHBOUR: 'it returns false'. Refute it at one input. -/
def challengeCompleteWrong : ChangeSpec := { name := "challengeComplete", fn := fun _ => fun
  | [d1, d2, d3, d4] => { results := [.lit (.bool false)], args := [d1, d2, d3, d4] }
  | _ => none }
def ChallengeCompleteWrongFalsely : Prop := challengeCompleteRow.holds Tryd.pinned (OpenSpec.ofChange challengeCompleteWrong)

/- THE SECOND FORM. 'bulk': how many values and letters a reading holds, each counted each time it is reached (what is shared counts as often as it is met; a slice's spare places count too). A statement '..UptoSaid' is the law's where the arguments, and the package variables that the reading takes, are together of bulk at most 1048576: NARROWER than '..Said'. Prove '..Said' where nothing that the law and all that it calls make is longer than what came in: it says more and counts as full. Else prove '..UptoSaid'. A law counts once. -/
mutual
def uptoBulk {H : Type} : DataW H → Nat
  | .lit (.string bytes) => bytes.length + 1
  | .lit _ => 1
  | .nil => 1
  | .ptr d => uptoBulk d + 1
  | .slice elems spare => uptoBulkAll elems + uptoBulkAll spare + 1
  | .agg parts => uptoBulkAll parts + 1
  | .iface _ d => uptoBulk d + 1
  | .map entries => uptoBulkEntries entries + 1
  | .held _ => 1
def uptoBulkAll {H : Type} : List (DataW H) → Nat
  | [] => 0
  | d :: r => uptoBulk d + uptoBulkAll r
def uptoBulkEntries {H : Type} : List (Lit × DataW H) → Nat
  | [] => 0
  | x :: r => uptoBulkEntry x + uptoBulkEntries r
def uptoBulkEntry {H : Type} : Lit × DataW H → Nat
  | (.string bytes, d) => bytes.length + uptoBulk d + 1
  | (_, d) => uptoBulk d + 1
 end
def uptoSmall : (H : Type) → List (DataW H) → Bool := fun _ ds => decide (uptoBulkAll ds ≤ 1048576)
def OpenSpec.upto (s : _root_.Go.ChangeSpec) : _root_.Go.OpenSpec := { _root_.Go.OpenSpec.ofChange s with cond := some uptoSmall }

/-- 'kinkeeplaw44.ChallengeForgets', WHERE WHAT IT READS IS OF BULK AT MOST 1048576: true; the input reads as it did. -/
def challengeForgetsUptoRow : OpenClaim := { program := "ytgjgofjabdjclaadoor", sum := "f3c3659cacc8ad2d07e0275a01ddee6c8057b658150ca66123bd7f370b356f24", func := "kinkeep/kinkeeplaw44.ChallengeForgets", spec := "challengeForgets", unfollowed := true, recurses := true, named := ["kinkeep/hmac.pads", "kinkeep/sha256.initial", "kinkeep/sha256.constants"], plainKeys := false, apart := false, laid := [("kinkeep/sha256.initial", laid_kinkeep_sha256_initial), ("kinkeep/sha256.constants", laid_kinkeep_sha256_constants), ("kinkeep/hmac.pads", laid_kinkeep_hmac_pads)], narrowed := true }
def ChallengeForgetsUptoSaid : Prop := challengeForgetsUptoRow.holds Tryd.pinned (OpenSpec.upto challengeForgetsSpec)

/-- 'kinkeeplaw44.ChallengeSpots', WHERE WHAT IT READS IS OF BULK AT MOST 1048576: true; the input reads as it did. -/
def challengeSpotsUptoRow : OpenClaim := { program := "ytgjgofjabdjclaadoor", sum := "f3c3659cacc8ad2d07e0275a01ddee6c8057b658150ca66123bd7f370b356f24", func := "kinkeep/kinkeeplaw44.ChallengeSpots", spec := "challengeSpots", unfollowed := true, recurses := true, named := ["kinkeep/hmac.pads", "kinkeep/sha256.initial", "kinkeep/sha256.constants"], plainKeys := false, apart := false, laid := [("kinkeep/sha256.initial", laid_kinkeep_sha256_initial), ("kinkeep/sha256.constants", laid_kinkeep_sha256_constants), ("kinkeep/hmac.pads", laid_kinkeep_hmac_pads)], narrowed := true }
def ChallengeSpotsUptoSaid : Prop := challengeSpotsUptoRow.holds Tryd.pinned (OpenSpec.upto challengeSpotsSpec)

/-- 'kinkeeplaw44.ChallengeDifferent', WHERE WHAT IT READS IS OF BULK AT MOST 1048576: true; the input reads as it did. -/
def challengeDifferentUptoRow : OpenClaim := { program := "ytgjgofjabdjclaadoor", sum := "f3c3659cacc8ad2d07e0275a01ddee6c8057b658150ca66123bd7f370b356f24", func := "kinkeep/kinkeeplaw44.ChallengeDifferent", spec := "challengeDifferent", unfollowed := true, recurses := true, named := ["kinkeep/hmac.pads", "kinkeep/sha256.initial", "kinkeep/sha256.constants"], plainKeys := false, apart := false, laid := [("kinkeep/sha256.initial", laid_kinkeep_sha256_initial), ("kinkeep/sha256.constants", laid_kinkeep_sha256_constants), ("kinkeep/hmac.pads", laid_kinkeep_hmac_pads)], narrowed := true }
def ChallengeDifferentUptoSaid : Prop := challengeDifferentUptoRow.holds Tryd.pinned (OpenSpec.upto challengeDifferentSpec)

/-- 'kinkeeplaw44.ChallengeOnce', WHERE WHAT IT READS IS OF BULK AT MOST 1048576: true; the input reads as it did. -/
def challengeOnceUptoRow : OpenClaim := { program := "ytgjgofjabdjclaadoor", sum := "f3c3659cacc8ad2d07e0275a01ddee6c8057b658150ca66123bd7f370b356f24", func := "kinkeep/kinkeeplaw44.ChallengeOnce", spec := "challengeOnce", unfollowed := true, recurses := true, named := ["kinkeep/hmac.pads", "kinkeep/sha256.initial", "kinkeep/sha256.constants"], plainKeys := false, apart := false, laid := [("kinkeep/sha256.initial", laid_kinkeep_sha256_initial), ("kinkeep/sha256.constants", laid_kinkeep_sha256_constants), ("kinkeep/hmac.pads", laid_kinkeep_hmac_pads)], narrowed := true }
def ChallengeOnceUptoSaid : Prop := challengeOnceUptoRow.holds Tryd.pinned (OpenSpec.upto challengeOnceSpec)

/-- 'kinkeeplaw44.ChallengeTokens', WHERE WHAT IT READS IS OF BULK AT MOST 1048576: true; the input reads as it did. -/
def challengeTokensUptoRow : OpenClaim := { program := "ytgjgofjabdjclaadoor", sum := "f3c3659cacc8ad2d07e0275a01ddee6c8057b658150ca66123bd7f370b356f24", func := "kinkeep/kinkeeplaw44.ChallengeTokens", spec := "challengeTokens", unfollowed := true, recurses := true, named := ["kinkeep/hmac.pads", "kinkeep/sha256.initial", "kinkeep/sha256.constants"], plainKeys := false, apart := false, laid := [("kinkeep/sha256.initial", laid_kinkeep_sha256_initial), ("kinkeep/sha256.constants", laid_kinkeep_sha256_constants), ("kinkeep/hmac.pads", laid_kinkeep_hmac_pads)], narrowed := true }
def ChallengeTokensUptoSaid : Prop := challengeTokensUptoRow.holds Tryd.pinned (OpenSpec.upto challengeTokensSpec)

/-- 'kinkeeplaw44.ChallengeHonest', WHERE WHAT IT READS IS OF BULK AT MOST 1048576: true; the input reads as it did. -/
def challengeHonestUptoRow : OpenClaim := { program := "ytgjgofjabdjclaadoor", sum := "f3c3659cacc8ad2d07e0275a01ddee6c8057b658150ca66123bd7f370b356f24", func := "kinkeep/kinkeeplaw44.ChallengeHonest", spec := "challengeHonest", unfollowed := true, recurses := true, named := ["kinkeep/hmac.pads", "kinkeep/sha256.initial", "kinkeep/sha256.constants"], plainKeys := false, apart := false, laid := [("kinkeep/sha256.initial", laid_kinkeep_sha256_initial), ("kinkeep/sha256.constants", laid_kinkeep_sha256_constants), ("kinkeep/hmac.pads", laid_kinkeep_hmac_pads)], narrowed := true }
def ChallengeHonestUptoSaid : Prop := challengeHonestUptoRow.holds Tryd.pinned (OpenSpec.upto challengeHonestSpec)

/-- 'kinkeeplaw44.ChallengeProven', WHERE WHAT IT READS IS OF BULK AT MOST 1048576: true; the input reads as it did. -/
def challengeProvenUptoRow : OpenClaim := { program := "ytgjgofjabdjclaadoor", sum := "f3c3659cacc8ad2d07e0275a01ddee6c8057b658150ca66123bd7f370b356f24", func := "kinkeep/kinkeeplaw44.ChallengeProven", spec := "challengeProven", unfollowed := true, recurses := true, named := ["kinkeep/hmac.pads", "kinkeep/sha256.initial", "kinkeep/sha256.constants"], plainKeys := false, apart := false, laid := [("kinkeep/sha256.initial", laid_kinkeep_sha256_initial), ("kinkeep/sha256.constants", laid_kinkeep_sha256_constants), ("kinkeep/hmac.pads", laid_kinkeep_hmac_pads)], narrowed := true }
def ChallengeProvenUptoSaid : Prop := challengeProvenUptoRow.holds Tryd.pinned (OpenSpec.upto challengeProvenSpec)

/-- 'kinkeeplaw44.ChallengeProves', WHERE WHAT IT READS IS OF BULK AT MOST 1048576: true; the input reads as it did. -/
def challengeProvesUptoRow : OpenClaim := { program := "ytgjgofjabdjclaadoor", sum := "f3c3659cacc8ad2d07e0275a01ddee6c8057b658150ca66123bd7f370b356f24", func := "kinkeep/kinkeeplaw44.ChallengeProves", spec := "challengeProves", unfollowed := true, recurses := true, named := ["kinkeep/hmac.pads", "kinkeep/sha256.initial", "kinkeep/sha256.constants"], plainKeys := false, apart := false, laid := [("kinkeep/sha256.initial", laid_kinkeep_sha256_initial), ("kinkeep/sha256.constants", laid_kinkeep_sha256_constants), ("kinkeep/hmac.pads", laid_kinkeep_hmac_pads)], narrowed := true }
def ChallengeProvesUptoSaid : Prop := challengeProvesUptoRow.holds Tryd.pinned (OpenSpec.upto challengeProvesSpec)

/-- 'kinkeeplaw44.ChallengeComplete', WHERE WHAT IT READS IS OF BULK AT MOST 1048576: true; the input reads as it did. -/
def challengeCompleteUptoRow : OpenClaim := { program := "ytgjgofjabdjclaadoor", sum := "f3c3659cacc8ad2d07e0275a01ddee6c8057b658150ca66123bd7f370b356f24", func := "kinkeep/kinkeeplaw44.ChallengeComplete", spec := "challengeComplete", unfollowed := true, recurses := true, named := ["kinkeep/hmac.pads", "kinkeep/sha256.initial", "kinkeep/sha256.constants"], plainKeys := false, apart := false, laid := [("kinkeep/sha256.initial", laid_kinkeep_sha256_initial), ("kinkeep/sha256.constants", laid_kinkeep_sha256_constants), ("kinkeep/hmac.pads", laid_kinkeep_hmac_pads)], narrowed := true }
def ChallengeCompleteUptoSaid : Prop := challengeCompleteUptoRow.holds Tryd.pinned (OpenSpec.upto challengeCompleteSpec)

end Rows
end Go.Proofs.YtgjgofjabdjclaaDoor
