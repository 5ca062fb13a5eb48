/-
  No cell of these rows narrows 'for every input' (looked for: loops, veiled, ifaces, maps, wideKeys, modest, calm, conditions, laid).
  DERIVED. THE GIVEN ROWS OF THIS SEAT. 6 by the template 'for every input the law returns true; each argument reads behind the call as it read before'; 0 by the template 'total and deterministic' (their statements: YtfonbliomokffaaGreatTotals.lean).
  GIVEN WITH THE SEED: the statements are not yours to turn. If you find one false, say at which input.
  Laid BY PROGRAM, IN A SANDBOX (cutbox-rows.mjs): the forced cells as the released guide's own fill.sh prints them over the translation 3af5e9367fbae618… (all of the seat's roots in one cut). By AI agents, Wed Nov 11 2026. No macro, syntax, notation, axiom, sorry.
-/
import Derived.Test.YtfonbliomokffaaGreatChecked
import GoSem.Claim
import GoSem.ClaimJoined
import GoSem.ClaimMapViews
import Derived.JoinedTies
import Derived.KernelRfl
namespace Go.Proofs.YtfonbliomokffaaGreat
/- THE CELL 'sum', in the pinned program and in every row, IS THE sha256 OF THE DUMP (.gsa) THAT YtfonbliomokffaaGreatProg.lean LOADS. Nothing in Lean hashes anything: it is a label: what it is worth is what the hold of that sum in a sandbox is worth. -/
noncomputable def Tryz.pinned : Pinned := { name := "ytfonbliomokffaagreat", sum := "3af5e9367fbae6189461ad9971be7b79726da99e5ef87678a0f9d1f22ab71780", checked := Tryz.checked }
namespace Rows
def none {H : Type} : Left H := { results := [], args := [] }

/-- 'kinkeeplaw47.EpochDrops': WHATEVER THE INPUT: true; the input reads as it did. -/
def epochDropsSpec : ChangeSpec := { name := "epochDrops", fn := fun _ => fun
  | [d1, d2, d3, d4] => { results := [.lit (.bool true)], args := [d1, d2, d3, d4] }
  | _ => none }
def epochDropsRow : OpenClaim := { program := "ytfonbliomokffaagreat", sum := "3af5e9367fbae6189461ad9971be7b79726da99e5ef87678a0f9d1f22ab71780", func := "kinkeep/kinkeeplaw47.EpochDrops", spec := "epochDrops", unfollowed := true, recurses := true, plainKeys := false, apart := false }
def EpochDropsSaid : Prop := epochDropsRow.holds Tryz.pinned (OpenSpec.ofChange epochDropsSpec)

/-- ITS FALSE NEIGHBOUR: 'it returns false'. Refute it at one input. -/
def epochDropsWrong : ChangeSpec := { name := "epochDrops", fn := fun _ => fun
  | [d1, d2, d3, d4] => { results := [.lit (.bool false)], args := [d1, d2, d3, d4] }
  | _ => none }
def EpochDropsWrongFalsely : Prop := epochDropsRow.holds Tryz.pinned (OpenSpec.ofChange epochDropsWrong)

/-- 'kinkeeplaw47.EpochGrows': WHATEVER THE INPUT: true; the input reads as it did. -/
def epochGrowsSpec : ChangeSpec := { name := "epochGrows", fn := fun _ => fun
  | [d1, d2, d3, d4, d5] => { results := [.lit (.bool true)], args := [d1, d2, d3, d4, d5] }
  | _ => none }
def epochGrowsRow : OpenClaim := { program := "ytfonbliomokffaagreat", sum := "3af5e9367fbae6189461ad9971be7b79726da99e5ef87678a0f9d1f22ab71780", func := "kinkeep/kinkeeplaw47.EpochGrows", spec := "epochGrows", unfollowed := true, recurses := true, plainKeys := false, apart := false }
def EpochGrowsSaid : Prop := epochGrowsRow.holds Tryz.pinned (OpenSpec.ofChange epochGrowsSpec)

/-- ITS FALSE NEIGHBOUR: 'it returns false'. Refute it at one input. -/
def epochGrowsWrong : ChangeSpec := { name := "epochGrows", fn := fun _ => fun
  | [d1, d2, d3, d4, d5] => { results := [.lit (.bool false)], args := [d1, d2, d3, d4, d5] }
  | _ => none }
def EpochGrowsWrongFalsely : Prop := epochGrowsRow.holds Tryz.pinned (OpenSpec.ofChange epochGrowsWrong)

/-- 'kinkeeplaw47.EpochUnordered': WHATEVER THE INPUT: true; the input reads as it did. -/
def epochUnorderedSpec : ChangeSpec := { name := "epochUnordered", fn := fun _ => fun
  | [d1, d2, d3, d4] => { results := [.lit (.bool true)], args := [d1, d2, d3, d4] }
  | _ => none }
def epochUnorderedRow : OpenClaim := { program := "ytfonbliomokffaagreat", sum := "3af5e9367fbae6189461ad9971be7b79726da99e5ef87678a0f9d1f22ab71780", func := "kinkeep/kinkeeplaw47.EpochUnordered", spec := "epochUnordered", unfollowed := true, recurses := true, plainKeys := false, apart := false }
def EpochUnorderedSaid : Prop := epochUnorderedRow.holds Tryz.pinned (OpenSpec.ofChange epochUnorderedSpec)

/-- ITS FALSE NEIGHBOUR: 'it returns false'. Refute it at one input. -/
def epochUnorderedWrong : ChangeSpec := { name := "epochUnordered", fn := fun _ => fun
  | [d1, d2, d3, d4] => { results := [.lit (.bool false)], args := [d1, d2, d3, d4] }
  | _ => none }
def EpochUnorderedWrongFalsely : Prop := epochUnorderedRow.holds Tryz.pinned (OpenSpec.ofChange epochUnorderedWrong)

/-- 'kinkeeplaw47.EpochSafe': WHATEVER THE INPUT: true; the input reads as it did. -/
def epochSafeSpec : ChangeSpec := { name := "epochSafe", fn := fun _ => fun
  | [d1, d2] => { results := [.lit (.bool true)], args := [d1, d2] }
  | _ => none }
def epochSafeRow : OpenClaim := { program := "ytfonbliomokffaagreat", sum := "3af5e9367fbae6189461ad9971be7b79726da99e5ef87678a0f9d1f22ab71780", func := "kinkeep/kinkeeplaw47.EpochSafe", spec := "epochSafe", unfollowed := true, recurses := true, plainKeys := false, apart := false }
def EpochSafeSaid : Prop := epochSafeRow.holds Tryz.pinned (OpenSpec.ofChange epochSafeSpec)

/-- ITS FALSE NEIGHBOUR: 'it returns false'. Refute it at one input. -/
def epochSafeWrong : ChangeSpec := { name := "epochSafe", fn := fun _ => fun
  | [d1, d2] => { results := [.lit (.bool false)], args := [d1, d2] }
  | _ => none }
def EpochSafeWrongFalsely : Prop := epochSafeRow.holds Tryz.pinned (OpenSpec.ofChange epochSafeWrong)

/-- 'kinkeeplaw47.EpochAgrees': WHATEVER THE INPUT: true; the input reads as it did. -/
def epochAgreesSpec : ChangeSpec := { name := "epochAgrees", fn := fun _ => fun
  | [d1, d2, d3] => { results := [.lit (.bool true)], args := [d1, d2, d3] }
  | _ => none }
def epochAgreesRow : OpenClaim := { program := "ytfonbliomokffaagreat", sum := "3af5e9367fbae6189461ad9971be7b79726da99e5ef87678a0f9d1f22ab71780", func := "kinkeep/kinkeeplaw47.EpochAgrees", spec := "epochAgrees", unfollowed := true, recurses := true, plainKeys := false, apart := false }
def EpochAgreesSaid : Prop := epochAgreesRow.holds Tryz.pinned (OpenSpec.ofChange epochAgreesSpec)

/-- ITS FALSE NEIGHBOUR: 'it returns false'. Refute it at one input. -/
def epochAgreesWrong : ChangeSpec := { name := "epochAgrees", fn := fun _ => fun
  | [d1, d2, d3] => { results := [.lit (.bool false)], args := [d1, d2, d3] }
  | _ => none }
def EpochAgreesWrongFalsely : Prop := epochAgreesRow.holds Tryz.pinned (OpenSpec.ofChange epochAgreesWrong)

/-- 'kinkeeplaw47.EpochBodies': WHATEVER THE INPUT: true; the input reads as it did. -/
def epochBodiesSpec : ChangeSpec := { name := "epochBodies", fn := fun _ => fun
  | [d1, d2] => { results := [.lit (.bool true)], args := [d1, d2] }
  | _ => none }
def epochBodiesRow : OpenClaim := { program := "ytfonbliomokffaagreat", sum := "3af5e9367fbae6189461ad9971be7b79726da99e5ef87678a0f9d1f22ab71780", func := "kinkeep/kinkeeplaw47.EpochBodies", spec := "epochBodies", unfollowed := true, recurses := true, plainKeys := false, apart := false }
def EpochBodiesSaid : Prop := epochBodiesRow.holds Tryz.pinned (OpenSpec.ofChange epochBodiesSpec)

/-- ITS FALSE NEIGHBOUR: 'it returns false'. Refute it at one input. -/
def epochBodiesWrong : ChangeSpec := { name := "epochBodies", fn := fun _ => fun
  | [d1, d2] => { results := [.lit (.bool false)], args := [d1, d2] }
  | _ => none }
def EpochBodiesWrongFalsely : Prop := epochBodiesRow.holds Tryz.pinned (OpenSpec.ofChange epochBodiesWrong)

/- THE SECOND FORM. 'bulk': how many values and letters a reading holds, each counted each time it is reached (what is shared counts as often as it is met; a slice's spare places count too). A statement '..UptoSaid' is the law's where the arguments, and the package variables that the reading takes, are together of bulk at most 1048576: NARROWER than '..Said'. Prove '..Said' where nothing that the law and all that it calls make is longer than what came in: it says more and counts as full. Else prove '..UptoSaid'. A law counts once. -/
mutual
def uptoBulk {H : Type} : DataW H → Nat
  | .lit (.string bytes) => bytes.length + 1
  | .lit _ => 1
  | .nil => 1
  | .ptr d => uptoBulk d + 1
  | .slice elems spare => uptoBulkAll elems + uptoBulkAll spare + 1
  | .agg parts => uptoBulkAll parts + 1
  | .iface _ d => uptoBulk d + 1
  | .map entries => uptoBulkEntries entries + 1
  | .held _ => 1
def uptoBulkAll {H : Type} : List (DataW H) → Nat
  | [] => 0
  | d :: r => uptoBulk d + uptoBulkAll r
def uptoBulkEntries {H : Type} : List (Lit × DataW H) → Nat
  | [] => 0
  | x :: r => uptoBulkEntry x + uptoBulkEntries r
def uptoBulkEntry {H : Type} : Lit × DataW H → Nat
  | (.string bytes, d) => bytes.length + uptoBulk d + 1
  | (_, d) => uptoBulk d + 1
 end
def uptoSmall : (H : Type) → List (DataW H) → Bool := fun _ ds => decide (uptoBulkAll ds ≤ 1048576)
def OpenSpec.upto (s : _root_.Go.ChangeSpec) : _root_.Go.OpenSpec := { _root_.Go.OpenSpec.ofChange s with cond := some uptoSmall }

/-- 'kinkeeplaw47.EpochDrops', WHERE WHAT IT READS IS OF BULK AT MOST 1048576: true; the input reads as it did. -/
def epochDropsUptoRow : OpenClaim := { program := "ytfonbliomokffaagreat", sum := "3af5e9367fbae6189461ad9971be7b79726da99e5ef87678a0f9d1f22ab71780", func := "kinkeep/kinkeeplaw47.EpochDrops", spec := "epochDrops", unfollowed := true, recurses := true, plainKeys := false, apart := false, narrowed := true }
def EpochDropsUptoSaid : Prop := epochDropsUptoRow.holds Tryz.pinned (OpenSpec.upto epochDropsSpec)

/-- 'kinkeeplaw47.EpochGrows', WHERE WHAT IT READS IS OF BULK AT MOST 1048576: true; the input reads as it did. -/
def epochGrowsUptoRow : OpenClaim := { program := "ytfonbliomokffaagreat", sum := "3af5e9367fbae6189461ad9971be7b79726da99e5ef87678a0f9d1f22ab71780", func := "kinkeep/kinkeeplaw47.EpochGrows", spec := "epochGrows", unfollowed := true, recurses := true, plainKeys := false, apart := false, narrowed := true }
def EpochGrowsUptoSaid : Prop := epochGrowsUptoRow.holds Tryz.pinned (OpenSpec.upto epochGrowsSpec)

/-- 'kinkeeplaw47.EpochUnordered', WHERE WHAT IT READS IS OF BULK AT MOST 1048576: true; the input reads as it did. -/
def epochUnorderedUptoRow : OpenClaim := { program := "ytfonbliomokffaagreat", sum := "3af5e9367fbae6189461ad9971be7b79726da99e5ef87678a0f9d1f22ab71780", func := "kinkeep/kinkeeplaw47.EpochUnordered", spec := "epochUnordered", unfollowed := true, recurses := true, plainKeys := false, apart := false, narrowed := true }
def EpochUnorderedUptoSaid : Prop := epochUnorderedUptoRow.holds Tryz.pinned (OpenSpec.upto epochUnorderedSpec)

/-- 'kinkeeplaw47.EpochSafe', WHERE WHAT IT READS IS OF BULK AT MOST 1048576: true; the input reads as it did. -/
def epochSafeUptoRow : OpenClaim := { program := "ytfonbliomokffaagreat", sum := "3af5e9367fbae6189461ad9971be7b79726da99e5ef87678a0f9d1f22ab71780", func := "kinkeep/kinkeeplaw47.EpochSafe", spec := "epochSafe", unfollowed := true, recurses := true, plainKeys := false, apart := false, narrowed := true }
def EpochSafeUptoSaid : Prop := epochSafeUptoRow.holds Tryz.pinned (OpenSpec.upto epochSafeSpec)

/-- 'kinkeeplaw47.EpochAgrees', WHERE WHAT IT READS IS OF BULK AT MOST 1048576: true; the input reads as it did. -/
def epochAgreesUptoRow : OpenClaim := { program := "ytfonbliomokffaagreat", sum := "3af5e9367fbae6189461ad9971be7b79726da99e5ef87678a0f9d1f22ab71780", func := "kinkeep/kinkeeplaw47.EpochAgrees", spec := "epochAgrees", unfollowed := true, recurses := true, plainKeys := false, apart := false, narrowed := true }
def EpochAgreesUptoSaid : Prop := epochAgreesUptoRow.holds Tryz.pinned (OpenSpec.upto epochAgreesSpec)

/-- 'kinkeeplaw47.EpochBodies', WHERE WHAT IT READS IS OF BULK AT MOST 1048576: true; the input reads as it did. -/
def epochBodiesUptoRow : OpenClaim := { program := "ytfonbliomokffaagreat", sum := "3af5e9367fbae6189461ad9971be7b79726da99e5ef87678a0f9d1f22ab71780", func := "kinkeep/kinkeeplaw47.EpochBodies", spec := "epochBodies", unfollowed := true, recurses := true, plainKeys := false, apart := false, narrowed := true }
def EpochBodiesUptoSaid : Prop := epochBodiesUptoRow.holds Tryz.pinned (OpenSpec.upto epochBodiesSpec)

end Rows
end Go.Proofs.YtfonbliomokffaaGreat
