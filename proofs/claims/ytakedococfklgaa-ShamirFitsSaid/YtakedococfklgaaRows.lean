/-
  No cell of these rows narrows 'for every input' (looked for: loops, veiled, ifaces, maps, wideKeys, modest, calm, conditions, laid).
  DERIVED. THE GIVEN ROWS OF THIS SEAT. 9 by the template 'for every input the law returns true; each argument reads behind the call as it read before'; 0 by the template 'total and deterministic' (their statements: YtakedococfklgaaTotals.lean).
  GIVEN WITH THE SEED: the statements are not yours to turn. If you find one false, say at which input.
  Laid BY PROGRAM, IN A SANDBOX (cutbox-rows.mjs): the forced cells as the released guide's own fill.sh prints them over the translation 90f2ec485c0870a5… (all of the seat's roots in one cut). By AI agents, Wed Nov 11 2026. No macro, syntax, notation, axiom, sorry.
-/
import Derived.Test.YtakedococfklgaaChecked
import GoSem.Claim
import GoSem.ClaimJoined
import GoSem.ClaimMapViews
import Derived.JoinedTies
import Derived.KernelRfl
namespace Go.Proofs.Ytakedococfklgaa
/- THE CELL 'sum', in the pinned program and in every row, IS THE sha256 OF THE DUMP (.gsa) THAT YtakedococfklgaaProg.lean LOADS. Nothing in Lean hashes anything: it is a label: what it is worth is what the hold of that sum in a sandbox is worth. -/
noncomputable def Try.pinned : Pinned := { name := "ytakedococfklgaa", sum := "90f2ec485c0870a5d20effb4c69da06aa840d0baaa2fdef27d02b980c0fb987c", checked := Try.checked }
namespace Rows
def none {H : Type} : Left H := { results := [], args := [] }

/-- 'kinkeeplaw10.ShamirSplits': WHATEVER THE INPUT: true; the input reads as it did. -/
def shamirSplitsSpec : ChangeSpec := { name := "shamirSplits", fn := fun _ => fun
  | [d1, d2, d3] => { results := [.lit (.bool true)], args := [d1, d2, d3] }
  | _ => none }
def shamirSplitsRow : OpenClaim := { program := "ytakedococfklgaa", sum := "90f2ec485c0870a5d20effb4c69da06aa840d0baaa2fdef27d02b980c0fb987c", func := "kinkeep/kinkeeplaw10.ShamirSplits", spec := "shamirSplits", unfollowed := true, recurses := true, apart := false }
def ShamirSplitsSaid : Prop := shamirSplitsRow.holds Try.pinned (OpenSpec.ofChange shamirSplitsSpec)

/-- ITS FALSE NEIGHBOUR: 'it returns false'. Refute it at one input. -/
def shamirSplitsWrong : ChangeSpec := { name := "shamirSplits", fn := fun _ => fun
  | [d1, d2, d3] => { results := [.lit (.bool false)], args := [d1, d2, d3] }
  | _ => none }
def ShamirSplitsWrongFalsely : Prop := shamirSplitsRow.holds Try.pinned (OpenSpec.ofChange shamirSplitsWrong)

/-- 'kinkeeplaw10.ShamirLocates': WHATEVER THE INPUT: true; the input reads as it did. -/
def shamirLocatesSpec : ChangeSpec := { name := "shamirLocates", fn := fun _ => fun
  | [d1, d2] => { results := [.lit (.bool true)], args := [d1, d2] }
  | _ => none }
def shamirLocatesRow : OpenClaim := { program := "ytakedococfklgaa", sum := "90f2ec485c0870a5d20effb4c69da06aa840d0baaa2fdef27d02b980c0fb987c", func := "kinkeep/kinkeeplaw10.ShamirLocates", spec := "shamirLocates", unfollowed := true, recurses := true, apart := false }
def ShamirLocatesSaid : Prop := shamirLocatesRow.holds Try.pinned (OpenSpec.ofChange shamirLocatesSpec)

/-- ITS FALSE NEIGHBOUR: 'it returns false'. Refute it at one input. -/
def shamirLocatesWrong : ChangeSpec := { name := "shamirLocates", fn := fun _ => fun
  | [d1, d2] => { results := [.lit (.bool false)], args := [d1, d2] }
  | _ => none }
def ShamirLocatesWrongFalsely : Prop := shamirLocatesRow.holds Try.pinned (OpenSpec.ofChange shamirLocatesWrong)

/-- 'kinkeeplaw10.ShamirHides': WHATEVER THE INPUT: true; the input reads as it did. -/
def shamirHidesSpec : ChangeSpec := { name := "shamirHides", fn := fun _ => fun
  | [d1, d2, d3, d4] => { results := [.lit (.bool true)], args := [d1, d2, d3, d4] }
  | _ => none }
def shamirHidesRow : OpenClaim := { program := "ytakedococfklgaa", sum := "90f2ec485c0870a5d20effb4c69da06aa840d0baaa2fdef27d02b980c0fb987c", func := "kinkeep/kinkeeplaw10.ShamirHides", spec := "shamirHides", unfollowed := true, recurses := true, apart := false }
def ShamirHidesSaid : Prop := shamirHidesRow.holds Try.pinned (OpenSpec.ofChange shamirHidesSpec)

/-- ITS FALSE NEIGHBOUR: 'it returns false'. Refute it at one input. -/
def shamirHidesWrong : ChangeSpec := { name := "shamirHides", fn := fun _ => fun
  | [d1, d2, d3, d4] => { results := [.lit (.bool false)], args := [d1, d2, d3, d4] }
  | _ => none }
def ShamirHidesWrongFalsely : Prop := shamirHidesRow.holds Try.pinned (OpenSpec.ofChange shamirHidesWrong)

/-- 'kinkeeplaw10.ShamirUniform': WHATEVER THE INPUT: true; the input reads as it did. -/
def shamirUniformSpec : ChangeSpec := { name := "shamirUniform", fn := fun _ => fun
  | [d1, d2] => { results := [.lit (.bool true)], args := [d1, d2] }
  | _ => none }
def shamirUniformRow : OpenClaim := { program := "ytakedococfklgaa", sum := "90f2ec485c0870a5d20effb4c69da06aa840d0baaa2fdef27d02b980c0fb987c", func := "kinkeep/kinkeeplaw10.ShamirUniform", spec := "shamirUniform", unfollowed := true, recurses := true, apart := false }
def ShamirUniformSaid : Prop := shamirUniformRow.holds Try.pinned (OpenSpec.ofChange shamirUniformSpec)

/-- ITS FALSE NEIGHBOUR: 'it returns false'. Refute it at one input. -/
def shamirUniformWrong : ChangeSpec := { name := "shamirUniform", fn := fun _ => fun
  | [d1, d2] => { results := [.lit (.bool false)], args := [d1, d2] }
  | _ => none }
def ShamirUniformWrongFalsely : Prop := shamirUniformRow.holds Try.pinned (OpenSpec.ofChange shamirUniformWrong)

/-- 'kinkeeplaw10.ShamirCombines': WHATEVER THE INPUT: true; the input reads as it did. -/
def shamirCombinesSpec : ChangeSpec := { name := "shamirCombines", fn := fun _ => fun
  | [d1, d2, d3] => { results := [.lit (.bool true)], args := [d1, d2, d3] }
  | _ => none }
def shamirCombinesRow : OpenClaim := { program := "ytakedococfklgaa", sum := "90f2ec485c0870a5d20effb4c69da06aa840d0baaa2fdef27d02b980c0fb987c", func := "kinkeep/kinkeeplaw10.ShamirCombines", spec := "shamirCombines", unfollowed := true, recurses := true, apart := false }
def ShamirCombinesSaid : Prop := shamirCombinesRow.holds Try.pinned (OpenSpec.ofChange shamirCombinesSpec)

/-- ITS FALSE NEIGHBOUR: 'it returns false'. Refute it at one input. -/
def shamirCombinesWrong : ChangeSpec := { name := "shamirCombines", fn := fun _ => fun
  | [d1, d2, d3] => { results := [.lit (.bool false)], args := [d1, d2, d3] }
  | _ => none }
def ShamirCombinesWrongFalsely : Prop := shamirCombinesRow.holds Try.pinned (OpenSpec.ofChange shamirCombinesWrong)

/-- 'kinkeeplaw10.ShamirReturns': WHATEVER THE INPUT: true; the input reads as it did. -/
def shamirReturnsSpec : ChangeSpec := { name := "shamirReturns", fn := fun _ => fun
  | [d1, d2, d3, d4] => { results := [.lit (.bool true)], args := [d1, d2, d3, d4] }
  | _ => none }
def shamirReturnsRow : OpenClaim := { program := "ytakedococfklgaa", sum := "90f2ec485c0870a5d20effb4c69da06aa840d0baaa2fdef27d02b980c0fb987c", func := "kinkeep/kinkeeplaw10.ShamirReturns", spec := "shamirReturns", unfollowed := true, recurses := true, apart := false }
def ShamirReturnsSaid : Prop := shamirReturnsRow.holds Try.pinned (OpenSpec.ofChange shamirReturnsSpec)

/-- ITS FALSE NEIGHBOUR: 'it returns false'. Refute it at one input. -/
def shamirReturnsWrong : ChangeSpec := { name := "shamirReturns", fn := fun _ => fun
  | [d1, d2, d3, d4] => { results := [.lit (.bool false)], args := [d1, d2, d3, d4] }
  | _ => none }
def ShamirReturnsWrongFalsely : Prop := shamirReturnsRow.holds Try.pinned (OpenSpec.ofChange shamirReturnsWrong)

/-- 'kinkeeplaw10.ShamirDetects': WHATEVER THE INPUT: true; the input reads as it did. -/
def shamirDetectsSpec : ChangeSpec := { name := "shamirDetects", fn := fun _ => fun
  | [d1, d2, d3, d4, d5] => { results := [.lit (.bool true)], args := [d1, d2, d3, d4, d5] }
  | _ => none }
def shamirDetectsRow : OpenClaim := { program := "ytakedococfklgaa", sum := "90f2ec485c0870a5d20effb4c69da06aa840d0baaa2fdef27d02b980c0fb987c", func := "kinkeep/kinkeeplaw10.ShamirDetects", spec := "shamirDetects", unfollowed := true, recurses := true, apart := false }
def ShamirDetectsSaid : Prop := shamirDetectsRow.holds Try.pinned (OpenSpec.ofChange shamirDetectsSpec)

/-- ITS FALSE NEIGHBOUR: 'it returns false'. Refute it at one input. -/
def shamirDetectsWrong : ChangeSpec := { name := "shamirDetects", fn := fun _ => fun
  | [d1, d2, d3, d4, d5] => { results := [.lit (.bool false)], args := [d1, d2, d3, d4, d5] }
  | _ => none }
def ShamirDetectsWrongFalsely : Prop := shamirDetectsRow.holds Try.pinned (OpenSpec.ofChange shamirDetectsWrong)

/-- 'kinkeeplaw10.ShamirFits': WHATEVER THE INPUT: true; the input reads as it did. -/
def shamirFitsSpec : ChangeSpec := { name := "shamirFits", fn := fun _ => fun
  | [d1, d2, d3, d4, d5, d6] => { results := [.lit (.bool true)], args := [d1, d2, d3, d4, d5, d6] }
  | _ => none }
def shamirFitsRow : OpenClaim := { program := "ytakedococfklgaa", sum := "90f2ec485c0870a5d20effb4c69da06aa840d0baaa2fdef27d02b980c0fb987c", func := "kinkeep/kinkeeplaw10.ShamirFits", spec := "shamirFits", unfollowed := true, recurses := true, apart := false }
def ShamirFitsSaid : Prop := shamirFitsRow.holds Try.pinned (OpenSpec.ofChange shamirFitsSpec)

/-- ITS FALSE NEIGHBOUR: 'it returns false'. Refute it at one input. -/
def shamirFitsWrong : ChangeSpec := { name := "shamirFits", fn := fun _ => fun
  | [d1, d2, d3, d4, d5, d6] => { results := [.lit (.bool false)], args := [d1, d2, d3, d4, d5, d6] }
  | _ => none }
def ShamirFitsWrongFalsely : Prop := shamirFitsRow.holds Try.pinned (OpenSpec.ofChange shamirFitsWrong)

/-- 'kinkeeplaw10.ShamirAdds': WHATEVER THE INPUT: true; the input reads as it did. -/
def shamirAddsSpec : ChangeSpec := { name := "shamirAdds", fn := fun _ => fun
  | [d1, d2, d3, d4, d5] => { results := [.lit (.bool true)], args := [d1, d2, d3, d4, d5] }
  | _ => none }
def shamirAddsRow : OpenClaim := { program := "ytakedococfklgaa", sum := "90f2ec485c0870a5d20effb4c69da06aa840d0baaa2fdef27d02b980c0fb987c", func := "kinkeep/kinkeeplaw10.ShamirAdds", spec := "shamirAdds", unfollowed := true, recurses := true, apart := false }
def ShamirAddsSaid : Prop := shamirAddsRow.holds Try.pinned (OpenSpec.ofChange shamirAddsSpec)

/-- ITS FALSE NEIGHBOUR: 'it returns false'. Refute it at one input. -/
def shamirAddsWrong : ChangeSpec := { name := "shamirAdds", fn := fun _ => fun
  | [d1, d2, d3, d4, d5] => { results := [.lit (.bool false)], args := [d1, d2, d3, d4, d5] }
  | _ => none }
def ShamirAddsWrongFalsely : Prop := shamirAddsRow.holds Try.pinned (OpenSpec.ofChange shamirAddsWrong)

/- THE SECOND FORM. 'bulk': how many values and letters a reading holds, each counted each time it is reached (what is shared counts as often as it is met; a slice's spare places count too). A statement '..UptoSaid' is the law's where the arguments, and the package variables that the reading takes, are together of bulk at most 1048576: NARROWER than '..Said'. Prove '..Said' where nothing that the law and all that it calls make is longer than what came in: it says more and counts as full. Else prove '..UptoSaid'. A law counts once. -/
mutual
def uptoBulk {H : Type} : DataW H → Nat
  | .lit (.string bytes) => bytes.length + 1
  | .lit _ => 1
  | .nil => 1
  | .ptr d => uptoBulk d + 1
  | .slice elems spare => uptoBulkAll elems + uptoBulkAll spare + 1
  | .agg parts => uptoBulkAll parts + 1
  | .iface _ d => uptoBulk d + 1
  | .map entries => uptoBulkEntries entries + 1
  | .held _ => 1
def uptoBulkAll {H : Type} : List (DataW H) → Nat
  | [] => 0
  | d :: r => uptoBulk d + uptoBulkAll r
def uptoBulkEntries {H : Type} : List (Lit × DataW H) → Nat
  | [] => 0
  | x :: r => uptoBulkEntry x + uptoBulkEntries r
def uptoBulkEntry {H : Type} : Lit × DataW H → Nat
  | (.string bytes, d) => bytes.length + uptoBulk d + 1
  | (_, d) => uptoBulk d + 1
 end
def uptoSmall : (H : Type) → List (DataW H) → Bool := fun _ ds => decide (uptoBulkAll ds ≤ 1048576)
def OpenSpec.upto (s : _root_.Go.ChangeSpec) : _root_.Go.OpenSpec := { _root_.Go.OpenSpec.ofChange s with cond := some uptoSmall }

/-- 'kinkeeplaw10.ShamirSplits', WHERE WHAT IT READS IS OF BULK AT MOST 1048576: true; the input reads as it did. -/
def shamirSplitsUptoRow : OpenClaim := { program := "ytakedococfklgaa", sum := "90f2ec485c0870a5d20effb4c69da06aa840d0baaa2fdef27d02b980c0fb987c", func := "kinkeep/kinkeeplaw10.ShamirSplits", spec := "shamirSplits", unfollowed := true, recurses := true, apart := false, narrowed := true }
def ShamirSplitsUptoSaid : Prop := shamirSplitsUptoRow.holds Try.pinned (OpenSpec.upto shamirSplitsSpec)

/-- 'kinkeeplaw10.ShamirLocates', WHERE WHAT IT READS IS OF BULK AT MOST 1048576: true; the input reads as it did. -/
def shamirLocatesUptoRow : OpenClaim := { program := "ytakedococfklgaa", sum := "90f2ec485c0870a5d20effb4c69da06aa840d0baaa2fdef27d02b980c0fb987c", func := "kinkeep/kinkeeplaw10.ShamirLocates", spec := "shamirLocates", unfollowed := true, recurses := true, apart := false, narrowed := true }
def ShamirLocatesUptoSaid : Prop := shamirLocatesUptoRow.holds Try.pinned (OpenSpec.upto shamirLocatesSpec)

/-- 'kinkeeplaw10.ShamirHides', WHERE WHAT IT READS IS OF BULK AT MOST 1048576: true; the input reads as it did. -/
def shamirHidesUptoRow : OpenClaim := { program := "ytakedococfklgaa", sum := "90f2ec485c0870a5d20effb4c69da06aa840d0baaa2fdef27d02b980c0fb987c", func := "kinkeep/kinkeeplaw10.ShamirHides", spec := "shamirHides", unfollowed := true, recurses := true, apart := false, narrowed := true }
def ShamirHidesUptoSaid : Prop := shamirHidesUptoRow.holds Try.pinned (OpenSpec.upto shamirHidesSpec)

/-- 'kinkeeplaw10.ShamirUniform', WHERE WHAT IT READS IS OF BULK AT MOST 1048576: true; the input reads as it did. -/
def shamirUniformUptoRow : OpenClaim := { program := "ytakedococfklgaa", sum := "90f2ec485c0870a5d20effb4c69da06aa840d0baaa2fdef27d02b980c0fb987c", func := "kinkeep/kinkeeplaw10.ShamirUniform", spec := "shamirUniform", unfollowed := true, recurses := true, apart := false, narrowed := true }
def ShamirUniformUptoSaid : Prop := shamirUniformUptoRow.holds Try.pinned (OpenSpec.upto shamirUniformSpec)

/-- 'kinkeeplaw10.ShamirCombines', WHERE WHAT IT READS IS OF BULK AT MOST 1048576: true; the input reads as it did. -/
def shamirCombinesUptoRow : OpenClaim := { program := "ytakedococfklgaa", sum := "90f2ec485c0870a5d20effb4c69da06aa840d0baaa2fdef27d02b980c0fb987c", func := "kinkeep/kinkeeplaw10.ShamirCombines", spec := "shamirCombines", unfollowed := true, recurses := true, apart := false, narrowed := true }
def ShamirCombinesUptoSaid : Prop := shamirCombinesUptoRow.holds Try.pinned (OpenSpec.upto shamirCombinesSpec)

/-- 'kinkeeplaw10.ShamirReturns', WHERE WHAT IT READS IS OF BULK AT MOST 1048576: true; the input reads as it did. -/
def shamirReturnsUptoRow : OpenClaim := { program := "ytakedococfklgaa", sum := "90f2ec485c0870a5d20effb4c69da06aa840d0baaa2fdef27d02b980c0fb987c", func := "kinkeep/kinkeeplaw10.ShamirReturns", spec := "shamirReturns", unfollowed := true, recurses := true, apart := false, narrowed := true }
def ShamirReturnsUptoSaid : Prop := shamirReturnsUptoRow.holds Try.pinned (OpenSpec.upto shamirReturnsSpec)

/-- 'kinkeeplaw10.ShamirDetects', WHERE WHAT IT READS IS OF BULK AT MOST 1048576: true; the input reads as it did. -/
def shamirDetectsUptoRow : OpenClaim := { program := "ytakedococfklgaa", sum := "90f2ec485c0870a5d20effb4c69da06aa840d0baaa2fdef27d02b980c0fb987c", func := "kinkeep/kinkeeplaw10.ShamirDetects", spec := "shamirDetects", unfollowed := true, recurses := true, apart := false, narrowed := true }
def ShamirDetectsUptoSaid : Prop := shamirDetectsUptoRow.holds Try.pinned (OpenSpec.upto shamirDetectsSpec)

/-- 'kinkeeplaw10.ShamirFits', WHERE WHAT IT READS IS OF BULK AT MOST 1048576: true; the input reads as it did. -/
def shamirFitsUptoRow : OpenClaim := { program := "ytakedococfklgaa", sum := "90f2ec485c0870a5d20effb4c69da06aa840d0baaa2fdef27d02b980c0fb987c", func := "kinkeep/kinkeeplaw10.ShamirFits", spec := "shamirFits", unfollowed := true, recurses := true, apart := false, narrowed := true }
def ShamirFitsUptoSaid : Prop := shamirFitsUptoRow.holds Try.pinned (OpenSpec.upto shamirFitsSpec)

/-- 'kinkeeplaw10.ShamirAdds', WHERE WHAT IT READS IS OF BULK AT MOST 1048576: true; the input reads as it did. -/
def shamirAddsUptoRow : OpenClaim := { program := "ytakedococfklgaa", sum := "90f2ec485c0870a5d20effb4c69da06aa840d0baaa2fdef27d02b980c0fb987c", func := "kinkeep/kinkeeplaw10.ShamirAdds", spec := "shamirAdds", unfollowed := true, recurses := true, apart := false, narrowed := true }
def ShamirAddsUptoSaid : Prop := shamirAddsUptoRow.holds Try.pinned (OpenSpec.upto shamirAddsSpec)

end Rows
end Go.Proofs.Ytakedococfklgaa
