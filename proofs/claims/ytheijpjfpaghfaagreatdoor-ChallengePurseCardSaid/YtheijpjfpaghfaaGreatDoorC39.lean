/- Several texts in one: LawOpen45. -/
import Derived.Test.YtheijpjfpaghfaaGreatDoorC19
import Derived.Test.YtheijpjfpaghfaaGreatDoorC10
/- Arguments opened: keys and piece ids. -/
namespace Go.Proofs.YtheijpjfpaghfaaGreatDoor
open Go Go.ChangeShapes Go.WideShapes Go.ChangeAt Go.RowKit Gf Sha

section
variable {H : Type} {enc : TypeId × Value → H} {W : World} {base b0 : Nat} {sp : Nat → Bool} {held : Bool} {r : Reach}
theorem pidFields : ∃ f0 f1 : Field, Tryz.prog.underlying 39 = some (.struct #[f0, f1]) ∧ (f0.type = 9 ∧ f0.offset = 0) ∧ (f1.type = 3 ∧ f1.offset = 1) := ⟨_, _, Tryz.underlying39, ⟨rfl, rfl⟩, ⟨rfl, rfl⟩⟩
theorem c_str : Tryz.prog.cellsOf 9 = 1 := by kernel_rfl
theorem c_int : Tryz.prog.cellsOf 3 = 1 := by kernel_rfl
theorem c_pid : Tryz.prog.cellsOf 39 = 2 := by kernel_rfl
end
end Go.Proofs.YtheijpjfpaghfaaGreatDoor
