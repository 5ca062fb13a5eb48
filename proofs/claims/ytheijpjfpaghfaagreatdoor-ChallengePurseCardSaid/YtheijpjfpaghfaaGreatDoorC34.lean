/- Several texts in one: Hi. -/
import Derived.Test.YtheijpjfpaghfaaGreatDoorC33
import Derived.Test.YtheijpjfpaghfaaGreatDoorC29
/- ref01.read: sums, ints, counts. -/
namespace Go.Proofs.YtheijpjfpaghfaaGreatDoor
open Go Go.RowKit Gf Sha

/-- A value of the reference. -/
def vaC (k n : Int) (s : List UInt8) (m : Int) : List Value := [.int .i64 k, .int .u64 0, .int .i64 n, .bool false, .string (strB s), .int .i64 m]
theorem vaZero : (Tryz.prog.info? 100).map (·.zero) = some (some (.agg (vaC 0 0 [] 0).toArray)) := by kernel_rfl
end Go.Proofs.YtheijpjfpaghfaaGreatDoor
