/- Several texts in one: Hl. -/
import Derived.Test.YtheijpjfpaghfaaGreatDoorC31
/- The reference's valid. -/
namespace Go.Proofs.YtheijpjfpaghfaaGreatDoor
open Go Go.RowKit Gf Sha

end Go.Proofs.YtheijpjfpaghfaaGreatDoor
