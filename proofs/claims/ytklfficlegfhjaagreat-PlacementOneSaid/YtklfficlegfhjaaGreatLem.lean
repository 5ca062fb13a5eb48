/- The reference's Moves, Spread. -/
import Derived.Test.YtklfficlegfhjaaGreatC9
import Derived.Test.YtklfficlegfhjaaGreatC7
namespace Go.Proofs.YtklfficlegfhjaaGreat
open Go Go.RowKit Gf Sha

section
set_option maxRecDepth 100000
set_option maxHeartbeats 4000000
end
end Go.Proofs.YtklfficlegfhjaaGreat
