/- The reference's Counting and Answer, plainly. -/
import Derived.Test.YtfonbliomokffaaGreatTmm
import Derived.Test.YtfonbliomokffaaGreatC22
namespace Go.Proofs.YtfonbliomokffaaGreat
open Go Gf

end Go.Proofs.YtfonbliomokffaaGreat
