/- The reference's number. -/
import Derived.Test.YtfonbliomokffaaGreatC21
import Derived.Test.YtfonbliomokffaaGreatRnvm
namespace Go.Proofs.YtfonbliomokffaaGreat
open Go Go.RowKit Gf Sha

end Go.Proofs.YtfonbliomokffaaGreat
