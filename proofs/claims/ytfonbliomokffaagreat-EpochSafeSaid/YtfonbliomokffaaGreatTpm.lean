/- The reference's Proposals, plainly: those of the program. -/
import Derived.Test.YtfonbliomokffaaGreatTnm
import Derived.Test.YtfonbliomokffaaGreatTom
namespace Go.Proofs.YtfonbliomokffaaGreat
open Go Gf

end Go.Proofs.YtfonbliomokffaaGreat
