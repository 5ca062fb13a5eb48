/- Contract of ref01.Number, for all numbers of an int (out of Rnu of chapter 49). -/
import Derived.Test.YtfonbliomokffaaGreatC4
namespace Go.Proofs.YtfonbliomokffaaGreat
open Go Go.RowKit Gf Sha

attribute [local go_sem] add128

end Go.Proofs.YtfonbliomokffaaGreat
