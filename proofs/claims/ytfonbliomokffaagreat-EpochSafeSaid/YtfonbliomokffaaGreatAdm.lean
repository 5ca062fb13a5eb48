/- The reference's Add (printed by bin/mk47f.py out of Wg of chapter 49). -/
import Derived.Test.YtfonbliomokffaaGreatGrm
import Derived.Test.YtfonbliomokffaaGreatC4
import Derived.Test.YtfonbliomokffaaGreatText2m
namespace Go.Proofs.YtfonbliomokffaaGreat
open Go Go.RowKit Gf Sha

section
variable {P : Program} {w : World} {o : Oper} {a : Act}
end
end Go.Proofs.YtfonbliomokffaaGreat
