/- The walk of the program's valid, of one task. -/
import Derived.Test.YtgpbmggfpbebmaaGreatUtlA
import Derived.Test.YtgpbmggfpbebmaaGreatDom
namespace Go.Proofs.YtgpbmggfpbebmaaGreat
open Go.RowKit

end Go.Proofs.YtgpbmggfpbebmaaGreat
/- DomainValues of the program. -/
namespace Go.Proofs.YtgpbmggfpbebmaaGreat
open Go.RowKit

end Go.Proofs.YtgpbmggfpbebmaaGreat
