/- Refutation by propagation: the reference's walk. Printed by genrfs.py. -/
import Derived.Test.YtgpbmggfpbebmaaGreatRelZ
import Derived.Test.YtgpbmggfpbebmaaGreatRfI
namespace Go.Proofs.YtgpbmggfpbebmaaGreat
open Go.RowKit
attribute [local go_sem] evalOf
end Go.Proofs.YtgpbmggfpbebmaaGreat
