/- Whether literals are a clause: both sides. -/
import Derived.Test.YtllgicpiddapeaaClsV
namespace Go.Proofs.Ytllgicpiddapeaa
open Go.RowKit
attribute [local go_sem] evalOf

end Go.Proofs.Ytllgicpiddapeaa
