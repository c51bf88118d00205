/- The walk of the program's valid, of one task. -/
import Derived.Test.YtmfbdaocnijnpaaUtlA
import Derived.Test.YtmfbdaocnijnpaaDom
namespace Go.Proofs.Ytmfbdaocnijnpaa
open Go.RowKit

end Go.Proofs.Ytmfbdaocnijnpaa
/- DomainValues of the program. -/
namespace Go.Proofs.Ytmfbdaocnijnpaa
open Go.RowKit

end Go.Proofs.Ytmfbdaocnijnpaa
