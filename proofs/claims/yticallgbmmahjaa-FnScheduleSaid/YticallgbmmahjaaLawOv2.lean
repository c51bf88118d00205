/- The walk of the law FnOverload: it returns true, and memory only grows. -/
import Derived.Test.YticallgbmmahjaaPlnS
import Derived.Test.YticallgbmmahjaaQ5
import Derived.Test.YticallgbmmahjaaDwT
import Derived.Test.YticallgbmmahjaaQ8
namespace Go.Proofs.Yticallgbmmahjaa
open Go.RowKit

end Go.Proofs.Yticallgbmmahjaa
