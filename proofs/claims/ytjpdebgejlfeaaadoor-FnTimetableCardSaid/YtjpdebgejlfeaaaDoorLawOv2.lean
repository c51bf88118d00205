/- The walk of the law FnOverload: it returns true, and memory only grows. -/
import Derived.Test.YtjpdebgejlfeaaaDoorPlnS
import Derived.Test.YtjpdebgejlfeaaaDoorQ5
import Derived.Test.YtjpdebgejlfeaaaDoorDwT
import Derived.Test.YtjpdebgejlfeaaaDoorQ8
namespace Go.Proofs.YtjpdebgejlfeaaaDoor
open Go.RowKit

end Go.Proofs.YtjpdebgejlfeaaaDoor
