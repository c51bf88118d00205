/- The walk of the program's valid, of one task. -/
import Derived.Test.YtgeflejmdlipmaaUtlA
namespace Go.Proofs.Ytgeflejmdlipmaa
open Go.RowKit

end Go.Proofs.Ytgeflejmdlipmaa
