/- The walk of the program's valid, of one task. -/
import Derived.Test.YtgeflejmdlipmaaGreatUtlA
namespace Go.Proofs.YtgeflejmdlipmaaGreat
open Go.RowKit

end Go.Proofs.YtgeflejmdlipmaaGreat
