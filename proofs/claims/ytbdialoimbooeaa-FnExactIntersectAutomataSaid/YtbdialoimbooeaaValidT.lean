/- The walks of the functions that decide whether tasks are valid. -/
import Derived.Test.YtbdialoimbooeaaRng
namespace Go.Proofs.Ytbdialoimbooeaa
open Go.RowKit

end Go.Proofs.Ytbdialoimbooeaa
