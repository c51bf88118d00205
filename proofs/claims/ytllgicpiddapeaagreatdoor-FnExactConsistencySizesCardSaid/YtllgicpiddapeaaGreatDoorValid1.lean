/- The walk of the program's valid, of one task. -/
import Derived.Test.YtllgicpiddapeaaGreatDoorRng
namespace Go.Proofs.YtllgicpiddapeaaGreatDoor
open Go.RowKit

end Go.Proofs.YtllgicpiddapeaaGreatDoor
