/- The walks of the functions that decide whether tasks are valid. -/
import Derived.Test.YtllgicpiddapeaaGreatDoorRng
namespace Go.Proofs.YtllgicpiddapeaaGreatDoor
open Go.RowKit

end Go.Proofs.YtllgicpiddapeaaGreatDoor
