/- The walk of the program's valid, of one task. -/
import Derived.Test.YtalgilgfoekioaaGreatDoorUtlA
import Derived.Test.YtalgilgfoekioaaGreatDoorDom
namespace Go.Proofs.YtalgilgfoekioaaGreatDoor
open Go.RowKit

end Go.Proofs.YtalgilgfoekioaaGreatDoor
/- DomainValues of the program. -/
namespace Go.Proofs.YtalgilgfoekioaaGreatDoor
open Go.RowKit

end Go.Proofs.YtalgilgfoekioaaGreatDoor
