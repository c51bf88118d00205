/- The walk of the program's valid, of one task. -/
import Derived.Test.YtkjbefokgmiehaaGreatDoorUtlA
import Derived.Test.YtkjbefokgmiehaaGreatDoorDom
namespace Go.Proofs.YtkjbefokgmiehaaGreatDoor
open Go.RowKit

end Go.Proofs.YtkjbefokgmiehaaGreatDoor
/- DomainValues of the program. -/
namespace Go.Proofs.YtkjbefokgmiehaaGreatDoor
open Go.RowKit

end Go.Proofs.YtkjbefokgmiehaaGreatDoor
