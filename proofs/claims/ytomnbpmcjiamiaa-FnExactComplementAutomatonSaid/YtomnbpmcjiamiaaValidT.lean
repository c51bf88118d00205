/- The walks of the functions that decide whether tasks are valid. -/
import Derived.Test.YtomnbpmcjiamiaaRng
namespace Go.Proofs.Ytomnbpmcjiamiaa
open Go.RowKit

end Go.Proofs.Ytomnbpmcjiamiaa
