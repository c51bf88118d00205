/- The walk of the program's valid, of one task. -/
import Derived.Test.YtfejhenbpnijhaaGreatUtlA
import Derived.Test.YtfejhenbpnijhaaGreatDom
namespace Go.Proofs.YtfejhenbpnijhaaGreat
open Go.RowKit

end Go.Proofs.YtfejhenbpnijhaaGreat
/- DomainValues of the program. -/
namespace Go.Proofs.YtfejhenbpnijhaaGreat
open Go.RowKit

end Go.Proofs.YtfejhenbpnijhaaGreat
