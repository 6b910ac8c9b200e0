/- Lemmas. -/
import Derived.Test.YtjnfibncnabkmaaGreatDoorRows
import Derived.Test.YtjnfibncnabkmaaGreatDoorG16
set_option maxRecDepth 8000
open Go Proofs Proofs.YtjnfibncnabkmaaGreatDoor Proofs.Tryz RowKit AM SpanLaw Q Zz
namespace Go.Q
end Go.Q
