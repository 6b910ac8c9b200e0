/- Lemmas. -/
import Derived.Test.YtjnfibncnabkmaaGreatDoorProg
import Derived.Test.YtjnfibncnabkmaaGreatDoorG15
set_option maxRecDepth 8000
open Go Proofs Proofs.YtjnfibncnabkmaaGreatDoor Proofs.Tryz RowKit AM SpanLaw Q Zz
namespace Go.Proofs.YtjnfibncnabkmaaGreatDoor
end Go.Proofs.YtjnfibncnabkmaaGreatDoor
