/- Lemmas. -/
import Derived.OpenShut
import Derived.WalkKit
import Derived.Test.YtnjndeeldhifoaaGreatDoorRows
import Derived.Test.YtnjndeeldhifoaaGreatDoorG0
set_option maxRecDepth 8000
open Go Proofs Proofs.YtnjndeeldhifoaaGreatDoor Proofs.Tryz RowKit AM SpanLaw Q Zz
namespace Go.Proofs.YtnjndeeldhifoaaGreatDoor
theorem tcJ1:Rows.topCallersCountOnceUptoRow.inPlace=Program.inPlace prog 3:=by kernel_rfl
theorem tcJ2:Rows.topCallersCountOnceUptoRow.recurses=Program.recurses prog 3:=by kernel_rfl
theorem tcJ3:Rows.topCallersCountOnceUptoRow.unfollowed=Program.unfollowed prog 3:=by kernel_rfl
theorem tcJ4:Rows.topCallersCountOnceUptoRow.named=Program.varsNamed prog 3:=by kernel_rfl
end Go.Proofs.YtnjndeeldhifoaaGreatDoor
