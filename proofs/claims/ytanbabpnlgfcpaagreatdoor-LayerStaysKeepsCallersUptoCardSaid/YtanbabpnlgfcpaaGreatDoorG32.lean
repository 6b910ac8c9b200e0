/-
The closed facts of the second row of LayerWhereIsOnce, one by one.
-/
import Derived.Test.YtanbabpnlgfcpaaGreatDoorRows
import Derived.OpenShut
import Derived.WalkKit
set_option maxRecDepth 8000
namespace Go.Proofs.YtanbabpnlgfcpaaGreatDoor
open Go.Proofs.Tryz
open Go.RowKit
theorem lwJ1:Rows.layerWhereIsOnceUptoRow.inPlace=Program.inPlace prog 3:=by kernel_rfl
theorem lwJ2:Rows.layerWhereIsOnceUptoRow.recurses=Program.recurses prog 3:=by kernel_rfl
theorem lwJ3:Rows.layerWhereIsOnceUptoRow.unfollowed=Program.unfollowed prog 3:=by kernel_rfl
theorem lwJ4:Rows.layerWhereIsOnceUptoRow.named=Program.varsNamed prog 3:=by kernel_rfl
end Go.Proofs.YtanbabpnlgfcpaaGreatDoor
