/-
The closed facts of the second row of LayerStaysKeepsCallers, one by one.
-/
import Derived.Test.YtanbabpnlgfcpaaGreatDoorRows
import Derived.OpenShut
import Derived.WalkKit
set_option maxRecDepth 8000
namespace Go.Proofs.YtanbabpnlgfcpaaGreatDoor
open Go.Proofs.Tryz
open Go.RowKit
theorem lsJ1:Rows.layerStaysKeepsCallersUptoRow.inPlace=Program.inPlace prog 4:=by kernel_rfl
theorem lsJ2:Rows.layerStaysKeepsCallersUptoRow.recurses=Program.recurses prog 4:=by kernel_rfl
theorem lsJ3:Rows.layerStaysKeepsCallersUptoRow.unfollowed=Program.unfollowed prog 4:=by kernel_rfl
theorem lsJ4:Rows.layerStaysKeepsCallersUptoRow.named=Program.varsNamed prog 4:=by kernel_rfl
end Go.Proofs.YtanbabpnlgfcpaaGreatDoor
