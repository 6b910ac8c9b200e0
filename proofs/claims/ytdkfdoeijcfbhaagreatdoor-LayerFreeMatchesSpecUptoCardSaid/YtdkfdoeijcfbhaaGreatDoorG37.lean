/-
The closed facts of the second row of LayerFreeMatchesSpec, one by one.
-/
import Derived.Test.YtdkfdoeijcfbhaaGreatDoorRows
import Derived.OpenShut
import Derived.WalkKit
set_option maxRecDepth 8000
namespace Go.Proofs.YtdkfdoeijcfbhaaGreatDoor
open Go.Proofs.Tryz
open Go.RowKit
theorem lfJ1:Rows.layerFreeMatchesSpecUptoRow.inPlace=Program.inPlace prog 4:=by kernel_rfl
theorem lfJ2:Rows.layerFreeMatchesSpecUptoRow.recurses=Program.recurses prog 4:=by kernel_rfl
theorem lfJ3:Rows.layerFreeMatchesSpecUptoRow.unfollowed=Program.unfollowed prog 4:=by kernel_rfl
theorem lfJ4:Rows.layerFreeMatchesSpecUptoRow.named=Program.varsNamed prog 4:=by kernel_rfl
end Go.Proofs.YtdkfdoeijcfbhaaGreatDoor
