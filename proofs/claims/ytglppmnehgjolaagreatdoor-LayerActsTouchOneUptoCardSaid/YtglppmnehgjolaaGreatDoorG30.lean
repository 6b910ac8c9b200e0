/-
The closed facts of the second row of LayerActsTouchOne, one by one.
-/
import Derived.Test.YtglppmnehgjolaaGreatDoorRows
import Derived.OpenShut
import Derived.WalkKit
set_option maxRecDepth 8000
namespace Go.Proofs.YtglppmnehgjolaaGreatDoor
open Go.Proofs.Tryz
open Go.RowKit
theorem laJ1:Rows.layerActsTouchOneUptoRow.inPlace=Program.inPlace prog 3:=by kernel_rfl
theorem laJ2:Rows.layerActsTouchOneUptoRow.recurses=Program.recurses prog 3:=by kernel_rfl
theorem laJ3:Rows.layerActsTouchOneUptoRow.unfollowed=Program.unfollowed prog 3:=by kernel_rfl
theorem laJ4:Rows.layerActsTouchOneUptoRow.named=Program.varsNamed prog 3:=by kernel_rfl
end Go.Proofs.YtglppmnehgjolaaGreatDoor
