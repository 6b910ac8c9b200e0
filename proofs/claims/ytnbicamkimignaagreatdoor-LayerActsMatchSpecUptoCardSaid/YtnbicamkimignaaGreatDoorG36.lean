/- Lemmas. -/
import Derived.OpenShut
import Derived.WalkKit
import Derived.Test.YtnbicamkimignaaGreatDoorRows
import Derived.Test.YtnbicamkimignaaGreatDoorG0
set_option maxRecDepth 8000
open Go Proofs Proofs.YtnbicamkimignaaGreatDoor Proofs.Tryz RowKit AM SpanLaw Q Zz
namespace Go.Proofs.YtnbicamkimignaaGreatDoor
theorem maJ1:Rows.layerActsMatchSpecUptoRow.inPlace=Program.inPlace prog 3:=by kernel_rfl
theorem maJ2:Rows.layerActsMatchSpecUptoRow.recurses=Program.recurses prog 3:=by kernel_rfl
theorem maJ3:Rows.layerActsMatchSpecUptoRow.unfollowed=Program.unfollowed prog 3:=by kernel_rfl
theorem maJ4:Rows.layerActsMatchSpecUptoRow.named=Program.varsNamed prog 3:=by kernel_rfl
end Go.Proofs.YtnbicamkimignaaGreatDoor
