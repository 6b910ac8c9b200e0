/- Lemmas. -/
import Derived.OpenShut
import Derived.WalkKit
import Derived.Test.YtmbfinldjgmhaaaGreatDoorRows
import Derived.Test.YtmbfinldjgmhaaaGreatDoorG0
set_option maxRecDepth 8000
open Go Proofs Proofs.YtmbfinldjgmhaaaGreatDoor Proofs.Tryz RowKit AM SpanLaw Q Zz
namespace Go.Proofs.YtmbfinldjgmhaaaGreatDoor
theorem lxJ1:Rows.ruleExpandsMatchSpecUptoRow.inPlace=Program.inPlace prog 3:=by kernel_rfl
theorem lxJ2:Rows.ruleExpandsMatchSpecUptoRow.recurses=Program.recurses prog 3:=by kernel_rfl
theorem lxJ3:Rows.ruleExpandsMatchSpecUptoRow.unfollowed=Program.unfollowed prog 3:=by kernel_rfl
theorem lxJ4:Rows.ruleExpandsMatchSpecUptoRow.named=Program.varsNamed prog 3:=by kernel_rfl
end Go.Proofs.YtmbfinldjgmhaaaGreatDoor
