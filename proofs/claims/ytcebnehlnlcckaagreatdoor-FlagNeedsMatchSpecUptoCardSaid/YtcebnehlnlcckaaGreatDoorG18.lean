/- Lemmas. -/
import Derived.OpenShut
import Derived.WalkKit
import Derived.Test.YtcebnehlnlcckaaGreatDoorRows
import Derived.Test.YtcebnehlnlcckaaGreatDoorG0
set_option maxRecDepth 8000
open Go Proofs Proofs.YtcebnehlnlcckaaGreatDoor Proofs.Tryz RowKit AM SpanLaw Q Zz
namespace Go.Proofs.YtcebnehlnlcckaaGreatDoor
theorem lnJ1:Rows.flagNeedsMatchSpecUptoRow.inPlace=Program.inPlace prog 3:=by kernel_rfl
theorem lnJ2:Rows.flagNeedsMatchSpecUptoRow.recurses=Program.recurses prog 3:=by kernel_rfl
theorem lnJ3:Rows.flagNeedsMatchSpecUptoRow.unfollowed=Program.unfollowed prog 3:=by kernel_rfl
theorem lnJ4:Rows.flagNeedsMatchSpecUptoRow.named=Program.varsNamed prog 3:=by kernel_rfl
end Go.Proofs.YtcebnehlnlcckaaGreatDoor
