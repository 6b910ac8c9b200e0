/-
The closed facts of the second row of RuleSegmentsMatchSpec, one by one.
-/
import Derived.Test.YtjcofiomfmebkaaGreatDoorRows
import Derived.OpenShut
import Derived.WalkKit
set_option maxRecDepth 8000
namespace Go.Proofs.YtjcofiomfmebkaaGreatDoor
open Go.Proofs.Tryz
open Go.RowKit
theorem liJ1:Rows.ruleSegmentsMatchSpecUptoRow.inPlace=Program.inPlace prog 3:=by kernel_rfl
theorem liJ2:Rows.ruleSegmentsMatchSpecUptoRow.recurses=Program.recurses prog 3:=by kernel_rfl
theorem liJ3:Rows.ruleSegmentsMatchSpecUptoRow.unfollowed=Program.unfollowed prog 3:=by kernel_rfl
theorem liJ4:Rows.ruleSegmentsMatchSpecUptoRow.named=Program.varsNamed prog 3:=by kernel_rfl
end Go.Proofs.YtjcofiomfmebkaaGreatDoor
