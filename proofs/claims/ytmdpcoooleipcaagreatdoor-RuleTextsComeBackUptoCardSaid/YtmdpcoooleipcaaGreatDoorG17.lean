/- Lemmas. -/
import Derived.OpenShut
import Derived.WalkKit
import Derived.Test.YtmdpcoooleipcaaGreatDoorRows
import Derived.Test.YtmdpcoooleipcaaGreatDoorG0
set_option maxRecDepth 8000
open Go Proofs Proofs.YtmdpcoooleipcaaGreatDoor Proofs.Tryz RowKit AM SpanLaw Q Zz
namespace Go.Proofs.YtmdpcoooleipcaaGreatDoor
theorem tbJ1:Rows.ruleTextsComeBackUptoRow.inPlace=Program.inPlace prog 3:=by kernel_rfl
theorem tbJ2:Rows.ruleTextsComeBackUptoRow.recurses=Program.recurses prog 3:=by kernel_rfl
theorem tbJ3:Rows.ruleTextsComeBackUptoRow.unfollowed=Program.unfollowed prog 3:=by kernel_rfl
theorem tbJ4:Rows.ruleTextsComeBackUptoRow.named=Program.varsNamed prog 3:=by kernel_rfl
end Go.Proofs.YtmdpcoooleipcaaGreatDoor
