/- Lemmas. -/
import Derived.OpenShut
import Derived.WalkKit
import Derived.Test.YtjnfibncnabkmaaGreatDoorRows
import Derived.Test.YtjnfibncnabkmaaGreatDoorG0
set_option maxRecDepth 8000
open Go Proofs Proofs.YtjnfibncnabkmaaGreatDoor Proofs.Tryz RowKit AM SpanLaw Q Zz
namespace Go.Proofs.YtjnfibncnabkmaaGreatDoor
theorem rrJ1:Rows.ruleReadsMatchSpecUptoRow.inPlace=Program.inPlace prog 3:=by kernel_rfl
theorem rrJ2:Rows.ruleReadsMatchSpecUptoRow.recurses=Program.recurses prog 3:=by kernel_rfl
theorem rrJ3:Rows.ruleReadsMatchSpecUptoRow.unfollowed=Program.unfollowed prog 3:=by kernel_rfl
theorem rrJ4:Rows.ruleReadsMatchSpecUptoRow.named=Program.varsNamed prog 3:=by kernel_rfl
end Go.Proofs.YtjnfibncnabkmaaGreatDoor
