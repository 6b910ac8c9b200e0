/- Lemmas. -/
import Derived.OpenShut
import Derived.WalkKit
import Derived.Test.YtgkaeihkflnckaaGreatDoorRows
import Derived.Test.YtgkaeihkflnckaaGreatDoorG0
set_option maxRecDepth 8000
open Go Proofs Proofs.YtgkaeihkflnckaaGreatDoor Proofs.Tryz RowKit AM SpanLaw Q Zz
namespace Go.Proofs.YtgkaeihkflnckaaGreatDoor
theorem loJ1:Rows.ruleHoldsMatchSpecUptoRow.inPlace=Program.inPlace prog 3:=by kernel_rfl
theorem loJ2:Rows.ruleHoldsMatchSpecUptoRow.recurses=Program.recurses prog 3:=by kernel_rfl
theorem loJ3:Rows.ruleHoldsMatchSpecUptoRow.unfollowed=Program.unfollowed prog 3:=by kernel_rfl
theorem loJ4:Rows.ruleHoldsMatchSpecUptoRow.named=Program.varsNamed prog 3:=by kernel_rfl
end Go.Proofs.YtgkaeihkflnckaaGreatDoor
