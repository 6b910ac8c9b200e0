/- Lemmas. -/
import Derived.Test.YtmngbpkapamhoaaGreatDoorRows
import Derived.Test.YtmngbpkapamhoaaGreatDoorG0
set_option maxRecDepth 8000
open Go Proofs Proofs.YtmngbpkapamhoaaGreatDoor Proofs.Tryz RowKit AM SpanLaw Q Zz
namespace Go.Proofs.YtmngbpkapamhoaaGreatDoor
theorem lbJ1:Rows.layerBooksMatchSpecUptoRow.inPlace=Program.inPlace prog 3:=by kernel_rfl
theorem lbJ2:Rows.layerBooksMatchSpecUptoRow.recurses=Program.recurses prog 3:=by kernel_rfl
theorem lbJ3:Rows.layerBooksMatchSpecUptoRow.unfollowed=Program.unfollowed prog 3:=by kernel_rfl
theorem lbJ4:Rows.layerBooksMatchSpecUptoRow.named=Program.varsNamed prog 3:=by kernel_rfl
end Go.Proofs.YtmngbpkapamhoaaGreatDoor
