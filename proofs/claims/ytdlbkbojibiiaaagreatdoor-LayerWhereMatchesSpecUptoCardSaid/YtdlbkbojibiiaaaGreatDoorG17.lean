/- Lemmas. -/
import Derived.Test.YtdlbkbojibiiaaaGreatDoorRows
import Derived.Test.YtdlbkbojibiiaaaGreatDoorG0
set_option maxRecDepth 8000
open Go Proofs Proofs.YtdlbkbojibiiaaaGreatDoor Proofs.Tryz RowKit AM SpanLaw Q Zz
namespace Go.Proofs.YtdlbkbojibiiaaaGreatDoor
theorem lhJ1:Rows.layerWhereMatchesSpecUptoRow.inPlace=Program.inPlace prog 3:=by kernel_rfl
theorem lhJ2:Rows.layerWhereMatchesSpecUptoRow.recurses=Program.recurses prog 3:=by kernel_rfl
theorem lhJ3:Rows.layerWhereMatchesSpecUptoRow.unfollowed=Program.unfollowed prog 3:=by kernel_rfl
theorem lhJ4:Rows.layerWhereMatchesSpecUptoRow.named=Program.varsNamed prog 3:=by kernel_rfl
end Go.Proofs.YtdlbkbojibiiaaaGreatDoor
