/- Lemmas. -/
import Derived.Test.YtfanbcfchamfjaaGreatDoorRows
import Derived.Test.YtfanbcfchamfjaaGreatDoorG0
set_option maxRecDepth 8000
open Go Proofs Proofs.YtfanbcfchamfjaaGreatDoor Proofs.Tryz RowKit AM SpanLaw Q Zz
namespace Go.Proofs.YtfanbcfchamfjaaGreatDoor
theorem ltJ1:Rows.layerTextsComeBackUptoRow.inPlace=Program.inPlace prog 3:=by kernel_rfl
theorem ltJ2:Rows.layerTextsComeBackUptoRow.recurses=Program.recurses prog 3:=by kernel_rfl
theorem ltJ3:Rows.layerTextsComeBackUptoRow.unfollowed=Program.unfollowed prog 3:=by kernel_rfl
theorem ltJ4:Rows.layerTextsComeBackUptoRow.named=Program.varsNamed prog 3:=by kernel_rfl
end Go.Proofs.YtfanbcfchamfjaaGreatDoor
