/- Lemmas. -/
import Derived.Test.YtfanbcfchamfjaaGreatDoorG19
set_option maxRecDepth 8000
open Go Proofs Proofs.YtfanbcfchamfjaaGreatDoor Proofs.Tryz RowKit AM SpanLaw Q Zz
namespace Go.Proofs.YtfanbcfchamfjaaGreatDoor
theorem zao:joinedFacts prog 3 Tryz.f3 (Rows.OpenSpec.upto Rows.layerTextsComeBackSpec).bare Rows.layerTextsComeBackUptoRow=true:=by unfold joinedFacts;rw[<-ltJ1,<-ltJ2,<-ltJ3,<-ltJ4];kernel_rfl
end Go.Proofs.YtfanbcfchamfjaaGreatDoor
