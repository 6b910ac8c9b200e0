/- Lemmas. -/
import Derived.Test.YtmngbpkapamhoaaGreatDoorG20
set_option maxRecDepth 8000
open Go Proofs Proofs.YtmngbpkapamhoaaGreatDoor Proofs.Tryz RowKit AM SpanLaw Q Zz
namespace Go.Proofs.YtmngbpkapamhoaaGreatDoor
theorem zcN:joinedFacts prog 3 Tryz.f3 (Rows.OpenSpec.upto Rows.layerBooksMatchSpecSpec).bare Rows.layerBooksMatchSpecUptoRow=true:=by unfold joinedFacts;rw[<-lbJ1,<-lbJ2,<-lbJ3,<-lbJ4];kernel_rfl
end Go.Proofs.YtmngbpkapamhoaaGreatDoor
