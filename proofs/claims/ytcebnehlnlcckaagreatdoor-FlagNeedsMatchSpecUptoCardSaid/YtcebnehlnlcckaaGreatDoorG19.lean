/- Lemmas. -/
import Derived.JoinedCond
import Derived.Test.YtcebnehlnlcckaaGreatDoorG18
set_option maxRecDepth 8000
open Go Proofs Proofs.YtcebnehlnlcckaaGreatDoor Proofs.Tryz RowKit AM SpanLaw Q Zz
namespace Go.Proofs.YtcebnehlnlcckaaGreatDoor
theorem Tc:joinedFacts prog 3 Tryz.f3 (Rows.OpenSpec.upto Rows.flagNeedsMatchSpecSpec).bare Rows.flagNeedsMatchSpecUptoRow=true:=by unfold joinedFacts;rw[<-lnJ1,<-lnJ2,<-lnJ3,<-lnJ4];kernel_rfl
end Go.Proofs.YtcebnehlnlcckaaGreatDoor
