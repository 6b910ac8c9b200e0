/- Lemmas. -/
import Derived.JoinedCond
import Derived.Test.YtmbfinldjgmhaaaGreatDoorG19
set_option maxRecDepth 8000
open Go Proofs Proofs.YtmbfinldjgmhaaaGreatDoor Proofs.Tryz RowKit AM SpanLaw Q Zz
namespace Go.Proofs.YtmbfinldjgmhaaaGreatDoor
theorem UJ:joinedFacts prog 3 Tryz.f3 (Rows.OpenSpec.upto Rows.ruleExpandsMatchSpecSpec).bare Rows.ruleExpandsMatchSpecUptoRow=true:=by unfold joinedFacts;rw[<-lxJ1,<-lxJ2,<-lxJ3,<-lxJ4];kernel_rfl
end Go.Proofs.YtmbfinldjgmhaaaGreatDoor
