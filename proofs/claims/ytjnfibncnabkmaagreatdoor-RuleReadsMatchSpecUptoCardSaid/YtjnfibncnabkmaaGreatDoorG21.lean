/- Lemmas. -/
import Derived.JoinedCond
import Derived.Test.YtjnfibncnabkmaaGreatDoorG20
set_option maxRecDepth 8000
open Go Proofs Proofs.YtjnfibncnabkmaaGreatDoor Proofs.Tryz RowKit AM SpanLaw Q Zz
namespace Go.Proofs.YtjnfibncnabkmaaGreatDoor
theorem zbh:joinedFacts prog 3 Tryz.f3 (Rows.OpenSpec.upto Rows.ruleReadsMatchSpecSpec).bare Rows.ruleReadsMatchSpecUptoRow=true:=by unfold joinedFacts;rw[<-rrJ1,<-rrJ2,<-rrJ3,<-rrJ4];kernel_rfl
end Go.Proofs.YtjnfibncnabkmaaGreatDoor
