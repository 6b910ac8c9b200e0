/- Lemmas. -/
import Derived.JoinedCond
import Derived.Test.YtmdpcoooleipcaaGreatDoorG17
set_option maxRecDepth 8000
open Go Proofs Proofs.YtmdpcoooleipcaaGreatDoor Proofs.Tryz RowKit AM SpanLaw Q Zz
namespace Go.Proofs.YtmdpcoooleipcaaGreatDoor
theorem HB:joinedFacts prog 3 Tryz.f3 (Rows.OpenSpec.upto Rows.ruleTextsComeBackSpec).bare Rows.ruleTextsComeBackUptoRow=true:=by unfold joinedFacts;rw[<-tbJ1,<-tbJ2,<-tbJ3,<-tbJ4];kernel_rfl
end Go.Proofs.YtmdpcoooleipcaaGreatDoor
