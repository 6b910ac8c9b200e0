/- Lemmas. -/
import Derived.JoinedCond
import Derived.Test.YtnjndeeldhifoaaGreatDoorG17
set_option maxRecDepth 8000
open Go Proofs Proofs.YtnjndeeldhifoaaGreatDoor Proofs.Tryz RowKit AM SpanLaw Q Zz
namespace Go.Proofs.YtnjndeeldhifoaaGreatDoor
theorem NT:joinedFacts prog 3 Tryz.f3 (Rows.OpenSpec.upto Rows.topCallersCountOnceSpec).bare Rows.topCallersCountOnceUptoRow=true:=by unfold joinedFacts;rw[<-tcJ1,<-tcJ2,<-tcJ3,<-tcJ4];kernel_rfl
end Go.Proofs.YtnjndeeldhifoaaGreatDoor
