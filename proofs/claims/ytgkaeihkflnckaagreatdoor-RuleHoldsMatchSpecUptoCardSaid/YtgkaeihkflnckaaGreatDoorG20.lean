/- Lemmas. -/
import Derived.JoinedCond
import Derived.Test.YtgkaeihkflnckaaGreatDoorG19
set_option maxRecDepth 8000
open Go Proofs Proofs.YtgkaeihkflnckaaGreatDoor Proofs.Tryz RowKit AM SpanLaw Q Zz
namespace Go.Proofs.YtgkaeihkflnckaaGreatDoor
theorem zaz:joinedFacts prog 3 Tryz.f3 (Rows.OpenSpec.upto Rows.ruleHoldsMatchSpecSpec).bare Rows.ruleHoldsMatchSpecUptoRow=true:=by unfold joinedFacts;rw[<-loJ1,<-loJ2,<-loJ3,<-loJ4];kernel_rfl
end Go.Proofs.YtgkaeihkflnckaaGreatDoor
