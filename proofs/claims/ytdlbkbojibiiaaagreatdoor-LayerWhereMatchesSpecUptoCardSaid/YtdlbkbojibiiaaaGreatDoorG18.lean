/- Lemmas. -/
import Derived.Test.YtdlbkbojibiiaaaGreatDoorG17
set_option maxRecDepth 8000
open Go Proofs Proofs.YtdlbkbojibiiaaaGreatDoor Proofs.Tryz RowKit AM SpanLaw Q Zz
namespace Go.Proofs.YtdlbkbojibiiaaaGreatDoor
theorem zeL:joinedFacts prog 3 Tryz.f3 (Rows.OpenSpec.upto Rows.layerWhereMatchesSpecSpec).bare Rows.layerWhereMatchesSpecUptoRow=true:=by unfold joinedFacts;rw[<-lhJ1,<-lhJ2,<-lhJ3,<-lhJ4];kernel_rfl
end Go.Proofs.YtdlbkbojibiiaaaGreatDoor
