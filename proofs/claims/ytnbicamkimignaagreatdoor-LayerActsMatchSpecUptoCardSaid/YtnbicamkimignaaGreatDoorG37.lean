/- Lemmas. -/
import Derived.JoinedCond
import Derived.Test.YtnbicamkimignaaGreatDoorG36
set_option maxRecDepth 8000
open Go Proofs Proofs.YtnbicamkimignaaGreatDoor Proofs.Tryz RowKit AM SpanLaw Q Zz
namespace Go.Proofs.YtnbicamkimignaaGreatDoor
theorem zb5:joinedFacts prog 3 Tryz.f3 (Rows.OpenSpec.upto Rows.layerActsMatchSpecSpec).bare Rows.layerActsMatchSpecUptoRow=true:=by unfold joinedFacts;rw[←maJ1,←maJ2,←maJ3,←maJ4];kernel_rfl
end Go.Proofs.YtnbicamkimignaaGreatDoor
