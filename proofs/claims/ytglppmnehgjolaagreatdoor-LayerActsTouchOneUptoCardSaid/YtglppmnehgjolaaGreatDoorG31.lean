/-
The closed facts of the second row of LayerActsTouchOne, joined.
-/
import Derived.Test.YtglppmnehgjolaaGreatDoorG30
import Derived.JoinedCond
set_option maxRecDepth 8000
namespace Go.Proofs.YtglppmnehgjolaaGreatDoor
open Go.Proofs.Tryz
open Go.RowKit
theorem laFacts:joinedFacts prog 3 Tryz.f3 (Rows.OpenSpec.upto Rows.layerActsTouchOneSpec).bare Rows.layerActsTouchOneUptoRow=true:=by
 unfold joinedFacts
 rw[←laJ1,←laJ2,←laJ3,←laJ4]
 kernel_rfl
end Go.Proofs.YtglppmnehgjolaaGreatDoor
