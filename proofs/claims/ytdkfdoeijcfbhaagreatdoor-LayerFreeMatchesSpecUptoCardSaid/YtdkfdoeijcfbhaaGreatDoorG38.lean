/-
The closed facts of the second row of LayerFreeMatchesSpec, joined.
-/
import Derived.Test.YtdkfdoeijcfbhaaGreatDoorG37
import Derived.JoinedCond
set_option maxRecDepth 8000
namespace Go.Proofs.YtdkfdoeijcfbhaaGreatDoor
open Go.Proofs.Tryz
open Go.RowKit
theorem lfFacts:joinedFacts prog 4 Tryz.f4 (Rows.OpenSpec.upto Rows.layerFreeMatchesSpecSpec).bare Rows.layerFreeMatchesSpecUptoRow=true:=by
 unfold joinedFacts
 rw[←lfJ1,←lfJ2,←lfJ3,←lfJ4]
 kernel_rfl
end Go.Proofs.YtdkfdoeijcfbhaaGreatDoor
